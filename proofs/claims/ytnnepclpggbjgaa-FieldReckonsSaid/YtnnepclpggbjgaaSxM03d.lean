import Derived.Test.YtnnepclpggbjgaaSxN03j
import Derived.Test.YtnnepclpggbjgaaSxS03L3
namespace Go.Sx
theorem reckShape (A : Ar) (n : Nat) (a b p p' q q' r r' s s' : List Nat) (k1 : g11ok A = true) (k2 : g11r0 A = true)
    (p1 : g12ok A a b = true) (p2 : g12r0 A a b = p) (p3 : g13ok A a b = true) (p4 : g13r0 A a b = p') (pq : A.lq p p' = true)
    (q1 : g14ok A a b = true) (q2 : g14r0 A a b = q) (q3 : g15ok A a b = true) (q4 : g15r0 A a b = q') (qq : A.lq q q' = true)
    (r1 : g16ok A a b = true) (r2 : g16r0 A a b = r) (r3 : g17ok A a b = true) (r4 : g17r0 A a b = r') (rq : A.lq r r' = true)
    (s1 : g18ok A a = true) (s2 : g18r0 A a = s) (s3 : g19ok A a = true) (s4 : g19r0 A a = s') (sq : A.lq s s' = true) :
    g3 A n (fun v _ => some v) a b = some (.v (.cell (.bool true))) := by
  unfold g3 g3J4
  rw [k1, k2, p1, p2, p3, p4, pq, q1, q2, q3, q4, qq, r1, r2, r3, r4, rq, s1, s2, s3, s4, sq]
  rfl
theorem same1 {x y b a : Nat} (h : (x + b) % PP = a) (h2 : (y + b) % PP = a) : x % PP = y % PP := by unfold PP at *; omega
theorem reck (n : Nat) {a b : List Nat} (ha : W4 a) (hb : W4 b) : g3 realA n (fun v _ => some v) a b = some (.v (.cell (.bool true))) := by
  obtain ⟨p1, p2⟩ := addOk ha hb
  obtain ⟨p3, p4⟩ := refAdd ha hb
  obtain ⟨x, q1, q2, q5⟩ := subOk ha hb
  obtain ⟨x', q3, q4, q6⟩ := refSub ha hb
  obtain ⟨r1, r2⟩ := mulOk ha hb
  obtain ⟨r3, r4⟩ := refMul ha hb
  obtain ⟨y, s1, s2, s5⟩ := negOk ha
  obtain ⟨y', s3, s4, s6⟩ := refNeg ha
  exact reckShape realA n a b _ _ _ _ _ _ _ _ ok11 r11 p1 p2 p3 p4 (lqT rfl) q1 q2 q3 q4 (lqT (same1 q5 q6)) r1 r2 r3 r4 (lqT rfl) s1 s2 s3 s4 (lqT (same1 s5 s6))
theorem law3 (a : List Nat) (la : a.length = 4) (ha : ∀ x ∈ a, x < 2 ^ IntKind.bits .u64) (b : List Nat) (lb : b.length = 4) (hb : ∀ x ∈ b, x < 2 ^ IntKind.bits .u64) :
    g3o realA [.v (.agg [.nums .u64 4 a]), .v (.agg [.nums .u64 4 b])] = some (true, .v (.cell (.bool true))) := by
  have e : g3v realA a b = some (.v (.cell (.bool true))) := reck 100000 (W4_of la ha) (W4_of lb hb)
  have k : g3ok realA a b = true := by unfold g3ok; rw [e]; rfl
  have r : g3r0 realA a b = true := by unfold g3r0; rw [e]; rfl
  show some (Nat.beq 4 4 && (Nat.beq 4 4 && g3ok realA a b), AV.v (.cell (.bool (g3r0 realA a b)))) = _
  rw [k, r]
  rfl
end Go.Sx
