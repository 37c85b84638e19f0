import Derived.Test.YtnnepclpggbjgaaSxNt
import Derived.Test.YtnnepclpggbjgaaSxS03L8
namespace Go.Sx
theorem WPT : W4 [18446744073709551595, 18446744073709551615, 18446744073709551615, 9223372036854775807] := ⟨_, _, _, _, rfl, by decide, by decide, by decide, by decide⟩
theorem nPT : num [18446744073709551595, 18446744073709551615, 18446744073709551615, 9223372036854775807] = PT := by decide
theorem powR {a : List Nat} {u : Nat} (h : Rep a u) : g24ok realA a [18446744073709551595, 18446744073709551615, 18446744073709551615, 9223372036854775807] = true ∧ g24r0 realA a [18446744073709551595, 18446744073709551615, 18446744073709551615, 9223372036854775807] = fe (u ^ PT % PP) := by
  obtain ⟨h1, h2⟩ := powOk h.1 WPT
  refine ⟨h1, ?_⟩
  rw [h2, nPT]
  unfold fm
  rw [powM (x' := u) (by rw [h.2.1, Nat.mod_eq_of_lt h.2.2])]
theorem g27Shape (A : Ar) (n : Nat) (a e r : List Nat) (he : (((([0, 0, 0, 0] : List Nat).set 0 18446744073709551595).set 1 18446744073709551615).set 2 18446744073709551615).set 3 9223372036854775807 = e) (h1 : g24ok A a e = true) (h2 : g24r0 A a e = r) : g27 A n (fun v _ => some v) a = some (.v (.agg [.nums .u64 4 r])) := by
  unfold g27
  rw [he, h1, h2]
theorem invR {a : List Nat} {u : Nat} (h : Rep a u) : g27ok realA a = true ∧ g27r0 realA a = fe (u ^ PT % PP) := by
  obtain ⟨h1, h2⟩ := powR h
  have e : g27v realA a = _ := g27Shape realA 100000 a _ _ rfl h1 h2
  exact ⟨by unfold g27ok; rw [e]; rfl, by unfold g27r0; rw [e]; rfl⟩
theorem ownR {a : List Nat} {u : Nat} (h : Rep a u) : g12ok realA a [0, 0, 0, 0] = true ∧ g12r0 realA a [0, 0, 0, 0] = fe u := by
  obtain ⟨h1, h2⟩ := addOk h.1 W40
  refine ⟨h1, ?_⟩
  rw [h2, num0, Nat.add_zero]
  unfold fm
  rw [h.2.1]
theorem fe0 : fe 0 = [0, 0, 0, 0] := by decide
theorem lqFe {x y : Nat} (hx : x < PP) (hy : y < PP) : realA.lq (fe x) (fe y) = decide (x = y) := by
  rw [lqE]
  exact decide_eq_decide.2 (fe_eq hx hy)
theorem inv0Shape (A : Ar) (n : Nat) (a o i : List Nat) (k1 : g11ok A = true) (k2 : g11r0 A = true) (o1 : g12ok A a [0, 0, 0, 0] = true) (o2 : g12r0 A a [0, 0, 0, 0] = o) (i1 : g27ok A a = true) (i2 : g27r0 A a = i) (l1 : A.lq o [0, 0, 0, 0] = true) (l2 : A.lq i o = true) :
    g8 A n (fun v _ => some v) a = some (.v (.cell (.bool true))) := by
  unfold g8 g8J4
  rw [k1, k2, o1, o2, i1, i2, l1, l2]
  rfl
theorem inv1Shape (A : Ar) (n : Nat) (a o i m s j : List Nat) (k1 : g11ok A = true) (k2 : g11r0 A = true) (o1 : g12ok A a [0, 0, 0, 0] = true) (o2 : g12r0 A a [0, 0, 0, 0] = o) (i1 : g27ok A a = true) (i2 : g27r0 A a = i) (l1 : A.lq o [0, 0, 0, 0] = false)
    (m1 : g16ok A a i = true) (m2 : g16r0 A a i = m) (s1 : g23ok A 1 = true) (s2 : g23r0 A 1 = s) (l2 : A.lq m s = true) (j1 : g27ok A i = true) (j2 : g27r0 A i = j) (l3 : A.lq j o = true) :
    g8 A n (fun v _ => some v) a = some (.v (.cell (.bool true))) := by
  unfold g8 g8J4
  rw [k1, k2, o1, o2, i1, i2, l1]
  unfold g8J8
  rw [m1, m2, s1, s2, l2, j1, j2, l3]
  rfl
theorem inverts (n : Nat) {a : List Nat} (ha : W4 a) : g8 realA n (fun v _ => some v) a = some (.v (.cell (.bool true))) := by
  have r := rW ha
  have hu := r.2.2
  generalize num a % PP = u at r hu
  have hI : u ^ PT % PP < PP := Nat.mod_lt _ PP_pos
  obtain ⟨o1, o2⟩ := ownR r
  obtain ⟨i1, i2⟩ := invR r
  obtain ⟨j1, j2⟩ := invR (rf hI)
  obtain ⟨m1, m2⟩ := mulR r (rf hI)
  obtain ⟨s1, s2⟩ := smallOk (x := 1) (by decide)
  by_cases h0 : u = 0
  · subst h0
    have hz : 0 ^ PT % PP = 0 := zero_pow_mod rfl (by decide)
    rw [hz] at i2
    exact inv0Shape realA n a _ _ ok11 r11 o1 o2 i1 i2 (by rw [← fe0, lqFe hu hu]; rfl) (by rw [lqFe hu hu]; rfl)
  · have hm : u % PP ≠ 0 := by rw [Nat.mod_eq_of_lt hu]; exact h0
    rw [inv_mul hm] at m2
    have e : (u ^ PT % PP) ^ PT % PP = u := by rw [powM (Nat.mod_mod _ _), inv_inv hm, Nat.mod_eq_of_lt hu]
    rw [e] at j2
    refine inv1Shape realA n a _ _ _ _ _ ok11 r11 o1 o2 i1 i2 ?_ m1 m2 s1 s2 ?_ j1 j2 ?_
    · rw [← fe0, lqFe hu (by decide)]
      exact decide_eq_false h0
    · rw [lqFe (by decide) (by decide)]
      rfl
    · rw [lqFe hu hu]
      exact decide_eq_true rfl
theorem law8 (a : List Nat) (la : a.length = 4) (ha : ∀ x ∈ a, x < 2 ^ IntKind.bits .u64) :
    g8o realA [.v (.agg [.nums .u64 4 a])] = some (true, .v (.cell (.bool true))) := by
  have e : g8v realA a = some (.v (.cell (.bool true))) := inverts 100000 (W4_of la ha)
  have k : g8ok realA a = true := by unfold g8ok; rw [e]; rfl
  have r : g8r0 realA a = true := by unfold g8r0; rw [e]; rfl
  show some (Nat.beq 4 4 && g8ok realA a, AV.v (.cell (.bool (g8r0 realA a)))) = _
  rw [k, r]
  rfl
end Go.Sx
