import Derived.Test.YtnnepclpggbjgaaSxNt
import Derived.Test.YtnnepclpggbjgaaSxS03L5
namespace Go.Sx
theorem ownR5 {a : List Nat} {u : Nat} (h : Rep a u) : g12ok realA a [0, 0, 0, 0] = true ∧ g12r0 realA a [0, 0, 0, 0] = fe u := by
  obtain ⟨h1, h2⟩ := addOk h.1 W40
  refine ⟨h1, ?_⟩
  rw [h2, num0, Nat.add_zero]
  unfold fm
  rw [h.2.1]
theorem fe05 : fe 0 = [0, 0, 0, 0] := by decide
theorem lqFe5 {x y : Nat} (hx : x < PP) (hy : y < PP) : realA.lq (fe x) (fe y) = decide (x = y) := by
  rw [lqE]
  exact decide_eq_decide.2 (fe_eq hx hy)
theorem j7Shape (A : Ar) (n : Nat) (t q : Bool) (b x s one y o g : List Nat) (m1 : g16ok A b b = true) (m2 : g16r0 A b b = s) (s1 : g23ok A 1 = true) (s2 : g23r0 A 1 = one) (r1 : g21ok A s one = true) (r2 : g21r0 A s one = y) (r3 : g21r1 A s one = true)
    (o1 : g12ok A b [0, 0, 0, 0] = true) (o2 : g12r0 A b [0, 0, 0, 0] = o) (l1 : A.lq y o = q) (n1 : g18ok A b = true) (n2 : g18r0 A b = g) (l2 : q = false → A.lq y g = true) (l3 : t = false → A.lq x [0, 0, 0, 0] = true) :
    g5J7 A n (fun v _ => some v) true t b x = some (.v (.cell (.bool true))) := by
  unfold g5J7
  rw [m1, m2, s1, s2, r1, r2, r3, o1, o2, l1, n1, n2]
  cases q with
  | true =>
    cases t with
    | true => rfl
    | false => rw [l3 rfl]; rfl
  | false =>
    rw [l2 rfl]
    cases t with
    | true => rfl
    | false => rw [l3 rfl]; rfl
theorem j4Shape (A : Ar) (n : Nat) (t : Bool) (b c x s m o : List Nat) (k1 : g11ok A = true) (k2 : g11r0 A = true) (r1 : g21ok A b c = true) (r2 : g21r0 A b c = x) (r3 : g21r1 A b c = t) (s1 : g16ok A x x = true) (s2 : g16r0 A x x = s) (m1 : g16ok A c s = true) (m2 : g16r0 A c s = m)
    (o1 : g12ok A b [0, 0, 0, 0] = true) (o2 : g12r0 A b [0, 0, 0, 0] = o) (l1 : t = true → A.lq m o = true) (d1 : g22ok A x = true) (d2 : t = true → g22r0 A x = false) (b1 : g20ok A x = true) (b2 : t = true → g20r0 A x = true)
    (hj : g5J7 A n (fun v _ => some v) true t b x = some (.v (.cell (.bool true)))) : g5 A n (fun v _ => some v) b c = some (.v (.cell (.bool true))) := by
  unfold g5 g5J4
  rw [k1, k2, r1, r3, r2]
  cases t with
  | false => exact hj
  | true =>
    rw [s1, s2, m1, m2, o1, o2, l1 rfl, d1, d2 rfl, b1, b2 rfl]
    exact hj
theorem roots (n : Nat) {a b : List Nat} (ha : W4 a) (hb : W4 b) : g5 realA n (fun v _ => some v) a b = some (.v (.cell (.bool true))) := by
  have ra := rW ha
  have rb := rW hb
  have hu := ra.2.2
  have hv := rb.2.2
  obtain ⟨z, n1, n2, n3⟩ := negOk ha
  have hnz : (z + num a % PP) % PP = 0 := by rw [Nat.add_mod_mod]; exact n3
  generalize num a % PP = u at ra hu hnz
  generalize num b % PP = v at rb hv
  obtain ⟨r1, r2, r3⟩ := rootOk2 ra rb
  have hT := rootN_true (v := v) hu
  have hF := rootN_false (u := u) (v := v)
  generalize (rootN u v).1 = x at *
  generalize (rootN u v).2 = t at *
  have hx : x < PP := by
    cases t with
    | true => exact (hT rfl).2.1
    | false => rw [hF rfl]; exact PP_pos
  have hS : x * x % PP < PP := Nat.mod_lt _ PP_pos
  have hM : v * (x * x % PP) % PP < PP := Nat.mod_lt _ PP_pos
  obtain ⟨s1, s2⟩ := mulR (rf hx) (rf hx)
  obtain ⟨m1, m2⟩ := mulR rb (rf hS)
  obtain ⟨o1, o2⟩ := ownR5 ra
  obtain ⟨d1, d2⟩ := oddOk (fe_W4 x)
  obtain ⟨b1, b2⟩ := rightOk (fe_W4 x)
  rw [num_fe (Nat.lt_trans hx (by decide))] at d2 b2
  -- the root of a square
  have hW : u * u % PP < PP := Nat.mod_lt _ PP_pos
  obtain ⟨w1, w2⟩ := mulR ra ra
  obtain ⟨e1, e2⟩ := smallOk (x := 1) (by decide)
  obtain ⟨y1, y2, y3⟩ := rootOk2 (rf hW) (rf (x := 1) (by decide))
  obtain ⟨q1, q2⟩ := rootSq hu
  have q3 := rootN_true (v := 1) hW q1
  rw [q1] at y3
  generalize (rootN (u * u % PP) 1).1 = y at *
  refine j4Shape realA n t a b _ _ _ _ ok11 r11 r1 r2 r3 s1 s2 m1 m2 o1 o2 ?_ d1 ?_ b1 ?_ (j7Shape realA n t (decide (y = u)) a _ _ _ _ _ _ w1 w2 e1 e2 y1 y2 y3 o1 o2 (lqFe5 q3.2.1 hu) n1 n2 ?_ ?_)
  · intro h
    rw [(hT h).1, lqFe5 hu hu]
    exact decide_eq_true rfl
  · intro h
    rw [d2, Nat.mod_eq_of_lt hx, (hT h).2.2]
    rfl
  · intro _
    rw [b2]
    exact decide_eq_true hx
  · intro h
    have hne := of_decide_eq_false h
    have hs : (y + u) % PP = 0 := q2.resolve_left hne
    show realA.lq (fe y) (fe (z % PP)) = true
    have hz := Nat.mod_lt z PP_pos
    have e : y = z % PP := by
      have hy := q3.2.1
      have h2 : (z % PP + u) % PP = 0 := by rw [Nat.mod_add_mod]; exact hnz
      generalize z % PP = k at *
      clear q2 q3 hT n1 n2 n3
      unfold PP at *
      omega
    rw [← e, lqFe5 q3.2.1 q3.2.1]
    exact decide_eq_true rfl
  · intro h
    rw [hF h, ← fe05, lqFe5 PP_pos PP_pos]
    rfl
theorem law5 (a : List Nat) (la : a.length = 4) (ha : ∀ x ∈ a, x < 2 ^ IntKind.bits .u64) (b : List Nat) (lb : b.length = 4) (hb : ∀ x ∈ b, x < 2 ^ IntKind.bits .u64) :
    g5o realA [.v (.agg [.nums .u64 4 a]), .v (.agg [.nums .u64 4 b])] = some (true, .v (.cell (.bool true))) := by
  have e : g5v realA a b = some (.v (.cell (.bool true))) := roots 100000 (W4_of la ha) (W4_of lb hb)
  have k : g5ok realA a b = true := by unfold g5ok; rw [e]; rfl
  have r : g5r0 realA a b = true := by unfold g5r0; rw [e]; rfl
  show some (Nat.beq 4 4 && (Nat.beq 4 4 && g5ok realA a b), AV.v (.cell (.bool (g5r0 realA a b)))) = _
  rw [k, r]
  rfl
end Go.Sx
