import Derived.Test.YtnnepclpggbjgaaSxN03f
namespace Go.Sx
/-- p - 1 -/
theorem r36 : g36ok realA = true ∧ g36r0 realA = fe 57896044618658097711785492504343953926634992332820282019728792003956564819948 := by
  have e : g36v realA = some (.v (.agg [.nums .u64 4 [18446744073709551596, 18446744073709551615, 18446744073709551615, 9223372036854775807]])) := by kernel_rfl
  refine ⟨by unfold g36ok; rw [e]; rfl, ?_⟩
  unfold g36r0
  rw [e]
  show [18446744073709551596, 18446744073709551615, 18446744073709551615, 9223372036854775807] = _
  decide
theorem exShape (A : Ar) (n : Nat) (s2 s4 s1 l p one two b q : List Nat) (t1 : g23ok A 2 = true) (t2 : g23r0 A 2 = s2) (f1 : g23ok A 4 = true) (f2 : g23r0 A 4 = s4) (o1 : g23ok A 1 = true) (o2 : g23r0 A 1 = s1)
    (q1 : g21ok A s4 s1 = true) (q2 : g21r0 A s4 s1 = q) (q3 : g21r1 A s4 s1 = true) (l1 : g36ok A = true) (l2 : g36r0 A = l) (a1 : g12ok A l s2 = true) (a2 : g12r0 A l s2 = s1) (m1 : g16ok A l l = true) (m2 : g16r0 A l l = s1)
    (r1 : g20ok A l = true) (r2 : g20r0 A l = true) (k1 : g20ok A p = true) (k2 : g20r0 A p = false) (hp : (((([0, 0, 0, 0].set 0 18446744073709551597).set 1 18446744073709551615).set 2 18446744073709551615).set 3 9223372036854775807) = p) (lq : ∀ x, A.lq x x = true) (hq : q = s2) :
    g11 A n (fun v _ => some v) = some (.v (.cell (.bool true))) := by
  subst hq
  unfold g11
  rw [hp, t1, t2, f1, f2, o1, o2, l1, l2, q1, q2, q3, a1, a2, m1, m2, r1, r2, k1, k2, lq, lq]
  rfl
theorem lqSelf (x : List Nat) : realA.lq x x = true := by rw [lqE]; exact decide_eq_true rfl
theorem hwP : ((((([0, 0, 0, 0] : List Nat).set 0 18446744073709551597).set 1 18446744073709551615).set 2 18446744073709551615).set 3 9223372036854775807) = fe PP := by decide
theorem addEx : g12ok realA (fe 57896044618658097711785492504343953926634992332820282019728792003956564819948) (fe 2) = true ∧ g12r0 realA (fe 57896044618658097711785492504343953926634992332820282019728792003956564819948) (fe 2) = fe 1 := by
  obtain ⟨a1, a2⟩ := addOk (fe_W4 57896044618658097711785492504343953926634992332820282019728792003956564819948) (fe_W4 2)
  have ea : fm (num (fe 57896044618658097711785492504343953926634992332820282019728792003956564819948) + num (fe 2)) = fe 1 := by decide
  exact ⟨a1, a2.trans ea⟩
theorem mulEx : g16ok realA (fe 57896044618658097711785492504343953926634992332820282019728792003956564819948) (fe 57896044618658097711785492504343953926634992332820282019728792003956564819948) = true ∧ g16r0 realA (fe 57896044618658097711785492504343953926634992332820282019728792003956564819948) (fe 57896044618658097711785492504343953926634992332820282019728792003956564819948) = fe 1 := by
  obtain ⟨a1, a2⟩ := mulOk (fe_W4 57896044618658097711785492504343953926634992332820282019728792003956564819948) (fe_W4 57896044618658097711785492504343953926634992332820282019728792003956564819948)
  have ea : fm (num (fe 57896044618658097711785492504343953926634992332820282019728792003956564819948) * num (fe 57896044618658097711785492504343953926634992332820282019728792003956564819948)) = fe 1 := by decide
  exact ⟨a1, a2.trans ea⟩
theorem rightEx : (g20ok realA (fe 57896044618658097711785492504343953926634992332820282019728792003956564819948) = true ∧ g20r0 realA (fe 57896044618658097711785492504343953926634992332820282019728792003956564819948) = true) ∧ g20ok realA (fe PP) = true ∧ g20r0 realA (fe PP) = false := by
  obtain ⟨r1, r2⟩ := rightOk (fe_W4 57896044618658097711785492504343953926634992332820282019728792003956564819948)
  obtain ⟨s1, s2⟩ := rightOk (fe_W4 PP)
  have er : decide (num (fe 57896044618658097711785492504343953926634992332820282019728792003956564819948) < PP) = true := by decide
  have es : decide (num (fe PP) < PP) = false := by decide
  exact ⟨⟨r1, r2.trans er⟩, s1, s2.trans es⟩
theorem rootEx : g21ok realA (fe 4) (fe 1) = true ∧ g21r0 realA (fe 4) (fe 1) = fe 2 ∧ g21r1 realA (fe 4) (fe 1) = true := by
  obtain ⟨q1, q2, q3⟩ := rootOk (u := 4) (v := 1) (by decide) (by decide)
  rw [root41] at q2 q3
  exact ⟨q1, q2, q3⟩
theorem exm11 : g11v realA = some (.v (.cell (.bool true))) :=
  exShape realA 100000 _ _ _ _ _ (fe 1) (fe 2) [] _ (smallOk (x := 2) (by decide)).1 (smallOk (x := 2) (by decide)).2 (smallOk (x := 4) (by decide)).1 (smallOk (x := 4) (by decide)).2 (smallOk (x := 1) (by decide)).1 (smallOk (x := 1) (by decide)).2
    rootEx.1 rootEx.2.1 rootEx.2.2 r36.1 r36.2 addEx.1 addEx.2 mulEx.1 mulEx.2 rightEx.1.1 rightEx.1.2 rightEx.2.1 rightEx.2.2 hwP lqSelf rfl
theorem ok11 : g11ok realA = true := by
  unfold g11ok
  rw [exm11]
  rfl
theorem r11 : g11r0 realA = true := by
  unfold g11r0
  rw [exm11]
  rfl
theorem W40 : W4 [0, 0, 0, 0] := ⟨0, 0, 0, 0, rfl, by decide, by decide, by decide, by decide⟩
theorem W4_of {a : List Nat} (hl : a.length = 4) (h : ∀ x ∈ a, x < 2 ^ IntKind.bits .u64) : W4 a := by
  match a, hl with
  | [a0, a1, a2, a3], _ => exact ⟨a0, a1, a2, a3, rfl, h a0 (by simp), h a1 (by simp), h a2 (by simp), h a3 (by simp)⟩
theorem num0 : num [0, 0, 0, 0] = 0 := rfl
end Go.Sx
