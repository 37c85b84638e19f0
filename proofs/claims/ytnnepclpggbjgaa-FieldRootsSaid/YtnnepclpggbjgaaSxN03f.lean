import Derived.Test.YtnnepclpggbjgaaSxN03e
namespace Go.Sx
/-- the root of chapter 3, as numbers below p -/
def KK : Nat := 7237005577332262213973186563042994240829374041602535252466099000494570602493
def QQ : Nat := 14474011154664524427946373126085988481658748083205070504932198000989141204987
def finN (x : Nat) : Nat := match Nat.beq (x % 2) 1 with
  | true => PP - x
  | false => x
def rootX (u v : Nat) : Nat := u * (v * (v * v % PP) % PP) % PP * pw (u * (v * ((v * (v * v % PP) % PP) * (v * (v * v % PP) % PP) % PP) % PP) % PP) KK % PP
def rootC (u v : Nat) : Nat := v * (rootX u v * rootX u v % PP) % PP
def rootN (u v : Nat) : Nat × Bool := match Nat.beq (rootC u v) (u % PP) with
  | true => (finN (rootX u v), true)
  | false => match Nat.beq ((rootC u v + u % PP) % PP) 0 with
    | true => (finN (rootX u v * pw 2 QQ % PP), true)
    | false => (0, false)
theorem fe_eq {x y : Nat} (hx : x < PP) (hy : y < PP) : fe x = fe y ↔ x = y := by
  constructor
  · intro h
    have := congrArg num h
    rw [num_fe (Nat.lt_trans hx (by decide)), num_fe (Nat.lt_trans hy (by decide))] at this
    exact this
  · intro h; rw [h]
theorem mulFm (x y : Nat) : g16ok realA (fe x) (fe y) = true ∧ (x < PP → y < PP → g16r0 realA (fe x) (fe y) = fe (x * y % PP)) := by
  obtain ⟨h1, h2⟩ := mulOk (fe_W4 x) (fe_W4 y)
  refine ⟨h1, fun hx hy => ?_⟩
  rw [h2, num_fe (Nat.lt_trans hx (by decide)), num_fe (Nat.lt_trans hy (by decide))]
  rfl
theorem negFm {x : Nat} (hx : x < PP) : g18ok realA (fe x) = true ∧ g18r0 realA (fe x) = fe ((PP - x) % PP) := by
  obtain ⟨z, h1, h2, h3⟩ := negOk (fe_W4 x)
  rw [num_fe (Nat.lt_trans hx (by decide))] at h3
  refine ⟨h1, ?_⟩
  rw [h2]
  unfold fm
  have : z % PP = (PP - x) % PP := by
    have hz := Nat.mod_lt z PP_pos
    have e : (z % PP + x) % PP = 0 := by rw [Nat.mod_add_mod]; exact h3
    generalize z % PP = y at *
    unfold PP at *
    omega
  rw [this]
theorem fin10 (n : Nat) (d : List Nat) {x : Nat} (hx : x < PP) : g21J10 realA n (fun v _ => some v) d (fe x) = some (.tup [.agg [.nums .u64 4 (fe (finN x))], .cell (.bool true)]) := by
  obtain ⟨o1, o2⟩ := oddOk (fe_W4 x)
  obtain ⟨n1, n2⟩ := negFm hx
  rw [num_fe (Nat.lt_trans hx (by decide)), Nat.mod_eq_of_lt hx] at o2
  unfold g21J10 finN
  rw [o1, o2]
  by_cases h : x % 2 = 1
  · rw [decide_eq_true h, h]
    simp only [n1, n2]
    have : (PP - x) % PP = PP - x := Nat.mod_eq_of_lt (by unfold PP at *; omega)
    rw [this]
  · rw [decide_eq_false h]
    have : Nat.beq (x % 2) 1 = false := by
      cases hb : Nat.beq (x % 2) 1 with
      | true => exact absurd (beq_true hb) h
      | false => rfl
    rw [this]
theorem W4k : W4 [18446744073709551613, 18446744073709551615, 18446744073709551615, 1152921504606846975] := ⟨_, _, _, _, rfl, by decide, by decide, by decide, by decide⟩
theorem W4q : W4 [18446744073709551611, 18446744073709551615, 18446744073709551615, 2305843009213693951] := ⟨_, _, _, _, rfl, by decide, by decide, by decide, by decide⟩
theorem powFm {x : Nat} (hx : x < PP) : (g24ok realA (fe x) [18446744073709551613, 18446744073709551615, 18446744073709551615, 1152921504606846975] = true ∧ g24r0 realA (fe x) [18446744073709551613, 18446744073709551615, 18446744073709551615, 1152921504606846975] = fe (pw x KK)) ∧
    g24ok realA (fe x) [18446744073709551611, 18446744073709551615, 18446744073709551615, 2305843009213693951] = true ∧ g24r0 realA (fe x) [18446744073709551611, 18446744073709551615, 18446744073709551615, 2305843009213693951] = fe (pw x QQ) := by
  obtain ⟨h1, h2⟩ := powOk (fe_W4 x) W4k
  obtain ⟨h3, h4⟩ := powOk (fe_W4 x) W4q
  rw [num_fe (Nat.lt_trans hx (by decide))] at h2 h4
  have e1 : num [18446744073709551613, 18446744073709551615, 18446744073709551615, 1152921504606846975] = KK := by decide
  have e2 : num [18446744073709551611, 18446744073709551615, 18446744073709551615, 2305843009213693951] = QQ := by decide
  rw [e1] at h2
  rw [e2] at h4
  refine ⟨⟨h1, ?_⟩, h3, ?_⟩
  · rw [h2, pw_spec x KK (by decide)]; rfl
  · rw [h4, pw_spec x QQ (by decide)]; rfl
theorem lqF {x y : Nat} (hx : x < PP) (hy : y < PP) : realA.lq (fe x) (fe y) = Nat.beq x y := by
  rw [lqE]
  cases hb : Nat.beq x y with
  | true => exact decide_eq_true (by rw [beq_true hb])
  | false => exact decide_eq_false (fun h => by rw [(fe_eq hx hy).1 h] at hb; simp [Nat.beq_refl] at hb)
theorem pw_lt (b e : Nat) : pw b e < PP := Nat.mod_lt _ PP_pos
theorem rootE {u v : Nat} (hu : u < PP) (hv : v < PP) : g21v realA (fe u) (fe v) = some (.tup [.agg [.nums .u64 4 (fe (rootN u v).1)], .cell (.bool (rootN u v).2)]) := by
  have m := fun x => Nat.mod_lt x PP_pos
  unfold g21v
  generalize 100000 = n
  obtain ⟨k1, x1, y1⟩ := load4 (fe_W4 u)
  obtain ⟨k4, y4⟩ := store5 x1
  have want : g38r0 realA (g37r0 realA (fe u)) = fe (u % PP) := by
    rw [y4, fm_congr y1, num_fe (Nat.lt_trans hu (by decide))]; rfl
  have ew : ((((([0, 0, 0, 0] : List Nat).set 0 18446744073709551613).set 1 18446744073709551615).set 2 18446744073709551615).set 3 1152921504606846975) = [18446744073709551613, 18446744073709551615, 18446744073709551615, 1152921504606846975] := rfl
  have ew2 : ((((([0, 0, 0, 0] : List Nat).set 0 18446744073709551611).set 1 18446744073709551615).set 2 18446744073709551615).set 3 2305843009213693951) = [18446744073709551611, 18446744073709551615, 18446744073709551615, 2305843009213693951] := rfl
  unfold g21
  rw [ew, ew2]
  rw [(mulFm v v).1, (mulFm v v).2 hv hv]
  rw [(mulFm v (v * v % PP)).1, (mulFm v (v * v % PP)).2 hv (m _)]
  rw [(mulFm (v * (v * v % PP) % PP) (v * (v * v % PP) % PP)).1, (mulFm (v * (v * v % PP) % PP) (v * (v * v % PP) % PP)).2 (m _) (m _)]
  rw [(mulFm v ((v * (v * v % PP) % PP) * (v * (v * v % PP) % PP) % PP)).1, (mulFm v ((v * (v * v % PP) % PP) * (v * (v * v % PP) % PP) % PP)).2 hv (m _)]
  rw [(mulFm u (v * (v * v % PP) % PP)).1, (mulFm u (v * (v * v % PP) % PP)).2 hu (m _)]
  rw [(mulFm u (v * ((v * (v * v % PP) % PP) * (v * (v * v % PP) % PP) % PP) % PP)).1, (mulFm u (v * ((v * (v * v % PP) % PP) * (v * (v * v % PP) % PP) % PP) % PP)).2 hu (m _)]
  rw [(powFm (m (u * (v * ((v * (v * v % PP) % PP) * (v * (v * v % PP) % PP) % PP) % PP)))).1.1, (powFm (m (u * (v * ((v * (v * v % PP) % PP) * (v * (v * v % PP) % PP) % PP) % PP)))).1.2]
  rw [(mulFm _ _).1, (mulFm _ _).2 (m _) (pw_lt _ _)]
  rw [show u * (v * (v * v % PP) % PP) % PP * pw (u * (v * ((v * (v * v % PP) % PP) * (v * (v * v % PP) % PP) % PP) % PP) % PP) KK % PP = rootX u v from rfl]
  have hX : rootX u v < PP := m _
  have hC : rootC u v < PP := m _
  rw [k1, k4, (mulFm (rootX u v) (rootX u v)).1, (mulFm (rootX u v) (rootX u v)).2 hX hX]
  rw [(mulFm v (rootX u v * rootX u v % PP)).1, (mulFm v (rootX u v * rootX u v % PP)).2 hv (m _)]
  rw [show v * (rootX u v * rootX u v % PP) % PP = rootC u v from rfl, want, lqF hC (m _)]
  obtain ⟨n1, n2⟩ := negFm (m u)
  obtain ⟨s1, s2⟩ := smallOk (x := 2) (by decide)
  rw [n1, n2, lqF hC (m _), s1, s2, (powFm (show 2 < PP by decide)).2.1, (powFm (show 2 < PP by decide)).2.2]
  rw [(mulFm (rootX u v) (pw 2 QQ)).1, (mulFm (rootX u v) (pw 2 QQ)).2 hX (pw_lt _ _)]
  rw [fin10 n _ hX, fin10 n _ (m _)]
  unfold rootN
  have hsw : Nat.beq (rootC u v) ((PP - u % PP) % PP) = Nat.beq ((rootC u v + u % PP) % PP) 0 := by
    have hw := m u
    generalize u % PP = w at *
    generalize rootC u v = c at *
    have : c = (PP - w) % PP ↔ (c + w) % PP = 0 := by unfold PP at *; omega
    cases h1 : Nat.beq c ((PP - w) % PP) with
    | true => rw [this.1 (beq_true h1)]; rfl
    | false =>
      cases h2 : Nat.beq ((c + w) % PP) 0 with
      | true => rw [← this.2 (beq_true h2)] at h1; simp [Nat.beq_refl] at h1
      | false => rfl
  rw [hsw, Bool.and_true, Bool.and_true]
  clear hsw n1 n2 s1 s2 ew ew2 k1 k4 x1 y1 y4 want m hX hC
  generalize finN (rootX u v) = X1
  generalize finN (rootX u v * pw 2 QQ % PP) = X2
  generalize Nat.beq ((rootC u v + u % PP) % PP) 0 = c2
  generalize Nat.beq (rootC u v) (u % PP) = c1
  cases c1 with
  | true => rfl
  | false =>
    cases c2 with
    | true => rfl
    | false =>
      show some (AV.tup [.agg [.nums .u64 4 [0, 0, 0, 0]], .cell (.bool false)]) = some (AV.tup [.agg [.nums .u64 4 (fe 0)], .cell (.bool false)])
      rw [show fe 0 = [0, 0, 0, 0] by decide]
theorem rootOk {u v : Nat} (hu : u < PP) (hv : v < PP) : g21ok realA (fe u) (fe v) = true ∧ g21r0 realA (fe u) (fe v) = fe (rootN u v).1 ∧ g21r1 realA (fe u) (fe v) = (rootN u v).2 := by
  have e := rootE hu hv
  exact ⟨by unfold g21ok; rw [e]; rfl, by unfold g21r0; rw [e]; rfl, by unfold g21r1; rw [e]; rfl⟩
theorem root41 : rootN 4 1 = (2, true) := by kernel_rfl
end Go.Sx
