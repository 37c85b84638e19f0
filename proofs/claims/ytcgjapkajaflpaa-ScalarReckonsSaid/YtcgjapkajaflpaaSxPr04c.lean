import Derived.Test.YtcgjapkajaflpaaSxPr04b
namespace Go.Sx
theorem andI1 : ∀ y, y < 256 → realA.ib .and .i64 ((y : Nat) : Int) 1 = ((y % 2 : Nat) : Int) := by decide +kernel
theorem bitE {s : List Nat} (hs : ∀ x ∈ s, x < 256) {k : Nat} (hk : k < 8 * s.length) : leval s / 2 ^ k % 2 = s.getD (k / 8) 0 / 2 ^ (k % 8) % 2 := by
  have h := lv_split s (k / 8) (by omega)
  have ht := lv_take hs (k / 8) (by omega)
  have hp : 2 ^ k = 256 ^ (k / 8) * 2 ^ (k % 8) := by
    rw [show (256 : Nat) = 2 ^ 8 from rfl, ← Nat.pow_mul, ← Nat.pow_add, show 8 * (k / 8) + k % 8 = k by omega]
  have hd : leval s / 256 ^ (k / 8) = s.getD (k / 8) 0 + 256 * leval (s.drop (k / 8 + 1)) := by
    rw [h, Nat.add_mul_div_left _ _ (Nat.pow_pos (by omega)), Nat.div_eq_of_lt ht, Nat.zero_add]
  rw [hp, ← Nat.div_div_eq_div_mul, hd]
  have hm : k % 8 < 8 := Nat.mod_lt _ (by omega)
  generalize k % 8 = m at *
  generalize s.getD (k / 8) 0 = u
  generalize leval (s.drop (k / 8 + 1)) = z
  have : m = 0 ∨ m = 1 ∨ m = 2 ∨ m = 3 ∨ m = 4 ∨ m = 5 ∨ m = 6 ∨ m = 7 := by omega
  rcases this with rfl | rfl | rfl | rfl | rfl | rfl | rfl | rfl <;> omega
theorem bit_v {s : List Nat} (hs : ∀ x ∈ s, x < 256) {k : Nat} (hk : k < 8 * s.length) (hl : s.length < 1000000) : g21v realA s (k : Int) = some (i6 ((leval s / 2 ^ k % 2 : Nat) : Int)) := by
  unfold g21v g21
  have e1 : realA.ib .quo .i64 (k : Int) 8 = ((k / 8 : Nat) : Int) := by rw [ar_quo (by omega) (by omega) (by omega)]; omega
  have e2 : realA.ib .rem .i64 (k : Int) 8 = ((k % 8 : Nat) : Int) := by rw [ar_rem (by omega)]; omega
  have hg : s.getD (k / 8) 0 / 2 ^ (k % 8) < 256 := Nat.lt_of_le_of_lt (Nat.div_le_self _ _) (bt_get hs _)
  rw [ar_lss, decide_eq_false (by omega), e1, ar_geq, ar_ofN, decide_eq_false (by omega)]
  simp only [g21J3, e1, e2, ar_negN, ar_toNN, ar_lt, decide_eq_true (show k / 8 < s.length by omega), ar_nshr, ar_ofN, andI1 _ hg, ← bitE hs hk]
theorem g21g0_some (y : Int) : g21g0 (some (i6 y)) = y := rfl
theorem g21is_some (y : Int) : g21is (some (i6 y)) = true := rfl
theorem bit_ok {s : List Nat} (hs : ∀ x ∈ s, x < 256) {k : Nat} (hk : k < 8 * s.length) (hl : s.length < 1000000) : g21ok realA s (k : Int) = true := (congrArg g21is (bit_v hs hk hl)).trans (g21is_some _)
theorem bit_0 {s : List Nat} (hs : ∀ x ∈ s, x < 256) {k : Nat} (hk : k < 8 * s.length) (hl : s.length < 1000000) : g21r0 realA s (k : Int) = ((leval s / 2 ^ k % 2 : Nat) : Int) := (congrArg g21g0 (bit_v hs hk hl)).trans (g21g0_some _)
def O33 : List Nat := ORD ++ [0]
theorem O33_lt : ∀ x ∈ O33, x < 256 := by decide
theorem O33_len : O33.length = 33 := by decide
theorem O33_val : leval O33 = LL := by decide
theorem mod_dbl {L q y b v : Nat} (hL : 0 < L) (hy : q % L = y) (hv : v = 2 * q + b) : v % L = (2 * y + b) % L := by
  subst hv
  rw [← hy, Nat.add_mod, Nat.mul_mod, Nat.add_mod (2 * (q % L)), Nat.mul_mod 2 (q % L), Nat.mod_mod]
theorem half (S k : Nat) : S / 2 ^ k = 2 * (S / 2 ^ (k + 1)) + S / 2 ^ k % 2 := by
  rw [Nat.pow_succ, ← Nat.div_div_eq_div_mul]
  omega
theorem LL_small : 2 * LL + 2 < 256 ^ 33 := by decide
theorem red_loop (N : Nat) (hN : 40 < N) (s : List Nat) (hs : ∀ x ∈ s, x < 256) (hl : s.length < 1000000) : ∀ (k f : Nat) (l : List Nat), k ≤ 8 * s.length → k < f → l.length = 33 → (∀ x ∈ l, x < 256) → leval l = leval s / 2 ^ k % LL →
    ∃ l', l'.length = 33 ∧ (∀ x ∈ l', x < 256) ∧ leval l' = leval s % LL ∧ g11L5 realA N (fun v _ => some v) f s 33 33 ((k : Int) - 1) 33 (zi O33) 33 (zi l) = g11J22 realA N (fun v _ => some v) 33 33 (zi l') := by
  intro k
  induction k with
  | zero =>
    intro f l _ hf h1 h2 h3
    obtain ⟨f, rfl⟩ : ∃ q, f = q + 1 := ⟨f - 1, by omega⟩
    refine ⟨l, h1, h2, by rw [h3, Nat.pow_zero, Nat.div_one], ?_⟩
    rw [g11L5, ar_geq, decide_eq_false (by omega)]
  | succ k ih =>
    intro f l hk hf h1 h2 h3
    obtain ⟨f, rfl⟩ : ∃ q, f = q + 1 := ⟨f - 1, by omega⟩
    have e0 : ((k + 1 : Nat) : Int) - 1 = (k : Int) := by omega
    have e1 : realA.ib .sub .i64 (k : Int) 1 = (k : Int) - 1 := ar_sub (by omega)
    have hb := half (leval s) k
    have hb1 : leval s / 2 ^ k % 2 ≤ 1 := by omega
    have hlt : leval l < LL := by rw [h3]; exact Nat.mod_lt _ LL_pos
    have hmod := mod_dbl (v := leval s / 2 ^ k) LL_pos h3.symm hb
    obtain ⟨l1, c1, a1, a2, a3, a4⟩ := dbl N (g11L5 realA N (fun v _ => some v) f) s 33 (k : Int) 33 (zi O33) 33 0 N (leval s / 2 ^ k % 2) l (by omega) (by omega) h1 h2 hb1
    simp only [List.take_zero, List.drop_zero, leval, Nat.pow_zero, Nat.one_mul, Nat.zero_add] at a3
    have hs33 := LL_small
    have hc1 : c1 = 0 := by
      rcases Nat.eq_zero_or_pos c1 with h | h
      · exact h
      · have : 256 ^ 33 * 1 ≤ 256 ^ 33 * c1 := Nat.mul_le_mul_left _ h
        omega
    rw [hc1, Nat.mul_zero, Nat.add_zero] at a3
    rw [← a3] at hmod
    have start : g11L5 realA N (fun v _ => some v) (f + 1) s 33 33 (((k + 1 : Nat) : Int) - 1) 33 (zi O33) 33 (zi l) = g11J14 realA N (fun v _ => some v) (g11L5 realA N (fun v _ => some v) f) s 33 33 (k : Int) 33 (zi O33) 33 (zi l1) := by
      rw [g11L5, e0, ar_geq, decide_eq_true (show (0 : Int) ≤ (k : Int) by omega)]
      simp only [g11J7, bit_ok hs (show k < 8 * s.length by omega) hl, bit_0 hs (show k < 8 * s.length by omega) hl]
      exact a4
    by_cases hlow : leval l1 < LL
    · obtain ⟨l', b1, b2, b3, b4⟩ := ih f l1 (by omega) (by omega) a1 a2 (by rw [hmod, Nat.mod_eq_of_lt hlow])
      refine ⟨l', b1, b2, b3, start.trans ?_⟩
      simp only [g11J14, below_ok a1 a2, below_0 a1 a2, below_1 a1 a2, below_2 a1 a2, decide_eq_true hlow, e1]
      exact b4
    · obtain ⟨l2, b', d1, d2, d5, d3, d4⟩ := sbt N (g11L5 realA N (fun v _ => some v) f) s (k : Int) 33 O33 O33_len O33_lt 33 0 N 0 l1 (by omega) (by omega) a1 a2 (by omega)
      simp only [List.take_zero, List.drop_zero, leval, Nat.pow_zero, Nat.one_mul, Nat.zero_add, Nat.add_zero, O33_val] at d3
      have hl2 := leval_lt d2
      rw [d1] at hl2
      have hb0 : b' = 0 := by
        rcases Nat.eq_zero_or_pos b' with h | h
        · exact h
        · have : 256 ^ 33 * 1 ≤ 256 ^ 33 * b' := Nat.mul_le_mul_left _ h
          omega
      rw [hb0, Nat.mul_zero, Nat.add_zero] at d3
      have hv : leval l2 = leval s / 2 ^ k % LL := by
        rw [hmod, Nat.mod_eq_sub_mod (by omega), Nat.mod_eq_of_lt (by omega)]
        omega
      obtain ⟨l', b1, b2, b3, b4⟩ := ih f l2 (by omega) (by omega) d1 d2 hv
      refine ⟨l', b1, b2, b3, start.trans ?_⟩
      simp only [g11J14, below_ok a1 a2, below_0 a1 a2, below_1 a1 a2, below_2 a1 a2, decide_eq_false hlow, g11J15]
      refine d4.trans ?_
      rw [e1]
      exact b4
end Go.Sx
