import Derived.Test.YtcgjapkajaflpaaSxPr04c
namespace Go.Sx
theorem take_snoc (l : List Nat) (i : Nat) (h : i < l.length) : l.take (i + 1) = l.take i ++ [l.getD i 0] := by
  rw [List.take_add_one, List.getElem?_eq_getElem h, List.getD_eq_getElem?_getD, List.getElem?_eq_getElem h]; rfl
theorem out24 (N : Nat) (l : List Nat) (hl : l.length = 33) (hb : ∀ x ∈ l, x < 256) : ∀ (r i f : Nat) (x6 : List Nat), i + r = 32 → r < f → x6.length = 32 → x6.take i = l.take i →
    g11L24 realA N (fun v _ => some v) f 33 32 (i : Int) 33 (zi l) 32 x6 = some (tS (l.take 32)) := by
  intro r
  induction r with
  | zero =>
    intro i f x6 h hf h6 ht
    obtain ⟨f, rfl⟩ : ∃ q, f = q + 1 := ⟨f - 1, by omega⟩
    obtain rfl : i = 32 := by omega
    rw [g11L24, ar_lss, decide_eq_false (by omega), ht]
  | succ r ih =>
    intro i f x6 h hf h6 ht
    obtain ⟨f, rfl⟩ : ∃ q, f = q + 1 := ⟨f - 1, by omega⟩
    have e1 : realA.ib .add .i64 (i : Int) 1 = ((i + 1 : Nat) : Int) := by rw [ar_add (by omega)]; omega
    have hg := bt_get hb i
    rw [g11L24, ar_lss, decide_eq_true (show (i : Int) < 32 by omega)]
    simp only [g11J26, ar_negN, ar_toNN, ar_lt, decide_eq_true (show i < 33 by omega), decide_eq_true (show i < 32 by omega), zi_get, e1, ar_i2nN, Nat.mod_eq_of_lt hg]
    refine ih (i + 1) f _ (by omega) (by omega) (by rw [List.length_set]; exact h6) ?_
    rw [take_set _ _ _ (by omega), ht, take_snoc l i (by omega)]
theorem rep0 : ∀ n, leval (List.replicate n 0) = 0 := by
  intro n
  induction n with
  | zero => rfl
  | succ n ih => rw [List.replicate_succ]; simp only [leval, ih]
theorem red_v {a : List Nat} (ha : ∀ x ∈ a, x < 256) : g11v realA a = some (tS (le32 (leval (a.take 64) % LL))) := by
  unfold g11v g11
  obtain ⟨c1, c2, c3⟩ := clip a 64
  rw [show (((64 : Nat) : Int)) = (64 : Int) from rfl] at c1 c2 c3
  have hO : zi ORD ++ ([0] : List Int).take 1 = zi O33 := rfl
  have hz : (zi O33).length = 33 := by rw [zi_len, O33_len]
  have hs := bytes_take ha 64
  have hlen : (a.take 64).length ≤ 64 := by rw [List.length_take]; omega
  have e1 : realA.ib .sub .i64 (realA.ib .mul .i64 8 (realA.ofN (a.take 64).length)) 1 = ((8 * (a.take 64).length : Nat) : Int) - 1 := by rw [ar_ofN, ar_mul (by omega), ar_sub (by omega)]; omega
  simp only [c1, c2, c3, ord_ok, ord_0, ord_1, ord_2, hO, hz, ar_eq, ar_le, Nat.add_zero, decide_true, decide_eq_true (show 33 * 8 ≤ 140737488355328 by omega), decide_eq_true (Nat.le_refl 33), decide_eq_true (show 264 ≤ 140737488355328 by omega), e1, zi_rep]
  generalize a.take 64 = s at *
  have hS := leval_lt hs
  have h0 : leval (List.replicate 33 0) = leval s / 2 ^ (8 * s.length) % LL := by
    rw [rep0, Nat.div_eq_of_lt (by rw [Nat.pow_mul]; exact hS), Nat.zero_mod]
  obtain ⟨l', b1, b2, b3, b4⟩ := red_loop 100000 (by omega) s hs (by omega) (8 * s.length) 100000 (List.replicate 33 0) (by omega) (by omega) (by simp) (by intro x hx; rw [(List.mem_replicate.1 hx).2]; decide) h0
  refine b4.trans ?_
  simp only [g11J22, ar_le, decide_eq_true (Nat.le_refl 32), decide_eq_true (show 32 ≤ 140737488355328 by omega)]
  refine (out24 100000 l' b1 b2 32 0 100000 (List.replicate 32 0) (by omega) (by omega) (by simp) (by simp)).trans ?_
  refine congrArg (fun l => some (tS l)) ?_
  have hs' := lv_split l' 32 (by omega)
  rw [show 32 + 1 = 33 from rfl, List.drop_of_length_le (show l'.length ≤ 33 by omega)] at hs'
  simp only [leval, Nat.mul_zero, Nat.add_zero] at hs'
  have hlt : leval l' < LL := by rw [b3]; exact Nat.mod_lt _ LL_pos
  have h256 := LL_256
  have hz32 : l'.getD 32 0 = 0 := by
    rcases Nat.eq_zero_or_pos (l'.getD 32 0) with h | h
    · exact h
    · have : 256 ^ 32 * 1 ≤ 256 ^ 32 * l'.getD 32 0 := Nat.mul_le_mul_left _ h
      omega
  rw [hz32, Nat.mul_zero, Nat.add_zero] at hs'
  rw [← b3, hs']
  exact (le32_leval (bytes_take b2 32) (by rw [List.length_take]; omega)).symm
theorem g11g0_some (y : List Nat) : g11g0 (some (tS y)) = y := rfl
theorem g11is_some (y : List Nat) : g11is (some (tS y)) = true := rfl
theorem red_ok {a : List Nat} (ha : ∀ x ∈ a, x < 256) : g11ok realA a = true := (congrArg g11is (red_v ha)).trans (g11is_some _)
theorem red_0 {a : List Nat} (ha : ∀ x ∈ a, x < 256) : g11r0 realA a = le32 (leval (a.take 64) % LL) := (congrArg g11g0 (red_v ha)).trans (g11g0_some _)
end Go.Sx
