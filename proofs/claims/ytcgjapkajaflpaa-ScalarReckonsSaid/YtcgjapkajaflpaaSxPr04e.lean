import Derived.Test.YtcgjapkajaflpaaSxPr04d
namespace Go.Sx
theorem inner15 (N : Nat) (lg : List Nat → List Nat → List Nat → Nat → Int → Nat → List Int → Option AV) (a b c : List Nat) (ha : ∀ x ∈ a, x < 256) (hb : ∀ x ∈ b, x < 256) (i : Nat) (hi : i < a.length) (hi2 : a.length ≤ 32) (hb2 : b.length ≤ 32) :
    ∀ (r k f : Nat) (x : List Nat), k + r = b.length → r < f → x.length = 64 → Bd x (65025 * (i + 1)) → (∀ j, i + k ≤ j → x.getD j 0 ≤ 65025 * i) →
    ∃ x', x'.length = 64 ∧ Bd x' (65025 * (i + 1)) ∧ leval x' = leval x + 256 ^ (i + k) * (a.getD i 0 * leval (b.drop k)) ∧
      g15L9 realA N (fun v _ => some v) lg f a b c 64 (i : Int) (k : Int) 64 (zi x) = lg a b c 64 ((i + 1 : Nat) : Int) 64 (zi x') := by
  intro r
  induction r with
  | zero =>
    intro k f x h hf hx h1 h2
    obtain ⟨f, rfl⟩ : ∃ q, f = q + 1 := ⟨f - 1, by omega⟩
    obtain rfl : k = b.length := by omega
    have e1 : realA.ib .add .i64 (i : Int) 1 = ((i + 1 : Nat) : Int) := by rw [ar_add (by omega)]; omega
    refine ⟨x, hx, h1, ?_, ?_⟩
    · rw [List.drop_of_length_le (Nat.le_refl _)]; simp [leval]
    · rw [g15L9, ar_lss, ar_ofN, decide_eq_false (by omega), e1]
  | succ r ih =>
    intro k f x h hf hx h1 h2
    obtain ⟨f, rfl⟩ : ∃ q, f = q + 1 := ⟨f - 1, by omega⟩
    have hk : k < b.length := by omega
    have ga := bt_get ha i
    have gb := bt_get hb k
    have gx := h2 (i + k) (Nat.le_refl _)
    have hm : a.getD i 0 * b.getD k 0 ≤ 255 * 255 := Nat.mul_le_mul (by omega) (by omega)
    have e1 : realA.ib .add .i64 (k : Int) 1 = ((k + 1 : Nat) : Int) := by rw [ar_add (by omega)]; omega
    have e2 : realA.ib .add .i64 (i : Int) (k : Int) = ((i + k : Nat) : Int) := by rw [ar_add (by omega)]; omega
    have m1 : realA.ib .mul .i64 ((a.getD i 0 : Nat) : Int) ((b.getD k 0 : Nat) : Int) = ((a.getD i 0 * b.getD k 0 : Nat) : Int) := by
      rw [ar_mul (by rw [← Int.natCast_mul]; omega), Int.natCast_mul]
    have e3 : realA.ib .add .i64 ((x.getD (i + k) 0 : Nat) : Int) (realA.ib .mul .i64 ((a.getD i 0 : Nat) : Int) ((b.getD k 0 : Nat) : Int)) = ((x.getD (i + k) 0 + a.getD i 0 * b.getD k 0 : Nat) : Int) := by
      rw [m1, ar_add (by omega)]; omega
    obtain ⟨x', k1, k2, k3, k4⟩ := ih (k + 1) f (x.set (i + k) (x.getD (i + k) 0 + a.getD i 0 * b.getD k 0)) (by omega) (by omega) (by rw [List.length_set]; exact hx)
      (bd_set h1 (Nat.le_refl _) (by omega) (by omega))
      (fun j hj => by rw [getD_setN _ _ _ _ (by omega), decide_eq_false (by omega)]; exact h2 j (by omega))
    refine ⟨x', k1, k2, ?_, ?_⟩
    · have hv := leval_set x (i + k) (x.getD (i + k) 0 + a.getD i 0 * b.getD k 0) (by omega)
      rw [k3, leval_drop b k hk]
      rw [show i + (k + 1) = i + k + 1 by omega, Nat.pow_succ]
      generalize leval (b.drop (k + 1)) = z at *
      generalize a.getD i 0 = u at *
      generalize b.getD k 0 = w at *
      grind
    · rw [g15L9, ar_lss, ar_ofN, decide_eq_true (show (k : Int) < (b.length : Int) by omega)]
      simp only [g15J11, e1, e2, ar_negN, ar_toNN, ar_lt, ar_ofN, decide_eq_true (show i + k < 64 by omega), decide_eq_true hi, decide_eq_true hk, zi_get, e3, zi_set]
      exact k4
theorem outer15 (N : Nat) (hN : 40 < N) (a b c : List Nat) (ha : ∀ x ∈ a, x < 256) (hb : ∀ x ∈ b, x < 256) (hi2 : a.length ≤ 32) (hb2 : b.length ≤ 32) :
    ∀ (r i f : Nat) (x : List Nat), i + r = a.length → r < f → x.length = 64 → Bd x (65025 * i) →
    ∃ x', x'.length = 64 ∧ Bd x' (65025 * 32) ∧ leval x' = leval x + 256 ^ i * (leval (a.drop i) * leval b) ∧
      g15L6 realA N (fun v _ => some v) f a b c 64 (i : Int) 64 (zi x) = g15J12 realA N (fun v _ => some v) c 64 64 (zi x') := by
  intro r
  induction r with
  | zero =>
    intro i f x h hf hx h1
    obtain ⟨f, rfl⟩ : ∃ q, f = q + 1 := ⟨f - 1, by omega⟩
    obtain rfl : i = a.length := by omega
    refine ⟨x, hx, fun j => Nat.le_trans (h1 j) (Nat.mul_le_mul_left _ hi2), ?_, ?_⟩
    · rw [List.drop_of_length_le (Nat.le_refl _)]; simp [leval]
    · rw [g15L6, ar_lss, ar_ofN, decide_eq_false (by omega)]
  | succ r ih =>
    intro i f x h hf hx h1
    obtain ⟨f, rfl⟩ : ∃ q, f = q + 1 := ⟨f - 1, by omega⟩
    obtain ⟨x1, k1, k2, k3, k4⟩ := inner15 N (g15L6 realA N (fun v _ => some v) f) a b c ha hb i (by omega) hi2 hb2 b.length 0 N x (by omega) (by omega) hx (fun j => Nat.le_trans (h1 j) (Nat.mul_le_mul_left _ (by omega))) (fun j _ => h1 j)
    obtain ⟨x', q1, q2, q3, q4⟩ := ih (i + 1) f x1 (by omega) (by omega) k1 k2
    refine ⟨x', q1, q2, ?_, ?_⟩
    · rw [q3, k3, leval_drop a i (by omega), List.drop_zero, Nat.add_zero, Nat.pow_succ]
      grind
    · rw [g15L6, ar_lss, ar_ofN, decide_eq_true (show (i : Int) < (a.length : Int) by omega)]
      simp only [g15J8]
      exact k4.trans q4
theorem third15 (N : Nat) (c : List Nat) (hc : ∀ x ∈ c, x < 256) (hc2 : c.length ≤ 32) (T : Nat) (hT : T < 1000000000) :
    ∀ (r i f : Nat) (x : List Nat), i + r = c.length → r < f → x.length = 64 → Bd x (T + 255) → (∀ j, i ≤ j → x.getD j 0 ≤ T) →
    ∃ x', x'.length = 64 ∧ Bd x' (T + 255) ∧ leval x' = leval x + 256 ^ i * leval (c.drop i) ∧
      g15L13 realA N (fun v _ => some v) f c 64 (i : Int) 64 (zi x) = g15J16 realA N (fun v _ => some v) 64 64 (zi x') := by
  intro r
  induction r with
  | zero =>
    intro i f x h hf hx h1 h2
    obtain ⟨f, rfl⟩ : ∃ q, f = q + 1 := ⟨f - 1, by omega⟩
    obtain rfl : i = c.length := by omega
    refine ⟨x, hx, h1, ?_, ?_⟩
    · rw [List.drop_of_length_le (Nat.le_refl _)]; simp [leval]
    · rw [g15L13, ar_lss, ar_ofN, decide_eq_false (by omega)]
  | succ r ih =>
    intro i f x h hf hx h1 h2
    obtain ⟨f, rfl⟩ : ∃ q, f = q + 1 := ⟨f - 1, by omega⟩
    have hi : i < c.length := by omega
    have gc := bt_get hc i
    have gx := h2 i (Nat.le_refl _)
    have e1 : realA.ib .add .i64 (i : Int) 1 = ((i + 1 : Nat) : Int) := by rw [ar_add (by omega)]; omega
    have e3 : realA.ib .add .i64 ((x.getD i 0 : Nat) : Int) ((c.getD i 0 : Nat) : Int) = ((x.getD i 0 + c.getD i 0 : Nat) : Int) := by rw [ar_add (by omega)]; omega
    obtain ⟨x', k1, k2, k3, k4⟩ := ih (i + 1) f (x.set i (x.getD i 0 + c.getD i 0)) (by omega) (by omega) (by rw [List.length_set]; exact hx)
      (bd_set h1 (Nat.le_refl _) (by omega) (by omega))
      (fun j hj => by rw [getD_setN _ _ _ _ (by omega), decide_eq_false (by omega)]; exact h2 j (by omega))
    refine ⟨x', k1, k2, ?_, ?_⟩
    · have hv := leval_set x i (x.getD i 0 + c.getD i 0) (by omega)
      rw [k3, leval_drop c i hi, Nat.pow_succ]
      generalize leval (c.drop (i + 1)) = z at *
      grind
    · rw [g15L13, ar_lss, ar_ofN, decide_eq_true (show (i : Int) < (c.length : Int) by omega)]
      simp only [g15J15, e1, ar_negN, ar_toNN, ar_lt, ar_ofN, decide_eq_true (show i < 64 by omega), decide_eq_true hi, zi_get, e3, zi_set]
      exact k4
theorem carry15 (N : Nat) (x : List Nat) (hx : x.length = 64) (T : Nat) (hT : T < 1000000000) (hb : Bd x T) :
    ∀ (r i f cy : Nat) (o : List Nat), i + r = 64 → r < f → o.length = 64 → (∀ y ∈ o, y < 256) → cy ≤ T →
    ∃ o' c', o'.length = 64 ∧ (∀ y ∈ o', y < 256) ∧ leval o' + 256 ^ 64 * c' = leval (o.take i) + 256 ^ i * (cy + leval (x.drop i)) ∧
      g15L19 realA N (fun v _ => some v) f 64 (cy : Int) 64 (i : Int) 64 (zi x) 64 o = some (tS (le32 (leval o' % LL))) := by
  intro r
  induction r with
  | zero =>
    intro i f cy o h hf ho hob hc
    obtain ⟨f, rfl⟩ : ∃ q, f = q + 1 := ⟨f - 1, by omega⟩
    obtain rfl : i = 64 := by omega
    have e : o.take 64 = o := List.take_of_length_le (by omega)
    refine ⟨o, cy, ho, hob, ?_, ?_⟩
    · rw [e, List.drop_of_length_le (by omega)]; simp [leval]
    · rw [g15L19, ar_lss, decide_eq_false (by omega)]
      simp only [e, red_ok hob, red_0 hob]
  | succ r ih =>
    intro i f cy o h hf ho hob hc
    obtain ⟨f, rfl⟩ : ∃ q, f = q + 1 := ⟨f - 1, by omega⟩
    have gx := hb i
    have e1 : realA.ib .add .i64 (i : Int) 1 = ((i + 1 : Nat) : Int) := by rw [ar_add (by omega)]; omega
    have e2 : realA.ib .add .i64 ((x.getD i 0 : Nat) : Int) (cy : Int) = ((x.getD i 0 + cy : Nat) : Int) := by rw [ar_add (by omega)]; omega
    have e3 : realA.ib .quo .i64 ((x.getD i 0 + cy : Nat) : Int) 256 = (((x.getD i 0 + cy) / 256 : Nat) : Int) := by rw [ar_quo (by omega) (by omega) (by omega)]; omega
    obtain ⟨o', c', k1, k2, k3, k4⟩ := ih (i + 1) f ((x.getD i 0 + cy) / 256) (o.set i ((x.getD i 0 + cy) % 256)) (by omega) (by omega) (by rw [List.length_set]; exact ho) (bt_set hob _ _ (by omega)) (by omega)
    refine ⟨o', c', k1, k2, ?_, ?_⟩
    · rw [k3, take_set _ _ _ (by omega), leval_append, leval_drop x i (by omega)]
      have : (o.take i).length = i := by rw [List.length_take]; omega
      rw [this]
      have hq : x.getD i 0 + cy = (x.getD i 0 + cy) % 256 + 256 * ((x.getD i 0 + cy) / 256) := by omega
      generalize (x.getD i 0 + cy) % 256 = u at *
      generalize (x.getD i 0 + cy) / 256 = w at *
      simp only [leval, Nat.pow_succ]
      grind
    · rw [g15L19, ar_lss, decide_eq_true (show (i : Int) < 64 by omega)]
      simp only [g15J21, e1, ar_negN, ar_toNN, ar_lt, decide_eq_true (show i < 64 by omega), zi_get, e2, e3, ar_i2nN]
      exact k4
end Go.Sx
