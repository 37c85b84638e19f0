import Derived.Test.YtcgjapkajaflpaaSxPr04
namespace Go.Sx
theorem bt_set {l : List Nat} (h : ∀ x ∈ l, x < 256) (i y : Nat) (hy : y < 256) : ∀ x ∈ l.set i y, x < 256 := fun x hx => (List.mem_or_eq_of_mem_set hx).elim (h x) (fun e => e ▸ hy)
theorem bt_get {l : List Nat} (h : ∀ x ∈ l, x < 256) (i : Nat) : l.getD i 0 < 256 := by
  rw [List.getD_eq_getElem?_getD]
  cases e : l[i]? with
  | none => decide
  | some x => exact h x (List.mem_of_getElem? e)
theorem dbl (N : Nat) (lg : List Nat → Nat → Nat → Int → Nat → List Int → Nat → List Int → Option AV) (x0 : List Nat) (x1 : Nat) (x3 : Int) (x6 : Nat) (x7 : List Int) :
    ∀ (r i f c : Nat) (l : List Nat), i + r = 33 → r < f → l.length = 33 → (∀ x ∈ l, x < 256) → c ≤ 1 →
    ∃ l' c', l'.length = 33 ∧ (∀ x ∈ l', x < 256) ∧ leval l' + 256 ^ 33 * c' = leval (l.take i) + 256 ^ i * (2 * leval (l.drop i) + c) ∧
      g11L9 realA N (fun v _ => some v) lg f x0 x1 33 x3 (c : Int) (i : Int) x6 x7 33 (zi l) = g11J14 realA N (fun v _ => some v) lg x0 x1 33 x3 x6 x7 33 (zi l') := by
  intro r
  induction r with
  | zero =>
    intro i f c l h hf hl hb hc
    obtain ⟨f, rfl⟩ : ∃ q, f = q + 1 := ⟨f - 1, by omega⟩
    obtain rfl : i = 33 := by omega
    refine ⟨l, c, hl, hb, ?_, ?_⟩
    · rw [List.take_of_length_le (by omega), List.drop_of_length_le (by omega)]; simp [leval]
    · rw [g11L9, ar_lss, decide_eq_false (by omega)]
  | succ r ih =>
    intro i f c l h hf hl hb hc
    obtain ⟨f, rfl⟩ : ∃ q, f = q + 1 := ⟨f - 1, by omega⟩
    have hg := bt_get hb i
    have e1 : realA.ib .add .i64 (i : Int) 1 = ((i + 1 : Nat) : Int) := by rw [ar_add (by omega)]; omega
    have e2 : realA.ib .add .i64 (realA.ib .mul .i64 2 ((l.getD i 0 : Nat) : Int)) (c : Int) = ((2 * l.getD i 0 + c : Nat) : Int) := by rw [ar_mul (by omega), ar_add (by omega)]; omega
    have e3 : realA.ib .quo .i64 ((2 * l.getD i 0 + c : Nat) : Int) 256 = (((2 * l.getD i 0 + c) / 256 : Nat) : Int) := by rw [ar_quo (by omega) (by omega) (by omega)]; omega
    have e4 : realA.ib .rem .i64 ((2 * l.getD i 0 + c : Nat) : Int) 256 = (((2 * l.getD i 0 + c) % 256 : Nat) : Int) := by rw [ar_rem (by omega)]; omega
    obtain ⟨l', c', k1, k2, k3, k4⟩ := ih (i + 1) f ((2 * l.getD i 0 + c) / 256) (l.set i ((2 * l.getD i 0 + c) % 256)) (by omega) (by omega) (by rw [List.length_set]; exact hl) (bt_set hb _ _ (by omega)) (by omega)
    refine ⟨l', c', k1, k2, ?_, ?_⟩
    · rw [k3, take_set _ _ _ (by omega), leval_append, List.drop_set_of_lt (by omega), leval_drop l i (by omega)]
      have : (l.take i).length = i := by rw [List.length_take]; omega
      rw [this]
      have hq : 2 * l.getD i 0 + c = (2 * l.getD i 0 + c) % 256 + 256 * ((2 * l.getD i 0 + c) / 256) := by omega
      generalize (2 * l.getD i 0 + c) % 256 = u at *
      generalize (2 * l.getD i 0 + c) / 256 = w at *
      simp only [leval, Nat.pow_succ]
      grind
    · rw [g11L9, ar_lss, decide_eq_true (show (i : Int) < 33 by omega)]
      simp only [g11J11, ar_negN, ar_toNN, ar_lt, decide_eq_true (show i < 33 by omega), zi_get, e1, e2, e3, e4, zi_set]
      exact k4
theorem sbt (N : Nat) (lg : List Nat → Nat → Nat → Int → Nat → List Int → Nat → List Int → Option AV) (x0 : List Nat) (x3 : Int) (x6 : Nat) (o : List Nat) (ho : o.length = 33) (hob : ∀ x ∈ o, x < 256) :
    ∀ (r i f b : Nat) (l : List Nat), i + r = 33 → r < f → l.length = 33 → (∀ x ∈ l, x < 256) → b ≤ 1 →
    ∃ l' b', l'.length = 33 ∧ (∀ x ∈ l', x < 256) ∧ b' ≤ 1 ∧ leval l' + 256 ^ i * (leval (o.drop i) + b) = leval (l.take i) + 256 ^ i * leval (l.drop i) + 256 ^ 33 * b' ∧
      g11L17 realA N (fun v _ => some v) lg f x0 33 33 x3 (b : Int) (i : Int) x6 (zi o) 33 (zi l) = lg x0 33 33 (realA.ib .sub .i64 x3 1) x6 (zi o) 33 (zi l') := by
  intro r
  induction r with
  | zero =>
    intro i f b l h hf hl hb hc
    obtain ⟨f, rfl⟩ : ∃ q, f = q + 1 := ⟨f - 1, by omega⟩
    obtain rfl : i = 33 := by omega
    refine ⟨l, b, hl, hb, hc, ?_, ?_⟩
    · rw [List.take_of_length_le (by omega), List.drop_of_length_le (by omega), List.drop_of_length_le (by omega)]; simp [leval]
    · rw [g11L17, ar_lss, decide_eq_false (by omega)]
  | succ r ih =>
    intro i f b l h hf hl hb hc
    obtain ⟨f, rfl⟩ : ∃ q, f = q + 1 := ⟨f - 1, by omega⟩
    have hg := bt_get hb i
    have hg2 := bt_get hob i
    have e1 : realA.ib .add .i64 (i : Int) 1 = ((i + 1 : Nat) : Int) := by rw [ar_add (by omega)]; omega
    have e2 : realA.ib .add .i64 (realA.ib .sub .i64 (realA.ib .sub .i64 ((l.getD i 0 : Nat) : Int) ((o.getD i 0 : Nat) : Int)) (b : Int)) 256 = ((l.getD i 0 + 256 - o.getD i 0 - b : Nat) : Int) := by
      have s1 : realA.ib .sub .i64 ((l.getD i 0 : Nat) : Int) ((o.getD i 0 : Nat) : Int) = ((l.getD i 0 : Nat) : Int) - ((o.getD i 0 : Nat) : Int) := ar_sub (by omega)
      rw [s1, ar_sub (by omega), ar_add (by omega)]; omega
    have e3 : realA.ib .sub .i64 1 (realA.ib .quo .i64 ((l.getD i 0 + 256 - o.getD i 0 - b : Nat) : Int) 256) = ((1 - (l.getD i 0 + 256 - o.getD i 0 - b) / 256 : Nat) : Int) := by
      have : realA.ib .quo .i64 ((l.getD i 0 + 256 - o.getD i 0 - b : Nat) : Int) 256 = (((l.getD i 0 + 256 - o.getD i 0 - b) / 256 : Nat) : Int) := by rw [ar_quo (by omega) (by omega) (by omega)]; omega
      rw [this, ar_sub (by omega)]; omega
    have e4 : realA.ib .rem .i64 ((l.getD i 0 + 256 - o.getD i 0 - b : Nat) : Int) 256 = (((l.getD i 0 + 256 - o.getD i 0 - b) % 256 : Nat) : Int) := by rw [ar_rem (by omega)]; omega
    obtain ⟨l', b', k1, k2, k5, k3, k4⟩ := ih (i + 1) f (1 - (l.getD i 0 + 256 - o.getD i 0 - b) / 256) (l.set i ((l.getD i 0 + 256 - o.getD i 0 - b) % 256)) (by omega) (by omega) (by rw [List.length_set]; exact hl) (bt_set hb _ _ (by omega)) (by omega)
    refine ⟨l', b', k1, k2, k5, ?_, ?_⟩
    · rw [take_set _ _ _ (by omega), leval_append, List.drop_set_of_lt (by omega)] at k3
      have : (l.take i).length = i := by rw [List.length_take]; omega
      rw [this] at k3
      rw [leval_drop l i (by omega), leval_drop o i (by omega)]
      have hq : l.getD i 0 + 256 * (1 - (l.getD i 0 + 256 - o.getD i 0 - b) / 256) = o.getD i 0 + b + (l.getD i 0 + 256 - o.getD i 0 - b) % 256 := by omega
      generalize (l.getD i 0 + 256 - o.getD i 0 - b) % 256 = u at *
      generalize 1 - (l.getD i 0 + 256 - o.getD i 0 - b) / 256 = w at *
      simp only [leval, Nat.pow_succ] at k3 ⊢
      grind
    · rw [g11L17, ar_lss, decide_eq_true (show (i : Int) < 33 by omega)]
      simp only [g11J19, ar_negN, ar_toNN, ar_lt, decide_eq_true (show i < 33 by omega), zi_get, e1, e2, e3, e4, zi_set]
      exact k4
end Go.Sx
