/- wire: the writer that wrote nothing yet; numbers in bytes. -/
import Derived.Test.YtloapdnklljaoaaSxN13
namespace Go.Sx
theorem h11_loop {R : Type} (kk : AV → Heap → Option R) (N : Nat) (x e : Int) (size : Nat) (hs : size ≤ 7) : ∀ (d m i : Nat) (l : List Nat), size - i = d → i ≤ size → size - i < m → l.length + (size - i) ≤ 1000000000000 →
    g11a_L2 realA N kk m x size size i e l.length l.length l = kk (.tup []) [(0, ⟨[.one (.int .i64 e), .one (.sl 600 none (l ++ nby x size i).length 1)], 56, 1⟩), (600, ⟨[.nums .u8 (l ++ nby x size i).length (l ++ nby x size i)], 5, 2⟩)] := by
  intro d
  induction d with
  | zero =>
    intro m i l hd hi hm hl
    obtain ⟨m, rfl⟩ : ∃ k, m = k + 1 := ⟨m - 1, by omega⟩
    have e1 : i = size := by omega
    subst e1
    rw [g11a_L2, ar_lss, decide_eq_false (by omega)]
    simp only [nby_end, List.append_nil]
  | succ d ih =>
    intro m i l hd hi hm hl
    obtain ⟨m, rfl⟩ : ∃ k, m = k + 1 := ⟨m - 1, by omega⟩
    have e1 : realA.ib .mul .i64 8 (realA.ib .sub .i64 (realA.ib .sub .i64 (size : Int) 1) (i : Int)) = ((8 * (size - 1 - i) : Nat) : Int) := by
      rw [ar_sub (a := (size : Int)) (by omega), ar_sub (by omega), ar_mul (by omega)]; omega
    have e2 : realA.ib .add .i64 (i : Int) 1 = ((i + 1 : Nat) : Int) := by rw [ar_add (by omega)]; omega
    have e3 : realA.i2n .u8 (realA.ish .shr .i64 x (8 * (size - 1 - i))) = (x / 2 ^ (8 * (size - 1 - i)) % 256).toNat := by rw [ar_shr (by omega)]; rfl
    rw [g11a_L2, ar_lss, decide_eq_true (by omega)]
    simp only [g11a_J3]
    rw [e1]
    simp only [ar_negN, ar_toNN, e3, e2, ar_eq, ar_le, Nat.add_zero, decide_true]
    have h2 : [(x / 2 ^ (8 * (size - 1 - i)) % 256).toNat].take 1 = [(x / 2 ^ (8 * (size - 1 - i)) % 256).toNat] := rfl
    rw [h2]
    have h3 : (l ++ [(x / 2 ^ (8 * (size - 1 - i)) % 256).toNat]).length = l.length + 1 := by simp
    rw [decide_eq_true (by omega : (l ++ [(x / 2 ^ (8 * (size - 1 - i)) % 256).toNat]).length ≤ 140737488355328)]
    simp only []
    rw [ih m (i + 1) _ (by omega) (by omega) (by omega) (by omega), nby_step x size i (by omega), List.append_assoc]
    rfl
theorem outWa (e : Int) (n m : Nat) (l : List Nat) (v : AV) (hv : v = .tup []) : outH [0, 600] none v [(0, ⟨[.one (.int .i64 e), .one (.sl 600 none n 1)], 56, 1⟩), (600, ⟨[.nums .u8 m l], 5, 2⟩)] = some (.tup [], [(0, ⟨[.one (.int .i64 e), .one (.sl 600 none n 1)], 56, 1⟩), (600, ⟨[.nums .u8 m l], 5, 2⟩)]) := by
  subst hv; rfl
theorem h11_v (x s e : Int) (l : List Nat) (hl : l.length ≤ 100000000000) : g11a_v realA x s e l.length l.length l = some (.tup [], [(0, ⟨[.one (.int .i64 (wnum x s e l).1), .one (.sl 600 none (wnum x s e l).2.length 1)], 56, 1⟩), (600, ⟨[.nums .u8 (wnum x s e l).2.length (wnum x s e l).2], 5, 2⟩)]) := by
  unfold g11a_v g11a_
  simp only [g29_ok, g29_0, g29_1, g29_2, g29_3, g29_4, ar_geq, ar_leq]
  by_cases he : e = 0
  · subst he
    by_cases h : 1 ≤ s ∧ s ≤ 7 ∧ 0 ≤ x
    · obtain ⟨h1, h2, h3⟩ := h
      obtain ⟨z, rfl⟩ : ∃ z : Nat, s = z := ⟨s.toNat, by omega⟩
      have e1 : realA.ib .mul .i64 8 (z : Int) = ((8 * z : Nat) : Int) := by rw [ar_mul (by omega)]; omega
      have e2 : realA.ish .shl .i64 1 (8 * z) = 2 ^ (8 * z) := by
        have h4 : (2 : Int) ^ (8 * z) ≤ 2 ^ 56 := by
          have : (2 : Nat) ^ (8 * z) ≤ 2 ^ 56 := Nat.pow_le_pow_right (by omega) (by omega)
          exact_mod_cast this
        have h5 : (0 : Int) < 2 ^ (8 * z) := Int.pow_pos (by omega)
        rw [ar_shl (by omega) (by omega), Int.one_mul]
      simp only [decide_eq_true h1, decide_eq_true h2, decide_eq_true h3, wf1_ok, decide_true, Bool.not_true, e1, ar_negN, ar_toNN, e2, ar_lss]
      by_cases h6 : x < 2 ^ (8 * z)
      · have hw : wnum x (z : Int) 0 l = (0, l ++ nby x z 0) := by
          unfold wnum
          rw [if_pos rfl, if_pos ⟨⟨h1, h2, h3⟩, h6⟩]
          rfl
        rw [hw]
        simp only [decide_eq_true h6, wf1_ok, decide_true, Bool.not_true, g11a_J1]
        exact (h11_loop _ 100000 x 0 z (by omega) z 100000 0 l (by omega) (by omega) (by omega) (by omega)).trans (outWa _ _ _ _ _ rfl)
      · simp only [decide_eq_false h6, wf1_bad]
        have : decide ((1 : Int) = 0) = false := rfl
        simp only [this, Bool.not_false]
        have hw : wnum x (z : Int) 0 l = (1, l) := by
          unfold wnum
          rw [if_pos rfl, if_neg (fun q => h6 q.2)]
        rw [hw]
        exact outWa _ _ _ _ _ rfl
    · have : wnum x s 0 l = (1, l) := by
        unfold wnum
        rw [if_pos rfl, if_neg (fun q => h q.1)]
      rw [this]
      by_cases h1 : 1 ≤ s
      · by_cases h2 : s ≤ 7
        · have h3 : ¬ 0 ≤ x := fun q => h ⟨h1, h2, q⟩
          simp only [decide_eq_true h1, decide_eq_true h2, decide_eq_false h3, wf1_bad]
          exact outWa _ _ _ _ _ rfl
        · simp only [decide_eq_true h1, decide_eq_false h2, wf1_bad]
          exact outWa _ _ _ _ _ rfl
      · simp only [decide_eq_false h1, wf1_bad]
        exact outWa _ _ _ _ _ rfl
  · have : wnum x s e l = (e, l) := by
      unfold wnum
      rw [if_neg he]
    rw [this]
    simp only [wf1_err he, decide_eq_false he, Bool.not_false]
    split
    · split
      · exact outWa _ _ _ _ _ rfl
      · exact outWa _ _ _ _ _ rfl
    · exact outWa _ _ _ _ _ rfl
theorem h11_ok (x s e : Int) (l : List Nat) (hl : l.length ≤ 100000000000) : g11a_ok realA x s e l.length l.length l = true := by unfold g11a_ok; rw [h11_v x s e l hl]; rfl
theorem h11_0 (x s e : Int) (l : List Nat) (hl : l.length ≤ 100000000000) : g11a_r0 realA x s e l.length l.length l = (wnum x s e l).1 := by unfold g11a_r0; rw [h11_v x s e l hl]; rfl
theorem h11_1 (x s e : Int) (l : List Nat) (hl : l.length ≤ 100000000000) : g11a_r1 realA x s e l.length l.length l = (wnum x s e l).2.length := by unfold g11a_r1; rw [h11_v x s e l hl]; rfl
theorem h11_2 (x s e : Int) (l : List Nat) (hl : l.length ≤ 100000000000) : g11a_r2 realA x s e l.length l.length l = (wnum x s e l).2.length := by unfold g11a_r2; rw [h11_v x s e l hl]; rfl
theorem h11_3 (x s e : Int) (l : List Nat) (hl : l.length ≤ 100000000000) : g11a_r3 realA x s e l.length l.length l = (wnum x s e l).2 := by unfold g11a_r3; rw [h11_v x s e l hl]; rfl

def beN (a : Nat) : Nat → List Nat
  | 0 => []
  | r + 1 => a / 256 ^ r % 256 :: beN a r
theorem beN_len (a r : Nat) : (beN a r).length = r := by
  induction r with
  | zero => rfl
  | succ r ih => simp [beN, ih]
theorem nby_nat (a k : Nat) : ∀ d i, k - i = d → i ≤ k → nby (a : Int) k i = beN a d := by
  intro d
  induction d with
  | zero =>
    intro i h1 h2
    obtain rfl : i = k := by omega
    rw [nby_end]; rfl
  | succ d ih =>
    intro i h1 h2
    rw [nby_step _ _ _ (by omega), ih (i + 1) (by omega) (by omega), beN, show k - 1 - i = d by omega]
    congr 1
    have : (2 : Int) ^ (8 * d) = ((256 ^ d : Nat) : Int) := by
      rw [Int.pow_mul, Int.natCast_pow]; rfl
    rw [this]
    omega
theorem modS (a r : Nat) : a % 256 ^ (r + 1) = a % 256 ^ r + 256 ^ r * (a / 256 ^ r % 256) := by
  rw [Nat.pow_succ, Nat.mod_mul]
theorem modlt (a r : Nat) : a % 256 ^ r < 256 ^ r := Nat.mod_lt _ (Nat.pow_pos (by omega))
theorem lex {u v p x y : Nat} (hx : x < p) (hy : y < p) : (x + p * u < y + p * v) ↔ (u < v ∨ (u = v ∧ x < y)) := by
  rcases Nat.lt_trichotomy u v with h | h | h
  · have : p * (u + 1) ≤ p * v := Nat.mul_le_mul_left _ h
    rw [Nat.mul_add] at this
    constructor
    · intro _; exact .inl h
    · intro _; omega
  · subst h
    constructor
    · intro q; exact .inr ⟨rfl, by omega⟩
    · rintro (q | q) <;> omega
  · have : p * (v + 1) ≤ p * u := Nat.mul_le_mul_left _ h
    rw [Nat.mul_add] at this
    constructor
    · intro q; omega
    · rintro (q | q) <;> omega
theorem beN_slt (a b r : Nat) : slt (beN a r) (beN b r) = decide (a % 256 ^ r < b % 256 ^ r) := by
  induction r with
  | zero => simp [beN, slt, Nat.mod_one]
  | succ r ih =>
    rw [beN, beN, slt, ih, modS a, modS b]
    have := lex (u := a / 256 ^ r % 256) (v := b / 256 ^ r % 256) (modlt a r) (modlt b r)
    rw [decide_eq_decide.2 this, Bool.decide_or, Bool.decide_and]
    rfl
theorem beN_inj (a b r : Nat) : (beN a r = beN b r) ↔ (a % 256 ^ r = b % 256 ^ r) := by
  induction r with
  | zero => simp [beN, Nat.mod_one]
  | succ r ih =>
    rw [beN, beN, List.cons.injEq, ih, modS a, modS b]
    constructor
    · rintro ⟨h1, h2⟩; rw [h1, h2]
    · intro h
      have h1 := modlt a r
      have h2 := modlt b r
      have h3 : a / 256 ^ r % 256 = b / 256 ^ r % 256 := by
        rcases Nat.lt_trichotomy (a / 256 ^ r % 256) (b / 256 ^ r % 256) with q | q | q
        · have := (lex (x := a % 256 ^ r) (y := b % 256 ^ r) h1 h2).2 (.inl q); omega
        · exact q
        · have := (lex (x := b % 256 ^ r) (y := a % 256 ^ r) h2 h1).2 (.inl q); omega
      rw [h3] at h
      exact ⟨h3, by omega⟩
/-- a number that fits -/
theorem wnum_fit (a k : Nat) (l : List Nat) (h1 : 1 ≤ k) (h7 : k ≤ 7) (ha : a < 256 ^ k) : wnum (a : Int) (k : Int) 0 l = (0, l ++ beN a k) := by
  unfold wnum
  have h2 : (a : Int) < 2 ^ (8 * ((k : Int)).toNat) := by
    have : (2 : Int) ^ (8 * ((k : Int)).toNat) = ((256 ^ k : Nat) : Int) := by
      rw [Int.toNat_natCast, Int.pow_mul, Int.natCast_pow]; rfl
    rw [this]; exact_mod_cast ha
  rw [if_pos rfl, if_pos ⟨⟨by omega, by omega, by omega⟩, h2⟩, Int.toNat_natCast, nby_nat a k k 0 (by omega) (by omega)]
theorem law7 (a b c : Nat) (ha : a < 2 ^ 32) (hb : b < 2 ^ 32) : g7v realA a b c = some (.v (.cell (.bool true))) := by
  have hk : realA.ib .add .i64 4 ((realA.nb .rem .u8 c 4 : Nat) : Int) = ((4 + c % 4 : Nat) : Int) := by
    rw [ar_nrem, ar_add (by omega)]; omega
  generalize hkk : 4 + c % 4 = k at hk
  have h4 : 4 ≤ k ∧ k ≤ 7 := by omega
  have hp : 256 ^ 4 ≤ 256 ^ k := Nat.pow_le_pow_right (by omega) h4.1
  have h24 : (256 : Nat) ^ 4 = 2 ^ 32 := by decide
  have fa : a < 256 ^ k := by omega
  have fb : b < 256 ^ k := by omega
  have wa := wnum_fit a k [] (by omega) (by omega) fa
  have wb := wnum_fit b k [] (by omega) (by omega) fb
  rw [List.nil_append] at wa wb
  have ta : (beN a k).take k = beN a k := List.take_of_length_le (by rw [beN_len]; omega)
  have tb : (beN b k).take k = beN b k := List.take_of_length_le (by rw [beN_len]; omega)
  have z := fun x s e => h11_ok x s e [] (by simp)
  have z0 := fun x s e => h11_0 x s e [] (by simp)
  have z1 := fun x s e => h11_1 x s e [] (by simp)
  have z2 := fun x s e => h11_2 x s e [] (by simp)
  have z3 := fun x s e => h11_3 x s e [] (by simp)
  simp only [List.length_nil] at z z0 z1 z2 z3
  have ms : realA.sc .lss (beN a k) (beN b k) = realA.nc .lss a b := by
    show slt _ _ = decide _
    rw [beN_slt, Nat.mod_eq_of_lt fa, Nat.mod_eq_of_lt fb]
  have me : realA.sc .eql (beN a k) (beN b k) = realA.nc .eql a b := by
    rw [ar_sceq, ar_neql]
    exact decide_eq_decide.2 ((beN_inj a b k).trans (by rw [Nat.mod_eq_of_lt fa, Nat.mod_eq_of_lt fb]))
  unfold g7v g7
  simp only [head13ok, head13r, Bool.not_true, g7J4, g9_ok, g9_0, hk, g7J9, ar_ofN, z, z0, z1, z2, z3, wa, wb, g17_ok, g17_1, g17_0, if_true, ta, tb, ar_eql, decide_true, beN_len, ms, me, beq_self_eq_true]
theorem law7o (a : Int) (ha : (Lit.int .u32 a).wf = true) (b : Int) (hb : (Lit.int .u32 b).wf = true) (c : Int) (hc : (Lit.int .u8 c).wf = true) : g7o realA [.v (.cell (.nat .u32 a.toNat)), .v (.cell (.nat .u32 b.toNat)), .v (.cell (.nat .u8 c.toNat))] = some (true, .v (.cell (.bool true))) := by
  have ra := (rv_nat (ρ := fun _ => none) ha rfl).2.1
  have rb := (rv_nat (ρ := fun _ => none) hb rfl).2.1
  have h := law7 a.toNat b.toNat c.toNat ra rb
  have e1 : g7ok realA a.toNat b.toNat c.toNat = true := by unfold g7ok; rw [h]; rfl
  have e2 : g7r0 realA a.toNat b.toNat c.toNat = true := by unfold g7r0; rw [h]; rfl
  show some (g7ok realA a.toNat b.toNat c.toNat, AV.v (.cell (.bool (g7r0 realA a.toNat b.toNat c.toNat)))) = _
  rw [e1, e2]
end Go.Sx
