/- sum512: products of six words, and roots. -/
import Derived.Test.YtaiehobmadflkaaSxR02b
import Derived.Test.YtaiehobmadflkaaSxAr
import Derived.Test.YtaiehobmadflkaaSxDw
namespace Go.Sx
theorem and32 (a : Nat) : a &&& 4294967295 = a % 4294967296 := Nat.and_two_pow_sub_one_eq_mod a 32
theorem mulhi (a b : Nat) (ha : a < 18446744073709551616) (hb : b < 18446744073709551616) :
    (((a / 4294967296 * (b / 4294967296)) % 18446744073709551616 + (a / 4294967296 * (b % 4294967296) % 18446744073709551616 + (a % 4294967296 * (b % 4294967296) % 18446744073709551616) / 4294967296) % 18446744073709551616 / 4294967296) % 18446744073709551616 +
      ((a / 4294967296 * (b % 4294967296) % 18446744073709551616 + (a % 4294967296 * (b % 4294967296) % 18446744073709551616) / 4294967296) % 18446744073709551616 % 4294967296 + a % 4294967296 * (b / 4294967296) % 18446744073709551616) % 18446744073709551616 / 4294967296) % 18446744073709551616 = a * b / 18446744073709551616 := by
  have ea : a = a / 4294967296 * 4294967296 + a % 4294967296 := by omega
  have eb : b = b / 4294967296 * 4294967296 + b % 4294967296 := by omega
  have ea1 : a / 4294967296 ≤ 4294967295 := by omega
  have eb1 : b / 4294967296 ≤ 4294967295 := by omega
  have ea0 : a % 4294967296 ≤ 4294967295 := by omega
  have eb0 : b % 4294967296 ≤ 4294967295 := by omega
  generalize a / 4294967296 = a1 at *
  generalize b / 4294967296 = b1 at *
  generalize a % 4294967296 = a0 at *
  generalize b % 4294967296 = b0 at *
  have e : a * b = a1 * b1 * 18446744073709551616 + (a1 * b0 + a0 * b1) * 4294967296 + a0 * b0 := by subst ea; subst eb; grind
  rw [e]
  have h11 : a1 * b1 ≤ 4294967295 * 4294967295 := Nat.mul_le_mul ea1 eb1
  have h10 : a1 * b0 ≤ 4294967295 * 4294967295 := Nat.mul_le_mul ea1 eb0
  have h01 : a0 * b1 ≤ 4294967295 * 4294967295 := Nat.mul_le_mul ea0 eb1
  have h00 : a0 * b0 ≤ 4294967295 * 4294967295 := Nat.mul_le_mul ea0 eb0
  generalize a1 * b1 = p11 at *
  generalize a1 * b0 = p10 at *
  generalize a0 * b1 = p01 at *
  generalize a0 * b0 = p00 at *
  clear e ha hb ea eb ea1 eb1 ea0 eb0
  omega
theorem mul64E (a b : Nat) (ha : a < 18446744073709551616) (hb : b < 18446744073709551616) :
    g21v realA a b = some (.tup [.cell (.nat .u64 (a * b / 18446744073709551616)), .cell (.nat .u64 (a * b % 18446744073709551616))]) := by
  have h := mulhi a b ha hb
  simp only [← and32] at h
  rw [← h]
  rfl
theorem mul64ok {a b : Nat} (ha : a < 18446744073709551616) (hb : b < 18446744073709551616) : g21ok realA a b = true := by unfold g21ok; rw [mul64E a b ha hb]; rfl
theorem mul64r0 {a b : Nat} (ha : a < 18446744073709551616) (hb : b < 18446744073709551616) : g21r0 realA a b = a * b / 18446744073709551616 := by unfold g21r0; rw [mul64E a b ha hb]; rfl
theorem mul64r1 {a b : Nat} (ha : a < 18446744073709551616) (hb : b < 18446744073709551616) : g21r1 realA a b = a * b % 18446744073709551616 := by unfold g21r1; rw [mul64E a b ha hb]; rfl
theorem carryT {x y c : Nat} (hc : c ≤ 1) (hx : x < 18446744073709551616) (hy : y < 18446744073709551616) : carryok x y c = true := by
  simp [carryok, hc, hx, hy]

abbrev B64 : Nat := 18446744073709551616
theorem pw64 (k : IntKind) (h : k = .u64) : 2 ^ bitsOf k = B64 := by subst h; rfl
def N6 (l : List Nat) : Prop := l.length = 6 ∧ ∀ x ∈ l, x < B64
theorem N6.get {l : List Nat} (h : N6 l) (j : Nat) : l.getD j 0 < B64 := getD_ltE h.2 j
theorem N6.set {l : List Nat} (h : N6 l) {y : Nat} (hy : y < B64) (j : Nat) : N6 (l.set j y) := ⟨by rw [List.length_set]; exact h.1, set_ltE h.2 hy j⟩
theorem N6.lt {l : List Nat} (h : N6 l) : dw l < EE ^ 6 := by have := dw_lt h.2; rw [h.1] at this; exact this
/-- one digit -/
theorem digit {o x b c : Nat} (ho : o < B64) (hx : x < B64) (hb : b < B64) (hc : c < B64) :
    (x * b / B64 + (o + x * b % B64 + 0) / B64) % B64 + ((o + x * b % B64 + 0) % B64 + c + 0) / B64 < B64 ∧
    ((o + x * b % B64 + 0) % B64 + c + 0) % B64 + B64 * (((x * b / B64 + (o + x * b % B64 + 0) / B64) % B64 + ((o + x * b % B64 + 0) % B64 + c + 0) / B64) % B64) = o + x * b + c := by
  have h1 : x * b ≤ 18446744073709551615 * 18446744073709551615 := Nat.mul_le_mul (Nat.le_of_lt_succ hx) (Nat.le_of_lt_succ hb)
  generalize x * b = p at *
  simp only [B64] at *
  omega
theorem times_in (N : Nat) (lg : List Nat → Int → List Nat → List Nat → Option AV) (a b : List Nat) (hb : N6 b) (i x : Nat) (hi : i < 6) (hx : x < B64) : ∀ (r k m c : Nat) (o : List Nat), i + k + r = 6 → c < B64 → N6 o → r < m →
    ∃ o' c', N6 o' ∧ dw o' + EE ^ 6 * c' = dw o + EE ^ (i + k) * c + EE ^ (i + k) * (x * dw ((b.take (6 - i)).drop k)) ∧ g25L6 realA N (fun v _ => some v) lg m (i : Int) x c (k : Int) a (i : Int) b o = lg a ((i + 1 : Nat) : Int) b o' := by
  intro r
  induction r with
  | zero =>
    intro k m c o h1 hc ho hm
    obtain ⟨m, rfl⟩ : ∃ q, m = q + 1 := ⟨m - 1, by omega⟩
    refine ⟨o, c, ho, ?_, ?_⟩
    · have : (b.take (6 - i)).drop k = [] := List.drop_eq_nil_of_le (by rw [List.length_take, hb.1]; omega)
      rw [this, show i + k = 6 by omega]
      simp [dw]
    · have e1 : realA.ib .add .i64 (i : Int) (k : Int) = ((i + k : Nat) : Int) := by rw [ar_add (by omega)]; omega
      have e2 : realA.ib .add .i64 (i : Int) 1 = ((i + 1 : Nat) : Int) := by rw [ar_add (by omega)]; omega
      rw [g25L6, e1, ar_lss, decide_eq_false (show ¬ ((i + k : Nat) : Int) < 6 by omega), e2]
  | succ r ih =>
    intro k m c o h1 hc ho hm
    obtain ⟨m, rfl⟩ : ∃ q, m = q + 1 := ⟨m - 1, by omega⟩
    have e1 : realA.ib .add .i64 (i : Int) (k : Int) = ((i + k : Nat) : Int) := by rw [ar_add (by omega)]; omega
    have e2 : realA.ib .add .i64 (k : Int) 1 = ((k + 1 : Nat) : Int) := by rw [ar_add (by omega)]; omega
    have hbk := hb.get k
    have hok := ho.get (i + k)
    obtain ⟨d1, d2⟩ := digit hok hx hbk hc
    have hl : i + k < o.length := by rw [ho.1]; omega
    have s1 : ∀ u, (o.set (i + k) u).getD (i + k) 0 = u := fun u => by rw [List.getD_eq_getElem?_getD, List.getElem?_set_self hl]; rfl
    have lt1 : (o.getD (i + k) 0 + x * b.getD k 0 % 18446744073709551616 + 0) % 18446744073709551616 < 18446744073709551616 := Nat.mod_lt _ (by decide)
    have lt2 : x * b.getD k 0 % 18446744073709551616 < 18446744073709551616 := Nat.mod_lt _ (by decide)
    rw [g25L6, e1, ar_lss, decide_eq_true (show ((i + k : Nat) : Int) < 6 by omega)]
    simp only [g25J8, e1, ar_negN, ar_toNN, ar_lt, decide_eq_true (show k < 6 by omega), decide_eq_true (show i + k < 6 by omega), mul64ok hx hbk, mul64r0 hx hbk, mul64r1 hx hbk, carryT (Nat.zero_le 1) hok lt2, s1, carryT (Nat.zero_le 1) lt1 hc, e2, ar_nadd, pw64 _ rfl, List.set_set, add64a, add64b]
    have hn : N6 (o.set (i + k) (((o.getD (i + k) 0 + x * b.getD k 0 % B64 + 0) % B64 + c + 0) % B64)) := ho.set (Nat.mod_lt _ (by decide)) _
    obtain ⟨o', c', g1, g2, g3⟩ := ih (k + 1) m _ _ (by omega) (Nat.mod_lt _ (by decide) : ((x * b.getD k 0 / B64 + (o.getD (i + k) 0 + x * b.getD k 0 % B64 + 0) / B64) % B64 + ((o.getD (i + k) 0 + x * b.getD k 0 % B64 + 0) % B64 + c + 0) / B64) % B64 < B64) hn (by omega)
    refine ⟨o', c', g1, ?_, g3⟩
    rw [g2]
    have hs := dw_set o (i + k) (((o.getD (i + k) 0 + x * b.getD k 0 % B64 + 0) % B64 + c + 0) % B64) hl
    have hd : dw ((b.take (6 - i)).drop k) = b.getD k 0 + B64 * dw ((b.take (6 - i)).drop (k + 1)) := by
      rw [dw_drop _ _ (by rw [List.length_take, hb.1]; omega)]
      congr 1
      rw [List.getD_eq_getElem?_getD, List.getElem?_take_of_lt (by omega), ← List.getD_eq_getElem?_getD]
    rw [hd]
    generalize dw ((b.take (6 - i)).drop (k + 1)) = D at *
    generalize ((o.getD (i + k) 0 + x * b.getD k 0 % B64 + 0) % B64 + c + 0) % B64 = u at *
    generalize ((x * b.getD k 0 / B64 + (o.getD (i + k) 0 + x * b.getD k 0 % B64 + 0) / B64) % B64 + ((o.getD (i + k) 0 + x * b.getD k 0 % B64 + 0) % B64 + c + 0) / B64) % B64 = v at *
    generalize dw (o.set (i + k) u) = X at *
    generalize o.getD (i + k) 0 = y at *
    generalize b.getD k 0 = z at *
    have hE : EE ^ (i + (k + 1)) = EE ^ (i + k) * B64 := by rw [← Nat.add_assoc, Nat.pow_succ]; rfl
    rw [hE]
    generalize EE ^ (i + k) = P at *
    have : P * u + P * B64 * v = P * y + P * (x * z) + P * c := by
      have := congrArg (P * ·) d2
      grind
    grind

theorem dw_take_mod (b : List Nat) (hb : N6 b) (i : Nat) (hi : i ≤ 6) : ∃ q, EE ^ i * dw b = EE ^ i * dw (b.take (6 - i)) + EE ^ 6 * q := by
  have := dw_split b (6 - i) (by rw [hb.1]; omega)
  refine ⟨dw (b.drop (6 - i)), ?_⟩
  rw [this, Nat.mul_add, ← Nat.mul_assoc, ← Nat.pow_add, show i + (6 - i) = 6 by omega]
theorem times_out (N : Nat) (a b : List Nat) (ha : N6 a) (hb : N6 b) : ∀ (r i m : Nat) (o : List Nat), i + r = 6 → N6 o → r < m → 6 < N →
    ∃ o', N6 o' ∧ (∃ q p, dw o' + EE ^ 6 * q = dw o + EE ^ i * dw (a.drop i) * dw b + EE ^ 6 * p) ∧ g25L2 realA N (fun v _ => some v) m a (i : Int) b o = some (aN .u64 6 o') := by
  intro r
  induction r with
  | zero =>
    intro i m o h1 ho hm _
    obtain ⟨m, rfl⟩ : ∃ q, m = q + 1 := ⟨m - 1, by omega⟩
    obtain rfl : i = 6 := by omega
    refine ⟨o, ho, ⟨0, 0, ?_⟩, ?_⟩
    · rw [List.drop_eq_nil_of_le (by rw [ha.1]; omega)]; simp [dw]
    · rw [g25L2, ar_lss, decide_eq_false (by omega)]
  | succ r ih =>
    intro i m o h1 ho hm hN
    obtain ⟨m, rfl⟩ : ∃ q, m = q + 1 := ⟨m - 1, by omega⟩
    have hx := ha.get i
    obtain ⟨o1, c1, g1, g2, g3⟩ := times_in N (g25L2 realA N (fun v _ => some v) m) a b hb i (a.getD i 0) (by omega) hx (6 - i) 0 N 0 o (by omega) (by decide) ho (by omega)
    obtain ⟨o2, k1, ⟨q, p, k2⟩, k3⟩ := ih (i + 1) m o1 (by omega) g1 (by omega) hN
    refine ⟨o2, k1, ?_, ?_⟩
    · obtain ⟨t, ht⟩ := dw_take_mod b hb i (by omega)
      rw [List.drop_zero, Nat.add_zero, Nat.mul_zero, Nat.add_zero] at g2
      have hd := dw_drop a i (by rw [ha.1]; omega)
      refine ⟨q + c1 + a.getD i 0 * t, p, ?_⟩
      rw [hd]
      have hE : EE ^ (i + 1) = EE ^ i * B64 := Nat.pow_succ ..
      rw [hE] at k2
      generalize dw (a.drop (i + 1)) = D at *
      generalize a.getD i 0 = x at *
      generalize dw (b.take (6 - i)) = Bt at *
      generalize dw b = Bv at *
      generalize EE ^ i = P at *
      generalize EE ^ 6 = M at *
      have : P * x * Bv = P * (x * Bt) + M * (x * t) := by
        have := congrArg (x * ·) ht
        grind
      grind
    · rw [g25L2, ar_lss, decide_eq_true (show (i : Int) < 6 by omega)]
      simp only [g25J3, ar_negN, ar_toNN, ar_lt, decide_eq_true (show i < 6 by omega)]
      exact g3.trans k3
theorem times_v (a b : List Nat) (ha : N6 a) (hb : N6 b) : ∃ o, N6 o ∧ (∃ q p, dw o + EE ^ 6 * q = dw a * dw b + EE ^ 6 * p) ∧ g25v realA a b = some (aN .u64 6 o) := by
  obtain ⟨o, h1, ⟨q, p, h2⟩, h3⟩ := times_out 100000 a b ha hb 6 0 100000 [0, 0, 0, 0, 0, 0] (by omega) ⟨rfl, by decide⟩ (by omega) (by omega)
  refine ⟨o, h1, ⟨q, p, ?_⟩, h3⟩
  rw [h2, List.drop_zero, Nat.pow_zero, Nat.one_mul]
  simp [dw]
/-- a product that fits -/
theorem times_fit (a b : List Nat) (ha : N6 a) (hb : N6 b) (h : dw a * dw b < EE ^ 6) : N6 (g25r0 realA a b) ∧ dw (g25r0 realA a b) = dw a * dw b ∧ g25ok realA a b = true := by
  obtain ⟨o, h1, ⟨q, p, h2⟩, h3⟩ := times_v a b ha hb
  have e0 : g25r0 realA a b = o := (congrArg g25g0 h3).trans rfl
  refine ⟨by rw [e0]; exact h1, ?_, (congrArg g25is h3).trans rfl⟩
  rw [e0]
  have := congrArg (· % EE ^ 6) h2
  simp only [Nat.add_mul_mod_self_left] at this
  rwa [Nat.mod_eq_of_lt h1.lt, Nat.mod_eq_of_lt h] at this
theorem dw_snoc6 (l : List Nat) (hl : N6 l) (i : Nat) (hi : i < 6) : dw (l.take (i + 1)) = dw (l.take i) + EE ^ i * l.getD i 0 := dw_take_succ l i (by rw [hl.1]; exact hi)
theorem dw_take_lt (l : List Nat) (hl : N6 l) (i : Nat) (hi : i ≤ 6) : dw (l.take i) < EE ^ i := by
  have := dw_lt (l := l.take i) fun x hx => hl.2 x (List.mem_of_mem_take hx)
  rw [List.length_take, hl.1, Nat.min_eq_left hi] at this
  exact this
theorem lexE {u v p x y : Nat} (hx : x < p) (hy : y < p) : (x + p * u < y + p * v) ↔ (u < v ∨ (u = v ∧ x < y)) := by
  rcases Nat.lt_trichotomy u v with h | h | h
  · have : p * (u + 1) ≤ p * v := Nat.mul_le_mul_left _ h
    rw [Nat.mul_add] at this
    constructor
    · intro _; exact .inl h
    · intro _; omega
  · subst h
    constructor
    · intro q; exact .inr ⟨rfl, by omega⟩
    · rintro (q | q) <;> omega
  · have : p * (v + 1) ≤ p * u := Nat.mul_le_mul_left _ h
    rw [Nat.mul_add] at this
    constructor
    · intro q; omega
    · rintro (q | q) <;> omega
theorem above_loop (N : Nat) (a b : List Nat) (ha : N6 a) (hb : N6 b) : ∀ (i m : Nat), i ≤ 6 → i < m →
    g26L2 realA N (fun v _ => some v) m ((i : Int) - 1) a b = some (bO (decide (dw (b.take i) < dw (a.take i)))) := by
  intro i
  induction i with
  | zero =>
    intro m _ hm
    obtain ⟨m, rfl⟩ : ∃ q, m = q + 1 := ⟨m - 1, by omega⟩
    rw [g26L2, ar_geq, decide_eq_false (by omega)]
    simp [dw]
  | succ i ih =>
    intro m hi hm
    obtain ⟨m, rfl⟩ : ∃ q, m = q + 1 := ⟨m - 1, by omega⟩
    have e0 : (((i + 1 : Nat) : Int) - 1) = (i : Int) := by omega
    have e1 : realA.ib .sub .i64 (i : Int) 1 = (i : Int) - 1 := ar_sub (by omega)
    rw [g26L2, e0, ar_geq, decide_eq_true (show (0 : Int) ≤ (i : Int) by omega)]
    simp only [g26J4, ar_negN, ar_toNN, ar_lt, decide_eq_true (show i < 6 by omega), ar_nneq, ar_ngtr, e1]
    rw [dw_snoc6 a ha i (by omega), dw_snoc6 b hb i (by omega)]
    have hl := lexE (u := b.getD i 0) (v := a.getD i 0) (dw_take_lt b hb i (by omega)) (dw_take_lt a ha i (by omega))
    by_cases h : a.getD i 0 = b.getD i 0
    · simp only [h, decide_true, Bool.not_true]
      rw [ih m (by omega) (by omega)]
      rw [h] at hl
      have hd : decide (dw (b.take i) + EE ^ i * b.getD i 0 < dw (a.take i) + EE ^ i * b.getD i 0) = decide (dw (b.take i) < dw (a.take i)) := decide_eq_decide.2 (by constructor <;> intro <;> omega)
      rw [hd]
    · simp only [decide_eq_false h, Bool.not_false]
      have hd : decide (dw (b.take i) + EE ^ i * b.getD i 0 < dw (a.take i) + EE ^ i * a.getD i 0) = decide (b.getD i 0 < a.getD i 0) := decide_eq_decide.2 (hl.trans ⟨fun q => q.elim id (fun q => absurd q.1.symm h), .inl⟩)
      rw [hd]
theorem above_v (a b : List Nat) (ha : N6 a) (hb : N6 b) : g26v realA a b = some (bO (decide (dw b < dw a))) := by
  have := above_loop 100000 a b ha hb 6 100000 (by omega) (by omega)
  rw [List.take_of_length_le (l := a) (by rw [ha.1]; omega), List.take_of_length_le (l := b) (by rw [hb.1]; omega)] at this
  exact this
theorem above_ok (a b : List Nat) (ha : N6 a) (hb : N6 b) : g26ok realA a b = true := (congrArg g26is (above_v a b ha hb)).trans rfl
theorem above_0 (a b : List Nat) (ha : N6 a) (hb : N6 b) : g26r0 realA a b = decide (dw b < dw a) := (congrArg g26g0 (above_v a b ha hb)).trans rfl
end Go.Sx
