import Derived.Test.YtaiehobmadflkaaSxPl
import Derived.Test.YtaiehobmadflkaaSxR02b
import Derived.Test.YtaiehobmadflkaaSxAr
namespace Go.Sx
def dw : List Nat → Nat
  | [] => 0
  | x :: r => x + 18446744073709551616 * dw r
def EE : Nat := 18446744073709551616
theorem dw_lt {l : List Nat} (h : ∀ x ∈ l, x < 18446744073709551616) : dw l < EE ^ l.length := by
  induction l with
  | nil => simp [dw]
  | cons x r ih =>
    have h1 := ih fun y hy => h y (List.mem_cons_of_mem _ hy)
    have h2 := h x (List.mem_cons_self ..)
    simp only [dw, List.length_cons, Nat.pow_succ]
    unfold EE at *
    omega
theorem dw_append (a b : List Nat) : dw (a ++ b) = dw a + EE ^ a.length * dw b := by
  induction a with
  | nil => simp [dw]
  | cons x r ih =>
    simp only [List.cons_append, dw, ih, List.length_cons, Nat.pow_succ, EE]
    grind
theorem dw_split (l : List Nat) (k : Nat) (h : k ≤ l.length) : dw l = dw (l.take k) + EE ^ k * dw (l.drop k) := by
  have e := dw_append (l.take k) (l.drop k)
  rw [List.take_append_drop, List.length_take, Nat.min_eq_left h] at e
  exact e
theorem dw_take_succ (l : List Nat) (k : Nat) (h : k < l.length) : dw (l.take (k + 1)) = dw (l.take k) + EE ^ k * l.getD k 0 := by
  have : l.take (k + 1) = l.take k ++ [l.getD k 0] := by
    rw [List.take_add_one, List.getD_eq_getElem?_getD, List.getElem?_eq_getElem h]
    rfl
  rw [this, dw_append, List.length_take, Nat.min_eq_left (by omega)]
  simp only [dw, Nat.mul_zero, Nat.add_zero]
theorem dw_drop (l : List Nat) (k : Nat) (h : k < l.length) : dw (l.drop k) = l.getD k 0 + 18446744073709551616 * dw (l.drop (k + 1)) := by
  rw [List.drop_eq_getElem_cons h, dw, List.getD_eq_getElem?_getD, List.getElem?_eq_getElem h]
  rfl
theorem dw_set : ∀ (l : List Nat) (j y : Nat), j < l.length → dw (l.set j y) + EE ^ j * l.getD j 0 = dw l + EE ^ j * y := by
  intro l
  induction l with
  | nil => intro j y h; simp at h
  | cons x r ih =>
    intro j y h
    cases j with
    | zero => simp [dw]; omega
    | succ j =>
      have := ih j y (by simpa using h)
      simp only [List.set_cons_succ, dw, List.getD_cons_succ, Nat.pow_succ, EE] at this ⊢
      grind
theorem getD_ltE {l : List Nat} (h : ∀ x ∈ l, x < 18446744073709551616) (j : Nat) : l.getD j 0 < 18446744073709551616 := by
  by_cases hj : j < l.length
  · rw [List.getD_eq_getElem?_getD, List.getElem?_eq_getElem hj]
    exact h _ (List.getElem_mem _)
  · rw [List.getD_eq_getElem?_getD, List.getElem?_eq_none (by omega)]
    exact Nat.zero_lt_succ _
theorem set_ltE {l : List Nat} (h : ∀ x ∈ l, x < 18446744073709551616) {y : Nat} (hy : y < 18446744073709551616) (j : Nat) : ∀ x ∈ l.set j y, x < 18446744073709551616 := fun x hx => (List.mem_or_eq_of_mem_set hx).elim (h x) (fun e => e ▸ hy)
end Go.Sx
namespace Go.Sx
theorem and32 (a : Nat) : a &&& 4294967295 = a % 4294967296 := Nat.and_two_pow_sub_one_eq_mod a 32
theorem mulhi (a b : Nat) (ha : a < 18446744073709551616) (hb : b < 18446744073709551616) :
    (((a / 4294967296 * (b / 4294967296)) % 18446744073709551616 + (a / 4294967296 * (b % 4294967296) % 18446744073709551616 + (a % 4294967296 * (b % 4294967296) % 18446744073709551616) / 4294967296) % 18446744073709551616 / 4294967296) % 18446744073709551616 +
      ((a / 4294967296 * (b % 4294967296) % 18446744073709551616 + (a % 4294967296 * (b % 4294967296) % 18446744073709551616) / 4294967296) % 18446744073709551616 % 4294967296 + a % 4294967296 * (b / 4294967296) % 18446744073709551616) % 18446744073709551616 / 4294967296) % 18446744073709551616 = a * b / 18446744073709551616 := by
  have ea : a = a / 4294967296 * 4294967296 + a % 4294967296 := by omega
  have eb : b = b / 4294967296 * 4294967296 + b % 4294967296 := by omega
  have ea1 : a / 4294967296 ≤ 4294967295 := by omega
  have eb1 : b / 4294967296 ≤ 4294967295 := by omega
  have ea0 : a % 4294967296 ≤ 4294967295 := by omega
  have eb0 : b % 4294967296 ≤ 4294967295 := by omega
  generalize a / 4294967296 = a1 at *
  generalize b / 4294967296 = b1 at *
  generalize a % 4294967296 = a0 at *
  generalize b % 4294967296 = b0 at *
  have e : a * b = a1 * b1 * 18446744073709551616 + (a1 * b0 + a0 * b1) * 4294967296 + a0 * b0 := by subst ea; subst eb; grind
  rw [e]
  have h11 : a1 * b1 ≤ 4294967295 * 4294967295 := Nat.mul_le_mul ea1 eb1
  have h10 : a1 * b0 ≤ 4294967295 * 4294967295 := Nat.mul_le_mul ea1 eb0
  have h01 : a0 * b1 ≤ 4294967295 * 4294967295 := Nat.mul_le_mul ea0 eb1
  have h00 : a0 * b0 ≤ 4294967295 * 4294967295 := Nat.mul_le_mul ea0 eb0
  generalize a1 * b1 = p11 at *
  generalize a1 * b0 = p10 at *
  generalize a0 * b1 = p01 at *
  generalize a0 * b0 = p00 at *
  clear e ha hb ea eb ea1 eb1 ea0 eb0
  omega
theorem mul64E (a b : Nat) (ha : a < 18446744073709551616) (hb : b < 18446744073709551616) :
    g21v realA a b = some (.tup [.cell (.nat .u64 (a * b / 18446744073709551616)), .cell (.nat .u64 (a * b % 18446744073709551616))]) := by
  have h := mulhi a b ha hb
  simp only [← and32] at h
  rw [← h]
  rfl
theorem mul64ok {a b : Nat} (ha : a < 18446744073709551616) (hb : b < 18446744073709551616) : g21ok realA a b = true := by unfold g21ok; rw [mul64E a b ha hb]; rfl
theorem mul64r0 {a b : Nat} (ha : a < 18446744073709551616) (hb : b < 18446744073709551616) : g21r0 realA a b = a * b / 18446744073709551616 := by unfold g21r0; rw [mul64E a b ha hb]; rfl
theorem mul64r1 {a b : Nat} (ha : a < 18446744073709551616) (hb : b < 18446744073709551616) : g21r1 realA a b = a * b % 18446744073709551616 := by unfold g21r1; rw [mul64E a b ha hb]; rfl
theorem carryT {x y c : Nat} (hc : c ≤ 1) (hx : x < 18446744073709551616) (hy : y < 18446744073709551616) : carryok x y c = true := by
  simp [carryok, hc, hx, hy]

abbrev B64 : Nat := 18446744073709551616
theorem pw64 (k : IntKind) (h : k = .u64) : 2 ^ bitsOf k = B64 := by subst h; rfl
def N6 (l : List Nat) : Prop := l.length = 6 ∧ ∀ x ∈ l, x < B64
theorem N6.get {l : List Nat} (h : N6 l) (j : Nat) : l.getD j 0 < B64 := getD_ltE h.2 j
theorem N6.set {l : List Nat} (h : N6 l) {y : Nat} (hy : y < B64) (j : Nat) : N6 (l.set j y) := ⟨by rw [List.length_set]; exact h.1, set_ltE h.2 hy j⟩
theorem N6.lt {l : List Nat} (h : N6 l) : dw l < EE ^ 6 := by have := dw_lt h.2; rw [h.1] at this; exact this
theorem digit {o x b c : Nat} (ho : o < B64) (hx : x < B64) (hb : b < B64) (hc : c < B64) :
    (x * b / B64 + (o + x * b % B64 + 0) / B64) % B64 + ((o + x * b % B64 + 0) % B64 + c + 0) / B64 < B64 ∧
    ((o + x * b % B64 + 0) % B64 + c + 0) % B64 + B64 * (((x * b / B64 + (o + x * b % B64 + 0) / B64) % B64 + ((o + x * b % B64 + 0) % B64 + c + 0) / B64) % B64) = o + x * b + c := by
  have h1 : x * b ≤ 18446744073709551615 * 18446744073709551615 := Nat.mul_le_mul (Nat.le_of_lt_succ hx) (Nat.le_of_lt_succ hb)
  generalize x * b = p at *
  simp only [B64] at *
  omega
theorem times_in (N : Nat) (lg : List Nat → Int → List Nat → List Nat → Option AV) (a b : List Nat) (hb : N6 b) (i x : Nat) (hi : i < 6) (hx : x < B64) : ∀ (r k m c : Nat) (o : List Nat), i + k + r = 6 → c < B64 → N6 o → r < m →
    ∃ o' c', N6 o' ∧ dw o' + EE ^ 6 * c' = dw o + EE ^ (i + k) * c + EE ^ (i + k) * (x * dw ((b.take (6 - i)).drop k)) ∧ g25L6 realA N (fun v _ => some v) lg m (i : Int) x c (k : Int) a (i : Int) b o = lg a ((i + 1 : Nat) : Int) b o' := by
  intro r
  induction r with
  | zero =>
    intro k m c o h1 hc ho hm
    obtain ⟨m, rfl⟩ : ∃ q, m = q + 1 := ⟨m - 1, by omega⟩
    refine ⟨o, c, ho, ?_, ?_⟩
    · have : (b.take (6 - i)).drop k = [] := List.drop_eq_nil_of_le (by rw [List.length_take, hb.1]; omega)
      rw [this, show i + k = 6 by omega]
      simp [dw]
    · have e1 : realA.ib .add .i64 (i : Int) (k : Int) = ((i + k : Nat) : Int) := by rw [ar_add (by omega)]; omega
      have e2 : realA.ib .add .i64 (i : Int) 1 = ((i + 1 : Nat) : Int) := by rw [ar_add (by omega)]; omega
      rw [g25L6, e1, ar_lss, decide_eq_false (show ¬ ((i + k : Nat) : Int) < 6 by omega), e2]
  | succ r ih =>
    intro k m c o h1 hc ho hm
    obtain ⟨m, rfl⟩ : ∃ q, m = q + 1 := ⟨m - 1, by omega⟩
    have e1 : realA.ib .add .i64 (i : Int) (k : Int) = ((i + k : Nat) : Int) := by rw [ar_add (by omega)]; omega
    have e2 : realA.ib .add .i64 (k : Int) 1 = ((k + 1 : Nat) : Int) := by rw [ar_add (by omega)]; omega
    have hbk := hb.get k
    have hok := ho.get (i + k)
    obtain ⟨d1, d2⟩ := digit hok hx hbk hc
    have hl : i + k < o.length := by rw [ho.1]; omega
    have s1 : ∀ u, (o.set (i + k) u).getD (i + k) 0 = u := fun u => by rw [List.getD_eq_getElem?_getD, List.getElem?_set_self hl]; rfl
    have lt1 : (o.getD (i + k) 0 + x * b.getD k 0 % 18446744073709551616 + 0) % 18446744073709551616 < 18446744073709551616 := Nat.mod_lt _ (by decide)
    have lt2 : x * b.getD k 0 % 18446744073709551616 < 18446744073709551616 := Nat.mod_lt _ (by decide)
    rw [g25L6, e1, ar_lss, decide_eq_true (show ((i + k : Nat) : Int) < 6 by omega)]
    simp only [g25J8, e1, ar_negN, ar_toNN, ar_lt, decide_eq_true (show k < 6 by omega), decide_eq_true (show i + k < 6 by omega), mul64ok hx hbk, mul64r0 hx hbk, mul64r1 hx hbk, carryT (Nat.zero_le 1) hok lt2, s1, carryT (Nat.zero_le 1) lt1 hc, e2, ar_nadd, pw64 _ rfl, List.set_set, add64a, add64b]
    have hn : N6 (o.set (i + k) (((o.getD (i + k) 0 + x * b.getD k 0 % B64 + 0) % B64 + c + 0) % B64)) := ho.set (Nat.mod_lt _ (by decide)) _
    obtain ⟨o', c', g1, g2, g3⟩ := ih (k + 1) m _ _ (by omega) (Nat.mod_lt _ (by decide) : ((x * b.getD k 0 / B64 + (o.getD (i + k) 0 + x * b.getD k 0 % B64 + 0) / B64) % B64 + ((o.getD (i + k) 0 + x * b.getD k 0 % B64 + 0) % B64 + c + 0) / B64) % B64 < B64) hn (by omega)
    refine ⟨o', c', g1, ?_, g3⟩
    rw [g2]
    have hs := dw_set o (i + k) (((o.getD (i + k) 0 + x * b.getD k 0 % B64 + 0) % B64 + c + 0) % B64) hl
    have hd : dw ((b.take (6 - i)).drop k) = b.getD k 0 + B64 * dw ((b.take (6 - i)).drop (k + 1)) := by
      rw [dw_drop _ _ (by rw [List.length_take, hb.1]; omega)]
      congr 1
      rw [List.getD_eq_getElem?_getD, List.getElem?_take_of_lt (by omega), ← List.getD_eq_getElem?_getD]
    rw [hd]
    generalize dw ((b.take (6 - i)).drop (k + 1)) = D at *
    generalize ((o.getD (i + k) 0 + x * b.getD k 0 % B64 + 0) % B64 + c + 0) % B64 = u at *
    generalize ((x * b.getD k 0 / B64 + (o.getD (i + k) 0 + x * b.getD k 0 % B64 + 0) / B64) % B64 + ((o.getD (i + k) 0 + x * b.getD k 0 % B64 + 0) % B64 + c + 0) / B64) % B64 = v at *
    generalize dw (o.set (i + k) u) = X at *
    generalize o.getD (i + k) 0 = y at *
    generalize b.getD k 0 = z at *
    have hE : EE ^ (i + (k + 1)) = EE ^ (i + k) * B64 := by rw [← Nat.add_assoc, Nat.pow_succ]; rfl
    rw [hE]
    generalize EE ^ (i + k) = P at *
    have : P * u + P * B64 * v = P * y + P * (x * z) + P * c := by
      have := congrArg (P * ·) d2
      grind
    grind

theorem dw_take_mod (b : List Nat) (hb : N6 b) (i : Nat) (hi : i ≤ 6) : ∃ q, EE ^ i * dw b = EE ^ i * dw (b.take (6 - i)) + EE ^ 6 * q := by
  have := dw_split b (6 - i) (by rw [hb.1]; omega)
  refine ⟨dw (b.drop (6 - i)), ?_⟩
  rw [this, Nat.mul_add, ← Nat.mul_assoc, ← Nat.pow_add, show i + (6 - i) = 6 by omega]
theorem times_out (N : Nat) (a b : List Nat) (ha : N6 a) (hb : N6 b) : ∀ (r i m : Nat) (o : List Nat), i + r = 6 → N6 o → r < m → 6 < N →
    ∃ o', N6 o' ∧ (∃ q p, dw o' + EE ^ 6 * q = dw o + EE ^ i * dw (a.drop i) * dw b + EE ^ 6 * p) ∧ g25L2 realA N (fun v _ => some v) m a (i : Int) b o = some (aN .u64 6 o') := by
  intro r
  induction r with
  | zero =>
    intro i m o h1 ho hm _
    obtain ⟨m, rfl⟩ : ∃ q, m = q + 1 := ⟨m - 1, by omega⟩
    obtain rfl : i = 6 := by omega
    refine ⟨o, ho, ⟨0, 0, ?_⟩, ?_⟩
    · rw [List.drop_eq_nil_of_le (by rw [ha.1]; omega)]; simp [dw]
    · rw [g25L2, ar_lss, decide_eq_false (by omega)]
  | succ r ih =>
    intro i m o h1 ho hm hN
    obtain ⟨m, rfl⟩ : ∃ q, m = q + 1 := ⟨m - 1, by omega⟩
    have hx := ha.get i
    obtain ⟨o1, c1, g1, g2, g3⟩ := times_in N (g25L2 realA N (fun v _ => some v) m) a b hb i (a.getD i 0) (by omega) hx (6 - i) 0 N 0 o (by omega) (by decide) ho (by omega)
    obtain ⟨o2, k1, ⟨q, p, k2⟩, k3⟩ := ih (i + 1) m o1 (by omega) g1 (by omega) hN
    refine ⟨o2, k1, ?_, ?_⟩
    · obtain ⟨t, ht⟩ := dw_take_mod b hb i (by omega)
      rw [List.drop_zero, Nat.add_zero, Nat.mul_zero, Nat.add_zero] at g2
      have hd := dw_drop a i (by rw [ha.1]; omega)
      refine ⟨q + c1 + a.getD i 0 * t, p, ?_⟩
      rw [hd]
      have hE : EE ^ (i + 1) = EE ^ i * B64 := Nat.pow_succ ..
      rw [hE] at k2
      generalize dw (a.drop (i + 1)) = D at *
      generalize a.getD i 0 = x at *
      generalize dw (b.take (6 - i)) = Bt at *
      generalize dw b = Bv at *
      generalize EE ^ i = P at *
      generalize EE ^ 6 = M at *
      have : P * x * Bv = P * (x * Bt) + M * (x * t) := by
        have := congrArg (x * ·) ht
        grind
      grind
    · rw [g25L2, ar_lss, decide_eq_true (show (i : Int) < 6 by omega)]
      simp only [g25J3, ar_negN, ar_toNN, ar_lt, decide_eq_true (show i < 6 by omega)]
      exact g3.trans k3
theorem times_v (a b : List Nat) (ha : N6 a) (hb : N6 b) : ∃ o, N6 o ∧ (∃ q p, dw o + EE ^ 6 * q = dw a * dw b + EE ^ 6 * p) ∧ g25v realA a b = some (aN .u64 6 o) := by
  obtain ⟨o, h1, ⟨q, p, h2⟩, h3⟩ := times_out 100000 a b ha hb 6 0 100000 [0, 0, 0, 0, 0, 0] (by omega) ⟨rfl, by decide⟩ (by omega) (by omega)
  refine ⟨o, h1, ⟨q, p, ?_⟩, h3⟩
  rw [h2, List.drop_zero, Nat.pow_zero, Nat.one_mul]
  simp [dw]
theorem times_fit (a b : List Nat) (ha : N6 a) (hb : N6 b) (h : dw a * dw b < EE ^ 6) : N6 (g25r0 realA a b) ∧ dw (g25r0 realA a b) = dw a * dw b ∧ g25ok realA a b = true := by
  obtain ⟨o, h1, ⟨q, p, h2⟩, h3⟩ := times_v a b ha hb
  have e0 : g25r0 realA a b = o := (congrArg g25g0 h3).trans rfl
  refine ⟨by rw [e0]; exact h1, ?_, (congrArg g25is h3).trans rfl⟩
  rw [e0]
  have := congrArg (· % EE ^ 6) h2
  simp only [Nat.add_mul_mod_self_left] at this
  rwa [Nat.mod_eq_of_lt h1.lt, Nat.mod_eq_of_lt h] at this
theorem dw_snoc6 (l : List Nat) (hl : N6 l) (i : Nat) (hi : i < 6) : dw (l.take (i + 1)) = dw (l.take i) + EE ^ i * l.getD i 0 := dw_take_succ l i (by rw [hl.1]; exact hi)
theorem dw_take_lt (l : List Nat) (hl : N6 l) (i : Nat) (hi : i ≤ 6) : dw (l.take i) < EE ^ i := by
  have := dw_lt (l := l.take i) fun x hx => hl.2 x (List.mem_of_mem_take hx)
  rw [List.length_take, hl.1, Nat.min_eq_left hi] at this
  exact this
theorem lexE {u v p x y : Nat} (hx : x < p) (hy : y < p) : (x + p * u < y + p * v) ↔ (u < v ∨ (u = v ∧ x < y)) := by
  rcases Nat.lt_trichotomy u v with h | h | h
  · have : p * (u + 1) ≤ p * v := Nat.mul_le_mul_left _ h
    rw [Nat.mul_add] at this
    constructor
    · intro _; exact .inl h
    · intro _; omega
  · subst h
    constructor
    · intro q; exact .inr ⟨rfl, by omega⟩
    · rintro (q | q) <;> omega
  · have : p * (v + 1) ≤ p * u := Nat.mul_le_mul_left _ h
    rw [Nat.mul_add] at this
    constructor
    · intro q; omega
    · rintro (q | q) <;> omega
theorem above_loop (N : Nat) (a b : List Nat) (ha : N6 a) (hb : N6 b) : ∀ (i m : Nat), i ≤ 6 → i < m →
    g26L2 realA N (fun v _ => some v) m ((i : Int) - 1) a b = some (bO (decide (dw (b.take i) < dw (a.take i)))) := by
  intro i
  induction i with
  | zero =>
    intro m _ hm
    obtain ⟨m, rfl⟩ : ∃ q, m = q + 1 := ⟨m - 1, by omega⟩
    rw [g26L2, ar_geq, decide_eq_false (by omega)]
    simp [dw]
  | succ i ih =>
    intro m hi hm
    obtain ⟨m, rfl⟩ : ∃ q, m = q + 1 := ⟨m - 1, by omega⟩
    have e0 : (((i + 1 : Nat) : Int) - 1) = (i : Int) := by omega
    have e1 : realA.ib .sub .i64 (i : Int) 1 = (i : Int) - 1 := ar_sub (by omega)
    rw [g26L2, e0, ar_geq, decide_eq_true (show (0 : Int) ≤ (i : Int) by omega)]
    simp only [g26J4, ar_negN, ar_toNN, ar_lt, decide_eq_true (show i < 6 by omega), ar_nneq, ar_ngtr, e1]
    rw [dw_snoc6 a ha i (by omega), dw_snoc6 b hb i (by omega)]
    have hl := lexE (u := b.getD i 0) (v := a.getD i 0) (dw_take_lt b hb i (by omega)) (dw_take_lt a ha i (by omega))
    by_cases h : a.getD i 0 = b.getD i 0
    · simp only [h, decide_true, Bool.not_true]
      rw [ih m (by omega) (by omega)]
      rw [h] at hl
      have hd : decide (dw (b.take i) + EE ^ i * b.getD i 0 < dw (a.take i) + EE ^ i * b.getD i 0) = decide (dw (b.take i) < dw (a.take i)) := decide_eq_decide.2 (by constructor <;> intro <;> omega)
      rw [hd]
    · simp only [decide_eq_false h, Bool.not_false]
      have hd : decide (dw (b.take i) + EE ^ i * b.getD i 0 < dw (a.take i) + EE ^ i * a.getD i 0) = decide (b.getD i 0 < a.getD i 0) := decide_eq_decide.2 (hl.trans ⟨fun q => q.elim id (fun q => absurd q.1.symm h), .inl⟩)
      rw [hd]
theorem above_v (a b : List Nat) (ha : N6 a) (hb : N6 b) : g26v realA a b = some (bO (decide (dw b < dw a))) := by
  have := above_loop 100000 a b ha hb 6 100000 (by omega) (by omega)
  rw [List.take_of_length_le (l := a) (by rw [ha.1]; omega), List.take_of_length_le (l := b) (by rw [hb.1]; omega)] at this
  exact this
theorem above_ok (a b : List Nat) (ha : N6 a) (hb : N6 b) : g26ok realA a b = true := (congrArg g26is (above_v a b ha hb)).trans rfl
theorem above_0 (a b : List Nat) (ha : N6 a) (hb : N6 b) : g26r0 realA a b = decide (dw b < dw a) := (congrArg g26g0 (above_v a b ha hb)).trans rfl
end Go.Sx
namespace Go.Sx
def lst (R : Nat) : List Nat := [R % B64, R / B64, 0, 0, 0, 0]
theorem lst_N6 {R : Nat} (h : R < 2 ^ 70) : N6 (lst R) := by
  refine ⟨rfl, fun x hx => ?_⟩
  simp only [lst, List.mem_cons, List.not_mem_nil, or_false] at hx
  have : (2 : Nat) ^ 70 = 1180591620717411303424 := by decide
  simp only [B64] at *
  rcases hx with h1 | h1 | h1 | h1 | h1 | h1 <;> omega
theorem lst_dw (R : Nat) : dw (lst R) = R := by
  simp only [lst, dw, B64]; omega
theorem setbit {R b : Nat} (hb : b < 70) (hR : R + 2 ^ b < 2 ^ 70) (hm : R % 2 ^ (b + 1) = 0) : (lst R).set (b / 64) ((lst R).getD (b / 64) 0 ||| 2 ^ (b % 64)) = lst (R + 2 ^ b) := by
  have hc : 2 ^ (b + 1) * (R / 2 ^ (b + 1)) = R := by have := Nat.div_add_mod R (2 ^ (b + 1)); omega
  generalize R / 2 ^ (b + 1) = t at hc
  by_cases h : b < 64
  · have e1 : b / 64 = 0 := by omega
    have e2 : b % 64 = b := by omega
    rw [e1, e2]
    -- the low word
    have hB : B64 = 2 ^ (b + 1) * 2 ^ (63 - b) := by rw [← Nat.pow_add, show b + 1 + (63 - b) = 64 by omega]
    have hlow : R % B64 = 2 ^ (b + 1) * (t % 2 ^ (63 - b)) := by rw [← hc, hB, Nat.mul_mod_mul_left]
    have hlt : t % 2 ^ (63 - b) < 2 ^ (63 - b) := Nat.mod_lt _ (Nat.pow_pos (by omega))
    have hsum : R % B64 + 2 ^ b < B64 := by
      rw [hlow, hB]
      have h1 : 2 ^ (b + 1) * (t % 2 ^ (63 - b)) + 2 ^ (b + 1) ≤ 2 ^ (b + 1) * 2 ^ (63 - b) := by
        rw [← Nat.mul_succ]; exact Nat.mul_le_mul_left _ hlt
      have h2 : 2 ^ b < 2 ^ (b + 1) := Nat.pow_lt_pow_right (by omega) (by omega)
      omega
    have hor : R % B64 ||| 2 ^ b = R % B64 + 2 ^ b := by
      rw [hlow]
      exact (Nat.two_pow_add_eq_or_of_lt (Nat.pow_lt_pow_right (by omega) (by omega)) _).symm
    show [R % B64 ||| 2 ^ b, R / B64, 0, 0, 0, 0] = [(R + 2 ^ b) % B64, (R + 2 ^ b) / B64, 0, 0, 0, 0]
    rw [hor]
    generalize 2 ^ b = z at *
    simp only [B64] at *
    have a1 : (R + z) % 18446744073709551616 = R % 18446744073709551616 + z := by omega
    have a2 : (R + z) / 18446744073709551616 = R / 18446744073709551616 := by omega
    rw [a1, a2]
  · have e1 : b / 64 = 1 := by omega
    obtain ⟨s, rfl⟩ : ∃ s, b = 64 + s := ⟨b - 64, by omega⟩
    have e2 : (64 + s) % 64 = s := by omega
    rw [e1, e2]
    have hB : (2 : Nat) ^ (64 + s) = B64 * 2 ^ s := by rw [Nat.pow_add]
    have hB1 : (2 : Nat) ^ (64 + s + 1) = B64 * 2 ^ (s + 1) := by rw [Nat.add_assoc, Nat.pow_add]
    have hhi : R / B64 = 2 ^ (s + 1) * t := by
      rw [← hc, hB1, Nat.mul_assoc, Nat.mul_div_cancel_left _ (by decide)]
    have hlo : R % B64 = 0 := by rw [← hc, hB1, Nat.mul_assoc, Nat.mul_mod_right]
    have hor : R / B64 ||| 2 ^ s = R / B64 + 2 ^ s := by
      rw [hhi]
      exact (Nat.two_pow_add_eq_or_of_lt (Nat.pow_lt_pow_right (by omega) (by omega)) _).symm
    show [R % B64, R / B64 ||| 2 ^ s, 0, 0, 0, 0] = [(R + 2 ^ (64 + s)) % B64, (R + 2 ^ (64 + s)) / B64, 0, 0, 0, 0]
    rw [hor, hB]
    generalize 2 ^ s = z at *
    simp only [B64] at *
    have a1 : (R + 18446744073709551616 * z) % 18446744073709551616 = R % 18446744073709551616 := by omega
    have a2 : (R + 18446744073709551616 * z) / 18446744073709551616 = R / 18446744073709551616 + z := by omega
    rw [a1, a2]
def pw (t : Bool) (x : Nat) : Nat := if t then x * x * x else x * x
theorem pw_mono {t : Bool} {x y : Nat} (h : x ≤ y) : pw t x ≤ pw t y := by
  unfold pw; split
  · exact Nat.mul_le_mul (Nat.mul_le_mul h h) h
  · exact Nat.mul_le_mul h h
theorem mod_step {R b : Nat} (h : R % 2 ^ (b + 1) = 0) : R % 2 ^ b = 0 := by
  have : (2 : Nat) ^ (b + 1) = 2 ^ b * 2 := Nat.pow_succ ..
  rw [this] at h
  exact Nat.mod_eq_zero_of_dvd (Nat.dvd_trans (Nat.dvd_mul_right _ _) (Nat.dvd_of_mod_eq_zero h))
theorem mod_step2 {R b : Nat} (h : R % 2 ^ (b + 1) = 0) : (R + 2 ^ b) % 2 ^ b = 0 := by
  rw [Nat.add_mod_right]; exact mod_step h
theorem EE6 : EE ^ 6 = 39402006196394479212279040100143613805079739270465446667948293404245721771497210611414266254884915640806627990306816 := by decide
theorem fit2 {x : Nat} (h : x < 2 ^ 70) : x * x < 2 ^ 140 ∧ x * x * x < 2 ^ 210 := by
  have h1 : x * x < 2 ^ 70 * 2 ^ 70 := Nat.mul_lt_mul'' h h
  have h2 : x * x * x < 2 ^ 140 * 2 ^ 70 := Nat.mul_lt_mul'' (by rw [← Nat.pow_add] at h1; exact h1) h
  rw [← Nat.pow_add] at h1 h2
  exact ⟨h1, h2⟩
theorem root_loop (N : Nat) (t : Bool) (w : List Nat) (hw : N6 w) : ∀ (b m R : Nat), b ≤ 70 → b < m → R % 2 ^ b = 0 → R + 2 ^ b ≤ 2 ^ 70 → pw t R ≤ dw w → dw w < pw t (R + 2 ^ b) →
    ∃ R', pw t R' ≤ dw w ∧ dw w < pw t (R' + 1) ∧ g19L6 realA N (fun v _ => some v) m t ((b : Int) - 1) w (lst R) = some (u64v (R' % B64)) := by
  intro b
  induction b with
  | zero =>
    intro m R _ hm _ hR h1 h2
    obtain ⟨m, rfl⟩ : ∃ q, m = q + 1 := ⟨m - 1, by omega⟩
    refine ⟨R, h1, by simpa using h2, ?_⟩
    rw [g19L6, ar_geq, decide_eq_false (by omega)]
    rfl
  | succ b ih =>
    intro m R hb hm hmod hR h1 h2
    obtain ⟨m, rfl⟩ : ∃ q, m = q + 1 := ⟨m - 1, by omega⟩
    have hp : (2 : Nat) ^ (b + 1) = 2 ^ b + 2 ^ b := by rw [Nat.pow_succ]; omega
    have hpos : 0 < (2 : Nat) ^ b := Nat.pow_pos (by omega)
    have hRx : R + 2 ^ b < 2 ^ 70 := by omega
    have e0 : (((b + 1 : Nat) : Int) - 1) = (b : Int) := by omega
    have e1 : realA.ib .sub .i64 (b : Int) 1 = (b : Int) - 1 := ar_sub (by omega)
    have q1 : realA.ib .quo .i64 (b : Int) 64 = ((b / 64 : Nat) : Int) := by rw [ar_quo (by omega) (by omega) (by omega)]; omega
    have q2 : realA.ib .rem .i64 (b : Int) 64 = ((b % 64 : Nat) : Int) := by rw [ar_rem (by omega)]; omega
    have q3 : realA.nsh .shl .u64 1 (b % 64) = 2 ^ (b % 64) := by
      rw [ar_nshl, Nat.one_mul]
      exact Nat.mod_eq_of_lt (Nat.pow_lt_pow_right (by omega) (show b % 64 < 64 by omega))
    have q4 : ∀ x y, realA.nb .or .u64 x y = x ||| y := fun _ _ => rfl
    have hset := setbit (by omega) hRx hmod
    have hxN := lst_N6 hRx
    have hx2 : dw (lst (R + 2 ^ b)) * dw (lst (R + 2 ^ b)) < EE ^ 6 := by
      rw [lst_dw, EE6]
      have := (fit2 hRx).1
      have h3 : (2 : Nat) ^ 140 < 39402006196394479212279040100143613805079739270465446667948293404245721771497210611414266254884915640806627990306816 := by decide
      omega
    obtain ⟨n1, n2, n3⟩ := times_fit _ _ hxN hxN hx2
    rw [lst_dw] at n2
    have hx3 : dw (g25r0 realA (lst (R + 2 ^ b)) (lst (R + 2 ^ b))) * dw (lst (R + 2 ^ b)) < EE ^ 6 := by
      rw [n2, lst_dw, EE6]
      have := (fit2 hRx).2
      have h3 : (2 : Nat) ^ 210 < 39402006196394479212279040100143613805079739270465446667948293404245721771497210611414266254884915640806627990306816 := by decide
      omega
    obtain ⟨m1, m2, m3⟩ := times_fit _ _ n1 hxN hx3
    rw [n2, lst_dw] at m2
    have q5 : b / 64 < 6 := by omega
    rw [g19L6, e0, ar_geq, decide_eq_true (show (0 : Int) ≤ (b : Int) by omega)]
    simp only [g19J8, g19t0, g19t1, q1, q2, ar_negN, ar_toNN, ar_lt, decide_eq_true q5, q3, q4, hset, n3]
    -- whichever power
    have fin : ∀ y, N6 y → dw y = pw t (R + 2 ^ b) → ∃ R', pw t R' ≤ dw w ∧ dw w < pw t (R' + 1) ∧ g19J13 realA N (fun v _ => some v) (g19L6 realA N (fun v _ => some v) m) t (b : Int) w (lst R) (lst (R + 2 ^ b)) y = some (u64v (R' % B64)) := by
      intro y hy hyv
      simp only [g19J13, above_ok y w hy hw, above_0 y w hy hw, e1, hyv]
      by_cases hgt : dw w < pw t (R + 2 ^ b)
      · simp only [decide_eq_true hgt]
        exact ih m R (by omega) (by omega) (mod_step hmod) (by omega) h1 hgt
      · simp only [decide_eq_false hgt]
        exact ih m (R + 2 ^ b) (by omega) (by omega) (mod_step2 hmod) (by omega) (by omega) (by rw [Nat.add_assoc, ← hp]; exact h2)
    cases t with
    | true => simp only [m3]; exact fin _ m1 (by rw [m2]; rfl)
    | false => exact fin _ n1 (by rw [n2]; rfl)
def wantN (t : Bool) (p : Nat) : Nat := if t then p * EE ^ 3 else p * EE ^ 2
theorem root_v (p : Nat) (t : Bool) (hp : p < 4096) : ∃ R, pw t R ≤ wantN t p ∧ wantN t p < pw t (R + 1) ∧ g19v realA p t = some (u64v (R % B64)) := by
  have hl : lst 0 = [0, 0, 0, 0, 0, 0] := rfl
  cases t with
  | true =>
    have hw : N6 ([0, 0, 0, 0, 0, 0].set 3 p) := ⟨rfl, by
      intro x hx
      simp only [List.set_cons_succ, List.set_cons_zero, List.mem_cons, List.not_mem_nil, or_false] at hx
      simp only [B64]
      rcases hx with h1 | h1 | h1 | h1 | h1 | h1 <;> omega⟩
    have hv : dw ([0, 0, 0, 0, 0, 0].set 3 p) = wantN true p := by
      simp only [List.set_cons_succ, List.set_cons_zero, dw, wantN, if_true, EE]; omega
    have h := root_loop 100000 true _ hw 70 100000 0 (by omega) (by omega) rfl (by omega) (by rw [hv]; exact Nat.zero_le _) (by
      rw [hv]
      have : pw true (0 + 2 ^ 70) = 2 ^ 210 := by decide
      rw [this]
      have : wantN true p ≤ 4095 * EE ^ 3 := Nat.mul_le_mul_right _ (by omega)
      have h3 : 4095 * EE ^ 3 < 2 ^ 210 := by decide
      omega)
    rw [hv] at h
    obtain ⟨R, a1, a2, a3⟩ := h
    exact ⟨R, a1, a2, a3⟩
  | false =>
    have hw : N6 ([0, 0, 0, 0, 0, 0].set 2 p) := ⟨rfl, by
      intro x hx
      simp only [List.set_cons_succ, List.set_cons_zero, List.mem_cons, List.not_mem_nil, or_false] at hx
      simp only [B64]
      rcases hx with h1 | h1 | h1 | h1 | h1 | h1 <;> omega⟩
    have hv : dw ([0, 0, 0, 0, 0, 0].set 2 p) = wantN false p := by
      simp only [List.set_cons_succ, List.set_cons_zero, dw, wantN, EE]; simp; omega
    have h := root_loop 100000 false _ hw 70 100000 0 (by omega) (by omega) rfl (by omega) (by rw [hv]; exact Nat.zero_le _) (by
      rw [hv]
      have : pw false (0 + 2 ^ 70) = 2 ^ 140 := by decide
      rw [this]
      have : wantN false p ≤ 4095 * EE ^ 2 := Nat.mul_le_mul_right _ (by omega)
      have h3 : 4095 * EE ^ 2 < 2 ^ 140 := by decide
      omega)
    rw [hv] at h
    obtain ⟨R, a1, a2, a3⟩ := h
    exact ⟨R, a1, a2, a3⟩
theorem root_is {p : Nat} {t : Bool} (hp : p < 4096) {c : Nat} (h1 : pw t c ≤ wantN t p) (h2 : wantN t p < pw t (c + 1)) : g19v realA p t = some (u64v (c % B64)) := by
  obtain ⟨R, a1, a2, a3⟩ := root_v p t hp
  have : R = c := by
    rcases Nat.lt_trichotomy R c with h | h | h
    · have := pw_mono (t := t) (show R + 1 ≤ c from h); omega
    · exact h
    · have := pw_mono (t := t) (show c + 1 ≤ R from h); omega
  rw [a3, this]
end Go.Sx
namespace Go.Sx
def P80 : List Nat := [2, 3, 5, 7, 11, 13, 17, 19, 23, 29, 31, 37, 41, 43, 47, 53, 59, 61, 67, 71, 73, 79, 83, 89, 97, 101, 103, 107, 109, 113, 127, 131, 137, 139, 149, 151, 157, 163, 167, 173, 179, 181, 191, 193, 197, 199, 211, 223, 227, 229, 233, 239, 241, 251, 257, 263, 269, 271, 277, 281, 283, 293, 307, 311, 313, 317, 331, 337, 347, 349, 353, 359, 367, 373, 379, 383, 389, 397, 401, 409]
def C3 : List Nat := [23241441160490167842, 26604808713878332877, 31543488660544240431, 35287351959220771772, 41025191555757552952, 43374469216020582425, 47431773444313272219, 49223322299838333208, 52460086356995146306, 56674242196778545086, 57948244932766773900, 61468643694135456994, 63608380943893236079, 64626287408284341937, 66571091106846937653, 69291241975837173396, 71813108563482594002, 72615556083564357091, 74922338351982630325, 76384605279477341285, 77095200552867529333, 79152035218479047811, 80466001307761769428, 82360010132597855157, 84757271453788200875, 85906662539289440784, 86470001012957192511, 87575168524888248036, 88117443448470540226, 89182409882623190821, 92723033081372705391, 93686458245878541936, 95095488024300105724, 95556006044611561766, 97794660939065469677, 98230277650290947039, 99514478923103560670, 100766364611844223656, 101583977345534766822, 102786266195516601659, 103961068102722061156, 104346826991781163009, 106234157551817627537, 106603670640207904304, 107335108066752287256, 107697117917222381840, 109819772810290077738, 111863398698143437240, 112528278492720320712, 112857792170093030227, 113511107980111571865, 114477206417490790568, 114795642568024087139, 116361942610802215627, 117281838038729876339, 118187525164200278179, 119079540232616391420, 119373928427484032864, 120248493880617511794, 120824543361758411244, 121110519679094562344, 122520547622920568297, 124441674862916172053, 124979807718728684331, 125247145020423037340, 125778422408467759623, 127603441353585912606, 128369846764518166904, 129627222056361226170, 129875788766833580198, 130370087684295691694, 131104582549941012251, 132071287192121802116, 132787134709014930579, 133495346155087314620, 133963344184962190668, 134659270149180113590, 135576127461610847786, 136029942151059536620, 136928597060811708439]
def C2 : List Nat := [26087635650665564424, 31950697969885030203, 41248173712355948587, 48805497317890012913, 61180928696206656209, 66510681623121259551, 76057874264641092971, 80407493254657745273]
def K80 : List Nat := [4794697086780616226, 8158064640168781261, 13096744586834688815, 16840607885511220156, 4131703408338449720, 6480981068601479193, 10538285296894168987, 12329834152419229976, 15566598209576043074, 1334009975649890238, 2608012711638119052, 6128411473006802146, 8268148722764581231, 9286055187155687089, 11230858885718282805, 13951009754708518548, 16472876342353939154, 17275323862435702243, 1135362057144423861, 2597628984639134821, 3308224258029322869, 5365058923640841347, 6679025012923562964, 8573033837759648693, 10970295158949994411, 12119686244451234320, 12683024718118986047, 13788192230050041572, 14330467153632333762, 15395433587784984357, 489312712824947311, 1452737877330783856, 2861767655752347644, 3322285676063803686, 5560940570517711597, 5996557281743188959, 7280758554555802590, 8532644243296465576, 9350256976987008742, 10552545826968843579, 11727347734174303076, 12113106623233404929, 14000437183269869457, 14369950271660146224, 15101387698204529176, 15463397548674623760, 17586052441742319658, 1182934255886127544, 1847814050463011016, 2177327727835720531, 2830643537854262169, 3796741975233480872, 4115178125766777443, 5681478168544905931, 6601373596472566643, 7507060721942968483, 8399075790359081724, 8693463985226723168, 9568029438360202098, 10144078919501101548, 10430055236837252648, 11840083180663258601, 13761210420658862357, 14299343276471374635, 14566680578165727644, 15097957966210449927, 16922976911328602910, 17689382322260857208, 500013540394364858, 748580250866718886, 1242879168328830382, 1977374033974150939, 2944078676154940804, 3659926193048069267, 4368137639120453308, 4836135668995329356, 5532061633213252278, 6448918945643986474, 6902733635092675308, 7801388544844847127]
def H8 : List Nat := [7640891576956012808, 13503953896175478587, 4354685564936845355, 11912009170470909681, 5840696475078001361, 11170449401992604703, 2270897969802886507, 6620516959819538809]
theorem primes_v : g18v realA = some (sL 700 none 80 1, [(700, ⟨[.nums .u64 80 P80], 36, 2⟩)]) := by kernel_rfl
theorem primes_ok : g18ok realA = true := (congrArg g18is primes_v).trans rfl
theorem primes_0 : g18r0 realA = 80 := (congrArg g18g0 primes_v).trans rfl
theorem primes_1 : g18r1 realA = 80 := (congrArg g18g1 primes_v).trans rfl
theorem primes_2 : g18r2 realA = P80 := (congrArg g18g2 primes_v).trans rfl
theorem roots3 : ∀ i, i < 80 → P80.getD i 0 < 4096 ∧ pw true (C3.getD i 0) ≤ wantN true (P80.getD i 0) ∧ wantN true (P80.getD i 0) < pw true (C3.getD i 0 + 1) ∧ C3.getD i 0 % B64 = K80.getD i 0 := by decide +kernel
theorem roots2 : ∀ i, i < 8 → P80.getD i 0 < 4096 ∧ pw false (C2.getD i 0) ≤ wantN false (P80.getD i 0) ∧ wantN false (P80.getD i 0) < pw false (C2.getD i 0 + 1) ∧ C2.getD i 0 % B64 = H8.getD i 0 := by decide +kernel
theorem root3_ok {i : Nat} (hi : i < 80) : g19ok realA (P80.getD i 0) true = true := by
  obtain ⟨a, b, c, d⟩ := roots3 i hi
  exact (congrArg g19is (root_is a b c)).trans rfl
theorem root3_0 {i : Nat} (hi : i < 80) : g19r0 realA (P80.getD i 0) true = K80.getD i 0 := by
  obtain ⟨a, b, c, d⟩ := roots3 i hi
  exact (congrArg g19g0 (root_is a b c)).trans d
theorem root2_ok {i : Nat} (hi : i < 8) : g19ok realA (P80.getD i 0) false = true := by
  obtain ⟨a, b, c, d⟩ := roots2 i hi
  exact (congrArg g19is (root_is a b c)).trans rfl
theorem root2_0 {i : Nat} (hi : i < 8) : g19r0 realA (P80.getD i 0) false = H8.getD i 0 := by
  obtain ⟨a, b, c, d⟩ := roots2 i hi
  exact (congrArg g19g0 (root_is a b c)).trans d
def hk (i : Nat) : List Nat := (H8.take i ++ List.replicate (8 - i) 0) ++ (K80.take i ++ List.replicate (80 - i) 0)
theorem hk_lo : ∀ i, i < 8 → ((hk i).set (8 + i) (K80.getD i 0)).set i (H8.getD i 0) = hk (i + 1) := by decide +kernel
theorem hk_hi : ∀ i, i < 80 → ¬ i < 8 → (hk i).set (8 + i) (K80.getD i 0) = hk (i + 1) := by decide +kernel
theorem new_loop (N : Nat) (kk : AV → Heap → Option (AV × Heap)) : ∀ (d i m : Nat), i + d = 80 → d < m →
    g11L3 realA N kk m 80 80 (i : Int) (hk i) 0 80 P80 = kk (pT 2001 0) [(2001, ⟨[.nums .u64 88 (hk 80), .one .nils, .one (.int .i64 0)], 45, 1⟩)] := by
  intro d
  induction d with
  | zero =>
    intro i m h hm
    obtain ⟨m, rfl⟩ : ∃ q, m = q + 1 := ⟨m - 1, by omega⟩
    obtain rfl : i = 80 := by omega
    rw [g11L3, ar_lss, decide_eq_false (by omega)]
  | succ d ih =>
    intro i m h hm
    obtain ⟨m, rfl⟩ : ∃ q, m = q + 1 := ⟨m - 1, by omega⟩
    have hi : i < 80 := by omega
    have e1 : realA.ib .add .i64 (i : Int) 1 = ((i + 1 : Nat) : Int) := by rw [ar_add (by omega)]; omega
    rw [g11L3, ar_lss, decide_eq_true (show (i : Int) < 80 by omega)]
    by_cases h8 : i < 8
    · simp only [g11J4, ar_negN, ar_toNN, ar_lt, decide_eq_true hi, root3_ok hi, root3_0 hi, ar_lss, decide_eq_true (show (i : Int) < 8 by omega), root2_ok h8, root2_0 h8, decide_eq_true h8, e1, hk_lo i h8]
      exact ih (i + 1) m (by omega) (by omega)
    · simp only [g11J4, ar_negN, ar_toNN, ar_lt, decide_eq_true hi, root3_ok hi, root3_0 hi, ar_lss, decide_eq_false (show ¬ (i : Int) < 8 by omega), e1, hk_hi i hi h8]
      exact ih (i + 1) m (by omega) (by omega)
theorem new_v : g11v realA = some (pT 700 0, [(700, ⟨[.nums .u64 88 (H8 ++ K80), .one .nils, .one (.int .i64 0)], 45, 1⟩)]) := by
  unfold g11v g11
  simp only [primes_ok, primes_0, primes_1, primes_2, ar_ofN]
  have h0 : hk 0 = [0, 0, 0, 0, 0, 0, 0, 0, 0, 0, 0, 0, 0, 0, 0, 0, 0, 0, 0, 0, 0, 0, 0, 0, 0, 0, 0, 0, 0, 0, 0, 0, 0, 0, 0, 0, 0, 0, 0, 0, 0, 0, 0, 0, 0, 0, 0, 0, 0, 0, 0, 0, 0, 0, 0, 0, 0, 0, 0, 0, 0, 0, 0, 0, 0, 0, 0, 0, 0, 0, 0, 0, 0, 0, 0, 0, 0, 0, 0, 0, 0, 0, 0, 0, 0, 0, 0, 0] := by decide +kernel
  have h80 : hk 80 = H8 ++ K80 := by decide +kernel
  have h := new_loop 100000 (outH [] none) 80 0 100000 rfl (by omega)
  rw [h0, h80] at h
  exact h.trans rfl
theorem new_ok : g11ok realA = true := (congrArg g11is new_v).trans rfl
theorem new_0 : g11r0 realA = H8 ++ K80 := (congrArg g11g0 new_v).trans rfl
theorem new_1 : g11r1 realA = 0 := (congrArg g11g1 new_v).trans rfl
end Go.Sx
