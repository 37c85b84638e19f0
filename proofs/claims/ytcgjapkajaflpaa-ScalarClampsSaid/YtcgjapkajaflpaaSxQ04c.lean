import Derived.Test.YtcgjapkajaflpaaSxP04d
import Derived.Test.YtcgjapkajaflpaaSxQ04
import Derived.Test.YtcgjapkajaflpaaSxPl
namespace Go.Sx
/-- a text's bit -/
def bitOf (a : List Nat) (i : Int) : Nat := match decide (i < 0) with
  | true => 0
  | false => match decide (i / 8 < a.length) with
    | true => a.getD (i / 8).toNat 0 / 2 ^ (i % 8).toNat % 2
    | false => 0
theorem bitE (a : List Nat) (i : Int) (h : -9223372036854775808 ≤ i ∧ i < 9223372036854775808) : g20v a i = some (.v (.cell (.int .i64 (bitOf a i)))) := by
  by_cases h0 : i < 0
  · simp only [g20v, g20, realA, bitOf, decide_eq_true h0]
    rfl
  · have hq : IntKind.wrap .i64 (i.tdiv 8) = i / 8 := by
      rw [Int.tdiv_eq_ediv_of_nonneg (by omega), IntKind.wrap_i64]
      omega
    have hm : i.tmod 8 = i % 8 := Int.tmod_eq_emod_of_nonneg (by omega)
    by_cases h1 : (a.length : Int) ≤ i / 8
    · have h2 : ¬ i / 8 < (a.length : Int) := by omega
      simp only [g20v, g20, realA, bitOf, decide_eq_false h0, hq, decide_eq_true h1, decide_eq_false h2]
      rfl
    · have h2 : ¬ i / 8 < 0 := by omega
      have h3 : (i / 8).toNat < a.length := by omega
      have h4 : ¬ i % 8 < 0 := by omega
      have h5 : i / 8 < (a.length : Int) := by omega
      have e := and1 (a.getD (i / 8).toNat 0 / 2 ^ (i % 8).toNat)
      have e2 : g20v a i = some (.v (.cell (.int .i64 (realA.ib .and .i64 ((a.getD (i / 8).toNat 0 / 2 ^ (i % 8).toNat : Nat) : Int) 1)))) := by
        simp only [g20v, g20, g20J3, realA, decide_eq_false h0, hq, decide_eq_false h1, decide_eq_false h2, decide_eq_true h3, hm, decide_eq_false h4]
      rw [e2, e]
      simp only [bitOf, decide_eq_false h0, decide_eq_true h5]
theorem bit_ok {a : List Nat} {i : Int} (h : -9223372036854775808 ≤ i ∧ i < 9223372036854775808) : g20ok a i = true := by
  unfold g20ok; rw [bitE a i h]; rfl
theorem bit_r {a : List Nat} {i : Int} (h : -9223372036854775808 ≤ i ∧ i < 9223372036854775808) : g20r0 a i = bitOf a i := by
  unfold g20r0; rw [bitE a i h]; rfl
def clampOf (a : List Nat) : List Nat := (a.set 0 (a.getD 0 0 &&& 248)).set 31 ((a.getD 31 0 &&& 63) ||| 64)
theorem set_getD (a : List Nat) (y : Nat) : (a.set 0 y).getD 31 0 = a.getD 31 0 := by
  simp [List.getD_eq_getElem?_getD, List.getElem?_set]
theorem clampE (a : List Nat) (h : a.length = 32) : g18v a = some (.tup [.cell (.str (clampOf a)), .cell (.bool true)]) := by
  have e : g18v a = some (.tup [.cell (.str ((clampOf a).take 32)), .cell (.bool true)]) := by
    simp only [g18v, g18, g18J3, realA, h, set_getD, clampOf]
    rfl
  rw [e, List.take_of_length_le (by simp [clampOf, h])]
theorem clampN (a : List Nat) (h : a.length ≠ 32) : g18v a = some (.tup [.cell (.str []), .cell (.bool false)]) := by
  simp only [g18v, g18, realA]
  rw [decide_eq_false (by omega)]
  rfl
theorem bits8 (x : Nat) (h : x < 256) : x / 128 % 2 * 128 + x / 64 % 2 * 64 + x / 32 % 2 * 32 + x / 16 % 2 * 16 + x / 8 % 2 * 8 + x / 4 % 2 * 4 + x / 2 % 2 * 2 + x % 2 = x := by omega
theorem bitAt (a : List Nat) (j k : Nat) (hj : j < a.length) (hk : k < 8) : bitOf a (8 * (j : Int) + k) = a.getD j 0 / 2 ^ k % 2 := by
  have h1 : ¬ (8 * (j : Int) + k) < 0 := by omega
  have h2 : (8 * (j : Int) + k) / 8 = j := by omega
  have h3 : (8 * (j : Int) + k) % 8 = k := by omega
  simp only [bitOf, decide_eq_false h1, h2, h3, decide_eq_true (show (j : Int) < a.length by omega), Int.toNat_natCast]
theorem bit_le (a : List Nat) (i : Int) : bitOf a i ≤ 1 := by
  unfold bitOf
  split
  · omega
  · split <;> omega
theorem loop8 (n : Nat) (a : List Nat) (ha : a.length < 2 ^ 47) (j : Nat) (hj : j < a.length) (x2 : Bool) (k : Nat) (hk : k < 8) (x3 : Nat) (hx : x3 < 1000) (m : Nat) :
    g8L18 realA n (fun v _ => some v) (m + 1) a j x2 x3 k = g8L18 realA n (fun v _ => some v) m a j x2 ((2 * x3 + a.getD j 0 / 2 ^ k % 2 : Nat) : Int) ((k : Int) - 1) := by
  have e1 : realA.ib .mul .i64 8 (j : Int) = 8 * (j : Int) := wrap64 (by omega)
  have e2 : realA.ib .add .i64 (8 * (j : Int)) (k : Int) = 8 * (j : Int) + k := wrap64 (by omega)
  have e3 : realA.ib .mul .i64 2 (x3 : Int) = 2 * (x3 : Int) := wrap64 (by omega)
  have e4 : realA.ib .sub .i64 (k : Int) 1 = (k : Int) - 1 := wrap64 (by omega)
  have hb := bitAt a j k hj hk
  have hr : -9223372036854775808 ≤ 8 * (j : Int) + k ∧ 8 * (j : Int) + k < 9223372036854775808 := by omega
  have e5 : realA.ib .add .i64 (2 * (x3 : Int)) ((a.getD j 0 / 2 ^ k % 2 : Nat) : Int) = ((2 * x3 + a.getD j 0 / 2 ^ k % 2 : Nat) : Int) := by
    have := wrap64 (x := 2 * (x3 : Int) + ((a.getD j 0 / 2 ^ k % 2 : Nat) : Int)) (by omega)
    rw [show realA.ib .add .i64 (2 * (x3 : Int)) ((a.getD j 0 / 2 ^ k % 2 : Nat) : Int) = IntKind.wrap .i64 (2 * (x3 : Int) + ((a.getD j 0 / 2 ^ k % 2 : Nat) : Int)) from rfl, this]
    omega
  have e6 : realA.ic .geq (k : Int) 0 = true := show decide (0 ≤ (k : Int)) = true from decide_eq_true (by omega)
  rw [g8L18, e6]
  simp only [g8J20, e1, e2, e3, e4, bit_ok hr, bit_r hr, hb, e5]
theorem loopEnd (n : Nat) (a : List Nat) (h : ∀ x ∈ a, x < 256) (ha : a.length < 2 ^ 47) (j : Nat) (hj : j < a.length) (x2 : Bool) (m : Nat) :
    g8L18 realA n (fun v _ => some v) (m + 1) a j x2 (a.getD j 0 : Nat) (-1) = some (.v (.cell (.bool x2))) := by
  have e6 : realA.ic .geq (-1) 0 = false := rfl
  have hr : -9223372036854775808 ≤ 8 * (a.length : Int) ∧ 8 * (a.length : Int) < 9223372036854775808 := by omega
  have e1 : realA.ib .mul .i64 8 (realA.ofN a.length) = 8 * (a.length : Int) := wrap64 hr
  have b1 : bitOf a (8 * (a.length : Int)) = 0 := by
    have h1 : ¬ 8 * (a.length : Int) < 0 := by omega
    have h2 : ¬ 8 * (a.length : Int) / 8 < (a.length : Int) := by omega
    simp only [bitOf, decide_eq_false h1, decide_eq_false h2]
  have b2 : bitOf a (-1) = 0 := rfl
  have e2 : realA.neg (j : Int) = false := show decide ((j : Int) < 0) = false from decide_eq_false (by omega)
  have e3 : realA.lt (realA.toN (j : Int)) a.length = true := by show decide _ = true; exact decide_eq_true hj
  have e4 : realA.ic .eql ((a.getD j 0 : Nat) : Int) (realA.ofN (a.getD (realA.toN (j : Int)) 0)) = true := by show decide _ = true; exact decide_eq_true rfl
  have e5 : realA.ic .eql (((0 : Nat) : Int)) 0 = true := rfl
  rw [g8L18, e6]
  cases x2
  · rfl
  · simp only [g8J21, e1, e2, e3, e4, bit_ok hr, bit_r hr, b1, e5, bit_ok (a := a) (i := -1) (by omega), bit_r (a := a) (i := -1) (by omega), b2]
theorem J15 (m : Nat) (a : List Nat) (h : ∀ x ∈ a, x < 256) (ha : a.length < 2 ^ 47) (hne : 0 < a.length) (i : Int) (hi : 0 ≤ i) (x2 : Bool) :
    g8J15 realA (m + 9) (fun v _ => some v) a i x2 = some (.v (.cell (.bool x2))) := by
  have e0 : realA.ic .eql (realA.ofN a.length) 0 = false := by show decide _ = false; exact decide_eq_false (by show ¬ (a.length : Int) = 0; omega)
  have hj : i.toNat % a.length < a.length := Nat.mod_lt _ hne
  have e1 : realA.ib .rem .i64 i (realA.ofN a.length) = ((i.toNat % a.length : Nat) : Int) := by
    show i.tmod (a.length : Int) = _
    rw [Int.tmod_eq_emod_of_nonneg hi, Int.natCast_emod, Int.toNat_of_nonneg hi]
  unfold g8J15
  rw [e0]
  simp only []
  rw [e1]
  generalize i.toNat % a.length = j at hj
  have hx := getD_lt h j
  generalize hq : a.getD j 0 = q at hx
  have l7 := loop8 (m + 9) a ha j hj x2 7 (by omega) 0 (by omega) (m + 8)
  have l6 := loop8 (m + 9) a ha j hj x2 6 (by omega) (2 * 0 + q / 2 ^ 7 % 2) (by omega) (m + 7)
  have l5 := loop8 (m + 9) a ha j hj x2 5 (by omega) (2 * (2 * 0 + q / 2 ^ 7 % 2) + q / 2 ^ 6 % 2) (by omega) (m + 6)
  have l4 := loop8 (m + 9) a ha j hj x2 4 (by omega) (2 * (2 * (2 * 0 + q / 2 ^ 7 % 2) + q / 2 ^ 6 % 2) + q / 2 ^ 5 % 2) (by omega) (m + 5)
  have l3 := loop8 (m + 9) a ha j hj x2 3 (by omega) (2 * (2 * (2 * (2 * 0 + q / 2 ^ 7 % 2) + q / 2 ^ 6 % 2) + q / 2 ^ 5 % 2) + q / 2 ^ 4 % 2) (by omega) (m + 4)
  have l2 := loop8 (m + 9) a ha j hj x2 2 (by omega) (2 * (2 * (2 * (2 * (2 * 0 + q / 2 ^ 7 % 2) + q / 2 ^ 6 % 2) + q / 2 ^ 5 % 2) + q / 2 ^ 4 % 2) + q / 2 ^ 3 % 2) (by omega) (m + 3)
  have l1 := loop8 (m + 9) a ha j hj x2 1 (by omega) (2 * (2 * (2 * (2 * (2 * (2 * 0 + q / 2 ^ 7 % 2) + q / 2 ^ 6 % 2) + q / 2 ^ 5 % 2) + q / 2 ^ 4 % 2) + q / 2 ^ 3 % 2) + q / 2 ^ 2 % 2) (by omega) (m + 2)
  have l0 := loop8 (m + 9) a ha j hj x2 0 (by omega) (2 * (2 * (2 * (2 * (2 * (2 * (2 * 0 + q / 2 ^ 7 % 2) + q / 2 ^ 6 % 2) + q / 2 ^ 5 % 2) + q / 2 ^ 4 % 2) + q / 2 ^ 3 % 2) + q / 2 ^ 2 % 2) + q / 2 ^ 1 % 2) (by omega) (m + 1)
  rw [hq] at l0 l1 l2 l3 l4 l5 l6 l7
  have le := loopEnd (m + 9) a h ha j hj x2 m
  have hs : 2 * (2 * (2 * (2 * (2 * (2 * (2 * (2 * 0 + q / 2 ^ 7 % 2) + q / 2 ^ 6 % 2) + q / 2 ^ 5 % 2) + q / 2 ^ 4 % 2) + q / 2 ^ 3 % 2) + q / 2 ^ 2 % 2) + q / 2 ^ 1 % 2) + q / 2 ^ 0 % 2 = q := by omega
  rw [hq] at le
  rw [hs] at l0
  exact l7.trans (l6.trans (l5.trans (l4.trans (l3.trans (l2.trans (l1.trans (l0.trans le)))))))
theorem J13 (m : Nat) (a : List Nat) (h : ∀ x ∈ a, x < 256) (ha : a.length < 2 ^ 47) (hne : 0 < a.length) (i : Int) (hi : -9223372036854775808 ≤ i ∧ i < 9223372036854775808) (x2 : Bool) :
    g8J13 realA (m + 9) (fun v _ => some v) a i x2 = some (.v (.cell (.bool x2))) := by
  unfold g8J13
  by_cases hn : i < 0
  · have e0 : realA.ic .lss i 0 = true := by show decide _ = true; exact decide_eq_true hn
    have e1 : realA.ib .add .i64 i 1 = i + 1 := wrap64 (by omega)
    have e2 : realA.ib .sub .i64 0 (i + 1) = 0 - (i + 1) := wrap64 (by omega)
    rw [e0, e1, e2]
    exact J15 m a h ha hne _ (by omega) x2
  · have e0 : realA.ic .lss i 0 = false := by show decide _ = false; exact decide_eq_false hn
    rw [e0]
    exact J15 m a h ha hne _ (by omega) x2
theorem J11 (m : Nat) (a : List Nat) (h : ∀ x ∈ a, x < 256) (ha : a.length < 2 ^ 47) (i : Int) (hi : -9223372036854775808 ≤ i ∧ i < 9223372036854775808) :
    g8J11 realA (m + 9) (fun v _ => some v) a i true = some (.v (.cell (.bool true))) := by
  unfold g8J11
  by_cases hne : a = []
  · subst hne
    have b : bitOf [] i = 0 := by
      unfold bitOf
      split
      · rfl
      · rename_i h0
        have h1 : ¬ i < 0 := of_decide_eq_false h0
        have h2 : ¬ i / 8 < (([] : List Nat).length : Int) := by simp; omega
        rw [decide_eq_false h2]
    have e0 : realA.sc .eql [] [] = true := rfl
    have e5 : realA.ic .eql (((0 : Nat) : Int)) 0 = true := rfl
    rw [e0]
    simp only [bit_ok hi, bit_r hi, b, e5]
  · have e0 : realA.sc .eql a [] = false := by show decide _ = false; exact decide_eq_false hne
    rw [e0]
    exact J13 m a h ha (List.length_pos_iff.2 hne) i hi true
theorem clampOf_len (a : List Nat) : (clampOf a).length = a.length := by simp [clampOf]
theorem clampOf_0 (a : List Nat) (h : a.length = 32) : (clampOf a).getD 0 0 = a.getD 0 0 &&& 248 := by
  simp [clampOf, List.getD_eq_getElem?_getD, List.getElem?_set, h]
theorem clampOf_31 (a : List Nat) (h : a.length = 32) : (clampOf a).getD 31 0 = (a.getD 31 0 &&& 63) ||| 64 := by
  simp [clampOf, List.getD_eq_getElem?_getD, List.getElem?_set, h]
theorem and248b (x : Nat) (h : x < 256) : ((x &&& 248) &&& 248) = x &&& 248 ∧ (x &&& 248) / 2 ^ 0 % 2 = 0 ∧ (x &&& 248) / 2 ^ 1 % 2 = 0 ∧ (x &&& 248) / 2 ^ 2 % 2 = 0 := by
  have e := and248 x h
  have e2 := and248 (x &&& 248) (by omega)
  omega
theorem or64b (x : Nat) (h : x < 256) : ((((x &&& 63) ||| 64) &&& 63) ||| 64) = ((x &&& 63) ||| 64) ∧ ((x &&& 63) ||| 64) / 2 ^ 7 % 2 = 0 ∧ ((x &&& 63) ||| 64) / 2 ^ 6 % 2 = 1 := by
  have e := or64 x h
  have e2 := or64 ((x &&& 63) ||| 64) (by omega)
  omega
theorem clamp_twice (a : List Nat) (ha : ∀ x ∈ a, x < 256) (h : a.length = 32) : clampOf (clampOf a) = clampOf a := by
  have h1 := clampOf_0 a h
  have h2 := clampOf_31 a h
  have e1 := (and248b _ (getD_lt ha 0)).1
  have e2 := (or64b _ (getD_lt ha 31)).1
  have hl := clampOf_len a
  apply List.ext_getElem?
  intro j
  show (((clampOf a).set 0 ((clampOf a).getD 0 0 &&& 248)).set 31 (((clampOf a).getD 31 0 &&& 63) ||| 64))[j]? = _
  rw [h1, h2, e1, e2]
  by_cases j0 : j = 31
  · subst j0
    rw [List.getElem?_set_self (by simp [hl, h]), ← h2, List.getD_eq_getElem?_getD, List.getElem?_eq_getElem (by omega)]
    rfl
  · rw [List.getElem?_set_ne (by omega)]
    by_cases j1 : j = 0
    · subst j1
      rw [List.getElem?_set_self (by omega), ← h1, List.getD_eq_getElem?_getD, List.getElem?_eq_getElem (by omega)]
      rfl
    · rw [List.getElem?_set_ne (by omega)]
theorem clampOf_lt (a : List Nat) (ha : ∀ x ∈ a, x < 256) : ∀ x ∈ clampOf a, x < 256 := by
  intro x hx
  have e1 := and248 _ (getD_lt ha 0)
  have e2 := or64 _ (getD_lt ha 31)
  rcases List.mem_or_eq_of_mem_set hx with hx | hx
  · rcases List.mem_or_eq_of_mem_set hx with hx | hx
    · exact ha x hx
    · omega
  · omega
theorem J7 (m : Nat) (a : List Nat) (ha : ∀ x ∈ a, x < 256) (h : a.length = 32) (i : Int) (hi : -9223372036854775808 ≤ i ∧ i < 9223372036854775808) :
    g8J7 realA (m + 9) (fun v _ => some v) a i true (clampOf a) true = some (.v (.cell (.bool true))) := by
  have hl : (clampOf a).length = 32 := by rw [clampOf_len, h]
  have k18 : g18ok (clampOf a) = true := by unfold g18ok; rw [clampE _ hl]; rfl
  have r18 : g18r0 (clampOf a) = clampOf a := by unfold g18r0; rw [clampE _ hl]; exact clamp_twice a ha h
  have q18 : g18r1 (clampOf a) = true := by unfold g18r1; rw [clampE _ hl]; rfl
  have a0 := and248b _ (getD_lt ha 0)
  have a31 := or64b _ (getD_lt ha 31)
  rw [← clampOf_0 a h] at a0
  rw [← clampOf_31 a h] at a31
  have b0 : bitOf (clampOf a) 0 = 0 := (bitAt (clampOf a) 0 0 (by omega) (by omega)).trans a0.2.1
  have b1 : bitOf (clampOf a) 1 = 0 := (bitAt (clampOf a) 0 1 (by omega) (by omega)).trans a0.2.2.1
  have b2 : bitOf (clampOf a) 2 = 0 := (bitAt (clampOf a) 0 2 (by omega) (by omega)).trans a0.2.2.2
  have b255 : bitOf (clampOf a) 255 = 0 := (bitAt (clampOf a) 31 7 (by omega) (by omega)).trans a31.2.1
  have b254 : bitOf (clampOf a) 254 = 1 := (bitAt (clampOf a) 31 6 (by omega) (by omega)).trans a31.2.2
  have e1 : realA.sc .neq (clampOf a) (clampOf a) = false := by show (!(decide (clampOf a = clampOf a))) = false; rw [decide_eq_true rfl]; rfl
  have e2 : realA.ic .neq (realA.ofN (clampOf a).length) 32 = false := by rw [hl]; rfl
  have e3 : realA.ic .neq (realA.ib .add .i64 (realA.ib .add .i64 (realA.ib .add .i64 ((0 : Nat) : Int) ((0 : Nat) : Int)) ((0 : Nat) : Int)) ((0 : Nat) : Int)) 0 = false := by kernel_rfl
  have e4 : realA.ic .neq ((1 : Nat) : Int) 1 = false := rfl
  simp only [g8J7, k18, r18, q18, e1, e2, bit_ok (a := clampOf a) (i := 0) (by omega), bit_r (a := clampOf a) (i := 0) (by omega), bit_ok (a := clampOf a) (i := 1) (by omega), bit_r (a := clampOf a) (i := 1) (by omega),
    bit_ok (a := clampOf a) (i := 2) (by omega), bit_r (a := clampOf a) (i := 2) (by omega), bit_ok (a := clampOf a) (i := 255) (by omega), bit_r (a := clampOf a) (i := 255) (by omega), bit_ok (a := clampOf a) (i := 254) (by omega), bit_r (a := clampOf a) (i := 254) (by omega),
    b0, b1, b2, b255, b254, e3, e4, Bool.not_true]
  exact J11 m a ha (by omega) i hi
theorem g8_true (m : Nat) (a : List Nat) (ha : ∀ x ∈ a, x < 256) (hl : a.length < 2 ^ 47) (i : Int) (hi : -9223372036854775808 ≤ i ∧ i < 9223372036854775808) : g8 realA (m + 9) (fun v _ => some v) a i = some (.v (.cell (.bool true))) := by
  have e9 : g9ok = true := by unfold g9ok; rw [ex9]; rfl
  have e9' : g9r0 = true := by unfold g9r0; rw [ex9]; rfl
  by_cases h : a.length = 32
  · have k18 : g18ok a = true := by unfold g18ok; rw [clampE _ h]; rfl
    have r18 : g18r0 a = clampOf a := by unfold g18r0; rw [clampE _ h]; rfl
    have q18 : g18r1 a = true := by unfold g18r1; rw [clampE _ h]; rfl
    have e1 : realA.ic .eql (realA.ofN a.length) 32 = true := by rw [h]; rfl
    unfold g8 g8J4
    rw [e9, e9', k18, r18, q18, e1]
    exact J7 m a ha h i hi
  · have k18 : g18ok a = true := by unfold g18ok; rw [clampN _ h]; rfl
    have r18 : g18r0 a = [] := by unfold g18r0; rw [clampN _ h]; rfl
    have q18 : g18r1 a = false := by unfold g18r1; rw [clampN _ h]; rfl
    have e1 : realA.ic .eql (realA.ofN a.length) 32 = false := show decide ((a.length : Int) = 32) = false from decide_eq_false (by omega)
    unfold g8 g8J4
    rw [e9, e9', k18, r18, q18, e1]
    exact J11 m a ha hl i hi
theorem law8 (a : List Nat) (ha : ∀ x ∈ a, x < 256) (hl : a.length < 2 ^ 47) (i : Int) (hi : (Lit.int .i64 i).wf = true) : g8o [.v (.cell (.str a)), .v (.cell (.int .i64 i))] = some (true, .v (.cell (.bool true))) := by
  have e : g8v a i = some (.v (.cell (.bool true))) := g8_true 99991 a ha hl i (wf64 hi)
  simp only [g8o, g8ok, g8r0, e, g8is, g8g0]
end Go.Sx
