import Derived.Test.YtcgjapkajaflpaaSxR04b
import Derived.Test.YtcgjapkajaflpaaSxPl
namespace Go.Sx
theorem and32 (a : Nat) : a &&& 4294967295 = a % 4294967296 := Nat.and_two_pow_sub_one_eq_mod a 32
theorem mulhi (a b : Nat) (ha : a < 18446744073709551616) (hb : b < 18446744073709551616) :
    (((a / 4294967296 * (b / 4294967296)) % 18446744073709551616 + (a / 4294967296 * (b % 4294967296) % 18446744073709551616 + (a % 4294967296 * (b % 4294967296) % 18446744073709551616) / 4294967296) % 18446744073709551616 / 4294967296) % 18446744073709551616 +
      ((a / 4294967296 * (b % 4294967296) % 18446744073709551616 + (a % 4294967296 * (b % 4294967296) % 18446744073709551616) / 4294967296) % 18446744073709551616 % 4294967296 + a % 4294967296 * (b / 4294967296) % 18446744073709551616) % 18446744073709551616 / 4294967296) % 18446744073709551616 = a * b / 18446744073709551616 := by
  have ea : a = a / 4294967296 * 4294967296 + a % 4294967296 := by omega
  have eb : b = b / 4294967296 * 4294967296 + b % 4294967296 := by omega
  have ea1 : a / 4294967296 ≤ 4294967295 := by omega
  have eb1 : b / 4294967296 ≤ 4294967295 := by omega
  have ea0 : a % 4294967296 ≤ 4294967295 := by omega
  have eb0 : b % 4294967296 ≤ 4294967295 := by omega
  generalize a / 4294967296 = a1 at *
  generalize b / 4294967296 = b1 at *
  generalize a % 4294967296 = a0 at *
  generalize b % 4294967296 = b0 at *
  have e : a * b = a1 * b1 * 18446744073709551616 + (a1 * b0 + a0 * b1) * 4294967296 + a0 * b0 := by subst ea; subst eb; grind
  rw [e]
  have h11 : a1 * b1 ≤ 4294967295 * 4294967295 := Nat.mul_le_mul ea1 eb1
  have h10 : a1 * b0 ≤ 4294967295 * 4294967295 := Nat.mul_le_mul ea1 eb0
  have h01 : a0 * b1 ≤ 4294967295 * 4294967295 := Nat.mul_le_mul ea0 eb1
  have h00 : a0 * b0 ≤ 4294967295 * 4294967295 := Nat.mul_le_mul ea0 eb0
  generalize a1 * b1 = p11 at *
  generalize a1 * b0 = p10 at *
  generalize a0 * b1 = p01 at *
  generalize a0 * b0 = p00 at *
  clear e ha hb ea eb ea1 eb1 ea0 eb0
  omega
theorem mul64E (a b : Nat) (ha : a < 18446744073709551616) (hb : b < 18446744073709551616) :
    g30v realA a b = some (.tup [.cell (.nat .u64 (a * b / 18446744073709551616)), .cell (.nat .u64 (a * b % 18446744073709551616))]) := by
  have h := mulhi a b ha hb
  simp only [← and32] at h
  rw [← h]
  rfl
theorem mul64ok {a b : Nat} (ha : a < 18446744073709551616) (hb : b < 18446744073709551616) : g30ok realA a b = true := by unfold g30ok; rw [mul64E a b ha hb]; rfl
theorem mul64r0 {a b : Nat} (ha : a < 18446744073709551616) (hb : b < 18446744073709551616) : g30r0 realA a b = a * b / 18446744073709551616 := by unfold g30r0; rw [mul64E a b ha hb]; rfl
theorem mul64r1 {a b : Nat} (ha : a < 18446744073709551616) (hb : b < 18446744073709551616) : g30r1 realA a b = a * b % 18446744073709551616 := by unfold g30r1; rw [mul64E a b ha hb]; rfl
theorem carryT {x y c : Nat} (hc : c ≤ 1) (hx : x < 18446744073709551616) (hy : y < 18446744073709551616) : carryok x y c = true := by
  simp [carryok, hc, hx, hy]
theorem negN (i : Nat) : realA.neg (i : Int) = false := show decide ((i : Int) < 0) = false from decide_eq_false (by omega)
theorem toNN (i : Nat) : realA.toN (i : Int) = i := rfl
theorem ltT {a b : Nat} (h : a < b) : realA.lt a b = true := show decide (a < b) = true from decide_eq_true h
theorem leT {a b : Nat} (h : a ≤ b) : realA.le a b = true := show decide (a ≤ b) = true from decide_eq_true h
theorem lssT {a b : Int} (h : a < b) : realA.ic .lss a b = true := show decide (a < b) = true from decide_eq_true h
theorem lssF {a b : Int} (h : ¬ a < b) : realA.ic .lss a b = false := show decide (a < b) = false from decide_eq_false h
theorem geqT {a b : Int} (h : b ≤ a) : realA.ic .geq a b = true := show decide (b ≤ a) = true from decide_eq_true h
theorem geqF {a b : Int} (h : ¬ b ≤ a) : realA.ic .geq a b = false := show decide (b ≤ a) = false from decide_eq_false h
theorem gtrT {a b : Int} (h : b < a) : realA.ic .gtr a b = true := show decide (b < a) = true from decide_eq_true h
theorem gtrF {a b : Int} (h : ¬ b < a) : realA.ic .gtr a b = false := show decide (b < a) = false from decide_eq_false h
theorem addI {a b : Int} (h : -9223372036854775808 ≤ a + b ∧ a + b < 9223372036854775808) : realA.ib .add .i64 a b = a + b := wrap64 h
theorem subI {a b : Int} (h : -9223372036854775808 ≤ a - b ∧ a - b < 9223372036854775808) : realA.ib .sub .i64 a b = a - b := wrap64 h
theorem mulI {a b : Int} (h : -9223372036854775808 ≤ a * b ∧ a * b < 9223372036854775808) : realA.ib .mul .i64 a b = a * b := wrap64 h
theorem addN {i : Nat} (j : Nat) (h : i + j < 9223372036854775808) : realA.ib .add .i64 (i : Int) (j : Int) = ((i + j : Nat) : Int) := by
  rw [addI (by omega)]; omega

theorem minusStep {R : Type} (n m c i car bor : Nat) (kk : AV → Heap → Option R) (a b x6 : List Nat) (hi : i < 5) (ha : a.getD i 0 < 18446744073709551616) (hb : b.getD i 0 < 18446744073709551616) (hc : c < 18446744073709551616) (hcar : car < 18446744073709551616) (hbor : bor ≤ 1) :
    ∃ car' bor' y, car' < 18446744073709551616 ∧ bor' ≤ 1 ∧ y < 18446744073709551616 ∧ y + b.getD i 0 * c + car + bor = a.getD i 0 + 18446744073709551616 * (car' + bor') ∧
      g28L3 realA n kk (m + 1) c car bor i a b x6 = g28L3 realA n kk m c car' bor' ((i + 1 : Nat) : Int) (a.set i y) b x6 := by
  have hp : b.getD i 0 * c ≤ 18446744073709551615 * 18446744073709551615 := Nat.mul_le_mul (by omega) (by omega)
  have h1 := mul64ok hb hc
  have h2 := mul64r0 hb hc
  have h3 := mul64r1 hb hc
  have e5 := lssT (show (i : Int) < 5 by omega)
  have e6 := addN (i := i) 1 (by omega)
  have e7 : ∀ x y, add64a x y 0 = (x + y) % 18446744073709551616 := fun x y => rfl
  have e8 : ∀ x y, add64b x y 0 = (x + y) / 18446744073709551616 := fun x y => rfl
  generalize hpp : b.getD i 0 * c = p at *
  refine ⟨(p / 18446744073709551616 + (p % 18446744073709551616 + car) / 18446744073709551616) % 18446744073709551616, sub64b (a.getD i 0) ((p % 18446744073709551616 + car) % 18446744073709551616) bor, sub64a (a.getD i 0) ((p % 18446744073709551616 + car) % 18446744073709551616) bor, by omega, by unfold sub64b; split <;> omega, by unfold sub64a; omega, ?_, ?_⟩
  · unfold sub64a sub64b
    split <;> omega
  · rw [g28L3, e5]
    simp only [g28J4, negN, toNN, ltT hi, h1, h3, h2, carryT (Nat.zero_le 1) (show p % 18446744073709551616 < 18446744073709551616 by omega) hcar, e7, e8,
      carryT hbor ha (show (p % 18446744073709551616 + car) % 18446744073709551616 < 18446744073709551616 by omega)]
    rw [show realA.ib .add .i64 (i : Int) 1 = ((i + 1 : Nat) : Int) from e6]
    rfl
def v5 (a0 a1 a2 a3 a4 : Nat) : Nat := a0 + 18446744073709551616 * a1 + 340282366920938463463374607431768211456 * a2 + 6277101735386680763835789423207666416102355444464034512896 * a3 + 115792089237316195423570985008687907853269984665640564039457584007913129639936 * a4
theorem minusE (m c : Nat) (a0 a1 a2 a3 a4 b0 b1 b2 b3 b4 : Nat) (hc : c < 18446744073709551616) (A0 : a0 < 18446744073709551616) (A1 : a1 < 18446744073709551616) (A2 : a2 < 18446744073709551616) (A3 : a3 < 18446744073709551616) (A4 : a4 < 18446744073709551616)
    (B0 : b0 < 18446744073709551616) (B1 : b1 < 18446744073709551616) (B2 : b2 < 18446744073709551616) (B3 : b3 < 18446744073709551616) (B4 : b4 < 18446744073709551616) (hle : v5 b0 b1 b2 b3 b4 * c ≤ v5 a0 a1 a2 a3 a4) :
    ∃ y0 y1 y2 y3 y4, y0 < 18446744073709551616 ∧ y1 < 18446744073709551616 ∧ y2 < 18446744073709551616 ∧ y3 < 18446744073709551616 ∧ y4 < 18446744073709551616 ∧ v5 y0 y1 y2 y3 y4 + v5 b0 b1 b2 b3 b4 * c = v5 a0 a1 a2 a3 a4 ∧
      g28 realA (m + 6) (fun v _ => some v) [a0, a1, a2, a3, a4] [b0, b1, b2, b3, b4] c = some (.v (.agg [.nums .u64 5 [y0, y1, y2, y3, y4]])) := by
  obtain ⟨c1, d1, y0, hc1, hd1, hy0, e0, s0⟩ := minusStep (m + 6) (m + 5) c 0 0 0 (fun v _ => some v) [a0, a1, a2, a3, a4] [b0, b1, b2, b3, b4] [0, 0, 0, 0, 0] (by omega) A0 B0 hc (by omega) (by omega)
  obtain ⟨c2, d2, y1, hc2, hd2, hy1, e1, s1⟩ := minusStep (m + 6) (m + 4) c 1 c1 d1 (fun v _ => some v) [y0, a1, a2, a3, a4] [b0, b1, b2, b3, b4] [0, 0, 0, 0, 0] (by omega) A1 B1 hc hc1 hd1
  obtain ⟨c3, d3, y2, hc3, hd3, hy2, e2, s2⟩ := minusStep (m + 6) (m + 3) c 2 c2 d2 (fun v _ => some v) [y0, y1, a2, a3, a4] [b0, b1, b2, b3, b4] [0, 0, 0, 0, 0] (by omega) A2 B2 hc hc2 hd2
  obtain ⟨c4, d4, y3, hc4, hd4, hy3, e3, s3⟩ := minusStep (m + 6) (m + 2) c 3 c3 d3 (fun v _ => some v) [y0, y1, y2, a3, a4] [b0, b1, b2, b3, b4] [0, 0, 0, 0, 0] (by omega) A3 B3 hc hc3 hd3
  obtain ⟨c5, d5, y4, hc5, hd5, hy4, e4, s4⟩ := minusStep (m + 6) (m + 1) c 4 c4 d4 (fun v _ => some v) [y0, y1, y2, y3, a4] [b0, b1, b2, b3, b4] [0, 0, 0, 0, 0] (by omega) A4 B4 hc hc4 hd4
  simp only [List.getD_cons_zero, List.getD_cons_succ] at e0 e1 e2 e3 e4
  refine ⟨y0, y1, y2, y3, y4, hy0, hy1, hy2, hy3, hy4, ?_, ?_⟩
  · have ex : v5 b0 b1 b2 b3 b4 * c = v5 (b0 * c) (b1 * c) (b2 * c) (b3 * c) (b4 * c) := by unfold v5; grind
    rw [ex] at hle ⊢
    generalize b0 * c = p0 at *
    generalize b1 * c = p1 at *
    generalize b2 * c = p2 at *
    generalize b3 * c = p3 at *
    generalize b4 * c = p4 at *
    unfold v5 at *
    clear s0 s1 s2 s3 s4 ex
    omega
  · exact s0.trans (s1.trans (s2.trans (s3.trans s4)))
end Go.Sx
