import Derived.Test.YtnnepclpggbjgaaSxS03c
import Derived.Test.YtnnepclpggbjgaaSxPl
namespace Go.Sx
theorem and51 (a : Nat) : a &&& 2251799813685247 = a % 2251799813685248 := Nat.and_two_pow_sub_one_eq_mod a 51
theorem negN (i : Nat) : realA.neg (i : Int) = false := show decide ((i : Int) < 0) = false from decide_eq_false (by omega)
theorem toNN (i : Nat) : realA.toN (i : Int) = i := rfl
theorem ltT {a b : Nat} (h : a < b) : realA.lt a b = true := show decide (a < b) = true from decide_eq_true h
theorem lssT {a b : Int} (h : a < b) : realA.ic .lss a b = true := show decide (a < b) = true from decide_eq_true h
theorem lssF {a b : Int} (h : ¬ a < b) : realA.ic .lss a b = false := show decide (a < b) = false from decide_eq_false h
theorem geqT {a b : Int} (h : b ≤ a) : realA.ic .geq a b = true := show decide (b ≤ a) = true from decide_eq_true h
theorem geqF {a b : Int} (h : ¬ b ≤ a) : realA.ic .geq a b = false := show decide (b ≤ a) = false from decide_eq_false h
theorem addI {a b : Int} (h : -9223372036854775808 ≤ a + b ∧ a + b < 9223372036854775808) : realA.ib .add .i64 a b = a + b := wrap64 h
theorem subI {a b : Int} (h : -9223372036854775808 ≤ a - b ∧ a - b < 9223372036854775808) : realA.ib .sub .i64 a b = a - b := wrap64 h
theorem addN {i : Nat} (j : Nat) (h : i + j < 9223372036854775808) : realA.ib .add .i64 (i : Int) (j : Int) = ((i + j : Nat) : Int) := by
  rw [addI (by omega)]; omega
theorem nadd {x y : Nat} (h : x + y < 18446744073709551616) : realA.nb .add .u64 x y = x + y := Nat.mod_eq_of_lt h
theorem nmul {x y : Nat} (h : x * y < 18446744073709551616) : realA.nb .mul .u64 x y = x * y := Nat.mod_eq_of_lt h
theorem nand51 (x : Nat) : realA.nb .and .u64 x 2251799813685247 = x % 2251799813685248 := and51 x
theorem nshr51 (x : Nat) : realA.nsh .shr .u64 x 51 = x / 2251799813685248 := rfl
theorem getD_set_same (l : List Nat) (i v : Nat) (h : i < l.length) : (l.set i v).getD i 0 = v := by
  rw [List.getD_eq_getElem?_getD, List.getElem?_set_self h]; rfl
theorem carryStep {R : Type} (n m i c : Nat) (kk : AV → Heap → Option R) (l x3 : List Nat) (hi : i < 5) (hl : l.length = 5) (hc : l.getD i 0 + c < 18446744073709551616) :
    g47L3 realA n kk (m + 1) c i l x3 = g47L3 realA n kk m ((l.getD i 0 + c) / 2251799813685248) ((i + 1 : Nat) : Int) (l.set i ((l.getD i 0 + c) % 2251799813685248)) x3 := by
  have e1 : realA.ib .add .i64 (i : Int) 1 = ((i + 1 : Nat) : Int) := addN 1 (by omega)
  rw [g47L3, lssT (show (i : Int) < 5 by omega)]
  simp only [g47J4, negN, toNN, ltT hi, nadd hc, getD_set_same l i _ (by omega), nand51, nshr51, List.set_set]
  rw [e1]
/-- a number of five limbs -/
def v51 (l0 l1 l2 l3 l4 : Nat) : Nat := l0 + 2251799813685248 * l1 + 5070602400912917605986812821504 * l2 + 11417981541647679048466287755595961091061972992 * l3 + 25711008708143844408671393477458601640355247900524685364822016 * l4
/-- p -/
def PP : Nat := 57896044618658097711785492504343953926634992332820282019728792003956564819949
theorem carryE (m l0 l1 l2 l3 l4 : Nat) (h0 : l0 < 9223372036854775808) (h1 : l1 < 9223372036854775808) (h2 : l2 < 9223372036854775808) (h3 : l3 < 9223372036854775808) (h4 : l4 < 9223372036854775808) :
    ∃ r0 r1 r2 r3 r4 c, r1 < 2251799813685248 ∧ r2 < 2251799813685248 ∧ r3 < 2251799813685248 ∧ r4 < 2251799813685248 ∧ r0 < 2251799813685248 + 19 * c ∧ 2251799813685248 * c ≤ l4 + 8192 ∧ v51 r0 r1 r2 r3 r4 + PP * c = v51 l0 l1 l2 l3 l4 ∧
      g47 realA (m + 6) (fun v _ => some v) [l0, l1, l2, l3, l4] = some (.v (.agg [.nums .u64 5 [r0, r1, r2, r3, r4]])) := by
  have s0 := carryStep (m + 6) (m + 5) 0 0 (fun v _ => some v) [l0, l1, l2, l3, l4] [0, 0, 0, 0, 0] (by omega) rfl (show l0 + 0 < _ by omega)
  have s1 := carryStep (m + 6) (m + 4) 1 ((l0 + 0) / 2251799813685248) (fun v _ => some v) [(l0 + 0) % 2251799813685248, l1, l2, l3, l4] [0, 0, 0, 0, 0] (by omega) rfl (show l1 + _ < _ by omega)
  have s2 := carryStep (m + 6) (m + 3) 2 ((l1 + (l0 + 0) / 2251799813685248) / 2251799813685248) (fun v _ => some v) [(l0 + 0) % 2251799813685248, (l1 + (l0 + 0) / 2251799813685248) % 2251799813685248, l2, l3, l4] [0, 0, 0, 0, 0] (by omega) rfl (show l2 + _ < _ by omega)
  simp only [List.getD_cons_zero, List.getD_cons_succ, List.set_cons_succ, List.set_cons_zero] at s0 s1 s2
  have ec1 : (l0 + 0) / 2251799813685248 < 8192 := by omega
  have e0 : v51 ((l0 + 0) % 2251799813685248) 0 0 0 0 + 2251799813685248 * ((l0 + 0) / 2251799813685248) = l0 := by unfold v51; omega
  generalize hc1 : (l0 + 0) / 2251799813685248 = c1 at *
  generalize hr0 : (l0 + 0) % 2251799813685248 = r0 at *
  have b0 : r0 < 2251799813685248 := by omega
  have ec2 : (l1 + c1) / 2251799813685248 < 8192 := by omega
  have b1 : (l1 + c1) % 2251799813685248 < 2251799813685248 := by omega
  have e1 : (l1 + c1) % 2251799813685248 + 2251799813685248 * ((l1 + c1) / 2251799813685248) = l1 + c1 := by omega
  generalize (l1 + c1) / 2251799813685248 = c2 at *
  generalize (l1 + c1) % 2251799813685248 = r1 at *
  have ec3 : (l2 + c2) / 2251799813685248 < 8192 := by omega
  have b2 : (l2 + c2) % 2251799813685248 < 2251799813685248 := by omega
  have e2 : (l2 + c2) % 2251799813685248 + 2251799813685248 * ((l2 + c2) / 2251799813685248) = l2 + c2 := by omega
  generalize (l2 + c2) / 2251799813685248 = c3 at *
  generalize (l2 + c2) % 2251799813685248 = r2 at *
  have s3 := carryStep (m + 6) (m + 2) 3 c3 (fun v _ => some v) [r0, r1, r2, l3, l4] [0, 0, 0, 0, 0] (by omega) rfl (show l3 + c3 < _ by omega)
  simp only [List.getD_cons_zero, List.getD_cons_succ, List.set_cons_succ, List.set_cons_zero] at s3
  have ec4 : (l3 + c3) / 2251799813685248 < 8192 := by omega
  have b3 : (l3 + c3) % 2251799813685248 < 2251799813685248 := by omega
  have e3 : (l3 + c3) % 2251799813685248 + 2251799813685248 * ((l3 + c3) / 2251799813685248) = l3 + c3 := by omega
  generalize (l3 + c3) / 2251799813685248 = c4 at *
  generalize (l3 + c3) % 2251799813685248 = r3 at *
  have s4 := carryStep (m + 6) (m + 1) 4 c4 (fun v _ => some v) [r0, r1, r2, r3, l4] [0, 0, 0, 0, 0] (by omega) rfl (show l4 + c4 < _ by omega)
  simp only [List.getD_cons_zero, List.getD_cons_succ, List.set_cons_succ, List.set_cons_zero] at s4
  have ec5 : (l4 + c4) / 2251799813685248 < 8192 := by omega
  have b4 : (l4 + c4) % 2251799813685248 < 2251799813685248 := by omega
  have e4 : (l4 + c4) % 2251799813685248 + 2251799813685248 * ((l4 + c4) / 2251799813685248) = l4 + c4 := by omega
  generalize (l4 + c4) / 2251799813685248 = c5 at *
  generalize (l4 + c4) % 2251799813685248 = r4 at *
  refine ⟨r0 + c5 * 19, r1, r2, r3, r4, c5, b1, b2, b3, b4, by omega, by omega, ?_, ?_⟩
  · clear s0 s1 s2 s3 s4
    unfold v51 PP at *
    omega
  · refine Eq.trans (b := g47L3 realA (m + 6) (fun v _ => some v) (m + 5 + 1) 0 ((0 : Nat) : Int) [l0, l1, l2, l3, l4] [0, 0, 0, 0, 0]) rfl ?_
    refine s0.trans (s1.trans (s2.trans (s3.trans (s4.trans ?_))))
    rw [g47L3, lssF (by omega)]
    simp only [g47J9, List.getD_cons_zero, List.set_cons_zero, nmul (show c5 * 19 < 18446744073709551616 by omega), nadd (show r0 + c5 * 19 < 18446744073709551616 by omega)]
theorem carryOk {l0 l1 l2 l3 l4 : Nat} (h0 : l0 < 9223372036854775808) (h1 : l1 < 9223372036854775808) (h2 : l2 < 9223372036854775808) (h3 : l3 < 9223372036854775808) (h4 : l4 < 9223372036854775808) :
    g47ok realA [l0, l1, l2, l3, l4] = true ∧ ∃ r0 r1 r2 r3 r4 c, r1 < 2251799813685248 ∧ r2 < 2251799813685248 ∧ r3 < 2251799813685248 ∧ r4 < 2251799813685248 ∧ r0 < 2251799813685248 + 19 * c ∧ 2251799813685248 * c ≤ l4 + 8192 ∧ v51 r0 r1 r2 r3 r4 + PP * c = v51 l0 l1 l2 l3 l4 ∧
      g47r0 realA [l0, l1, l2, l3, l4] = [r0, r1, r2, r3, r4] := by
  obtain ⟨r0, r1, r2, r3, r4, c, q1, q2, q3, q4, q5, q6, q7, he⟩ := carryE 99994 l0 l1 l2 l3 l4 h0 h1 h2 h3 h4
  have e : g47v realA [l0, l1, l2, l3, l4] = some (.v (.agg [.nums .u64 5 [r0, r1, r2, r3, r4]])) := he
  exact ⟨by unfold g47ok; rw [e]; rfl, r0, r1, r2, r3, r4, c, q1, q2, q3, q4, q5, q6, q7, by unfold g47r0; rw [e]; rfl⟩
theorem orlo (k x y : Nat) (hy : y < 2 ^ k) : (2 ^ k * x) ||| y = 2 ^ k * x + y := (Nat.two_pow_add_eq_or_of_lt hy x).symm
theorem mask1 (x y a b : Nat) (ha : a ≤ 51) (hx : x / 2 ^ b < 2 ^ a) (hy : y < 18446744073709551616) : realA.nb .and .u64 (realA.nb .or .u64 (realA.nsh .shr .u64 x b) (realA.nsh .shl .u64 y a)) 2251799813685247 = x / 2 ^ b + 2 ^ a * (y % 2 ^ (51 - a)) := by
  show ((x / 2 ^ b) ||| (y * 2 ^ a % 2 ^ 64)) &&& 2251799813685247 = _
  have e : y * 2 ^ a % 2 ^ 64 = 2 ^ a * (y % 2 ^ (64 - a)) := by
    rw [Nat.mul_comm, ← Nat.mul_mod_mul_left, ← Nat.pow_add, show a + (64 - a) = 64 by omega]
  rw [e, Nat.or_comm, orlo a _ _ hx, and51]
  have e2 : 2251799813685248 = 2 ^ a * 2 ^ (51 - a) := by rw [← Nat.pow_add, show a + (51 - a) = 51 by omega]
  have e3 : y % 2 ^ (64 - a) % 2 ^ (51 - a) = y % 2 ^ (51 - a) := Nat.mod_mod_of_dvd _ (Nat.pow_dvd_pow 2 (by omega))
  rw [e2, Nat.mod_mul, ← e3, Nat.add_comm (2 ^ a * _) (x / 2 ^ b)]
  have h1 : (x / 2 ^ b + 2 ^ a * (y % 2 ^ (64 - a))) % 2 ^ a = x / 2 ^ b := by rw [Nat.add_mul_mod_self_left, Nat.mod_eq_of_lt hx]
  have h2 : (x / 2 ^ b + 2 ^ a * (y % 2 ^ (64 - a))) / 2 ^ a = y % 2 ^ (64 - a) := by rw [Nat.add_mul_div_left _ _ (Nat.two_pow_pos a), Nat.div_eq_of_lt hx, Nat.zero_add]
  rw [h1, h2]
def v64 (a0 a1 a2 a3 : Nat) : Nat := a0 + 18446744073709551616 * a1 + 340282366920938463463374607431768211456 * a2 + 6277101735386680763835789423207666416102355444464034512896 * a3
theorem loadOk {a0 a1 a2 a3 : Nat} (h0 : a0 < 18446744073709551616) (h1 : a1 < 18446744073709551616) (h2 : a2 < 18446744073709551616) (h3 : a3 < 18446744073709551616) :
    g37ok realA [a0, a1, a2, a3] = true ∧ ∃ r0 r1 r2 r3 r4 c, r1 < 2251799813685248 ∧ r2 < 2251799813685248 ∧ r3 < 2251799813685248 ∧ r4 < 2251799813685248 ∧ r0 < 2251799813685248 + 57 ∧ v51 r0 r1 r2 r3 r4 + PP * c = v64 a0 a1 a2 a3 ∧
      g37r0 realA [a0, a1, a2, a3] = [r0, r1, r2, r3, r4] := by
  have m1 := mask1 a0 a1 13 51 (by omega) (by omega) h1
  have m2 := mask1 a1 a2 26 38 (by omega) (by omega) h2
  have m3 := mask1 a2 a3 39 25 (by omega) (by omega) h3
  have m4 : realA.nsh .shr .u64 a3 12 = a3 / 4096 := rfl
  have m0 := nand51 a0
  simp only [Nat.reducePow, Nat.reduceSub] at m1 m2 m3
  obtain ⟨k, r0, r1, r2, r3, r4, c, q1, q2, q3, q4, q5, q6, q7, q8⟩ := carryOk (l0 := a0 % 2251799813685248) (l1 := a0 / 2251799813685248 + 8192 * (a1 % 274877906944)) (l2 := a1 / 274877906944 + 67108864 * (a2 % 33554432)) (l3 := a2 / 33554432 + 549755813888 * (a3 % 4096)) (l4 := a3 / 4096) (by omega) (by omega) (by omega) (by omega) (by omega)
  have e : g37v realA [a0, a1, a2, a3] = some (.v (.agg [.nums .u64 5 [r0, r1, r2, r3, r4]])) := by
    unfold g37v
    generalize 100000 = n
    unfold g37
    simp only [List.getD_cons_zero, List.getD_cons_succ, List.set_cons_succ, List.set_cons_zero, m0, m1, m2, m3, m4, k, q8]
  refine ⟨by unfold g37ok; rw [e]; rfl, r0, r1, r2, r3, r4, c, q1, q2, q3, q4, by omega, ?_, by unfold g37r0; rw [e]; rfl⟩
  rw [q7]
  unfold v51 v64
  omega
end Go.Sx
