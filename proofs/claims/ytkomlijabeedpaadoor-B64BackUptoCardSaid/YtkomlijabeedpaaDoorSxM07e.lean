import Derived.Test.YtkomlijabeedpaaDoorSxDr07
import Derived.Test.YtkomlijabeedpaaDoorSxP07k
import Derived.Test.YtkomlijabeedpaaDoorSxP07c
namespace Go.Sx.B7
set_option linter.unusedSectionVars false
open Go.Proofs
set_option linter.unusedVariables false
set_option maxRecDepth 100000
theorem i2b {d : Nat} (h : d < 256) : realA.i2n .u8 (d : Int) = d := by rw [ar_i2nN]; omega
theorem q0 (d k c : Nat) (t : List Nat) (hd : d < 256) : g12Sb11v realA (d : Int) k c t = some (.normal, [(410, ⟨[.one (.ptr 410 0 none), .one (.sl 415 none k 1)], 36, 1⟩), (411, ⟨[.one (.sl 13004 none 1 1)], 34, 1⟩), (415, ⟨[.nums .u8 c t], 5, 0⟩), (13004, ⟨[.nums .u8 1 [d]], 5, 2⟩)]) := by
  unfold g12Sb11v g12Sb11
  simp only [i2b hd]
  rfl
theorem q1 (d k c : Nat) (t l : List Nat) (n : Nat) (hd : d < 256) (h : l.length < 140737488355328) : g12Sb11a_v realA (d : Int) k n c t n l = some (.normal, [(410, ⟨[.one (.ptr 410 0 none), .one (.sl 415 none k 1)], 36, 1⟩), (411, ⟨[.one (.sl 500 none (l.length + 1) 1)], 34, 1⟩), (415, ⟨[.nums .u8 c t], 5, 0⟩), (500, ⟨[.nums .u8 (l.length + 1) (l ++ [d])], 5, 2⟩)]) := by
  have e : (l ++ [d]).length = l.length + 1 := by simp
  have e2 : (l ++ [d].take 1) = l ++ [d] := rfl
  have h1 : realA.le (l.length + 1) 140737488355328 = true := decide_eq_true (by omega)
  have h2 : realA.eq n (n + 0) = true := decide_eq_true rfl
  unfold g12Sb11a_v g12Sb11a_
  simp only [i2b hd, h2, e2, e, h1]
section
variable {d k c n : Nat} {t l : List Nat}
theorem q0c (hd : d < 256) : g12Sb11c0 realA (d : Int) k c t = true := by unfold g12Sb11c0; rw [q0 _ _ _ _ hd]; rfl
theorem q00 (hd : d < 256) : g12Sb11r0_0 realA (d : Int) k c t = k := by unfold g12Sb11r0_0; rw [q0 _ _ _ _ hd]; rfl
theorem q01 (hd : d < 256) : g12Sb11r0_1 realA (d : Int) k c t = 1 := by unfold g12Sb11r0_1; rw [q0 _ _ _ _ hd]; rfl
theorem q02 (hd : d < 256) : g12Sb11r0_2 realA (d : Int) k c t = c := by unfold g12Sb11r0_2; rw [q0 _ _ _ _ hd]; rfl
theorem q03 (hd : d < 256) : g12Sb11r0_3 realA (d : Int) k c t = t := by unfold g12Sb11r0_3; rw [q0 _ _ _ _ hd]; rfl
theorem q04 (hd : d < 256) : g12Sb11r0_4 realA (d : Int) k c t = 1 := by unfold g12Sb11r0_4; rw [q0 _ _ _ _ hd]; rfl
theorem q05 (hd : d < 256) : g12Sb11r0_5 realA (d : Int) k c t = [d] := by unfold g12Sb11r0_5; rw [q0 _ _ _ _ hd]; rfl
theorem q1c (hd : d < 256) (h : l.length < 140737488355328) : g12Sb11a_c0 realA (d : Int) k n c t n l = true := by unfold g12Sb11a_c0; rw [q1 _ _ _ _ _ _ hd h]; rfl
theorem q10 (hd : d < 256) (h : l.length < 140737488355328) : g12Sb11a_r0_0 realA (d : Int) k n c t n l = k := by unfold g12Sb11a_r0_0; rw [q1 _ _ _ _ _ _ hd h]; rfl
theorem q11 (hd : d < 256) (h : l.length < 140737488355328) : g12Sb11a_r0_1 realA (d : Int) k n c t n l = l.length + 1 := by unfold g12Sb11a_r0_1; rw [q1 _ _ _ _ _ _ hd h]; rfl
theorem q12 (hd : d < 256) (h : l.length < 140737488355328) : g12Sb11a_r0_2 realA (d : Int) k n c t n l = c := by unfold g12Sb11a_r0_2; rw [q1 _ _ _ _ _ _ hd h]; rfl
theorem q13 (hd : d < 256) (h : l.length < 140737488355328) : g12Sb11a_r0_3 realA (d : Int) k n c t n l = t := by unfold g12Sb11a_r0_3; rw [q1 _ _ _ _ _ _ hd h]; rfl
theorem q14 (hd : d < 256) (h : l.length < 140737488355328) : g12Sb11a_r0_4 realA (d : Int) k n c t n l = l.length + 1 := by unfold g12Sb11a_r0_4; rw [q1 _ _ _ _ _ _ hd h]; rfl
theorem q15 (hd : d < 256) (h : l.length < 140737488355328) : g12Sb11a_r0_5 realA (d : Int) k n c t n l = l ++ [d] := by unfold g12Sb11a_r0_5; rw [q1 _ _ _ _ _ _ hd h]; rfl
end
attribute [local irreducible] g12Sb11v g12Sb11c0 g12Sb11r0_0 g12Sb11r0_1 g12Sb11r0_2 g12Sb11r0_3 g12Sb11r0_4 g12Sb11r0_5 g12Sb11a_v g12Sb11a_c0 g12Sb11a_r0_0 g12Sb11a_r0_1 g12Sb11a_r0_2 g12Sb11a_r0_3 g12Sb11a_r0_4 g12Sb11a_r0_5
def s6B (v k : Nat) : Bool := decide (realA.ish .shl .i64 (v : Int) 6 = ((64 * v : Nat) : Int))
theorem s6_all : allB (fun v => s6B v 0) 64 = true := by kernel_rfl
theorem s6_is {v : Nat} (hv : v < 64) : realA.ish .shl .i64 (v : Int) 6 = ((64 * v : Nat) : Int) := of_decide_eq_true (show s6B v 0 = true from allB_spec (p := fun v => s6B v 0) s6_all hv)
def o6B (v x : Nat) : Bool := decide (realA.ib .or .i64 ((64 * v : Nat) : Int) (x : Int) = ((64 * v + x : Nat) : Int))
theorem o6_all : allB (fun v => allB (o6B v) 64) 64 = true := by kernel_rfl
theorem o6_is {v x : Nat} (hv : v < 64) (hx : x < 64) : realA.ib .or .i64 (realA.ish .shl .i64 (v : Int) 6) (x : Int) = ((64 * v + x : Nat) : Int) := by
  rw [s6_is hv]
  have h : o6B v x = true := allB_spec (p := o6B v) (allB_spec (p := fun v => allB (o6B v) 64) o6_all hv) hx
  unfold o6B at h
  exact of_decide_eq_true h
def d8B (w k : Nat) : Bool := decide (realA.ib .and .i64 (realA.ish .shr .i64 (w : Int) k) 255 = ((w / 2 ^ k % 256 : Nat) : Int))
theorem d8_all : allB (fun w => d8B w 0 && (d8B w 2 && d8B w 4)) 4096 = true := by kernel_rfl
theorem d8_is {w : Nat} (hw : w < 4096) : realA.ib .and .i64 (realA.ish .shr .i64 (w : Int) 0) 255 = ((w / 2 ^ 0 % 256 : Nat) : Int) ∧ realA.ib .and .i64 (realA.ish .shr .i64 (w : Int) 2) 255 = ((w / 2 ^ 2 % 256 : Nat) : Int) ∧ realA.ib .and .i64 (realA.ish .shr .i64 (w : Int) 4) 255 = ((w / 2 ^ 4 % 256 : Nat) : Int) := by
  have h := allB_spec (p := fun w => d8B w 0 && (d8B w 2 && d8B w 4)) d8_all hw
  simp only [Bool.and_eq_true, d8B] at h
  exact ⟨of_decide_eq_true h.1, of_decide_eq_true h.2.1, of_decide_eq_true h.2.2⟩
def m6B (w k : Nat) : Bool := decide (realA.ib .and .i64 (w : Int) (realA.ib .sub .i64 (realA.ish .shl .i64 1 6) 1) = (w : Int))
theorem m6_all : allB (fun w => m6B w 0) 64 = true := by kernel_rfl
theorem m6_is {w : Nat} (hw : w < 64) : realA.ib .and .i64 (w : Int) (realA.ib .sub .i64 (realA.ish .shl .i64 1 6) 1) = (w : Int) := of_decide_eq_true (show m6B w 0 = true from allB_spec (p := fun v => m6B v 0) m6_all hw)
def l8B (w k : Nat) : Bool := decide (realA.ib .and .i64 (realA.ish .shl .i64 (w : Int) k) 255 = ((w * 2 ^ k % 256 : Nat) : Int))
theorem l8_all : allB (fun w => allB (l8B w) 7) 64 = true := by kernel_rfl
theorem l8_is {w k : Nat} (hw : w < 64) (hk : k < 7) : realA.ib .and .i64 (realA.ish .shl .i64 (w : Int) k) 255 = ((w * 2 ^ k % 256 : Nat) : Int) := by
  have h : l8B w k = true := allB_spec (p := l8B w) (allB_spec (p := fun w => allB (l8B w) 7) l8_all hw) hk
  unfold l8B at h
  exact of_decide_eq_true h
end Go.Sx.B7
namespace Go.Sx.B7
set_option linter.unusedSectionVars false
open Go.Proofs
set_option linter.unusedVariables false
set_option maxRecDepth 100000
attribute [local irreducible] g12Sb11v g12Sb11c0 g12Sb11r0_0 g12Sb11r0_1 g12Sb11r0_2 g12Sb11r0_3 g12Sb11r0_4 g12Sb11r0_5 g12Sb11a_v g12Sb11a_c0 g12Sb11a_r0_0 g12Sb11a_r0_1 g12Sb11a_r0_2 g12Sb11a_r0_3 g12Sb11a_r0_4 g12Sb11a_r0_5
def g8 : Nat → Nat → List Nat → List Nat
  | 0, _, [] => []
  | 1, v, [] => [v * 4]
  | 2, v, [] => [v * 16]
  | _, v, [] => [v * 64]
  | 0, _, x :: r => g8 1 x r
  | 1, v, x :: r => (v * 4 + x / 16) :: g8 2 (x % 16) r
  | 2, v, x :: r => (v * 16 + x / 4) :: g8 3 (x % 4) r
  | _, v, x :: r => (v * 64 + x) :: g8 0 0 r
def KG : AV → Heap → Option Heap := fun _ h => some (pick h [410, 411, 412, 413, 414, 415, 448, 500, 13004])
def RS (s : List Nat) (k c : Nat) (t l : List Nat) : Option Heap := some [(410, ⟨[.one (.ptr 410 0 none), .one (.sl 415 none k 1)], 36, 1⟩), (411, ⟨[.one (.sl 500 none l.length 1)], 34, 1⟩), (412, ⟨[.one (.str s)], 9, 1⟩), (413, ⟨[.one (.int .i64 6)], 3, 1⟩), (414, ⟨[.one (.int .i64 8)], 3, 1⟩), (415, ⟨[.nums .u8 c t], 5, 0⟩), (448, ⟨[], 0, 0⟩), (500, ⟨[.nums .u8 l.length l], 5, 2⟩)]
theorem b06 : realA.ib .add .i64 0 6 = 6 := by kernel_rfl
theorem b66 : realA.ib .add .i64 6 6 = 12 := by kernel_rfl
theorem b46 : realA.ib .add .i64 4 6 = 10 := by kernel_rfl
theorem b26 : realA.ib .add .i64 2 6 = 8 := by kernel_rfl
theorem u128 : realA.ib .sub .i64 12 8 = 4 := by kernel_rfl
theorem u108 : realA.ib .sub .i64 10 8 = 2 := by kernel_rfl
theorem u88 : realA.ib .sub .i64 8 8 = 0 := by kernel_rfl
theorem u86 : realA.ib .sub .i64 8 6 = 2 := by kernel_rfl
theorem u84 : realA.ib .sub .i64 8 4 = 4 := by kernel_rfl
theorem u82 : realA.ib .sub .i64 8 2 = 6 := by kernel_rfl
theorem m255 : realA.ib .sub .i64 (realA.ish .shl .i64 1 8) 1 = 255 := by kernel_rfl
theorem v128 : realA.ic .geq 12 8 = true := by kernel_rfl
theorem v108 : realA.ic .geq 10 8 = true := by kernel_rfl
theorem v88 : realA.ic .geq 8 8 = true := by kernel_rfl
theorem v68 : realA.ic .geq 6 8 = false := by kernel_rfl
theorem v48 : realA.ic .geq 4 8 = false := by kernel_rfl
theorem v28 : realA.ic .geq 2 8 = false := by kernel_rfl
theorem v08 : realA.ic .geq 0 8 = false := by kernel_rfl
theorem p6 : realA.ic .gtr 6 0 = true := by kernel_rfl
section
variable {s t : List Nat} {n k c : Nat}
abbrev LG (k c : Nat) (t : List Nat) (n m : Nat) (h v i : Int) (s l : List Nat) : Option Heap := g12Si11L2a realA (n + 4) KG m h v (s.length : Int) i k l.length s 6 8 c t l.length l
theorem gs0 {m x i : Nat} {l : List Nat} (hx : x < 64) (hg : s.getD i 0 = x) (hi : i < s.length) (hi2 : i < 4611686018427387904) :
    LG k c t n (m + 1) 0 0 i s l = LG k c t n m 6 (x : Int) ((i + 1 : Nat) : Int) s l := by
  have hv := o6_is (v := 0) (x := x) (by omega) hx
  simp only [Nat.mul_zero, Nat.zero_add] at hv
  simp only [LG]
  rw [g12Si11L2a, lssT hi]
  simp only [g12Si11J3a, n6, ar_negN, ltT hi, b06, t6, ar_toNN, hg, ofn]
  erw [hv]
  rw [g12Si11L5a, v68]
  simp only [g12Si11J8, n6, t6, m6_is hx, inc hi2]
theorem gs6 {m v x i : Nat} {l : List Nat} (hv0 : v < 64) (hx : x < 64) (hg : s.getD i 0 = x) (hi : i < s.length) (hi2 : i < 4611686018427387904) (hl : l.length < 140737488355328) :
    LG k c t n (m + 1) 6 (v : Int) i s l = LG k c t n m 4 ((x % 16 : Nat) : Int) ((i + 1 : Nat) : Int) s (l ++ [v * 4 + x / 16]) := by
  have hv := o6_is (v := v) (x := x) (by omega) hx
  have e1 := (d8_is (w := 64 * v + x) (by omega)).2.2
  have hd : (64 * v + x) / 2 ^ 4 % 256 = v * 4 + x / 16 := by omega
  have hd6 : v * 4 + x / 16 < 256 := by omega
  rw [hd] at e1
  have e2 := mk_is (w := 64 * v + x) (k := 4) (by omega) (by decide)
  have e4 : (64 * v + x) % 2 ^ 4 = x % 16 := by omega
  rw [e4] at e2
  have hlen : (l ++ [v * 4 + x / 16]).length = l.length + 1 := by simp
  simp only [LG, hlen]
  rw [g12Si11L2a, lssT hi]
  simp only [g12Si11J3a, n6, ar_negN, ltT hi, b66, t6, ar_toNN, hg, ofn]
  erw [hv]
  rw [g12Si11L5a, v128]
  simp only [g12Si11J6a, g12Si11t0, g12Si11t1, g12Si11t2, g12Si11t3, g12Si11t4, g12Si11t5, u128, n4, n8, t4, t8, m255, e1, q1c hd6 hl, q10 hd6 hl, q11 hd6 hl, q12 hd6 hl, q13 hd6 hl, q14 hd6 hl, q15 hd6 hl]
  rw [g12Si11L5a, v48]
  simp only [g12Si11J8, n4, t4, e2, inc hi2]
theorem gs4 {m v x i : Nat} {l : List Nat} (hv0 : v < 16) (hx : x < 64) (hg : s.getD i 0 = x) (hi : i < s.length) (hi2 : i < 4611686018427387904) (hl : l.length < 140737488355328) :
    LG k c t n (m + 1) 4 (v : Int) i s l = LG k c t n m 2 ((x % 4 : Nat) : Int) ((i + 1 : Nat) : Int) s (l ++ [v * 16 + x / 4]) := by
  have hv := o6_is (v := v) (x := x) (by omega) hx
  have e1 := (d8_is (w := 64 * v + x) (by omega)).2.1
  have hd : (64 * v + x) / 2 ^ 2 % 256 = v * 16 + x / 4 := by omega
  have hd6 : v * 16 + x / 4 < 256 := by omega
  rw [hd] at e1
  have e2 := mk_is (w := 64 * v + x) (k := 2) (by omega) (by decide)
  have e4 : (64 * v + x) % 2 ^ 2 = x % 4 := by omega
  rw [e4] at e2
  have hlen : (l ++ [v * 16 + x / 4]).length = l.length + 1 := by simp
  simp only [LG, hlen]
  rw [g12Si11L2a, lssT hi]
  simp only [g12Si11J3a, n6, ar_negN, ltT hi, b46, t6, ar_toNN, hg, ofn]
  erw [hv]
  rw [g12Si11L5a, v108]
  simp only [g12Si11J6a, g12Si11t0, g12Si11t1, g12Si11t2, g12Si11t3, g12Si11t4, g12Si11t5, u108, n2, n8, t2, t8, m255, e1, q1c hd6 hl, q10 hd6 hl, q11 hd6 hl, q12 hd6 hl, q13 hd6 hl, q14 hd6 hl, q15 hd6 hl]
  rw [g12Si11L5a, v28]
  simp only [g12Si11J8, n2, t2, e2, inc hi2]
theorem gs2 {m v x i : Nat} {l : List Nat} (hv0 : v < 4) (hx : x < 64) (hg : s.getD i 0 = x) (hi : i < s.length) (hi2 : i < 4611686018427387904) (hl : l.length < 140737488355328) :
    LG k c t n (m + 1) 2 (v : Int) i s l = LG k c t n m 0 0 ((i + 1 : Nat) : Int) s (l ++ [v * 64 + x]) := by
  have hv := o6_is (v := v) (x := x) (by omega) hx
  have e1 := (d8_is (w := 64 * v + x) (by omega)).1
  have hd : (64 * v + x) / 2 ^ 0 % 256 = v * 64 + x := by omega
  have hd6 : v * 64 + x < 256 := by omega
  rw [hd] at e1
  have e2 := mk_is (w := 64 * v + x) (k := 0) (by omega) (by decide)
  have e4 : (64 * v + x) % 2 ^ 0 = 0 := by omega
  rw [e4] at e2
  have hlen : (l ++ [v * 64 + x]).length = l.length + 1 := by simp
  simp only [LG, hlen]
  rw [g12Si11L2a, lssT hi]
  simp only [g12Si11J3a, n6, ar_negN, ltT hi, b26, t6, ar_toNN, hg, ofn]
  erw [hv]
  rw [g12Si11L5a, v88]
  simp only [g12Si11J6a, g12Si11t0, g12Si11t1, g12Si11t2, g12Si11t3, g12Si11t4, g12Si11t5, u88, n0, n8, t0, t8, m255, e1, q1c hd6 hl, q10 hd6 hl, q11 hd6 hl, q12 hd6 hl, q13 hd6 hl, q14 hd6 hl, q15 hd6 hl]
  rw [g12Si11L5a, v08]
  simp only [g12Si11J8, n0, t0, e2, inc hi2]
  rfl
theorem ge0 {m i : Nat} {l : List Nat} (hi : s.length ≤ i) : LG k c t n (m + 1) 0 0 i s l = RS s k c t l := by
  simp only [LG]
  rw [g12Si11L2a, lssF hi]
  simp only [g12Si11J10, p0]
  rfl
theorem ge6 {m v i : Nat} {l : List Nat} (hv : v < 64) (hi : s.length ≤ i) (hl : l.length < 140737488355328) : LG k c t n (m + 1) 6 (v : Int) i s l = RS s k c t (l ++ [v * 4]) := by
  have e1 := l8_is (w := v) (k := 2) (by omega) (by decide)
  have hd : v * 2 ^ 2 % 256 = v * 4 := by omega
  rw [hd] at e1
  have hd6 : v * 4 < 256 := by omega
  have hlen : (l ++ [v * 4]).length = l.length + 1 := by simp
  simp only [LG, RS, hlen]
  rw [g12Si11L2a, lssF hi]
  simp only [g12Si11J10, g12Si11t6, g12Si11t7, g12Si11t8, g12Si11t9, g12Si11t10, g12Si11t11, p6, u86, n2, n8, t2, t8, m255, e1, q1c hd6 hl, q10 hd6 hl, q11 hd6 hl, q12 hd6 hl, q13 hd6 hl, q14 hd6 hl, q15 hd6 hl]
  rfl
theorem ge4 {m v i : Nat} {l : List Nat} (hv : v < 16) (hi : s.length ≤ i) (hl : l.length < 140737488355328) : LG k c t n (m + 1) 4 (v : Int) i s l = RS s k c t (l ++ [v * 16]) := by
  have e1 := l8_is (w := v) (k := 4) (by omega) (by decide)
  have hd : v * 2 ^ 4 % 256 = v * 16 := by omega
  rw [hd] at e1
  have hd6 : v * 16 < 256 := by omega
  have hlen : (l ++ [v * 16]).length = l.length + 1 := by simp
  simp only [LG, RS, hlen]
  rw [g12Si11L2a, lssF hi]
  simp only [g12Si11J10, g12Si11t6, g12Si11t7, g12Si11t8, g12Si11t9, g12Si11t10, g12Si11t11, p4, u84, n4, n8, t4, t8, m255, e1, q1c hd6 hl, q10 hd6 hl, q11 hd6 hl, q12 hd6 hl, q13 hd6 hl, q14 hd6 hl, q15 hd6 hl]
  rfl
theorem ge2 {m v i : Nat} {l : List Nat} (hv : v < 4) (hi : s.length ≤ i) (hl : l.length < 140737488355328) : LG k c t n (m + 1) 2 (v : Int) i s l = RS s k c t (l ++ [v * 64]) := by
  have e1 := l8_is (w := v) (k := 6) (by omega) (by decide)
  have hd : v * 2 ^ 6 % 256 = v * 64 := by omega
  rw [hd] at e1
  have hd6 : v * 64 < 256 := by omega
  have hlen : (l ++ [v * 64]).length = l.length + 1 := by simp
  simp only [LG, RS, hlen]
  rw [g12Si11L2a, lssF hi]
  simp only [g12Si11J10, g12Si11t6, g12Si11t7, g12Si11t8, g12Si11t9, g12Si11t10, g12Si11t11, p2, u82, n6, n8, t6, t8, m255, e1, q1c hd6 hl, q10 hd6 hl, q11 hd6 hl, q12 hd6 hl, q13 hd6 hl, q14 hd6 hl, q15 hd6 hl]
  rfl
theorem grun (hs : ∀ x ∈ s, x < 64) (hlen : s.length < 1125899906842624) : ∀ (r : List Nat) (m i : Nat) (l : List Nat), s.drop i = r → r.length < m → l.length + r.length < 112589990684262 →
    LG k c t n m 0 0 i s l = RS s k c t (l ++ g8 0 0 r) ∧ (∀ v : Nat, v < 64 → LG k c t n m 6 (v : Int) i s l = RS s k c t (l ++ g8 1 v r)) ∧ (∀ v : Nat, v < 16 → LG k c t n m 4 (v : Int) i s l = RS s k c t (l ++ g8 2 v r)) ∧ (∀ v : Nat, v < 4 → LG k c t n m 2 (v : Int) i s l = RS s k c t (l ++ g8 3 v r)) := by
  intro r
  induction r with
  | nil =>
    intro m i l hd hm hl
    obtain ⟨m, rfl⟩ : ∃ k, m = k + 1 := ⟨m - 1, by simp only [List.length_nil] at hm; omega⟩
    have hi := drop_nil hd
    simp only [List.length_nil] at hl
    refine ⟨?_, fun v hv => ?_, fun v hv => ?_, fun v hv => ?_⟩
    · rw [ge0 hi]; simp [g8]
    · rw [ge6 hv hi (by omega)]; rfl
    · rw [ge4 hv hi (by omega)]; rfl
    · rw [ge2 hv hi (by omega)]; rfl
  | cons x r ih =>
    intro m i l hd hm hl
    simp only [List.length_cons] at hm hl
    obtain ⟨m, rfl⟩ : ∃ k, m = k + 1 := ⟨m - 1, by omega⟩
    obtain ⟨hg, hi, hd'⟩ := getD_drop hd
    have hx : x < 64 := hs x (by
      have : x ∈ s.drop i := by rw [hd]; simp
      exact List.mem_of_mem_drop this)
    have hi2 : i < 4611686018427387904 := by omega
    have ap1 : ∀ (a : Nat) (t : List Nat), l ++ [a] ++ t = l ++ (a :: t) := fun a t => by simp
    refine ⟨?_, fun v hv => ?_, fun v hv => ?_, fun v hv => ?_⟩
    · rw [gs0 hx hg hi hi2, (ih m (i + 1) _ hd' (by omega) (by omega)).2.1 _ (by omega)]
      rfl
    · rw [gs6 hv hx hg hi hi2 (by omega), (ih m (i + 1) _ hd' (by omega) (by simp; omega)).2.2.1 _ (by omega), ap1]
      rfl
    · rw [gs4 hv hx hg hi hi2 (by omega), (ih m (i + 1) _ hd' (by omega) (by simp; omega)).2.2.2 _ (by omega), ap1]
      rfl
    · rw [gs2 hv hx hg hi hi2 (by omega), (ih m (i + 1) _ hd' (by omega) (by simp; omega)).1, ap1]
      rfl
end
end Go.Sx.B7
namespace Go.Sx
set_option linter.unusedSectionVars false
open Go.Proofs
set_option linter.unusedVariables false
set_option maxRecDepth 100000
theorem SxP07dpi {R : Type} (c : Bool) {f1 f2 : Nat → Option R} {a1 a2 : Option R} (h1 : Prs f1 a1) (h2 : Prs f2 a2) : Prs (fun k => match c with | true => f1 k | false => f2 k) (match c with | true => a1 | false => a2) := by cases c <;> assumption
attribute [local irreducible] g18ok g18r0 g18r1 g10ok g10r0 g11ok g11r0 g12ok g12r0 g12r1
def g9O (A : Ar) : Orc := orcH [(12, g12o A), (18, g18o A)] [(10, ⟨[], none, (g10o A)⟩), (11, ⟨[], none, (g11o A)⟩)]
theorem g9O_sound : OSound Tryd.prog (g9O realA) := orcH_sound (fun f g hm args v hv => by
    simp only [List.mem_cons, List.not_mem_nil, or_false, Prod.mk.injEq] at hm
    rcases hm with ⟨rfl, rfl⟩ | ⟨rfl, rfl⟩
    · exact g12o_sound _ _ hv
    · exact g18o_sound _ _ hv) (fun f e hm args h v h' hv => by
    simp only [List.mem_cons, List.not_mem_nil, or_false, Prod.mk.injEq] at hm
    rcases hm with ⟨rfl, rfl⟩ | ⟨rfl, rfl⟩
    · exact g10o_sound _ _ _ _ hv
    · exact g11o_sound _ _ _ _ hv)
theorem g9O_det : ODet (g9O realA) := orcH_det _ _
def g9an : Ann := [(0, ([], [])), (1, ([], [])), (2, ([1, 2], [])), (3, ([1, 2, 3, 4], []))]
def g9res : List ResultVar := [.tmp 0]
def g9cut : List Nat := []
noncomputable def g9N {R : Type} (A : Ar) (kk : AV → Heap → Option R) (t : List Bool → St → Option R) (p : List Bool) (s : St) : Option R := nodeN A gtys (g9O A) g9an g9cut t (bodyOf Tryd.f9) (finD gtys g9res kk) p s
def g9 {R : Type} (A : Ar) (n : Nat) (kk : AV → Heap → Option R)  : Option R :=
  match g12ok A [89, 87, 73, 61] with
  | true => match g18ok A 1030 with
    | true => match g10ok A [97, 98] with
      | true => match A.sc .eql (g10r0 A [97, 98]) [89, 87, 73, 61] with
        | true => match A.sc .eql (g12r0 A [89, 87, 73, 61]) [97, 98] with
          | true => match g12r1 A [89, 87, 73, 61] with
            | true => match A.sc .eql (g18r0 A 1030) [49, 48, 51, 48] with
              | true => match g18r1 A 1030 with
                | true => match g11ok A [10, 255] with
                  | true => kk (bO (A.sc .eql (g11r0 A [10, 255]) [48, 97, 102, 102])) []
                  | false => none
                | false => kk (bO false) []
              | false => kk (bO false) []
            | false => kk (bO false) []
          | false => kk (bO false) []
        | false => kk (bO false) []
      | false => none
    | false => none
  | false => none
section
variable {R : Type} {A : Ar} {n : Nat} {kk : AV → Heap → Option R} {tb : Nat → List Bool → St → Option R} (st : Stp (g9N A kk) tb)
include st
theorem g9_go  : Prs (fun k => funN A gtys (g9O A) g9an g9cut (bodyOf Tryd.f9) g9res [] [] kk (tb k)) (g9 A n kk ) := by
  unfold g9
  exact pc (SxP07dpi _ (SxP07dpi _ (SxP07dpi _ (SxP07dpi _ (SxP07dpi _ (SxP07dpi _ (SxP07dpi _ (SxP07dpi _ (SxP07dpi _ (pf _) pn) (pf _)) (pf _)) (pf _)) (pf _)) (pf _)) pn) pn) pn) (by kernel_rfl)
end
def g9is (o : Option AV) : Bool := match o with
  | some (.v (.cell (.bool _))) => true
  | _ => false
def g9g0 (o : Option AV) : Bool := match o with
  | some (.v (.cell (.bool x))) => x
  | _ => false
theorem g9is_spec {o : Option AV} (h : g9is o = true) : o = some (.v (.cell (.bool (g9g0 o)))) := by
  unfold g9is at h
  split at h
  · rfl
  · cases h
def g9v (A : Ar)  : Option AV := g9 A (10000000) (fun v _ => some v) 
def g9ok (A : Ar)  : Bool := g9is (g9v A )
def g9r0 (A : Ar)  : Bool := g9g0 (g9v A )
theorem g9ok_spec {A : Ar} (h : g9ok A = true) : g9v A = some (.v (.cell (.bool (g9r0 A)))) := g9is_spec h
def g9o (A : Ar) (args : List AV) : Option (Bool × AV) := match args with
  | [] => some (g9ok A , .v (.cell (.bool (g9r0 A))))
  | _ => none
theorem g9o_sound : ∀ args v, g9o realA args = some (true, v) → Fn1 Tryd.prog 9 args v := by
  intro args v h
  unfold g9o at h
  split at h
  · simp only [Option.some.injEq, Prod.mk.injEq] at h
    obtain ⟨hc, h⟩ := h
    subst h
    · skip
      exact fn1_ofG mixed gtysOK g9O_sound g9O_det (an := g9an) (cut := g9cut) Tryd.func9 (c := bodyOf Tryd.f9) rfl (by kernel_rfl) Tryd.call9 (Nat.le_of_ble_eq_true rfl) (fun b => rfl) (fun _ => (show g9v realA  = _ from g9ok_spec hc)) fun _ st => g9_go st
  · cases h
attribute [local irreducible] g9ok g9r0
end Go.Sx
namespace Go.Sx.B7
set_option linter.unusedSectionVars false
set_option linter.unusedVariables false
theorem dg_len3 : ∀ (s : List Nat), (dg 0 0 s).length = s.length / 3 * 4 + (if s.length % 3 = 0 then 0 else s.length % 3 + 1)
  | [] => rfl
  | [x] => by simp [dg]
  | [x, y] => by simp [dg]
  | x :: y :: z :: r => by
    have := dg_len3 r
    simp only [dg, List.length_cons, this]
    rw [show r.length + 1 + 1 + 1 = r.length + 3 from rfl, Nat.add_div_right _ (by decide), Nat.add_mod_right]
    omega
theorem dg_lt : ∀ (s : List Nat), (∀ x ∈ s, x < 256) → (∀ d ∈ dg 0 0 s, d < 64) ∧ (∀ v, v < 4 → ∀ d ∈ dg 1 v s, d < 64) ∧ (∀ v, v < 16 → ∀ d ∈ dg 2 v s, d < 64)
  | [], _ => by
    refine ⟨fun d hd => by simp [dg] at hd, fun v hv d hd => ?_, fun v hv d hd => ?_⟩
    · simp [dg] at hd; omega
    · simp [dg] at hd; omega
  | x :: r, hs => by
    have hx := hs x (by simp)
    obtain ⟨i0, i1, i2⟩ := dg_lt r (fun y hy => hs y (by simp [hy]))
    refine ⟨fun d hd => ?_, fun v hv d hd => ?_, fun v hv d hd => ?_⟩
    · simp only [dg, List.mem_cons] at hd
      rcases hd with rfl | hd
      · omega
      · exact i1 _ (by omega) d hd
    · simp only [dg, List.mem_cons] at hd
      rcases hd with rfl | hd
      · omega
      · exact i2 _ (by omega) d hd
    · simp only [dg, List.mem_cons] at hd
      rcases hd with rfl | rfl | hd
      · omega
      · omega
      · exact i0 d hd
theorem pad_dg (s : List Nat) : pad ((dg 0 0 s).map al) = (3 - s.length % 3) % 3 := by
  unfold pad
  rw [List.length_map, dg_len3]
  have : s.length % 3 = 0 ∨ s.length % 3 = 1 ∨ s.length % 3 = 2 := by omega
  rcases this with h | h | h <;> rw [h] <;> simp <;> omega
theorem enc_len (s : List Nat) : (enc s).length ≤ 2 * s.length + 5 := by
  have := dg_len 0 0 s
  unfold enc pad
  simp
  omega
theorem hx_len (s : List Nat) : (hx s).length = 2 * s.length := by
  induction s with
  | nil => rfl
  | cons x r ih => simp only [hx, List.length_cons, ih]; omega
theorem hex_len (s : List Nat) : (hex s).length = 2 * s.length := by simp [hex, hx_len]
theorem ex_ok : g9ok realA = true := by kernel_rfl
theorem ex_is : g9r0 realA = true := by kernel_rfl
end Go.Sx.B7
namespace Go.Sx.B7
set_option linter.unusedSectionVars false
set_option linter.unusedVariables false
theorem get_at (s : List Nat) (hs : ∀ x ∈ s, x < 256) (i : Nat) : (((ByteArray.mk (s.map UInt8.ofNat).toArray).get! i).toNat) = s.getD i 0 := by
  have e : ∀ A : Array UInt8, (ByteArray.mk A).get! i = A[i]! := fun A => rfl
  rw [e, List.getD_eq_getElem?_getD]
  by_cases h : i < s.length
  · have h2 : i < (s.map UInt8.ofNat).toArray.size := by simpa using h
    rw [getElem!_pos (s.map UInt8.ofNat).toArray i h2, List.getElem?_eq_getElem h]
    have := hs _ (List.getElem_mem h)
    simp
    omega
  · rw [List.getElem?_eq_none (by omega), getElem!_neg (s.map UInt8.ofNat).toArray i (by simpa using h)]
    rfl
theorem rune_ascii {s : List Nat} (hs : ∀ x ∈ s, x < 256) {i c : Nat} (hc : s.getD i 0 = c) (h : c < 128) : runeN s i = c ∧ stepN s i = i + 1 := by
  have e := get_at s hs i
  rw [hc] at e
  unfold runeN stepN Utf8.decode
  simp only [Nat.add_zero, e, if_pos h, and_self]
theorem rune_big {s : List Nat} (hs : ∀ x ∈ s, x < 256) {i c : Nat} (hc : s.getD i 0 = c) (h : 128 ≤ c) (h2 : c < 256) : 128 ≤ runeN s i ∧ runeN s i ≤ 1114111 := by
  have e := get_at s hs i
  rw [hc] at e
  have f1 := get_at s hs (i + 1)
  have f2 := get_at s hs (i + 2)
  have f3 := get_at s hs (i + 3)
  unfold runeN Utf8.decode Utf8.valid Utf8.runeError
  simp only [Nat.add_zero, e]
  rw [if_neg (by omega)]
  generalize ((ByteArray.mk (s.map UInt8.ofNat).toArray).get! (i + 1)).toNat = b1
  generalize ((ByteArray.mk (s.map UInt8.ofNat).toArray).get! (i + 2)).toNat = b2
  generalize ((ByteArray.mk (s.map UInt8.ofNat).toArray).get! (i + 3)).toNat = b3
  simp only [Bool.and_eq_true, Bool.or_eq_true, beq_iff_eq, decide_eq_true_eq, ge_iff_le]
  repeat' split
  all_goals (simp only; omega)
def tk : Nat → List Nat → Option Nat
  | n, [] => some n
  | n, c :: r => if c < 48 ∨ 57 < c ∨ (4611686018427387904 - (c - 48)) / 10 < n then none else tk (n * 10 + (c - 48)) r
end Go.Sx.B7
namespace Go.Sx.B7
set_option linter.unusedSectionVars false
set_option linter.unusedVariables false
set_option maxRecDepth 100000
theorem idxB_no : ∀ (l : List Nat) (c : Nat), (∀ x ∈ l, x < 128) → 128 ≤ c → idxB l c = -1
  | [], _, _, _ => rfl
  | b :: l, c, h, hc => by
    have hb := h b (by simp)
    have ih := idxB_no l c (fun x hx => h x (by simp [hx])) hc
    simp only [idxB]
    rw [if_neg (by omega), if_pos ih]
theorem al64_lt : ∀ x ∈ al64, x < 128 := by decide
theorem g30_ok (a : List Nat) (b : Nat) : g30ok realA a b = true := rfl
theorem g30_r (a : List Nat) (b : Nat) : g30r0 realA a b = idxB a b := rfl
def lx (c : Nat) : Option Nat := if 65 ≤ c ∧ c ≤ 90 then some (c - 65) else if 97 ≤ c ∧ c ≤ 122 then some (c - 71) else if 48 ≤ c ∧ c ≤ 57 then some (c + 4) else if c = 43 then some 62 else if c = 47 then some 63 else none
def lxB (c : Nat) : Bool := idxRok realA (c : Int) && decide (idxR realA (c : Int) = (match lx c with
  | some v => (v : Int)
  | none => -1))
theorem lx_all : allB lxB 128 = true := by kernel_rfl
theorem lx_is {c : Nat} (h : c < 128) : idxRok realA (c : Int) = true ∧ idxR realA (c : Int) = (match lx c with
  | some v => (v : Int)
  | none => -1) := by
  have := allB_spec lx_all h
  simp only [lxB, Bool.and_eq_true] at this
  exact ⟨this.1, of_decide_eq_true this.2⟩
theorem lx_lt {c v : Nat} (h : lx c = some v) : v < 64 := by
  unfold lx at h
  repeat' split at h
  all_goals first
    | (simp only [Option.some.injEq] at h; omega)
    | cases h
theorem lx_big {c : Nat} (h : 128 ≤ c) : lx c = none := by
  unfold lx
  rw [if_neg (by omega), if_neg (by omega), if_neg (by omega), if_neg (by omega), if_neg (by omega)]
theorem runeS_is {r : Nat} (h : 128 ≤ r) (h2 : r ≤ 1114111) : ∃ l b, runeS (r : Int) = l ++ [b] ∧ 128 ≤ b ∧ b < 256 ∧ 1 ≤ l.length ∧ l.length ≤ 3 := by
  unfold runeS Utf8.encode
  generalize hc : (if Utf8.valid (r : Int) then ((r : Int)).toNat else Utf8.runeError) = c
  have hc1 : 128 ≤ c := by
    rw [← hc]
    split
    · omega
    · decide
  simp only []
  rw [if_neg (by omega)]
  split
  · exact ⟨[_], _, rfl, by simp [UInt8.toNat_ofNat']; omega, by simp [UInt8.toNat_ofNat']; omega, by simp, by simp⟩
  · split
    · exact ⟨[_, _], _, rfl, by simp [UInt8.toNat_ofNat']; omega, by simp [UInt8.toNat_ofNat']; omega, by simp, by simp⟩
    · exact ⟨[_, _, _], _, rfl, by simp [UInt8.toNat_ofNat']; omega, by simp [UInt8.toNat_ofNat']; omega, by simp, by simp⟩
theorem g38_ok (r : Nat) : g38ok realA (r : Int) = true := by
  unfold g38ok g38v g38
  cases realA.ic .leq 0 (r : Int) <;> cases realA.ic .lss (r : Int) 55296 <;> cases realA.ic .lss 57343 (r : Int) <;> cases realA.ic .leq (r : Int) 1114111 <;> rfl
attribute [local irreducible] runeS g38ok g38r0 g30ok g30r0
theorem big_v {r : Nat} (h : 128 ≤ r) (h2 : r ≤ 1114111) (h3 : r ≠ 65533) : g28v realA al64 (r : Int) = some (.v (.cell (.int .i64 (-1)))) := by
  have e1 : realA.ic .leq 0 (r : Int) = true := by rw [ar_leq]; exact decide_eq_true (by omega)
  have e2 : realA.ic .lss (r : Int) 128 = false := by rw [ar_lss]; exact decide_eq_false (by omega)
  have e3 : realA.ic .eql (r : Int) 65533 = false := by rw [ar_eql]; exact decide_eq_false (by omega)
  unfold g28v g28
  simp only [e1, e2, e3, g38_ok]
  cases g38r0 realA (r : Int) with
  | false => rfl
  | true =>
    obtain ⟨l, b, hl, hb, hb2, hl1, hl3⟩ := runeS_is h h2
    simp only [Bool.not_true, hl]
    have len : (l ++ [b]).length = l.length + 1 := by simp
    have e4 : realA.ib .sub .i64 (realA.ofN (l ++ [b]).length) 1 = ((l.length : Nat) : Int) := by rw [ar_ofN, len, ar_sub (by omega)]; omega
    have e5 : realA.ic .lss ((l.length : Nat) : Int) (realA.ofN al64.length) = true := by rw [ar_ofN, ar_lss]; exact decide_eq_true (by show (l.length : Int) < ((64 : Nat) : Int); omega)
    have e6 : realA.lt l.length al64.length = true := decide_eq_true (by show l.length < 64; omega)
    have e7 : realA.lt l.length (l ++ [b]).length = true := decide_eq_true (by omega)
    have e8 : (l ++ [b]).getD l.length 0 = b := by simp
    have hal : al64.getD l.length 0 < 128 := by
      rw [List.getD_eq_getElem?_getD, List.getElem?_eq_getElem (show l.length < al64.length by show l.length < 64; omega)]
      exact al64_lt _ (List.getElem_mem _)
    have e9 : realA.nc .neq (al64.getD l.length 0) b = true := by rw [ar_nneq, decide_eq_false (by omega)]; rfl
    have e10 : realA.ib .add .i64 ((l.length : Nat) : Int) 1 = ((l.length + 1 : Nat) : Int) := inc (by omega)
    have e11 : realA.le (l.length + 1) al64.length = true := decide_eq_true (by show l.length + 1 ≤ 64; omega)
    have e12 : idxB ((al64.take al64.length).drop (l.length + 1)) b = -1 := idxB_no _ _ (fun x hx => al64_lt x (List.mem_of_mem_take (List.mem_of_mem_drop hx))) hb
    have e13 : realA.ic .lss (-1) 0 = true := by kernel_rfl
    simp only [e4]
    show g28L5 realA 10000000 (fun v _ => some v) (9999999 + 1) al64 (l ++ [b]) (l.length : Int) (l.length : Int) = _
    rw [g28L5, e5]
    simp only [g28J6, ar_negN, ar_toNN, e6, e7, e8, e9, e10, e11, g30_ok, g30_r, e12, e13]
theorem big_is {r : Nat} (h : 128 ≤ r) (h2 : r ≤ 1114111) : idxRok realA (r : Int) = true ∧ idxR realA (r : Int) = -1 := by
  unfold idxRok idxR
  by_cases h3 : r = 65533
  · have : realA.ic .eql (r : Int) 65533 = true := by rw [ar_eql]; exact decide_eq_true (by omega)
    rw [this]; exact ⟨rfl, rfl⟩
  · have : realA.ic .eql (r : Int) 65533 = false := by rw [ar_eql]; exact decide_eq_false (by omega)
    rw [this]
    unfold g28ok g28r0
    rw [big_v h h2 h3]
    exact ⟨rfl, rfl⟩
def strip (l : List Nat) : List Nat := (l.reverse.dropWhile (fun c => c == 61)).reverse
theorem strip_snoc (l : List Nat) (c : Nat) : strip (l ++ [c]) = if c = 61 then strip l else l ++ [c] := by
  unfold strip
  rw [List.reverse_append]
  simp only [List.reverse_cons, List.reverse_nil, List.nil_append, List.singleton_append, List.dropWhile_cons]
  by_cases h : c = 61
  · simp [h]
  · have : (c == 61) = false := by simpa using h
    simp [h, this]
theorem trim_run (N : Nat) : ∀ (k : Nat) (l : List Nat) (m : Nat), l.length = k → k < m → k < 4611686018427387904 → g34L1 realA N (fun v _ => some v) m l 61 = some (.v (.cell (.str (strip l)))) := by
  intro k
  induction k with
  | zero =>
    intro l m hk hm _
    obtain ⟨m, rfl⟩ : ∃ j, m = j + 1 := ⟨m - 1, by omega⟩
    have : l = [] := List.eq_nil_of_length_eq_zero hk
    subst this
    rfl
  | succ k ih =>
    intro l m hk hm hlt
    obtain ⟨m, rfl⟩ : ∃ j, m = j + 1 := ⟨m - 1, by omega⟩
    have hne : l ≠ [] := fun h => by subst h; simp at hk
    have hsp := List.dropLast_concat_getLast hne
    obtain ⟨a, c, rfl⟩ : ∃ a c, l = a ++ [c] := ⟨_, _, hsp.symm⟩
    have hla : a.length = k := by simpa using hk
    have len : (a ++ [c]).length = k + 1 := by simp [hla]
    have e1 : realA.ic .gtr (realA.ofN (a ++ [c]).length) 0 = true := by rw [ar_ofN, len, ar_gtr]; exact decide_eq_true (by omega)
    have e2 : realA.ib .sub .i64 (realA.ofN (a ++ [c]).length) 1 = (k : Int) := by rw [ar_ofN, len, ar_sub (by omega)]; omega
    have e3 : realA.lt k (a ++ [c]).length = true := decide_eq_true (by omega)
    have e4 : (a ++ [c]).getD k 0 = c := by rw [← hla]; simp
    have e5 : realA.le k (a ++ [c]).length = true := decide_eq_true (by omega)
    have e6 : ((a ++ [c]).take k).drop 0 = a := by rw [← hla]; simp
    rw [g34L1, e1]
    simp only [e2, ar_negN, ar_toNN, e3, e4, ar_neql, strip_snoc]
    by_cases hc : c = 61
    · rw [decide_eq_true hc, if_pos hc]
      simp only [g34J2, e2, ar_negN, ar_toNN, e5, e6]
      exact ih a m hla (by omega) (by omega)
    · rw [decide_eq_false hc, if_neg hc]
theorem strip_le (l : List Nat) : (strip l).length ≤ l.length := by
  unfold strip
  rw [List.length_reverse]
  have := (List.dropWhile_suffix (fun c => c == 61) (l := l.reverse)).length_le
  rwa [List.length_reverse] at this
theorem strip_mem {l : List Nat} {x : Nat} (h : x ∈ strip l) : x ∈ l := by
  unfold strip at h
  rw [List.mem_reverse] at h
  have := (List.dropWhile_suffix (fun c => c == 61) (l := l.reverse)).subset h
  simpa using this
theorem strip_rep (l : List Nat) (n : Nat) : strip (l ++ List.replicate n 61) = strip l := by
  induction n with
  | zero => simp
  | succ n ih => rw [List.replicate_succ', ← List.append_assoc, strip_snoc, if_pos rfl, ih]
theorem strip_of {l : List Nat} (h : ∀ c ∈ l, c ≠ 61) : strip l = l := by
  by_cases hne : l = []
  · subst hne; rfl
  · have hsp := List.dropLast_concat_getLast hne
    rw [← hsp, strip_snoc, if_neg (h _ (List.getLast_mem hne))]
theorem trim_v (s : List Nat) (hs : s.length < 4000000) : g34v realA s 61 = some (.v (.cell (.str (strip s)))) := trim_run 10000000 s.length s 10000000 rfl (by omega) (by omega)
attribute [local irreducible] g34v
theorem trim_is (s : List Nat) (hs : s.length < 4000000) : g27ok realA s [61] = true ∧ g27r0 realA s [61] = strip s := by
  have ok : g34ok realA s 61 = true := by unfold g34ok; rw [trim_v s hs]; rfl
  have r0 : g34r0 realA s 61 = strip s := by unfold g34r0; rw [trim_v s hs]; rfl
  have v : g27v realA s [61] = some (.v (.cell (.str (strip s)))) := by
    unfold g27v g27
    rw [ar_sceq]
    by_cases h : s = []
    · subst h; rfl
    · rw [decide_eq_false h]
      have e1 : realA.sc .eql [61] [] = false := by kernel_rfl
      have e2 : realA.ic .eql (realA.ofN [61].length) 1 = true := by kernel_rfl
      have e3 : Nat.blt 0 [61].length = true := by kernel_rfl
      have e4 : realA.nc .lss ([61].getD 0 0) 128 = true := by kernel_rfl
      simp only [e1, g27J3, e2, e3, e4, List.getD_cons_zero, ok, r0]
      rfl
  unfold g27ok g27r0
  rw [v]
  exact ⟨rfl, rfl⟩
end Go.Sx.B7
namespace Go.Sx.B7
set_option linter.unusedSectionVars false
open Go.Proofs
set_option linter.unusedVariables false
set_option maxRecDepth 100000
attribute [local irreducible] g12Sb11v g12Sb11c0 g12Sb11r0_0 g12Sb11r0_1 g12Sb11r0_2 g12Sb11r0_3 g12Sb11r0_4 g12Sb11r0_5 g12Sb11a_v g12Sb11a_c0 g12Sb11a_r0_0 g12Sb11a_r0_1 g12Sb11a_r0_2 g12Sb11a_r0_3 g12Sb11a_r0_4 g12Sb11a_r0_5
def RS1 (s : List Nat) (k c : Nat) (t l : List Nat) : Option Heap := some [(410, ⟨[.one (.ptr 410 0 none), .one (.sl 415 none k 1)], 36, 1⟩), (411, ⟨[.one (.sl 13004 none 1 1)], 34, 1⟩), (412, ⟨[.one (.str s)], 9, 1⟩), (413, ⟨[.one (.int .i64 6)], 3, 1⟩), (414, ⟨[.one (.int .i64 8)], 3, 1⟩), (415, ⟨[.nums .u8 c t], 5, 0⟩), (448, ⟨[], 0, 0⟩), (13004, ⟨[.nums .u8 1 l], 5, 2⟩)]
theorem i0 : realA.ib .add .i64 0 1 = ((0 + 1 : Nat) : Int) := by kernel_rfl
theorem first {x : Nat} {r t : List Nat} {k c : Nat} (hx : x < 64) : g12Si11v realA c t k (x :: r) 6 8 = g12Si11L2 realA (9999996 + 4) KG 9999999 6 (x : Int) ((x :: r).length : Int) ((1 : Nat) : Int) k (x :: r) 6 8 c t := by
  have hi : 0 < (x :: r).length := by simp
  have hv := o6_is (v := 0) (x := x) (by omega) hx
  simp only [Nat.mul_zero, Nat.zero_add] at hv
  have lss : realA.ic .lss 0 ((x :: r).length : Int) = true := lssT (i := 0) hi
  show g12Si11 realA (9999996 + 4) KG c t k (x :: r) 6 8 = _
  unfold g12Si11
  show g12Si11L2 realA (9999996 + 4) KG (9999999 + 1) 0 0 _ 0 k (x :: r) 6 8 c t = _
  rw [g12Si11L2, ofn, lss]
  simp only [g12Si11J3, n6, n0, t0, ltT hi, b06, t6, List.getD_cons_zero, ofn]
  erw [hv]
  rw [g12Si11L5, v68]
  simp only [g12Si11J8a, n6, t6, m6_is hx, i0]
theorem it_one {x : Nat} {t : List Nat} {k c : Nat} (hx : x < 64) : g12Si11v realA c t k [x] 6 8 = RS1 [x] k c t [x * 4] := by
  have e1 := l8_is (w := x) (k := 2) (by omega) (by decide)
  have hd : x * 2 ^ 2 % 256 = x * 4 := by omega
  rw [hd] at e1
  have hd6 : x * 4 < 256 := by omega
  have lF : realA.ic .lss ((1 : Nat) : Int) ([x].length : Int) = false := lssF (i := 1) (by simp)
  rw [first hx]
  show g12Si11L2 realA (9999996 + 4) KG (9999998 + 1) 6 (x : Int) _ _ k [x] 6 8 c t = _
  rw [g12Si11L2, lF]
  simp only [g12Si11J10a, p6, u86, n2, n8, t2, t8, m255, e1, q0c hd6, q00 hd6, q01 hd6, q02 hd6, q03 hd6, q04 hd6, q05 hd6]
  rfl
theorem it_more {x y : Nat} {r t : List Nat} {k c : Nat} (hs : ∀ z ∈ x :: y :: r, z < 64) (hl : (x :: y :: r).length < 4000000) : g12Si11v realA c t k (x :: y :: r) 6 8 = RS (x :: y :: r) k c t (g8 0 0 (x :: y :: r)) := by
  have hx : x < 64 := hs x (by simp)
  have hy : y < 64 := hs y (by simp)
  have hv := o6_is (v := x) (x := y) hx hy
  have e1 := (d8_is (w := 64 * x + y) (by omega)).2.2
  have hd : (64 * x + y) / 2 ^ 4 % 256 = x * 4 + y / 16 := by omega
  rw [hd] at e1
  have hd6 : x * 4 + y / 16 < 256 := by omega
  have e2 := mk_is (w := 64 * x + y) (k := 4) (by omega) (by decide)
  have e4 : (64 * x + y) % 2 ^ 4 = y % 16 := by omega
  rw [e4] at e2
  have hi : 1 < (x :: y :: r).length := by simp
  have hg : (x :: y :: r).getD 1 0 = y := rfl
  have fin := (grun (s := x :: y :: r) (n := 9999996) (k := k) (c := c) (t := t) hs (by omega) r 9999998 2 [x * 4 + y / 16] rfl (by simp at hl ⊢; omega) (by simp at hl ⊢; omega)).2.2.1 (y % 16) (by omega)
  have i1 : realA.ib .add .i64 ((1 : Nat) : Int) 1 = ((1 + 1 : Nat) : Int) := inc (by omega)
  rw [first hx]
  show g12Si11L2 realA (9999996 + 4) KG (9999998 + 1) 6 (x : Int) _ _ k (x :: y :: r) 6 8 c t = _
  rw [g12Si11L2, lssT hi]
  simp only [g12Si11J3, n6, ar_negN, ltT hi, b66, t6, ar_toNN, hg, ofn]
  erw [hv]
  rw [g12Si11L5, v128]
  simp only [g12Si11J6, u128, n4, n8, t4, t8, m255, e1, q0c hd6, q00 hd6, q01 hd6, q02 hd6, q03 hd6, q04 hd6, q05 hd6]
  rw [g12Si11L5a, v48]
  simp only [g12Si11J8, n4, t4, e2, i1]
  exact fin
theorem it_none : g12Si11a_v realA [] 6 8 = some [(410, ⟨[.one .nilp, .one .nils], 36, 1⟩), (411, ⟨[.one .nils], 34, 1⟩), (412, ⟨[.one (.str [])], 9, 1⟩), (413, ⟨[.one (.int .i64 6)], 3, 1⟩), (414, ⟨[.one (.int .i64 8)], 3, 1⟩), (448, ⟨[], 0, 0⟩)] := by kernel_rfl
attribute [local irreducible] g12Si11v g12Si11a_v
def outD (s : List Nat) (t : List Nat) : Option AV := if enc t = s then some (.tup [.cell (.str t), .cell (.bool true)]) else some (.tup [.cell (.str []), .cell (.bool false)])
theorem ln24 (n c : Nat) (l : List Nat) : g24ok realA n c l = true ∧ g24r0 realA n c l = (n : Int) := ⟨rfl, rfl⟩
theorem quo8 {k : Nat} (h : k < 4000000) : realA.ib .quo .i64 (realA.ib .mul .i64 (k : Int) 6) 8 = ((k * 6 / 8 : Nat) : Int) := by
  rw [ar_mul (by omega), ar_quo (by omega) (by omega) (by omega)]
  omega
theorem J13_v (sI : List Nat) (N : Nat) {s : List Nat} {k n : Nat} {x3 : List Nat} {x4 x5 : Int} {c : Nat} {t : List Nat} {cap : Nat} {o : List Nat} (hk : k < 4000000) (hn : k * 6 / 8 ≤ n) (ho : ∀ x ∈ o, x < 256) (hl : o.length < 4000000) :
    g12SJ13 realA sI N (fun v _ => some v) s k n x3 x4 x5 c t cap o = outD s (o.take (k * 6 / 8)) ∧ g12SJ13a realA sI N (fun v _ => some v) s k n x3 x4 x5 c t cap o = outD s (o.take (k * 6 / 8)) := by
  obtain ⟨e1, e2⟩ := ln24 k c t
  have hb : ∀ x ∈ o.take (k * 6 / 8), x < 256 := fun x hx => ho x (List.mem_of_mem_take hx)
  have hlt : (o.take (k * 6 / 8)).length < 4000000 := by rw [List.length_take]; omega
  have e3 : realA.le (k * 6 / 8) n = true := decide_eq_true hn
  constructor
  · unfold g12SJ13 outD
    simp only [e1, e2, quo8 hk, ar_negN, ar_toNN, e3, enc_ok hb hlt, enc_is hb hlt, ar_scne]
    by_cases h : enc (o.take (k * 6 / 8)) = s
    · rw [decide_eq_true h, if_pos h]; rfl
    · rw [decide_eq_false h, if_neg h]; rfl
  · unfold g12SJ13a outD
    simp only [e1, e2, quo8 hk, ar_negN, ar_toNN, e3, enc_ok hb hlt, enc_is hb hlt, ar_scne]
    by_cases h : enc (o.take (k * 6 / 8)) = s
    · rw [decide_eq_true h, if_pos h]; rfl
    · rw [decide_eq_false h, if_neg h]; rfl
theorem g8_all : ∀ (r : List Nat), (∀ x ∈ r, x < 64) → ((∀ y ∈ g8 0 0 r, y < 256) ∧ (g8 0 0 r).length = (6 * r.length + 7) / 8) ∧ (∀ v, v < 64 → (∀ y ∈ g8 1 v r, y < 256) ∧ (g8 1 v r).length = (6 * r.length + 13) / 8) ∧ (∀ v, v < 16 → (∀ y ∈ g8 2 v r, y < 256) ∧ (g8 2 v r).length = (6 * r.length + 11) / 8) ∧ (∀ v, v < 4 → (∀ y ∈ g8 3 v r, y < 256) ∧ (g8 3 v r).length = (6 * r.length + 9) / 8)
  | [], _ => by
    refine ⟨⟨fun y hy => by simp [g8] at hy, rfl⟩, fun v hv => ⟨fun y hy => ?_, rfl⟩, fun v hv => ⟨fun y hy => ?_, rfl⟩, fun v hv => ⟨fun y hy => ?_, rfl⟩⟩
    all_goals (simp [g8] at hy; omega)
  | x :: r, h => by
    have hx := h x (by simp)
    obtain ⟨⟨a0, b0⟩, i1, i2, i3⟩ := g8_all r (fun y hy => h y (by simp [hy]))
    refine ⟨?_, fun v hv => ?_, fun v hv => ?_, fun v hv => ?_⟩
    · obtain ⟨a, b⟩ := i1 x hx
      refine ⟨a, ?_⟩
      show (g8 1 x r).length = _
      rw [b, List.length_cons]; omega
    · obtain ⟨a, b⟩ := i2 (x % 16) (by omega)
      refine ⟨fun y hy => ?_, ?_⟩
      · simp only [g8, List.mem_cons] at hy
        rcases hy with rfl | hy
        · omega
        · exact a y hy
      · simp only [g8, List.length_cons, b]; omega
    · obtain ⟨a, b⟩ := i3 (x % 4) (by omega)
      refine ⟨fun y hy => ?_, ?_⟩
      · simp only [g8, List.mem_cons] at hy
        rcases hy with rfl | hy
        · omega
        · exact a y hy
      · simp only [g8, List.length_cons, b]; omega
    · refine ⟨fun y hy => ?_, ?_⟩
      · simp only [g8, List.mem_cons] at hy
        rcases hy with rfl | hy
        · omega
        · exact a0 y hy
      · simp only [g8, List.length_cons, b0]; omega
def unb (p : List Nat) : List Nat := (g8 0 0 p).take (p.length * 6 / 8)
theorem end_v (sI : List Nat) (N : Nat) {s p : List Nat} (hne : p ≠ []) (hp : ∀ x ∈ p, x < 64) (hl : p.length < 4000000) : (match g26ok realA p.length p.length p with
    | true => match g12Si11c0 realA (g26r2 realA p.length p.length p) (g26r3 realA p.length p.length p) (g26r1 realA p.length p.length p) (g26r0 realA p.length p.length p) 6 8 with
      | true => g12SJ13 realA sI N (fun v _ => some v) s (g12Si11r0_0 realA (g26r2 realA p.length p.length p) (g26r3 realA p.length p.length p) (g26r1 realA p.length p.length p) (g26r0 realA p.length p.length p) 6 8) (g12Si11r0_1 realA (g26r2 realA p.length p.length p) (g26r3 realA p.length p.length p) (g26r1 realA p.length p.length p) (g26r0 realA p.length p.length p) 6 8) (g12Si11r0_2 realA (g26r2 realA p.length p.length p) (g26r3 realA p.length p.length p) (g26r1 realA p.length p.length p) (g26r0 realA p.length p.length p) 6 8) (g12Si11r0_3 realA (g26r2 realA p.length p.length p) (g26r3 realA p.length p.length p) (g26r1 realA p.length p.length p) (g26r0 realA p.length p.length p) 6 8) (g12Si11r0_4 realA (g26r2 realA p.length p.length p) (g26r3 realA p.length p.length p) (g26r1 realA p.length p.length p) (g26r0 realA p.length p.length p) 6 8) (g12Si11r0_5 realA (g26r2 realA p.length p.length p) (g26r3 realA p.length p.length p) (g26r1 realA p.length p.length p) (g26r0 realA p.length p.length p) 6 8) (g12Si11r0_6 realA (g26r2 realA p.length p.length p) (g26r3 realA p.length p.length p) (g26r1 realA p.length p.length p) (g26r0 realA p.length p.length p) 6 8) (g12Si11r0_7 realA (g26r2 realA p.length p.length p) (g26r3 realA p.length p.length p) (g26r1 realA p.length p.length p) (g26r0 realA p.length p.length p) 6 8) (g12Si11r0_8 realA (g26r2 realA p.length p.length p) (g26r3 realA p.length p.length p) (g26r1 realA p.length p.length p) (g26r0 realA p.length p.length p) 6 8)
      | false => match g12Si11c1 realA (g26r2 realA p.length p.length p) (g26r3 realA p.length p.length p) (g26r1 realA p.length p.length p) (g26r0 realA p.length p.length p) 6 8 with
        | true => g12SJ13a realA sI N (fun v _ => some v) s (g12Si11r1_0 realA (g26r2 realA p.length p.length p) (g26r3 realA p.length p.length p) (g26r1 realA p.length p.length p) (g26r0 realA p.length p.length p) 6 8) (g12Si11r1_1 realA (g26r2 realA p.length p.length p) (g26r3 realA p.length p.length p) (g26r1 realA p.length p.length p) (g26r0 realA p.length p.length p) 6 8) (g12Si11r1_2 realA (g26r2 realA p.length p.length p) (g26r3 realA p.length p.length p) (g26r1 realA p.length p.length p) (g26r0 realA p.length p.length p) 6 8) (g12Si11r1_3 realA (g26r2 realA p.length p.length p) (g26r3 realA p.length p.length p) (g26r1 realA p.length p.length p) (g26r0 realA p.length p.length p) 6 8) (g12Si11r1_4 realA (g26r2 realA p.length p.length p) (g26r3 realA p.length p.length p) (g26r1 realA p.length p.length p) (g26r0 realA p.length p.length p) 6 8) (g12Si11r1_5 realA (g26r2 realA p.length p.length p) (g26r3 realA p.length p.length p) (g26r1 realA p.length p.length p) (g26r0 realA p.length p.length p) 6 8) (g12Si11r1_6 realA (g26r2 realA p.length p.length p) (g26r3 realA p.length p.length p) (g26r1 realA p.length p.length p) (g26r0 realA p.length p.length p) 6 8) (g12Si11r1_7 realA (g26r2 realA p.length p.length p) (g26r3 realA p.length p.length p) (g26r1 realA p.length p.length p) (g26r0 realA p.length p.length p) 6 8) (g12Si11r1_8 realA (g26r2 realA p.length p.length p) (g26r3 realA p.length p.length p) (g26r1 realA p.length p.length p) (g26r0 realA p.length p.length p) 6 8)
        | false => match g12Si11c2 realA (g26r2 realA p.length p.length p) (g26r3 realA p.length p.length p) (g26r1 realA p.length p.length p) (g26r0 realA p.length p.length p) 6 8 with
          | true => g12SJ13b realA sI N (fun v _ => some v) s (g12Si11r2_0 realA (g26r2 realA p.length p.length p) (g26r3 realA p.length p.length p) (g26r1 realA p.length p.length p) (g26r0 realA p.length p.length p) 6 8) (g12Si11r2_1 realA (g26r2 realA p.length p.length p) (g26r3 realA p.length p.length p) (g26r1 realA p.length p.length p) (g26r0 realA p.length p.length p) 6 8) (g12Si11r2_2 realA (g26r2 realA p.length p.length p) (g26r3 realA p.length p.length p) (g26r1 realA p.length p.length p) (g26r0 realA p.length p.length p) 6 8) (g12Si11r2_3 realA (g26r2 realA p.length p.length p) (g26r3 realA p.length p.length p) (g26r1 realA p.length p.length p) (g26r0 realA p.length p.length p) 6 8) (g12Si11r2_4 realA (g26r2 realA p.length p.length p) (g26r3 realA p.length p.length p) (g26r1 realA p.length p.length p) (g26r0 realA p.length p.length p) 6 8) (g12Si11r2_5 realA (g26r2 realA p.length p.length p) (g26r3 realA p.length p.length p) (g26r1 realA p.length p.length p) (g26r0 realA p.length p.length p) 6 8)
          | false => none
    | false => none) = outD s (unb p) := by
  have hpos := List.length_pos_iff.2 hne
  have e1 : g26ok realA p.length p.length p = true := decide_eq_true hpos
  have e2 : g26r0 realA p.length p.length p = p := List.take_length
  have e3 : g26r1 realA p.length p.length p = p.length := rfl
  have e4 : g26r2 realA p.length p.length p = p.length := rfl
  have e5 : g26r3 realA p.length p.length p = p := rfl
  obtain ⟨⟨hb, hlen⟩, _⟩ := g8_all p hp
  simp only [e1, e2, e3, e4, e5]
  match p, hne, hp, hl, hpos, hb, hlen with
  | [x], _, hp, hl, _, hb, hlen =>
    have it := it_one (x := x) (t := [x]) (k := 1) (c := 1) (hp x (by simp))
    have c0 : g12Si11c0 realA [x].length [x] [x].length [x] 6 8 = false := by unfold g12Si11c0; rw [show g12Si11v realA [x].length [x] [x].length [x] 6 8 = _ from it]; rfl
    have c1 : g12Si11c1 realA [x].length [x] [x].length [x] 6 8 = true := by unfold g12Si11c1; rw [show g12Si11v realA [x].length [x] [x].length [x] 6 8 = _ from it]; rfl
    have r0 : g12Si11r1_0 realA [x].length [x] [x].length [x] 6 8 = 1 := by unfold g12Si11r1_0; rw [show g12Si11v realA [x].length [x] [x].length [x] 6 8 = _ from it]; rfl
    have r1 : g12Si11r1_1 realA [x].length [x] [x].length [x] 6 8 = 1 := by unfold g12Si11r1_1; rw [show g12Si11v realA [x].length [x] [x].length [x] 6 8 = _ from it]; rfl
    have r8 : g12Si11r1_8 realA [x].length [x] [x].length [x] 6 8 = [x * 4] := by unfold g12Si11r1_8; rw [show g12Si11v realA [x].length [x] [x].length [x] 6 8 = _ from it]; rfl
    simp only [c0, c1, r0, r1, r8]
    rw [(J13_v sI N (k := 1) (n := 1) (o := [x * 4]) (by omega) (by omega) hb (by simp)).2]
    rfl
  | x :: y :: r, _, hp, hl, _, hb, hlen =>
    have it := it_more (x := x) (y := y) (r := r) (t := x :: y :: r) (k := (x :: y :: r).length) (c := (x :: y :: r).length) hp hl
    have c0 : g12Si11c0 realA (x :: y :: r).length (x :: y :: r) (x :: y :: r).length (x :: y :: r) 6 8 = true := by unfold g12Si11c0; rw [it]; rfl
    have r0 : g12Si11r0_0 realA (x :: y :: r).length (x :: y :: r) (x :: y :: r).length (x :: y :: r) 6 8 = (x :: y :: r).length := by unfold g12Si11r0_0; rw [it]; rfl
    have r1 : g12Si11r0_1 realA (x :: y :: r).length (x :: y :: r) (x :: y :: r).length (x :: y :: r) 6 8 = (g8 0 0 (x :: y :: r)).length := by unfold g12Si11r0_1; rw [it]; rfl
    have r8 : g12Si11r0_8 realA (x :: y :: r).length (x :: y :: r) (x :: y :: r).length (x :: y :: r) 6 8 = g8 0 0 (x :: y :: r) := by unfold g12Si11r0_8; rw [it]; rfl
    simp only [c0, r0, r1, r8]
    exact (J13_v sI N hl (by omega) hb (by omega)).1
end Go.Sx.B7
namespace Go.Sx.B7
set_option linter.unusedSectionVars false
open Go.Proofs
set_option linter.unusedVariables false
set_option maxRecDepth 100000
attribute [local irreducible] g12Si11v g12Si11a_v g23ok g23r0 g23r1 g23r2 g23a_ok g23a_r0 g23a_r1 g23a_r2
def lets : List Nat → Option (List Nat)
  | [] => some []
  | c :: r => match lx c with
    | none => none
    | some v => (lets r).map (v :: ·)
def no : Option AV := some (.tup [.cell (.str []), .cell (.bool false)])
def outL (s pre r : List Nat) : Option AV := match lets r with
  | none => no
  | some vs => outD s (unb (pre ++ vs))
theorem outL_cons {s pre r : List Nat} {c v : Nat} (h : lx c = some v) : outL s pre (c :: r) = outL s (pre ++ [v]) r := by
  unfold outL
  simp only [lets, h]
  cases lets r <;> simp
theorem outL_no {s pre r : List Nat} {c : Nat} (h : lx c = none) : outL s pre (c :: r) = no := by
  unfold outL
  simp only [lets, h]
section
variable {u : List Nat} {N : Nat} {s x1 : List Nat}
theorem letter (hu : ∀ x ∈ u, x < 256) {p c : Nat} (hg : u.getD p 0 = c) (hc : c < 256) : idxRok realA ((runeN u p : Nat) : Int) = true ∧ ((lx c = none ∧ realA.ic .lss (idxR realA ((runeN u p : Nat) : Int)) 0 = true) ∨ ∃ v, lx c = some v ∧ v < 64 ∧ idxR realA ((runeN u p : Nat) : Int) = (v : Int) ∧ stepN u p = p + 1) := by
  by_cases h : c < 128
  · obtain ⟨q1, q2⟩ := rune_ascii hu hg h
    obtain ⟨e1, e2⟩ := lx_is h
    rw [q1]
    refine ⟨e1, ?_⟩
    cases hl : lx c with
    | none => rw [hl] at e2; rw [e2]; exact .inl ⟨rfl, by kernel_rfl⟩
    | some v => rw [hl] at e2; exact .inr ⟨v, rfl, lx_lt hl, e2, q2⟩
  · obtain ⟨q1, q2⟩ := rune_big hu hg (by omega) hc
    obtain ⟨e1, e2⟩ := big_is q1 q2
    rw [e2]
    exact ⟨e1, .inl ⟨lx_big (by omega), by kernel_rfl⟩⟩
theorem lssN (v : Nat) : realA.ic .lss (v : Int) 0 = false := by rw [ar_lss]; exact decide_eq_false (by omega)
theorem L3b_run (hu : ∀ x ∈ u, x < 256) : ∀ (r : List Nat) (m p : Nat) (pre : List Nat), u.drop p = r → r.length < m → pre ≠ [] → (∀ x ∈ pre, x < 64) → pre.length + r.length < 4000000 →
    g12SL3b realA u N (fun v _ => some v) m s x1 p pre.length pre pre.length = outL s pre r := by
  intro r
  induction r with
  | nil =>
    intro m p pre hd hm hne hp hl
    obtain ⟨m, rfl⟩ : ∃ k, m = k + 1 := ⟨m - 1, by simp only [List.length_nil] at hm; omega⟩
    have e : realA.lt p u.length = false := decide_eq_false (by have := drop_nil hd; omega)
    rw [g12SL3b, e]
    refine (end_v u N hne hp (by simpa using hl)).trans ?_
    unfold outL
    simp only [lets, List.append_nil]
  | cons c r ih =>
    intro m p pre hd hm hne hp hl
    simp only [List.length_cons] at hm hl
    obtain ⟨m, rfl⟩ : ∃ k, m = k + 1 := ⟨m - 1, by omega⟩
    obtain ⟨hg, hi, hd'⟩ := getD_drop hd
    have hc : c < 256 := hu c (by
      have : c ∈ u.drop p := by rw [hd]; simp
      exact List.mem_of_mem_drop this)
    obtain ⟨e1, e2⟩ := letter hu hg hc
    rw [g12SL3b, ltT hi]
    simp only [g12SJ4a, ofn, e1]
    rcases e2 with ⟨h1, h2⟩ | ⟨v, h1, h2, h3, h4⟩
    · rw [h2, outL_no h1]; rfl
    · have hl2 : pre.length < 140737488355328 := by omega
      have hlen : (pre ++ [v]).length = pre.length + 1 := by simp
      rw [outL_cons h1, ← ih m (p + 1) (pre ++ [v]) hd' (by omega) (by simp) (fun x hx => by
        rcases List.mem_append.1 hx with hx | hx
        · exact hp x hx
        · simp at hx; omega) (by rw [hlen]; omega), hlen]
      simp only [h3, lssN, i2b (show v < 256 by omega), h4, w1ok _ _ _ hl2, w1r0 _ _ _ hl2, w1r1 _ _ _ hl2, w1r2 _ _ _ hl2]
theorem L3a_run (hu : ∀ x ∈ u, x < 256) (r : List Nat) (m p v0 : Nat) (hd : u.drop p = r) (hm : r.length < m) (hv0 : v0 < 64) (hl : r.length < 3999999) :
    g12SL3a realA u N (fun v _ => some v) m s x1 p 1 1 [v0] = outL s [v0] r := by
  obtain ⟨m, rfl⟩ : ∃ k, m = k + 1 := ⟨m - 1, by omega⟩
  cases r with
  | nil =>
    have e : realA.lt p u.length = false := decide_eq_false (by have := drop_nil hd; omega)
    rw [g12SL3a, e]
    refine (end_v u N (p := [v0]) (by simp) (by simp; exact hv0) (by simp)).trans ?_
    unfold outL
    simp only [lets, List.append_nil]
  | cons c r =>
    simp only [List.length_cons] at hm hl
    obtain ⟨hg, hi, hd'⟩ := getD_drop hd
    have hc : c < 256 := hu c (by
      have : c ∈ u.drop p := by rw [hd]; simp
      exact List.mem_of_mem_drop this)
    obtain ⟨e1, e2⟩ := letter hu hg hc
    rw [g12SL3a, ltT hi]
    simp only [g12SJ4a, ofn, e1]
    rcases e2 with ⟨h1, h2⟩ | ⟨v, h1, h2, h3, h4⟩
    · rw [h2, outL_no h1]; rfl
    · have hl2 : [v0].length < 140737488355328 := by simp
      have := L3b_run (N := N) (s := s) (x1 := x1) hu r m (p + 1) ([v0] ++ [v]) hd' (by omega) (by simp) (fun x hx => by simp at hx; omega) (by simp; omega)
      rw [outL_cons h1, ← this]
      simp only [h3, lssN, i2b (show v < 256 by omega), h4, w1ok _ _ _ hl2, w1r0 _ _ _ hl2, w1r1 _ _ _ hl2, w1r2 _ _ _ hl2]
      rfl
theorem L3_run (hu : ∀ x ∈ u, x < 256) (hl : u.length < 3999999) (hN : u.length + 1 < N) : g12SL3 realA u N (fun v _ => some v) N s x1 0 = outL s [] u := by
  obtain ⟨m, hm⟩ : ∃ k, N = k + 1 := ⟨N - 1, by omega⟩
  have hN' : g12SL3 realA u N (fun v _ => some v) N s x1 0 = g12SL3 realA u N (fun v _ => some v) (m + 1) s x1 0 := by rw [← hm]
  rw [hN']
  cases u with
  | nil =>
    have c0 : g12Si11a_c0 realA [] 6 8 = false := by unfold g12Si11a_c0; rw [it_none]; rfl
    have c1 : g12Si11a_c1 realA [] 6 8 = false := by unfold g12Si11a_c1; rw [it_none]; rfl
    have c2 : g12Si11a_c2 realA [] 6 8 = true := by unfold g12Si11a_c2; rw [it_none]; rfl
    have e : realA.lt 0 ([] : List Nat).length = false := by kernel_rfl
    have e1 : g26a_ok realA = true := by kernel_rfl
    have e2 : g26a_r0 realA = [] := by kernel_rfl
    have e3 : g24b_ok realA = true := by kernel_rfl
    have e4 : g24b_r0 realA = ((0 : Nat) : Int) := by kernel_rfl
    have e5 : realA.le 0 0 = true := by kernel_rfl
    have hq : realA.ib .quo .i64 (realA.ib .mul .i64 ((0 : Nat) : Int) 6) 8 = ((0 : Nat) : Int) := by kernel_rfl
    have ok := enc_ok (s := []) (by simp) (by simp)
    have is := enc_is (s := []) (by simp) (by simp)
    rw [g12SL3, e]
    simp only [e1, e2, c0, c1, c2, g12SJ13e, e3, e4, hq, ar_negN, ar_toNN, e5, ok, is, ar_scne]
    show _ = outD s []
    unfold outD
    by_cases h : enc [] = s
    · rw [decide_eq_true h, if_pos h]; rfl
    · rw [decide_eq_false h, if_neg h]; rfl
  | cons c r =>
    simp only [List.length_cons] at hl hN
    have hc : c < 256 := hu c (by simp)
    have hg : (c :: r).getD 0 0 = c := rfl
    obtain ⟨e1, e2⟩ := letter hu hg hc
    rw [g12SL3, ltT (show 0 < (c :: r).length by simp)]
    simp only [g12SJ4, ofn, e1]
    rcases e2 with ⟨h1, h2⟩ | ⟨v, h1, h2, h3, h4⟩
    · rw [h2, outL_no h1]; rfl
    · rw [outL_cons h1]
      simp only [h3, lssN, i2b (show v < 256 by omega), h4, w0ok, w0r0, w0r1, w0r2]
      exact L3a_run hu r m 1 v rfl (by omega) h2 (by omega)
end
theorem dec_v {s : List Nat} (hs : ∀ x ∈ s, x < 256) (hl : s.length < 3999999) : g12v realA s = outL s [] (strip s) := by
  obtain ⟨e1, e2⟩ := trim_is s (by omega)
  have := strip_le s
  unfold g12v g12
  simp only [e1, e2]
  exact L3_run (N := 10000000) (fun x hx => hs x (strip_mem hx)) (by omega) (by omega)
theorem lx_al_all : allB (fun d => decide (lx (al d) = some d)) 64 = true := by kernel_rfl
theorem lx_al {d : Nat} (h : d < 64) : lx (al d) = some d := of_decide_eq_true (allB_spec (p := fun d => decide (lx (al d) = some d)) lx_al_all h)
theorem lets_al : ∀ (l : List Nat), (∀ d ∈ l, d < 64) → lets (l.map al) = some l
  | [], _ => rfl
  | d :: r, h => by
    simp only [List.map_cons, lets, lx_al (h d (by simp)), lets_al r (fun x hx => h x (by simp [hx])), Option.map_some]
theorem al_61_all : allB (fun d => !(decide (al d = 61))) 64 = true := by kernel_rfl
theorem strip_enc (t : List Nat) (ht : ∀ x ∈ t, x < 256) : strip (enc t) = (dg 0 0 t).map al := by
  unfold enc
  rw [strip_rep, strip_of]
  intro c hc
  obtain ⟨d, hd, rfl⟩ := List.mem_map.1 hc
  have h := allB_spec (p := fun d => !(decide (al d = 61))) al_61_all ((dg_lt t ht).1 d hd)
  simpa using h
theorem unb_dg : ∀ (t : List Nat), (∀ x ∈ t, x < 256) → unb (dg 0 0 t) = t
  | [], _ => rfl
  | [x], h => by
    have := h x (by simp)
    simp [unb, dg, g8]
    omega
  | [x, y], h => by
    have := h x (by simp)
    have := h y (by simp)
    simp [unb, dg, g8]
    omega
  | x :: y :: z :: r, h => by
    have h1 := h x (by simp)
    have h2 := h y (by simp)
    have h3 := h z (by simp)
    have ih := unb_dg r (fun a ha => h a (by simp [ha]))
    unfold unb at ih ⊢
    simp only [dg, g8, List.length_cons]
    rw [show ((dg 0 0 r).length + 1 + 1 + 1 + 1) * 6 / 8 = (dg 0 0 r).length * 6 / 8 + 3 by omega]
    simp only [List.take_succ_cons, ih]
    congr 1
    · omega
    · congr 1
      · omega
      · congr 1
        omega
theorem dec_enc {t : List Nat} (ht : ∀ x ∈ t, x < 256) (hl : t.length < 1500000) : g12v realA (enc t) = some (.tup [.cell (.str t), .cell (.bool true)]) := by
  have hle := enc_len t
  have hb : ∀ x ∈ enc t, x < 256 := by
    intro x hx
    unfold enc at hx
    rcases List.mem_append.1 hx with hx | hx
    · obtain ⟨d, hd, rfl⟩ := List.mem_map.1 hx
      have hd64 := (dg_lt t ht).1 d hd
      unfold al
      rw [List.getD_eq_getElem?_getD, List.getElem?_eq_getElem (show d < AL.length from hd64)]
      have : ∀ x ∈ AL, x < 256 := by decide
      exact this _ (List.getElem_mem _)
    · have := List.eq_of_mem_replicate hx; omega
  rw [dec_v hb (by omega), strip_enc t ht]
  unfold outL
  rw [lets_al _ (dg_lt t ht).1]
  simp only [List.nil_append]
  unfold outD
  rw [unb_dg t ht, if_pos rfl]
theorem lets_lt : ∀ {r vs : List Nat}, lets r = some vs → (∀ v ∈ vs, v < 64) ∧ vs.length = r.length
  | [], vs, h => by simp only [lets, Option.some.injEq] at h; subst h; exact ⟨(fun v hv => by cases hv), rfl⟩
  | c :: r, vs, h => by
    simp only [lets] at h
    split at h
    · cases h
    · rename_i v hv
      cases hr : lets r with
      | none => rw [hr] at h; cases h
      | some ws =>
        rw [hr] at h
        simp only [Option.map_some, Option.some.injEq] at h
        subst h
        obtain ⟨i1, i2⟩ := lets_lt hr
        exact ⟨fun x hx => by
          rcases List.mem_cons.1 hx with rfl | hx
          · exact lx_lt hv
          · exact i1 x hx, by simp [i2]⟩
theorem dec_any {s : List Nat} (hs : ∀ x ∈ s, x < 256) (hl : s.length < 3999999) : ∃ t b, g12v realA s = some (.tup [.cell (.str t), .cell (.bool b)]) ∧ (b = false → t = []) ∧ (b = true → enc t = s ∧ (∀ x ∈ t, x < 256) ∧ t.length ≤ s.length) := by
  have hle := strip_le s
  rw [dec_v hs hl]
  unfold outL
  cases hr : lets (strip s) with
  | none => exact ⟨[], false, rfl, fun _ => rfl, fun h => by cases h⟩
  | some vs =>
    obtain ⟨q1, q2⟩ := lets_lt hr
    obtain ⟨⟨b1, b2⟩, _⟩ := g8_all vs q1
    simp only [List.nil_append]
    unfold outD
    by_cases h : enc (unb vs) = s
    · rw [if_pos h]
      refine ⟨unb vs, true, rfl, (fun h => by cases h), fun _ => ⟨h, fun x hx => b1 x (List.mem_of_mem_take hx), ?_⟩⟩
      unfold unb
      rw [List.length_take, q2]
      omega
    · rw [if_neg h]
      exact ⟨[], false, rfl, fun _ => rfl, fun h => by cases h⟩
end Go.Sx.B7
namespace Go.Sx
set_option linter.unusedSectionVars false
open Go.Proofs
set_option linter.unusedVariables false
set_option maxRecDepth 100000
theorem SxP07lpi {R : Type} (c : Bool) {f1 f2 : Nat → Option R} {a1 a2 : Option R} (h1 : Prs f1 a1) (h2 : Prs f2 a2) : Prs (fun k => match c with | true => f1 k | false => f2 k) (match c with | true => a1 | false => a2) := by cases c <;> assumption
attribute [local irreducible] g30ok g30r0
def g14O (A : Ar) : Orc := orcOf [(30, g30o A)]
theorem g14O_sound : OSound Tryd.prog (g14O realA) := orc_sound fun f g hm args v hv => by
  simp only [List.mem_cons, List.not_mem_nil, or_false, Prod.mk.injEq] at hm
  rcases hm with ⟨rfl, rfl⟩
  · exact g30o_sound _ _ hv
theorem g14O_det : ODet (g14O realA) := orc_det _
def g14an : Ann := [(0, ([0], [])), (1, ([0], [])), (2, ([], [])), (3, ([0], [])), (4, ([0, 4], [4003])), (5, ([0, 4, 16, 17], [4003])), (6, ([0, 4, 16, 17], [4003])), (7, ([0, 4, 5, 16, 17], [4003])), (8, ([0, 4, 5, 6, 16, 17], [4003])), (9, ([], [])), (10, ([0, 4, 5, 6, 16, 17], [4003])), (11, ([0, 4, 16, 17], [4003])), (12, ([4], [4003]))]
def g14res : List ResultVar := [.tmp 2, .tmp 3]
def g14cut : List Nat := [3, 6, 10]
noncomputable def g14N {R : Type} (A : Ar) (kk : AV → Heap → Option R) (t : List Bool → St → Option R) (p : List Bool) (s : St) : Option R := nodeN A gtys (g14O A) g14an g14cut t (bodyOf Tryd.f14) (finD gtys g14res kk) p s
def g14J10s (x0 : List Nat) (x1 : Nat) (x2 x3 : Int) (x4 x5 : Int) (x6 : Nat) (x7 : List Nat) : St := ⟨[(0, (tS x0)), (4, (sL 4003 none x1 1)), (5, (i6 x2)), (6, (i6 x3)), (16, (i6 x4)), (17, (i6 x5))], [(4003, ⟨[.nums .u8 x6 x7], 5, 2⟩)]⟩
def g14J10 {R : Type} (A : Ar) (n : Nat) (kk : AV → Heap → Option R) (lg14L5 : List Nat → Nat → Int → Int → Nat → List Nat → Option R) (x0 : List Nat) (x1 : Nat) (x2 x3 : Int) (x4 x5 : Int) (x6 : Nat) (x7 : List Nat) : Option R :=
  match A.neg (A.ib .quo .i64 x2 2) with
  | true => none
  | false => match A.lt (A.toN (A.ib .quo .i64 x2 2)) x1 with
    | true => match A.neg (A.ib .quo .i64 x2 2) with
      | true => none
      | false => match A.lt (A.toN (A.ib .quo .i64 x2 2)) x1 with
        | true => lg14L5 x0 x1 x4 (A.ib .add .i64 x5 1) x6 (x7.set (A.toN (A.ib .quo .i64 x2 2)) (A.nb .or .u8 (A.nsh .shl .u8 (x7.getD (A.toN (A.ib .quo .i64 x2 2)) 0) 4) (A.i2n .u8 x3)))
        | false => none
    | false => none
def g14J6s (x0 : List Nat) (x1 : Nat) (x2 x3 : Int) (x4 : Nat) (x5 : List Nat) : St := ⟨[(0, (tS x0)), (4, (sL 4003 none x1 1)), (16, (i6 x2)), (17, (i6 x3))], [(4003, ⟨[.nums .u8 x4 x5], 5, 2⟩)]⟩
def g14J6 {R : Type} (A : Ar) (n : Nat) (kk : AV → Heap → Option R) (lg14L5 : List Nat → Nat → Int → Int → Nat → List Nat → Option R) (x0 : List Nat) (x1 : Nat) (x2 x3 : Int) (x4 : Nat) (x5 : List Nat) : Option R :=
  match A.neg x3 with
  | true => none
  | false => match A.lt (A.toN x3) x0.length with
    | true => match g30ok A [48, 49, 50, 51, 52, 53, 54, 55, 56, 57, 97, 98, 99, 100, 101, 102] (x0.getD (A.toN x3) 0) with
      | true => match A.ic .lss (g30r0 A [48, 49, 50, 51, 52, 53, 54, 55, 56, 57, 97, 98, 99, 100, 101, 102] (x0.getD (A.toN x3) 0)) 0 with
        | true => kk (.tup [(.cell (.str [])), (.cell (.bool false))]) []
        | false => g14J10 A n kk lg14L5 x0 x1 x3 (g30r0 A [48, 49, 50, 51, 52, 53, 54, 55, 56, 57, 97, 98, 99, 100, 101, 102] (x0.getD (A.toN x3) 0)) x2 x3 x4 x5
      | false => none
    | false => none
def g14L5s (x0 : List Nat) (x1 : Nat) (x2 x3 : Int) (x4 : Nat) (x5 : List Nat) : St := ⟨[(0, (tS x0)), (4, (sL 4003 none x1 1)), (16, (i6 x2)), (17, (i6 x3))], [(4003, ⟨[.nums .u8 x4 x5], 5, 2⟩)]⟩
def g14L5 {R : Type} (A : Ar) (n : Nat) (kk : AV → Heap → Option R)  : Nat → List Nat → Nat → Int → Int → Nat → List Nat → Option R
  | 0, _, _, _, _, _, _ => none
  | m + 1, x0, x1, x2, x3, x4, x5 => match A.ic .lss x3 x2 with
  | true => g14J6 A n kk (g14L5 A n kk  m) x0 x1 x2 x3 x4 x5
  | false => kk (.tup [(.cell (.str (x5.take x1))), (.cell (.bool true))]) [(4003, ⟨[.nums .u8 x4 x5], 5, 2⟩)]
def g14J3s (x0 : List Nat) : St := ⟨[(0, (tS x0))], []⟩
def g14J3 {R : Type} (A : Ar) (n : Nat) (kk : AV → Heap → Option R)  (x0 : List Nat) : Option R :=
  match A.neg (A.ib .quo .i64 (A.ofN x0.length) 2) with
  | true => none
  | false => match A.neg (A.ib .quo .i64 (A.ofN x0.length) 2) with
    | true => none
    | false => match A.le (A.toN (A.ib .quo .i64 (A.ofN x0.length) 2)) (A.toN (A.ib .quo .i64 (A.ofN x0.length) 2)) with
      | true => match A.le (A.toN (A.ib .quo .i64 (A.ofN x0.length) 2)) 140737488355328 with
        | true => g14L5 A n kk  n x0 (A.toN (A.ib .quo .i64 (A.ofN x0.length) 2)) (A.ofN x0.length) 0 (A.toN (A.ib .quo .i64 (A.ofN x0.length) 2)) (List.replicate (A.toN (A.ib .quo .i64 (A.ofN x0.length) 2)) 0)
        | false => none
      | false => none
def g14 {R : Type} (A : Ar) (n : Nat) (kk : AV → Heap → Option R) (a : List Nat) : Option R :=
  match A.ic .neq (A.ib .rem .i64 (A.ofN a.length) 2) 0 with
  | true => kk (.tup [(.cell (.str [])), (.cell (.bool false))]) []
  | false => g14J3 A n kk  a
section
variable {R : Type} {A : Ar} {n : Nat} {kk : AV → Heap → Option R} {tb : Nat → List Bool → St → Option R} (st : Stp (g14N A kk) tb)
include st
theorem g14J10_go {lg14L5 : List Nat → Nat → Int → Int → Nat → List Nat → Option R} (hg14L5 : ∀ (x0 : List Nat) (x1 : Nat) (x2 x3 : Int) (x4 : Nat) (x5 : List Nat), Prs (fun k => tb k (pth 244) (g14L5s x0 x1 x2 x3 x4 x5)) (lg14L5 x0 x1 x2 x3 x4 x5)) {x0 : List Nat} {x1 : Nat} {x2 : Int} {x3 : Int} {x4 : Int} {x5 : Int} {x6 : Nat} {x7 : List Nat} : Prs (fun k => tb k (pth 31335) (g14J10s x0 x1 x2 x3 x4 x5 x6 x7)) (g14J10 A n kk lg14L5 x0 x1 x2 x3 x4 x5 x6 x7) := by
  unfold g14J10
  exact st.g (pc (SxP07lpi _ pn (SxP07lpi _ (SxP07lpi _ pn (SxP07lpi _ (hg14L5 _ _ _ _ _ _) pn)) pn)) (by kernel_rfl))
theorem g14J6_go {lg14L5 : List Nat → Nat → Int → Int → Nat → List Nat → Option R} (hg14L5 : ∀ (x0 : List Nat) (x1 : Nat) (x2 x3 : Int) (x4 : Nat) (x5 : List Nat), Prs (fun k => tb k (pth 244) (g14L5s x0 x1 x2 x3 x4 x5)) (lg14L5 x0 x1 x2 x3 x4 x5)) {x0 : List Nat} {x1 : Nat} {x2 : Int} {x3 : Int} {x4 : Nat} {x5 : List Nat} : Prs (fun k => tb k (pth 979) (g14J6s x0 x1 x2 x3 x4 x5)) (g14J6 A n kk lg14L5 x0 x1 x2 x3 x4 x5) := by
  unfold g14J6
  exact st.g (pc (SxP07lpi _ pn (SxP07lpi _ (SxP07lpi _ (SxP07lpi _ (pf _) (g14J10_go st hg14L5)) pn) pn)) (by kernel_rfl))
theorem g14L5_go (m : Nat) : ∀ (x0 : List Nat) (x1 : Nat) (x2 x3 : Int) (x4 : Nat) (x5 : List Nat), Prs (fun k => tb k (pth 244) (g14L5s x0 x1 x2 x3 x4 x5)) (g14L5 A n kk m x0 x1 x2 x3 x4 x5) := by
  induction m with
  | zero => intro x0 x1 x2 x3 x4 x5; exact pn0
  | succ m ih =>
    intro x0 x1 x2 x3 x4 x5; rw [g14L5]
    exact st.g (pc (SxP07lpi _ (g14J6_go st ih) (pf _)) (by kernel_rfl))
theorem g14J3_go {x0 : List Nat} : Prs (fun k => tb k (pth 7) (g14J3s x0)) (g14J3 A n kk x0) := by
  unfold g14J3
  exact st.g (pc (SxP07lpi _ pn (SxP07lpi _ pn (SxP07lpi _ (SxP07lpi _ (g14L5_go st n _ _ _ _ _ _) pn) pn))) (by kernel_rfl))
theorem g14_go {a : List Nat} : Prs (fun k => funN A gtys (g14O A) g14an g14cut (bodyOf Tryd.f14) g14res [(tS a)] [] kk (tb k)) (g14 A n kk a) := by
  unfold g14
  exact pc (SxP07lpi _ (pf _) (g14J3_go st)) (by kernel_rfl)
end
def g14is (o : Option AV) : Bool := match o with
  | some (.tup [.cell (.str _), .cell (.bool _)]) => true
  | _ => false
def g14g0 (o : Option AV) : List Nat := match o with
  | some (.tup [.cell (.str x), .cell (.bool _)]) => x
  | _ => []
def g14g1 (o : Option AV) : Bool := match o with
  | some (.tup [.cell (.str _), .cell (.bool x)]) => x
  | _ => false
theorem g14is_spec {o : Option AV} (h : g14is o = true) : o = some (.tup [.cell (.str (g14g0 o)), .cell (.bool (g14g1 o))]) := by
  unfold g14is at h
  split at h
  · rfl
  · cases h
def g14v (A : Ar) (a : List Nat) : Option AV := g14 A (10000000) (fun v _ => some v) a
def g14ok (A : Ar) (a : List Nat) : Bool := g14is (g14v A a)
def g14r0 (A : Ar) (a : List Nat) : List Nat := g14g0 (g14v A a)
def g14r1 (A : Ar) (a : List Nat) : Bool := g14g1 (g14v A a)
theorem g14ok_spec {A : Ar} {a} (h : g14ok A a = true) : g14v A a = some (.tup [.cell (.str (g14r0 A a)), .cell (.bool (g14r1 A a))]) := g14is_spec h
def g14o (A : Ar) (args : List AV) : Option (Bool × AV) := match args with
  | [.v (.cell (.str a))] => some (g14ok A a, .tup [.cell (.str (g14r0 A a)), .cell (.bool (g14r1 A a))])
  | _ => none
theorem g14o_sound : ∀ args v, g14o realA args = some (true, v) → Fn1 Tryd.prog 14 args v := by
  intro args v h
  unfold g14o at h
  split at h
  · rename_i a
    simp only [Option.some.injEq, Prod.mk.injEq] at h
    obtain ⟨hc, h⟩ := h
    subst h
    · skip
      exact fn1_ofG mixed gtysOK g14O_sound g14O_det (an := g14an) (cut := g14cut) Tryd.func14 (c := bodyOf Tryd.f14) rfl (by kernel_rfl) Tryd.call14 (Nat.le_of_ble_eq_true rfl) (fun b => rfl) (fun _ => (show g14v realA a = _ from g14ok_spec hc)) fun _ st => g14_go st
  · cases h
attribute [local irreducible] g14ok g14r0 g14r1
end Go.Sx
namespace Go.Sx.B7
set_option linter.unusedSectionVars false
open Go.Proofs
set_option linter.unusedVariables false
set_option maxRecDepth 100000
def hv (c : Nat) : Option Nat := if 48 ≤ c ∧ c ≤ 57 then some (c - 48) else if 97 ≤ c ∧ c ≤ 102 then some (c - 87) else none
theorem hv_lt {c v : Nat} (h : hv c = some v) : v < 16 := by
  unfold hv at h
  repeat' split at h
  all_goals first
    | (simp only [Option.some.injEq] at h; omega)
    | cases h
def hvB (c : Nat) : Bool := decide (idxB HL c = (match hv c with
  | some v => (v : Int)
  | none => -1))
theorem hv_all : allB hvB 256 = true := by kernel_rfl
theorem hv_is {c : Nat} (h : c < 256) : idxB HL c = (match hv c with
  | some v => (v : Int)
  | none => -1) := of_decide_eq_true (show hvB c = true from allB_spec hv_all h)
def shB (x y : Nat) : Bool := decide (realA.nb .or .u8 (realA.nsh .shl .u8 x 4) y = 16 * x + y)
theorem shb_all : allB (fun x => allB (shB x) 16) 16 = true := by kernel_rfl
theorem shb_is {x y : Nat} (hx : x < 16) (hy : y < 16) : realA.nb .or .u8 (realA.nsh .shl .u8 x 4) y = 16 * x + y := by
  have h : shB x y = true := allB_spec (p := shB x) (allB_spec (p := fun x => allB (shB x) 16) shb_all hx) hy
  unfold shB at h
  exact of_decide_eq_true h
def uh : List Nat → Option (List Nat)
  | [] => some []
  | [_] => none
  | a :: b :: r => match hv a, hv b with
    | some x, some y => (uh r).map ((16 * x + y) :: ·)
    | _, _ => none
def outU (o : Option (List Nat)) : Option AV := match o with
  | some t => some (.tup [.cell (.str t), .cell (.bool true)])
  | none => some (.tup [.cell (.str []), .cell (.bool false)])
section
variable {s : List Nat} {N : Nat}
theorem qo2 {i : Nat} (h : i < 4000000) : realA.ib .quo .i64 (i : Int) 2 = ((i / 2 : Nat) : Int) := by
  rw [ar_quo (by omega) (by omega) (by omega)]; omega
theorem bad {m i n cap : Nat} {arr : List Nat} {c : Nat} (hg : s.getD i 0 = c) (hi : i < s.length) (hc : c < 256) (h : hv c = none) :
    g14L5 realA N (fun v _ => some v) (m + 1) s n (s.length : Int) (i : Int) cap arr = outU none := by
  have e := hv_is hc
  rw [h] at e
  have e13 : realA.ic .lss (-1) 0 = true := by kernel_rfl
  rw [g14L5, lssT hi]
  simp only [g14J6, ar_negN, ar_toNN, ltT hi, hg, g30_ok, g30_r, e, e13]
  rfl
theorem good1 {m i n cap : Nat} {arr : List Nat} {c v : Nat} (hg : s.getD i 0 = c) (hi : i < s.length) (hl : s.length < 4000000) (hc : c < 256) (h : hv c = some v) (hn : i / 2 < n) :
    g14L5 realA N (fun v _ => some v) (m + 1) s n (s.length : Int) (i : Int) cap arr = g14L5 realA N (fun v _ => some v) m s n (s.length : Int) ((i + 1 : Nat) : Int) cap (arr.set (i / 2) (realA.nb .or .u8 (realA.nsh .shl .u8 (arr.getD (i / 2) 0) 4) v)) := by
  have e := hv_is hc
  rw [h] at e
  have hv16 := hv_lt h
  have e1 : realA.ic .lss (v : Int) 0 = false := by rw [ar_lss]; exact decide_eq_false (by omega)
  have e2 : realA.i2n .u8 (v : Int) = v := by rw [ar_i2nN]; omega
  rw [g14L5, lssT hi]
  simp only [g14J6, ar_negN, ar_toNN, ltT hi, hg, g30_ok, g30_r, e, e1, g14J10, qo2 (show i < 4000000 by omega), ltT hn, e2, inc (show i < 4611686018427387904 by omega)]
theorem uh_run (hs : ∀ x ∈ s, x < 256) (hl : s.length < 4000000) (he : s.length % 2 = 0) : ∀ (k : Nat) (r : List Nat) (m j : Nat) (dn : List Nat) (cap : Nat), r.length = 2 * k → s.drop (2 * j) = r → dn.length = j → r.length < m → 2 * j ≤ s.length →
    g14L5 realA N (fun v _ => some v) m s (s.length / 2) (s.length : Int) ((2 * j : Nat) : Int) cap (dn ++ List.replicate k 0) = outU ((uh r).map (dn ++ ·)) := by
  intro k
  induction k with
  | zero =>
    intro r m j dn cap hk hd hj hm hjl
    have hr : r = [] := List.eq_nil_of_length_eq_zero (by omega)
    subst hr
    obtain ⟨m, rfl⟩ : ∃ k, m = k + 1 := ⟨m - 1, by omega⟩
    have hi := drop_nil hd
    have hsl : (s.drop (2 * j)).length = 0 := by rw [hd]; rfl
    rw [g14L5, lssF hi]
    show some (AV.tup [.cell (.str ((dn ++ List.replicate 0 0).take (s.length / 2))), _]) = _
    have htk : (dn ++ List.replicate 0 0).take (s.length / 2) = dn := by
      simp only [List.replicate_zero, List.append_nil]
      exact List.take_of_length_le (by rw [List.length_drop] at hsl; omega)
    rw [htk]
    simp [uh, outU]
  | succ k ih =>
    intro r m j dn cap hk hd hj hm hjl
    match r, hk with
    | a :: b :: r, hk =>
      simp only [List.length_cons] at hk hm
      obtain ⟨m, rfl⟩ : ∃ k, m = k + 2 := ⟨m - 2, by omega⟩
      obtain ⟨hg, hi, hd1⟩ := getD_drop hd
      obtain ⟨hg2, hi2, hd2⟩ := getD_drop hd1
      have ha : a < 256 := hs a (by
        have : a ∈ s.drop (2 * j) := by rw [hd]; simp
        exact List.mem_of_mem_drop this)
      have hb : b < 256 := hs b (by
        have : b ∈ s.drop (2 * j + 1) := by rw [hd1]; simp
        exact List.mem_of_mem_drop this)
      have hq : 2 * j / 2 = j := by omega
      have hq2 : (2 * j + 1) / 2 = j := by omega
      have gd : (dn ++ List.replicate (k + 1) 0).getD j 0 = 0 := by
        rw [List.replicate_succ, ← hj]; simp
      have st : ∀ x, (dn ++ List.replicate (k + 1) 0).set j x = dn ++ x :: List.replicate k 0 := by
        intro x
        rw [List.replicate_succ, ← hj]; simp
      have gd2 : ∀ x, (dn ++ x :: List.replicate k 0).getD j 0 = x := by intro x; rw [← hj]; simp
      have st2 : ∀ x y, (dn ++ x :: List.replicate k 0).set j y = dn ++ y :: List.replicate k 0 := by intro x y; rw [← hj]; simp
      simp only [uh]
      cases h1 : hv a with
      | none =>
        rw [show m + 2 = (m + 1) + 1 from rfl, bad hg hi ha h1]
        rfl
      | some x =>
        have hx := hv_lt h1
        have z4 : realA.nb .or .u8 (realA.nsh .shl .u8 0 4) x = x := by have := shb_is (x := 0) (y := x) (by decide) hx; simpa using this
        rw [show m + 2 = (m + 1) + 1 from rfl, good1 hg hi hl ha h1 (by omega), hq, gd, z4, st]
        cases h2 : hv b with
        | none =>
          rw [bad hg2 hi2 hb h2]
          rfl
        | some y =>
          have hy := hv_lt h2
          rw [good1 hg2 hi2 hl hb h2 (by omega), hq2, gd2, shb_is hx hy, st2]
          have := ih r m (j + 1) (dn ++ [16 * x + y]) cap (by omega) (by rw [show 2 * (j + 1) = 2 * j + 1 + 1 by omega]; exact hd2) (by simp [hj]) (by omega) (by omega)
          rw [show 2 * j + 1 + 1 = 2 * (j + 1) by omega, show dn ++ (16 * x + y) :: List.replicate k 0 = dn ++ [16 * x + y] ++ List.replicate k 0 by simp, this]
          cases uh r <;> simp
end
def hhB (a : Nat) : Bool := match hv a with
  | some x => decide (hl x = a)
  | none => true
theorem hh_all : allB hhB 128 = true := by kernel_rfl
theorem hl_hv {a x : Nat} (h : hv a = some x) : hl x = a := by
  have ha : a < 128 := by
    unfold hv at h
    repeat' split at h
    all_goals first
      | omega
      | cases h
  have := allB_spec hh_all ha
  unfold hhB at this
  rw [h] at this
  exact of_decide_eq_true this
theorem uh_even : ∀ {s t : List Nat}, uh s = some t → s.length = 2 * t.length ∧ hex t = s ∧ (∀ x ∈ t, x < 256)
  | [], t, h => by simp only [uh, Option.some.injEq] at h; subst h; exact ⟨rfl, rfl, fun x hx => by cases hx⟩
  | [a], t, h => by cases h
  | a :: b :: r, t, h => by
    simp only [uh] at h
    split at h
    · rename_i x y h1 h2
      cases hr : uh r with
      | none => rw [hr] at h; cases h
      | some w =>
        rw [hr] at h
        simp only [Option.map_some, Option.some.injEq] at h
        subst h
        obtain ⟨i1, i2, i3⟩ := uh_even hr
        have hx := hv_lt h1
        have hy := hv_lt h2
        refine ⟨by simp only [List.length_cons, i1]; omega, ?_, fun z hz => ?_⟩
        · have e1 : hl ((16 * x + y) / 16) = a := by
            rw [show (16 * x + y) / 16 = x by omega]
            exact hl_hv h1
          have e2 : hl ((16 * x + y) % 16) = b := by
            rw [show (16 * x + y) % 16 = y by omega]
            exact hl_hv h2
          unfold hex at i2 ⊢
          simp only [B7.hx, List.map_cons, e1, e2, i2]
        · rcases List.mem_cons.1 hz with rfl | hz
          · omega
          · exact i3 z hz
    · cases h
theorem hv_hl_all : allB (fun d => decide (hv (hl d) = some d)) 16 = true := by kernel_rfl
theorem hv_hl {d : Nat} (h : d < 16) : hv (hl d) = some d := of_decide_eq_true (allB_spec (p := fun d => decide (hv (hl d) = some d)) hv_hl_all h)
theorem uh_hex : ∀ (t : List Nat), (∀ x ∈ t, x < 256) → uh (hex t) = some t
  | [], _ => rfl
  | x :: r, h => by
    have hx := h x (by simp)
    have ih := uh_hex r (fun y hy => h y (by simp [hy]))
    unfold hex at ih ⊢
    simp only [B7.hx, List.map_cons, uh, hv_hl (show x / 16 < 16 by omega), hv_hl (show x % 16 < 16 by omega), ih, Option.map_some]
    congr 2
    omega
theorem unhex_v {s : List Nat} (hs : ∀ x ∈ s, x < 256) (hl : s.length < 4000000) : g14v realA s = outU (uh s) := by
  have e1 : realA.ib .rem .i64 (s.length : Int) 2 = ((s.length % 2 : Nat) : Int) := by rw [ar_rem (by omega)]; omega
  unfold g14v g14
  simp only [ofn, e1, ar_neq]
  by_cases he : s.length % 2 = 0
  · rw [he]
    have e2 : realA.le (s.length / 2) (s.length / 2) = true := decide_eq_true (Nat.le_refl _)
    have e3 : realA.le (s.length / 2) 140737488355328 = true := decide_eq_true (by omega)
    simp only [show (!(decide (((0 : Nat) : Int) = 0))) = false from rfl, g14J3, ofn, qo2 hl, ar_negN, ar_toNN, e2, e3]
    have run := uh_run (s := s) (N := 10000000) hs hl he (s.length / 2) s 10000000 0 [] (s.length / 2) (by omega) rfl rfl (by omega) (by omega)
    refine Eq.trans ?_ (run.trans ?_)
    · rfl
    · cases uh s <;> simp [outU]
  · have : (!(decide (((s.length % 2 : Nat) : Int) = 0))) = true := by
      rw [decide_eq_false (by omega)]; rfl
    rw [this]
    cases hu : uh s with
    | none => rfl
    | some t => have := (uh_even hu).1; omega
end Go.Sx.B7
namespace Go.Sx
set_option linter.unusedSectionVars false
open Go.Proofs
set_option linter.unusedVariables false
set_option maxRecDepth 100000
theorem SxP07opi {R : Type} (c : Bool) {f1 f2 : Nat → Option R} {a1 a2 : Option R} (h1 : Prs f1 a1) (h2 : Prs f2 a2) : Prs (fun k => match c with | true => f1 k | false => f2 k) (match c with | true => a1 | false => a2) := by cases c <;> assumption
attribute [local irreducible] g10ok g10r0 g11ok g11r0 g12ok g12r0 g12r1 g9ok g9r0 g14ok g14r0 g14r1
def g7O (A : Ar) : Orc := orcH [(9, g9o A), (12, g12o A), (14, g14o A)] [(10, ⟨[], none, (g10o A)⟩), (11, ⟨[], none, (g11o A)⟩)]
theorem g7O_sound : OSound Tryd.prog (g7O realA) := orcH_sound (fun f g hm args v hv => by
    simp only [List.mem_cons, List.not_mem_nil, or_false, Prod.mk.injEq] at hm
    rcases hm with ⟨rfl, rfl⟩ | ⟨rfl, rfl⟩ | ⟨rfl, rfl⟩
    · exact g9o_sound _ _ hv
    · exact g12o_sound _ _ hv
    · exact g14o_sound _ _ hv) (fun f e hm args h v h' hv => by
    simp only [List.mem_cons, List.not_mem_nil, or_false, Prod.mk.injEq] at hm
    rcases hm with ⟨rfl, rfl⟩ | ⟨rfl, rfl⟩
    · exact g10o_sound _ _ _ _ hv
    · exact g11o_sound _ _ _ _ hv)
theorem g7O_det : ODet (g7O realA) := orcH_det _ _
def g7an : Ann := [(0, ([0], [])), (1, ([0], [])), (2, ([0, 3], [])), (3, ([], [])), (4, ([0, 3], [])), (5, ([0, 3, 4], [])), (6, ([0, 3, 4, 5], [])), (7, ([0, 3, 4, 5, 6, 7], [])), (8, ([0, 3, 4, 5, 6, 7, 8, 9], [])), (9, ([0, 3, 4, 5, 6, 7, 8, 9, 10, 11], [])), (10, ([0, 3, 4, 5, 6, 7, 8, 9, 10, 11, 12, 13], []))]
def g7res : List ResultVar := [.tmp 2]
def g7cut : List Nat := [4]
noncomputable def g7N {R : Type} (A : Ar) (kk : AV → Heap → Option R) (t : List Bool → St → Option R) (p : List Bool) (s : St) : Option R := nodeN A gtys (g7O A) g7an g7cut t (bodyOf Tryd.f7) (finD gtys g7res kk) p s
def g7J4s (x0 : List Nat) (x1 : Bool) : St := ⟨[(0, (tS x0)), (3, (bO x1))], []⟩
def g7J4 {R : Type} (A : Ar) (n : Nat) (kk : AV → Heap → Option R)  (x0 : List Nat) (x1 : Bool) : Option R :=
  match g10ok A x0 with
  | true => match g11ok A x0 with
    | true => match g12ok A (g10r0 A x0) with
      | true => match g14ok A (g11r0 A x0) with
        | true => match g12ok A x0 with
          | true => match g14ok A x0 with
            | true => match x1 with
              | true => match A.sc .eql (g12r0 A (g10r0 A x0)) x0 with
                | true => match g12r1 A (g10r0 A x0) with
                  | true => match A.sc .eql (g14r0 A (g11r0 A x0)) x0 with
                    | true => match g14r1 A (g11r0 A x0) with
                      | true => match A.ic .eql (A.ofN ((g10r0 A x0).length)) (A.ib .mul .i64 (A.ib .quo .i64 (A.ib .add .i64 (A.ofN x0.length) 2) 3) 4) with
                        | true => match A.ic .eql (A.ofN ((g11r0 A x0).length)) (A.ib .mul .i64 2 (A.ofN x0.length)) with
                          | true => match !(g12r1 A x0) with
                            | true => match !(g14r1 A x0) with
                              | true => kk (bO true) []
                              | false => match g11ok A (g14r0 A x0) with
                                | true => kk (bO (A.sc .eql (g11r0 A (g14r0 A x0)) x0)) []
                                | false => none
                            | false => match g10ok A (g12r0 A x0) with
                              | true => match A.sc .eql (g10r0 A (g12r0 A x0)) x0 with
                                | true => match !(g14r1 A x0) with
                                  | true => kk (bO true) []
                                  | false => match g11ok A (g14r0 A x0) with
                                    | true => kk (bO (A.sc .eql (g11r0 A (g14r0 A x0)) x0)) []
                                    | false => none
                                | false => kk (bO false) []
                              | false => none
                          | false => kk (bO false) []
                        | false => kk (bO false) []
                      | false => kk (bO false) []
                    | false => kk (bO false) []
                  | false => kk (bO false) []
                | false => kk (bO false) []
              | false => kk (bO false) []
            | false => none
          | false => none
        | false => none
      | false => none
    | false => none
  | false => none
def g7 {R : Type} (A : Ar) (n : Nat) (kk : AV → Heap → Option R) (a : List Nat) : Option R :=
  match g9ok A with
  | true => match !(g9r0 A) with
    | true => kk (bO false) []
    | false => g7J4 A n kk  a (g9r0 A)
  | false => none
section
variable {R : Type} {A : Ar} {n : Nat} {kk : AV → Heap → Option R} {tb : Nat → List Bool → St → Option R} (st : Stp (g7N A kk) tb)
include st
theorem g7J4_go {x0 : List Nat} {x1 : Bool} : Prs (fun k => tb k (pth 15) (g7J4s x0 x1)) (g7J4 A n kk x0 x1) := by
  unfold g7J4
  exact st.g (pc (SxP07opi _ (SxP07opi _ (SxP07opi _ (SxP07opi _ (SxP07opi _ (SxP07opi _ (SxP07opi _ (SxP07opi _ (SxP07opi _ (SxP07opi _ (SxP07opi _ (SxP07opi _ (SxP07opi _ (SxP07opi _ (SxP07opi _ (pf _) (SxP07opi _ (pf _) pn)) (SxP07opi _ (SxP07opi _ (SxP07opi _ (pf _) (SxP07opi _ (pf _) pn)) (pf _)) pn)) (pf _)) (pf _)) (pf _)) (pf _)) (pf _)) (pf _)) (pf _)) pn) pn) pn) pn) pn) pn) (by kernel_rfl))
theorem g7_go {a : List Nat} : Prs (fun k => funN A gtys (g7O A) g7an g7cut (bodyOf Tryd.f7) g7res [(tS a)] [] kk (tb k)) (g7 A n kk a) := by
  unfold g7
  exact pc (SxP07opi _ (SxP07opi _ (pf _) (g7J4_go st)) pn) (by kernel_rfl)
end
def g7is (o : Option AV) : Bool := match o with
  | some (.v (.cell (.bool _))) => true
  | _ => false
def g7g0 (o : Option AV) : Bool := match o with
  | some (.v (.cell (.bool x))) => x
  | _ => false
theorem g7is_spec {o : Option AV} (h : g7is o = true) : o = some (.v (.cell (.bool (g7g0 o)))) := by
  unfold g7is at h
  split at h
  · rfl
  · cases h
def g7v (A : Ar) (a : List Nat) : Option AV := g7 A (10000000) (fun v _ => some v) a
def g7ok (A : Ar) (a : List Nat) : Bool := g7is (g7v A a)
def g7r0 (A : Ar) (a : List Nat) : Bool := g7g0 (g7v A a)
theorem g7ok_spec {A : Ar} {a} (h : g7ok A a = true) : g7v A a = some (.v (.cell (.bool (g7r0 A a)))) := g7is_spec h
def g7o (A : Ar) (args : List AV) : Option (Bool × AV) := match args with
  | [.v (.cell (.str a))] => some (g7ok A a, .v (.cell (.bool (g7r0 A a))))
  | _ => none
theorem g7o_sound : ∀ args v, g7o realA args = some (true, v) → Fn1 Tryd.prog 7 args v := by
  intro args v h
  unfold g7o at h
  split at h
  · rename_i a
    simp only [Option.some.injEq, Prod.mk.injEq] at h
    obtain ⟨hc, h⟩ := h
    subst h
    · skip
      exact fn1_ofG mixed gtysOK g7O_sound g7O_det (an := g7an) (cut := g7cut) Tryd.func7 (c := bodyOf Tryd.f7) rfl (by kernel_rfl) Tryd.call7 (Nat.le_of_ble_eq_true rfl) (fun b => rfl) (fun _ => (show g7v realA a = _ from g7ok_spec hc)) fun _ st => g7_go st
  · cases h
attribute [local irreducible] g7ok g7r0
end Go.Sx
namespace Go.Sx.B7
set_option linter.unusedSectionVars false
set_option linter.unusedVariables false
set_option maxRecDepth 100000
theorem hx_lt : ∀ (t : List Nat), (∀ x ∈ t, x < 256) → ∀ d ∈ hx t, d < 16
  | [], _, d, h => by cases h
  | x :: r, ht, d, h => by
    have := ht x (by simp)
    simp only [hx, List.mem_cons] at h
    rcases h with rfl | rfl | h
    · omega
    · omega
    · exact hx_lt r (fun y hy => ht y (by simp [hy])) d h
theorem hex_byte {t : List Nat} (ht : ∀ x ∈ t, x < 256) : ∀ x ∈ hex t, x < 256 := by
  intro x hx'
  unfold hex at hx'
  obtain ⟨d, hd, rfl⟩ := List.mem_map.1 hx'
  have hd16 := hx_lt t ht d hd
  unfold hl
  rw [List.getD_eq_getElem?_getD, List.getElem?_eq_getElem (show d < HL.length from hd16)]
  have : ∀ x ∈ HL, x < 256 := by decide
  exact this _ (List.getElem_mem _)
theorem enc_len3 (t : List Nat) : (enc t).length = (t.length + 2) / 3 * 4 := by
  have e := pad_dg t
  unfold enc
  rw [List.length_append, List.length_replicate, e, List.length_map, dg_len3]
  have : t.length % 3 = 0 ∨ t.length % 3 = 1 ∨ t.length % 3 = 2 := by omega
  rcases this with h | h | h <;> rw [h] <;> simp <;> omega
attribute [local irreducible] g9ok g9r0 g10ok g10r0 g11ok g11r0
theorem g7_v (s : List Nat) (hs : ∀ x ∈ s, x < 256) (hl : s.length ≤ 1048576) : g7v realA s = some (.v (.cell (.bool true))) := by
  have e1 := enc_ok hs (by omega)
  have e2 := enc_is hs (by omega)
  have h1 := hex_ok hs (by omega)
  have h2 := hex_is hs (by omega)
  have hd := dec_enc hs (by omega)
  have d1 : g12ok realA (enc s) = true := by unfold g12ok; rw [hd]; rfl
  have d2 : g12r0 realA (enc s) = s := by unfold g12r0; rw [hd]; rfl
  have d3 : g12r1 realA (enc s) = true := by unfold g12r1; rw [hd]; rfl
  have hxl := hex_len s
  have hu := unhex_v (hex_byte hs) (by omega)
  rw [uh_hex s hs] at hu
  have u1 : g14ok realA (hex s) = true := by unfold g14ok; rw [hu]; rfl
  have u2 : g14r0 realA (hex s) = s := by unfold g14r0; rw [hu]; rfl
  have u3 : g14r1 realA (hex s) = true := by unfold g14r1; rw [hu]; rfl
  obtain ⟨t, b, ht, hb0, hb1⟩ := dec_any hs (by omega)
  have t1 : g12ok realA s = true := by unfold g12ok; rw [ht]; rfl
  have t2 : g12r0 realA s = t := by unfold g12r0; rw [ht]; rfl
  have t3 : g12r1 realA s = b := by unfold g12r1; rw [ht]; rfl
  have huv := unhex_v hs (by omega)
  have l1 : realA.ic .eql (realA.ofN (enc s).length) (realA.ib .mul .i64 (realA.ib .quo .i64 (realA.ib .add .i64 (realA.ofN s.length) 2) 3) 4) = true := by
    rw [ar_ofN, ar_ofN, ar_add (by omega), ar_quo (by omega) (by omega) (by omega), ar_mul (by omega), ar_eql, enc_len3]
    exact decide_eq_true (by omega)
  have l2 : realA.ic .eql (realA.ofN (hex s).length) (realA.ib .mul .i64 2 (realA.ofN s.length)) = true := by
    rw [ar_ofN, ar_ofN, ar_mul (by omega), ar_eql, hxl]
    exact decide_eq_true (by omega)
  have sq : realA.sc .eql s s = true := by rw [ar_sceq]; exact decide_eq_true rfl
  have tail : (match !(g14r1 realA s) with
      | true => some (AV.v (.cell (.bool true)))
      | false => match g11ok realA (g14r0 realA s) with
        | true => some (AV.v (.cell (.bool (realA.sc .eql (g11r0 realA (g14r0 realA s)) s))))
        | false => none) = some (AV.v (.cell (.bool true))) ∧ g14ok realA s = true := by
    unfold g14ok g14r1 g14r0
    rw [huv]
    cases hq : uh s with
    | none => exact ⟨rfl, rfl⟩
    | some w =>
      obtain ⟨w1, w2, w3⟩ := uh_even hq
      refine ⟨?_, rfl⟩
      show (match g11ok realA w with
        | true => some (AV.v (.cell (.bool (realA.sc .eql (g11r0 realA w) s))))
        | false => none) = _
      rw [hex_ok w3 (by omega), hex_is w3 (by omega), w2, sq]
  obtain ⟨tl, tok⟩ := tail
  unfold g7v g7
  simp only [ex_ok, ex_is, Bool.not_true, g7J4, e1, e2, h1, h2, d1, d2, d3, u1, u2, u3, t1, t2, t3, tok, sq, l1, l2]
  cases b with
  | false => simp only [Bool.not_false]; exact tl
  | true =>
    obtain ⟨p1, p2, p3⟩ := hb1 rfl
    have p4 := enc_ok p2 (by omega)
    have p5 := enc_is p2 (by omega)
    simp only [Bool.not_true, p4, p5, p1, sq]
    exact tl
theorem law7 (s : List Nat) (hs : ∀ x ∈ s, x < 256) (hl : s.length ≤ 1048576) : g7ok realA s = true ∧ g7r0 realA s = true := by
  unfold g7ok g7r0
  rw [g7_v s hs hl]
  exact ⟨rfl, rfl⟩
end Go.Sx.B7
