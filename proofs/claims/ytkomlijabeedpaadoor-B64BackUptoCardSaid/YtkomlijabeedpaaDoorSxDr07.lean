import Derived.Test.YtkomlijabeedpaaDoorSxP07c
import Derived.Test.YtkomlijabeedpaaDoorSxAr
import Derived.Test.YtkomlijabeedpaaDoorSxPl
import Derived.Test.YtkomlijabeedpaaDoorSxB07
import Derived.Test.YtkomlijabeedpaaDoorSxP07a
namespace Go.Sx.B7
open Go.Proofs
set_option linter.unusedVariables false
set_option maxRecDepth 100000
theorem w0 (x : Nat) : g23v realA x = some (.v (.cell .top), [(0, ⟨[.one (.ptr 0 0 none), .one (.sl 700 none 1 1)], 36, 1⟩), (700, ⟨[.nums .u8 1 [x]], 5, 2⟩)]) := by kernel_rfl
theorem w0ok (x : Nat) : g23ok realA x = true := by unfold g23ok; rw [w0]; rfl
theorem w0r0 (x : Nat) : g23r0 realA x = 1 := by unfold g23r0; rw [w0]; rfl
theorem w0r1 (x : Nat) : g23r1 realA x = 1 := by unfold g23r1; rw [w0]; rfl
theorem w0r2 (x : Nat) : g23r2 realA x = [x] := by unfold g23r2; rw [w0]; rfl
theorem w1 (x n : Nat) (l : List Nat) (h : l.length < 140737488355328) : g23a_v realA x n n l = some (.v (.cell .top), [(0, ⟨[.one (.ptr 0 0 none), .one (.sl 501 none (l.length + 1) 1)], 36, 1⟩), (501, ⟨[.nums .u8 (l.length + 1) (l ++ [x])], 5, 2⟩)]) := by
  have e : (l ++ [x]).length = l.length + 1 := by simp
  have e2 : (l ++ [x].take 1) = l ++ [x] := rfl
  have h1 : realA.le (l.length + 1) 140737488355328 = true := decide_eq_true (by omega)
  have h2 : realA.eq n (n + 0) = true := decide_eq_true rfl
  unfold g23a_v g23a_
  simp only [show g33a_ok realA n n l = true from rfl, show g33a_r0 realA n n l = n from rfl, show g33a_r1 realA n n l = n from rfl, show g33a_r2 realA n n l = l from rfl, h2, e2, e, h1]
  rfl
theorem w1ok (x n : Nat) (l : List Nat) (h : l.length < 140737488355328) : g23a_ok realA x n n l = true := by unfold g23a_ok; rw [w1 _ _ _ h]; rfl
theorem w1r0 (x n : Nat) (l : List Nat) (h : l.length < 140737488355328) : g23a_r0 realA x n n l = l.length + 1 := by unfold g23a_r0; rw [w1 _ _ _ h]; rfl
theorem w1r1 (x n : Nat) (l : List Nat) (h : l.length < 140737488355328) : g23a_r1 realA x n n l = l.length + 1 := by unfold g23a_r1; rw [w1 _ _ _ h]; rfl
theorem w1r2 (x n : Nat) (l : List Nat) (h : l.length < 140737488355328) : g23a_r2 realA x n n l = l ++ [x] := by unfold g23a_r2; rw [w1 _ _ _ h]; rfl
attribute [local irreducible] g23v g23ok g23r0 g23r1 g23r2 g23a_v g23a_ok g23a_r0 g23a_r1 g23a_r2
abbrev AL : List Nat := [65, 66, 67, 68, 69, 70, 71, 72, 73, 74, 75, 76, 77, 78, 79, 80, 81, 82, 83, 84, 85, 86, 87, 88, 89, 90, 97, 98, 99, 100, 101, 102, 103, 104, 105, 106, 107, 108, 109, 110, 111, 112, 113, 114, 115, 116, 117, 118, 119, 120, 121, 122, 48, 49, 50, 51, 52, 53, 54, 55, 56, 57, 43, 47]
abbrev HL : List Nat := [48, 49, 50, 51, 52, 53, 54, 55, 56, 57, 97, 98, 99, 100, 101, 102]
def al (d : Nat) : Nat := AL.getD d 0
def hl (d : Nat) : Nat := HL.getD d 0
theorem AL_len : AL.length = 64 := rfl
theorem HL_len : HL.length = 16 := rfl
theorem b0 (d : Nat) (hd : d < 64) : g10b3v realA (d : Int) = some (.normal, [(410, ⟨[.one (.ptr 410 0 none), .one (.sl 5002 none 1 1)], 36, 1⟩), (5002, ⟨[.nums .u8 1 [al d]], 5, 2⟩)]) := by
  have h1 : realA.lt (realA.toN (d : Int)) (AL.length) = true := decide_eq_true (by rw [AL_len]; exact hd)
  unfold g10b3v g10b3 g10b3t0 g10b3t1 g10b3t2
  simp only [ar_negN, h1, w0ok, w0r0, w0r1, w0r2]
  rfl
theorem b1 (d n : Nat) (l : List Nat) (hd : d < 64) (h : l.length < 140737488355328) : g10b3a_v realA (d : Int) n n l = some (.normal, [(410, ⟨[.one (.ptr 410 0 none), .one (.sl 500 none (l.length + 1) 1)], 36, 1⟩), (500, ⟨[.nums .u8 (l.length + 1) (l ++ [al d])], 5, 2⟩)]) := by
  have h1 : realA.lt (realA.toN (d : Int)) (AL.length) = true := decide_eq_true (by rw [AL_len]; exact hd)
  unfold g10b3a_v g10b3a_ g10b3a_t0 g10b3a_t1 g10b3a_t2
  simp only [ar_negN, h1, w1ok _ _ _ h, w1r0 _ _ _ h, w1r1 _ _ _ h, w1r2 _ _ _ h]
  rfl
theorem c0ok {d : Nat} (hd : d < 64) : g10b3c0 realA (d : Int) = true := by unfold g10b3c0; rw [b0 d hd]; rfl
theorem c0r0 {d : Nat} (hd : d < 64) : g10b3r0_0 realA (d : Int) = 1 := by unfold g10b3r0_0; rw [b0 d hd]; rfl
theorem c0r1 {d : Nat} (hd : d < 64) : g10b3r0_1 realA (d : Int) = 1 := by unfold g10b3r0_1; rw [b0 d hd]; rfl
theorem c0r2 {d : Nat} (hd : d < 64) : g10b3r0_2 realA (d : Int) = [al d] := by unfold g10b3r0_2; rw [b0 d hd]; rfl
theorem c1ok {d n : Nat} {l : List Nat} (hd : d < 64) (h : l.length < 140737488355328) : g10b3a_c0 realA (d : Int) n n l = true := by unfold g10b3a_c0; rw [b1 d n l hd h]; rfl
theorem c1r0 {d n : Nat} {l : List Nat} (hd : d < 64) (h : l.length < 140737488355328) : g10b3a_r0_0 realA (d : Int) n n l = l.length + 1 := by unfold g10b3a_r0_0; rw [b1 d n l hd h]; rfl
theorem c1r1 {d n : Nat} {l : List Nat} (hd : d < 64) (h : l.length < 140737488355328) : g10b3a_r0_1 realA (d : Int) n n l = l.length + 1 := by unfold g10b3a_r0_1; rw [b1 d n l hd h]; rfl
theorem c1r2 {d n : Nat} {l : List Nat} (hd : d < 64) (h : l.length < 140737488355328) : g10b3a_r0_2 realA (d : Int) n n l = l ++ [al d] := by unfold g10b3a_r0_2; rw [b1 d n l hd h]; rfl
theorem h0 (d : Nat) (hd : d < 16) : g11b3v realA (d : Int) = some (.normal, [(410, ⟨[.one (.ptr 410 0 none), .one (.sl 5002 none 1 1)], 36, 1⟩), (5002, ⟨[.nums .u8 1 [hl d]], 5, 2⟩)]) := by
  have h1 : realA.lt (realA.toN (d : Int)) (HL.length) = true := decide_eq_true (by rw [HL_len]; exact hd)
  unfold g11b3v g11b3
  simp only [ar_negN, h1, w0ok, w0r0, w0r1, w0r2]
  rfl
theorem h1 (d n : Nat) (l : List Nat) (hd : d < 16) (h : l.length < 140737488355328) : g11b3a_v realA (d : Int) n n l = some (.normal, [(410, ⟨[.one (.ptr 410 0 none), .one (.sl 500 none (l.length + 1) 1)], 36, 1⟩), (500, ⟨[.nums .u8 (l.length + 1) (l ++ [hl d])], 5, 2⟩)]) := by
  have h1 : realA.lt (realA.toN (d : Int)) (HL.length) = true := decide_eq_true (by rw [HL_len]; exact hd)
  unfold g11b3a_v g11b3a_
  simp only [ar_negN, h1, w1ok _ _ _ h, w1r0 _ _ _ h, w1r1 _ _ _ h, w1r2 _ _ _ h]
  rfl
theorem d0ok {d : Nat} (hd : d < 16) : g11b3c0 realA (d : Int) = true := by unfold g11b3c0; rw [h0 d hd]; rfl
theorem d0r0 {d : Nat} (hd : d < 16) : g11b3r0_0 realA (d : Int) = 1 := by unfold g11b3r0_0; rw [h0 d hd]; rfl
theorem d0r1 {d : Nat} (hd : d < 16) : g11b3r0_1 realA (d : Int) = 1 := by unfold g11b3r0_1; rw [h0 d hd]; rfl
theorem d0r2 {d : Nat} (hd : d < 16) : g11b3r0_2 realA (d : Int) = [hl d] := by unfold g11b3r0_2; rw [h0 d hd]; rfl
theorem d1ok {d n : Nat} {l : List Nat} (hd : d < 16) (h : l.length < 140737488355328) : g11b3a_c0 realA (d : Int) n n l = true := by unfold g11b3a_c0; rw [h1 d n l hd h]; rfl
theorem d1r0 {d n : Nat} {l : List Nat} (hd : d < 16) (h : l.length < 140737488355328) : g11b3a_r0_0 realA (d : Int) n n l = l.length + 1 := by unfold g11b3a_r0_0; rw [h1 d n l hd h]; rfl
theorem d1r1 {d n : Nat} {l : List Nat} (hd : d < 16) (h : l.length < 140737488355328) : g11b3a_r0_1 realA (d : Int) n n l = l.length + 1 := by unfold g11b3a_r0_1; rw [h1 d n l hd h]; rfl
theorem d1r2 {d n : Nat} {l : List Nat} (hd : d < 16) (h : l.length < 140737488355328) : g11b3a_r0_2 realA (d : Int) n n l = l ++ [hl d] := by unfold g11b3a_r0_2; rw [h1 d n l hd h]; rfl
attribute [local irreducible] g10b3v g10b3c0 g10b3r0_0 g10b3r0_1 g10b3r0_2 g10b3a_v g10b3a_c0 g10b3a_r0_0 g10b3a_r0_1 g10b3a_r0_2 g11b3v g11b3c0 g11b3r0_0 g11b3r0_1 g11b3r0_2 g11b3a_v g11b3a_c0 g11b3a_r0_0 g11b3a_r0_1 g11b3a_r0_2
def allB (p : Nat → Bool) : Nat → Bool
  | 0 => true
  | n + 1 => p n && allB p n
theorem allB_spec {p : Nat → Bool} : ∀ {n i : Nat}, allB p n = true → i < n → p i = true
  | n + 1, i, h, hi => by
    simp only [allB, Bool.and_eq_true] at h
    rcases Nat.lt_succ_iff_lt_or_eq.1 hi with h2 | h2
    · exact allB_spec h.2 h2
    · subst h2; exact h.1
theorem sh_all : allB (fun v => decide (realA.ish .shl .i64 (v : Int) 8 = ((256 * v : Nat) : Int))) 16 = true := by kernel_rfl
theorem sh_is {v : Nat} (hv : v < 16) : realA.ish .shl .i64 (v : Int) 8 = ((256 * v : Nat) : Int) := of_decide_eq_true (allB_spec sh_all hv)
def orB (v x : Nat) : Bool := decide (realA.ib .or .i64 ((256 * v : Nat) : Int) (x : Int) = ((256 * v + x : Nat) : Int))
theorem or_all : allB (fun v => allB (orB v) 256) 16 = true := by kernel_rfl
theorem or_is {v x : Nat} (hv : v < 16) (hx : x < 256) : realA.ib .or .i64 (realA.ish .shl .i64 (v : Int) 8) (x : Int) = ((256 * v + x : Nat) : Int) := by
  rw [sh_is hv]
  have h : orB v x = true := allB_spec (p := orB v) (allB_spec (p := fun v => allB (orB v) 256) or_all hv) hx
  unfold orB at h
  exact of_decide_eq_true h
def dgB (w k : Nat) : Bool := decide (realA.ib .and .i64 (realA.ish .shr .i64 (w : Int) k) 63 = ((w / 2 ^ k % 64 : Nat) : Int))
theorem dg_all : allB (fun w => allB (dgB w) 7) 4096 = true := by kernel_rfl
theorem dg_is {w k : Nat} (hw : w < 4096) (hk : k < 7) : realA.ib .and .i64 (realA.ish .shr .i64 (w : Int) k) 63 = ((w / 2 ^ k % 64 : Nat) : Int) := by
  have h : dgB w k = true := allB_spec (p := dgB w) (allB_spec (p := fun w => allB (dgB w) 7) dg_all hw) hk
  unfold dgB at h
  exact of_decide_eq_true h
def hxB (w k : Nat) : Bool := decide (realA.ib .and .i64 (realA.ish .shr .i64 (w : Int) k) 15 = ((w / 2 ^ k % 16 : Nat) : Int))
theorem hx_all : allB (fun w => allB (hxB w) 5) 256 = true := by kernel_rfl
theorem hx_is {w k : Nat} (hw : w < 256) (hk : k < 5) : realA.ib .and .i64 (realA.ish .shr .i64 (w : Int) k) 15 = ((w / 2 ^ k % 16 : Nat) : Int) := by
  have h : hxB w k = true := allB_spec (p := hxB w) (allB_spec (p := fun w => allB (hxB w) 5) hx_all hw) hk
  unfold hxB at h
  exact of_decide_eq_true h
def mkB (w k : Nat) : Bool := decide (realA.ib .and .i64 (w : Int) (realA.ib .sub .i64 (realA.ish .shl .i64 1 k) 1) = ((w % 2 ^ k : Nat) : Int))
theorem mk_all : allB (fun w => allB (mkB w) 5) 4096 = true := by kernel_rfl
theorem mk_is {w k : Nat} (hw : w < 4096) (hk : k < 5) : realA.ib .and .i64 (w : Int) (realA.ib .sub .i64 (realA.ish .shl .i64 1 k) 1) = ((w % 2 ^ k : Nat) : Int) := by
  have h : mkB w k = true := allB_spec (p := mkB w) (allB_spec (p := fun w => allB (mkB w) 5) mk_all hw) hk
  unfold mkB at h
  exact of_decide_eq_true h
def lsB (w k : Nat) : Bool := decide (realA.ib .and .i64 (realA.ish .shl .i64 (w : Int) k) 63 = ((w * 2 ^ k % 64 : Nat) : Int))
theorem ls_all : allB (fun w => allB (lsB w) 5) 16 = true := by kernel_rfl
theorem ls_is {w k : Nat} (hw : w < 16) (hk : k < 5) : realA.ib .and .i64 (realA.ish .shl .i64 (w : Int) k) 63 = ((w * 2 ^ k % 64 : Nat) : Int) := by
  have h : lsB w k = true := allB_spec (p := lsB w) (allB_spec (p := fun w => allB (lsB w) 5) ls_all hw) hk
  unfold lsB at h
  exact of_decide_eq_true h
end Go.Sx.B7
namespace Go.Sx.B7
open Go.Proofs
set_option linter.unusedVariables false
set_option maxRecDepth 100000
attribute [local irreducible] g10b3c0 g10b3r0_0 g10b3r0_1 g10b3r0_2 g10b3a_c0 g10b3a_r0_0 g10b3a_r0_1 g10b3a_r0_2 g11b3c0 g11b3r0_0 g11b3r0_1 g11b3r0_2 g11b3a_c0 g11b3a_r0_0 g11b3a_r0_1 g11b3a_r0_2
def dg : Nat → Nat → List Nat → List Nat
  | 0, _, [] => []
  | 1, v, [] => [v * 16]
  | _, v, [] => [v * 4]
  | 0, _, x :: r => x / 4 :: dg 1 (x % 4) r
  | 1, v, x :: r => (v * 16 + x / 16) :: dg 2 (x % 16) r
  | _, v, x :: r => (v * 4 + x / 64) :: x % 64 :: dg 0 0 r
def hx : List Nat → List Nat
  | [] => []
  | x :: r => x / 16 :: x % 16 :: hx r
def KF : AV → Heap → Option Heap := fun _ h => some (pick h [410, 411, 412, 413, 448, 500, 5002])
def RES (s : List Nat) (b : Int) (l : List Nat) : Option Heap := some [(410, ⟨[.one (.ptr 410 0 none), .one (.sl 500 none l.length 1)], 36, 1⟩), (411, ⟨[.one (.str s)], 9, 1⟩), (412, ⟨[.one (.int .i64 8)], 3, 1⟩), (413, ⟨[.one (.int .i64 b)], 3, 1⟩), (448, ⟨[], 0, 0⟩), (500, ⟨[.nums .u8 l.length l], 5, 2⟩)]
theorem a08 : realA.ib .add .i64 0 8 = 8 := by kernel_rfl
theorem a28 : realA.ib .add .i64 2 8 = 10 := by kernel_rfl
theorem a48 : realA.ib .add .i64 4 8 = 12 := by kernel_rfl
theorem s86 : realA.ib .sub .i64 8 6 = 2 := by kernel_rfl
theorem s106 : realA.ib .sub .i64 10 6 = 4 := by kernel_rfl
theorem s126 : realA.ib .sub .i64 12 6 = 6 := by kernel_rfl
theorem s66 : realA.ib .sub .i64 6 6 = 0 := by kernel_rfl
theorem s62 : realA.ib .sub .i64 6 2 = 4 := by kernel_rfl
theorem s64 : realA.ib .sub .i64 6 4 = 2 := by kernel_rfl
theorem s84 : realA.ib .sub .i64 8 4 = 4 := by kernel_rfl
theorem s44 : realA.ib .sub .i64 4 4 = 0 := by kernel_rfl
theorem m63 : realA.ib .sub .i64 (realA.ish .shl .i64 1 6) 1 = 63 := by kernel_rfl
theorem m15 : realA.ib .sub .i64 (realA.ish .shl .i64 1 4) 1 = 15 := by kernel_rfl
theorem t0 : realA.toN 0 = 0 := rfl
theorem t2 : realA.toN 2 = 2 := rfl
theorem t4 : realA.toN 4 = 4 := rfl
theorem t6 : realA.toN 6 = 6 := rfl
theorem t8 : realA.toN 8 = 8 := rfl
theorem n0 : realA.neg 0 = false := by kernel_rfl
theorem n2 : realA.neg 2 = false := by kernel_rfl
theorem n4 : realA.neg 4 = false := by kernel_rfl
theorem n6 : realA.neg 6 = false := by kernel_rfl
theorem n8 : realA.neg 8 = false := by kernel_rfl
theorem g86 : realA.ic .geq 8 6 = true := by kernel_rfl
theorem g26 : realA.ic .geq 2 6 = false := by kernel_rfl
theorem g106 : realA.ic .geq 10 6 = true := by kernel_rfl
theorem g46 : realA.ic .geq 4 6 = false := by kernel_rfl
theorem g126 : realA.ic .geq 12 6 = true := by kernel_rfl
theorem g66 : realA.ic .geq 6 6 = true := by kernel_rfl
theorem g06 : realA.ic .geq 0 6 = false := by kernel_rfl
theorem g84 : realA.ic .geq 8 4 = true := by kernel_rfl
theorem g44 : realA.ic .geq 4 4 = true := by kernel_rfl
theorem g04 : realA.ic .geq 0 4 = false := by kernel_rfl
theorem p0 : realA.ic .gtr 0 0 = false := by kernel_rfl
theorem p2 : realA.ic .gtr 2 0 = true := by kernel_rfl
theorem p4 : realA.ic .gtr 4 0 = true := by kernel_rfl
theorem lssT {i n : Nat} (h : i < n) : realA.ic .lss (i : Int) (n : Int) = true := decide_eq_true (by omega)
theorem lssF {i n : Nat} (h : n ≤ i) : realA.ic .lss (i : Int) (n : Int) = false := decide_eq_false (by omega)
theorem ltT {i n : Nat} (h : i < n) : realA.lt i n = true := decide_eq_true h
theorem inc {i : Nat} (h : i < 4611686018427387904) : realA.ib .add .i64 (i : Int) 1 = ((i + 1 : Nat) : Int) := by
  rw [ar_add (by omega)]; rfl
theorem ofn (x : Nat) : realA.ofN x = (x : Int) := rfl
theorem getD_drop {s : List Nat} {i x : Nat} {r : List Nat} (h : s.drop i = x :: r) : s.getD i 0 = x ∧ i < s.length ∧ s.drop (i + 1) = r := by
  have hlt : i < s.length := by
    apply Nat.lt_of_not_le
    intro hc
    rw [List.drop_eq_nil_of_le hc] at h
    cases h
  rw [List.drop_eq_getElem_cons hlt] at h
  simp only [List.cons.injEq] at h
  refine ⟨?_, hlt, h.2⟩
  rw [List.getD_eq_getElem?_getD, List.getElem?_eq_getElem hlt]
  exact h.1
theorem drop_nil {s : List Nat} {i : Nat} (h : s.drop i = []) : s.length ≤ i := List.drop_eq_nil_iff.1 h
section
variable {s : List Nat} {n : Nat}
abbrev LA (n m : Nat) (h v i : Int) (s l : List Nat) : Option Heap := g10i3L2a realA (n + 4) KF m h v (s.length : Int) i l.length s 8 6 l.length l
theorem st0 {m x i : Nat} {l : List Nat} (hx : x < 256) (hg : s.getD i 0 = x) (hi : i < s.length) (hi2 : i < 4611686018427387904) (hl : l.length + 1 < 140737488355328) :
    LA n (m + 1) 0 0 i s l = LA n m 2 ((x % 4 : Nat) : Int) ((i + 1 : Nat) : Int) s (l ++ [al (x / 4)]) := by
  have hv := or_is (v := 0) (x := x) (by omega) hx
  simp only [Nat.mul_zero, Nat.zero_add] at hv
  have e1 := dg_is (w := x) (k := 2) (by omega) (by decide)
  have hd : (x) / 2 ^ 2 % 64 = x / 4 := by omega
  have hd6 : x / 4 < 64 := by omega
  have hl1 : l.length < 140737488355328 := by omega
  have e2 := mk_is (w := x) (k := 2) (by omega) (by decide)
  have e4 : (x) % 2 ^ 2 = x % 4 := by omega
  rw [e4] at e2
  have hlen : (l ++ [al (x / 4)]).length = l.length + 1 := by simp
  simp only [LA, hlen]
  rw [g10i3L2a, lssT hi]
  simp only [g10i3J3a, n8, ar_negN, ltT hi, a08, t8, ar_toNN, hg, ofn]
  erw [hv]
  rw [g10i3L5a, g86]
  simp only [g10i3J6a, s86, n2, n6, t2, t6, m63, e1, hd, c1ok hd6 hl1, c1r0 hd6 hl1, c1r1 hd6 hl1, c1r2 hd6 hl1]
  rw [g10i3L5a, g26]
  simp only [g10i3J8, n2, t2, e2, inc hi2]
theorem st2 {m v x i : Nat} {l : List Nat} (hv0 : v < 4) (hx : x < 256) (hg : s.getD i 0 = x) (hi : i < s.length) (hi2 : i < 4611686018427387904) (hl : l.length + 1 < 140737488355328) :
    LA n (m + 1) 2 ((v : Nat) : Int) i s l = LA n m 4 ((x % 16 : Nat) : Int) ((i + 1 : Nat) : Int) s (l ++ [al (v * 16 + x / 16)]) := by
  have hv := or_is (v := v) (x := x) (by omega) hx
  have e1 := dg_is (w := 256 * v + x) (k := 4) (by omega) (by decide)
  have hd : (256 * v + x) / 2 ^ 4 % 64 = v * 16 + x / 16 := by omega
  have hd6 : v * 16 + x / 16 < 64 := by omega
  have hl1 : l.length < 140737488355328 := by omega
  have e2 := mk_is (w := 256 * v + x) (k := 4) (by omega) (by decide)
  have e4 : (256 * v + x) % 2 ^ 4 = x % 16 := by omega
  rw [e4] at e2
  have hlen : (l ++ [al (v * 16 + x / 16)]).length = l.length + 1 := by simp
  simp only [LA, hlen]
  rw [g10i3L2a, lssT hi]
  simp only [g10i3J3a, n8, ar_negN, ltT hi, a28, t8, ar_toNN, hg, ofn]
  erw [hv]
  rw [g10i3L5a, g106]
  simp only [g10i3J6a, s106, n4, n6, t4, t6, m63, e1, hd, c1ok hd6 hl1, c1r0 hd6 hl1, c1r1 hd6 hl1, c1r2 hd6 hl1]
  rw [g10i3L5a, g46]
  simp only [g10i3J8, n4, t4, e2, inc hi2]
theorem st4 {m v x i : Nat} {l : List Nat} (hv0 : v < 16) (hx : x < 256) (hg : s.getD i 0 = x) (hi : i < s.length) (hi2 : i < 4611686018427387904) (hl : l.length + 1 < 140737488355328) :
    LA n (m + 1) 4 ((v : Nat) : Int) i s l = LA n m 0 0 ((i + 1 : Nat) : Int) s (l ++ [al (v * 4 + x / 64)] ++ [al (x % 64)]) := by
  have hv := or_is (v := v) (x := x) (by omega) hx
  have e1 := dg_is (w := 256 * v + x) (k := 6) (by omega) (by decide)
  have hd : (256 * v + x) / 2 ^ 6 % 64 = v * 4 + x / 64 := by omega
  have hd6 : v * 4 + x / 64 < 64 := by omega
  have hl1 : l.length < 140737488355328 := by omega
  have e3 := dg_is (w := 256 * v + x) (k := 0) (by omega) (by decide)
  have hd3 : (256 * v + x) / 2 ^ 0 % 64 = x % 64 := by omega
  have hd7 : x % 64 < 64 := by omega
  have e2 := mk_is (w := 256 * v + x) (k := 0) (by omega) (by decide)
  have e4 : (256 * v + x) % 2 ^ 0 = 0 := by omega
  rw [e4] at e2
  have hlen0 : (l ++ [al (v * 4 + x / 64)]).length = l.length + 1 := by simp
  have hlen : (l ++ [al (v * 4 + x / 64)] ++ [al (x % 64)]).length = l.length + 1 + 1 := by simp
  have hl2 : (l ++ [al (v * 4 + x / 64)]).length < 140737488355328 := by omega
  have c1 := c1ok (n := (l ++ [al (v * 4 + x / 64)]).length) hd7 hl2
  have c2 := c1r0 (n := (l ++ [al (v * 4 + x / 64)]).length) hd7 hl2
  have c3 := c1r1 (n := (l ++ [al (v * 4 + x / 64)]).length) hd7 hl2
  have c4 := c1r2 (n := (l ++ [al (v * 4 + x / 64)]).length) hd7 hl2
  rw [hlen0] at c1 c2 c3 c4
  simp only [LA, hlen]
  rw [g10i3L2a, lssT hi]
  simp only [g10i3J3a, n8, ar_negN, ltT hi, a48, t8, ar_toNN, hg, ofn]
  erw [hv]
  rw [g10i3L5a, g126]
  simp only [g10i3J6a, s126, n6, n6, t6, t6, m63, e1, hd, c1ok hd6 hl1, c1r0 hd6 hl1, c1r1 hd6 hl1, c1r2 hd6 hl1]
  rw [g10i3L5a, g66]
  simp only [g10i3J6a, s66, n0, n6, t0, t6, m63, e3, hd3, c1, c2, c3, c4]
  rw [g10i3L5a, g06]
  simp only [g10i3J8, n0, t0, e2, inc hi2]
  rfl
theorem en0 {m i : Nat} {l : List Nat} (hi : s.length ≤ i) : LA n (m + 1) 0 0 i s l = RES s 6 l := by
  simp only [LA]
  rw [g10i3L2a, lssF hi]
  simp only [g10i3J10, p0]
  rfl
theorem en2 {m v i : Nat} {l : List Nat} (hv : v < 4) (hi : s.length ≤ i) (hl : l.length < 140737488355328) : LA n (m + 1) 2 ((v : Nat) : Int) i s l = RES s 6 (l ++ [al (v * 16)]) := by
  have e1 := ls_is (w := v) (k := 4) (by omega) (by decide)
  have hd : v * 2 ^ 4 % 64 = v * 16 := by omega
  have hd6 : v * 16 < 64 := by omega
  have hlen : (l ++ [al (v * 16)]).length = l.length + 1 := by simp
  simp only [LA, RES, hlen]
  rw [g10i3L2a, lssF hi]
  simp only [g10i3J10, p2, s62, n4, n6, t4, t6, m63, e1, hd, c1ok hd6 hl, c1r0 hd6 hl, c1r1 hd6 hl, c1r2 hd6 hl]
  rfl
theorem en4 {m v i : Nat} {l : List Nat} (hv : v < 16) (hi : s.length ≤ i) (hl : l.length < 140737488355328) : LA n (m + 1) 4 ((v : Nat) : Int) i s l = RES s 6 (l ++ [al (v * 4)]) := by
  have e1 := ls_is (w := v) (k := 2) (by omega) (by decide)
  have hd : v * 2 ^ 2 % 64 = v * 4 := by omega
  have hd6 : v * 4 < 64 := by omega
  have hlen : (l ++ [al (v * 4)]).length = l.length + 1 := by simp
  simp only [LA, RES, hlen]
  rw [g10i3L2a, lssF hi]
  simp only [g10i3J10, p4, s64, n2, n6, t2, t6, m63, e1, hd, c1ok hd6 hl, c1r0 hd6 hl, c1r1 hd6 hl, c1r2 hd6 hl]
  rfl
theorem run (hs : ∀ x ∈ s, x < 256) (hlen : s.length < 1125899906842624) : ∀ (r : List Nat) (m i : Nat) (l : List Nat), s.drop i = r → r.length < m → l.length + 2 * r.length < 112589990684262 →
    LA n m 0 0 i s l = RES s 6 (l ++ (dg 0 0 r).map al) ∧ (∀ v, v < 4 → LA n m 2 ((v : Nat) : Int) i s l = RES s 6 (l ++ (dg 1 v r).map al)) ∧ (∀ v, v < 16 → LA n m 4 ((v : Nat) : Int) i s l = RES s 6 (l ++ (dg 2 v r).map al)) := by
  intro r
  induction r with
  | nil =>
    intro m i l hd hm hl
    obtain ⟨m, rfl⟩ : ∃ k, m = k + 1 := ⟨m - 1, by simp only [List.length_nil] at hm; omega⟩
    have hi := drop_nil hd
    simp only [List.length_nil] at hl
    refine ⟨?_, fun v hv => ?_, fun v hv => ?_⟩
    · rw [en0 hi]; simp [dg]
    · rw [en2 hv hi (by omega)]; rfl
    · rw [en4 hv hi (by omega)]; rfl
  | cons x r ih =>
    intro m i l hd hm hl
    simp only [List.length_cons] at hm hl
    obtain ⟨m, rfl⟩ : ∃ k, m = k + 1 := ⟨m - 1, by omega⟩
    obtain ⟨hg, hi, hd'⟩ := getD_drop hd
    have hx : x < 256 := hs x (by
      have : x ∈ s.drop i := by rw [hd]; simp
      exact List.mem_of_mem_drop this)
    have hi2 : i < 4611686018427387904 := by omega
    have ap : ∀ (a b : Nat) (t : List Nat), l ++ [a] ++ [b] ++ t = l ++ (a :: b :: t) := fun a b t => by simp
    have ap1 : ∀ (a : Nat) (t : List Nat), l ++ [a] ++ t = l ++ (a :: t) := fun a t => by simp
    refine ⟨?_, fun v hv => ?_, fun v hv => ?_⟩
    · rw [st0 hx hg hi hi2 (by omega), (ih m (i + 1) _ hd' (by omega) (by simp; omega)).2.1 _ (by omega), ap1]
      rfl
    · rw [st2 hv hx hg hi hi2 (by omega), (ih m (i + 1) _ hd' (by omega) (by simp; omega)).2.2 _ (by omega), ap1]
      rfl
    · rw [st4 hv hx hg hi hi2 (by omega), (ih m (i + 1) _ hd' (by omega) (by simp; omega)).1, ap]
      rfl
end
end Go.Sx.B7
namespace Go.Sx.B7
open Go.Proofs
set_option linter.unusedVariables false
set_option maxRecDepth 100000
attribute [local irreducible] g10b3c0 g10b3r0_0 g10b3r0_1 g10b3r0_2 g10b3a_c0 g10b3a_r0_0 g10b3a_r0_1 g10b3a_r0_2 g11b3c0 g11b3r0_0 g11b3r0_1 g11b3r0_2 g11b3a_c0 g11b3a_r0_0 g11b3a_r0_1 g11b3a_r0_2
def NIL (s : List Nat) (b : Int) : Option Heap := some [(410, ⟨[.one .nilp, .one .nils], 36, 1⟩), (411, ⟨[.one (.str s)], 9, 1⟩), (412, ⟨[.one (.int .i64 8)], 3, 1⟩), (413, ⟨[.one (.int .i64 b)], 3, 1⟩), (448, ⟨[], 0, 0⟩)]
theorem it_nil : g10i3v realA [] 8 6 = NIL [] 6 := by kernel_rfl
theorem it_cons {x : Nat} {r : List Nat} (hs : ∀ y ∈ x :: r, y < 256) (hlen : (x :: r).length < 4000000) : g10i3v realA (x :: r) 8 6 = RES (x :: r) 6 ((dg 0 0 (x :: r)).map al) := by
  have hx : x < 256 := hs x (by simp)
  have hv := or_is (v := 0) (x := x) (by decide) hx
  simp only [Nat.mul_zero, Nat.zero_add] at hv
  have e1 := dg_is (w := x) (k := 2) (by omega) (by decide)
  have hd : x / 2 ^ 2 % 64 = x / 4 := by omega
  have hd6 : x / 4 < 64 := by omega
  have e2 := mk_is (w := x) (k := 2) (by omega) (by decide)
  have e4 : x % 2 ^ 2 = x % 4 := by omega
  rw [e4] at e2
  have hi : 0 < (x :: r).length := by simp
  have i1 : realA.ib .add .i64 0 1 = ((0 + 1 : Nat) : Int) := by kernel_rfl
  have lss : realA.ic .lss 0 ((x :: r).length : Int) = true := lssT (i := 0) hi
  have fin := ((run (s := x :: r) (n := 9999996) hs (by omega) r 9999999 1 [al (x / 4)] rfl (by simp at hlen ⊢; omega) (by simp at hlen ⊢; omega)).2.1 (x % 4) (by omega))
  show g10i3 realA (9999999 + 1) KF (x :: r) 8 6 = _
  unfold g10i3
  rw [g10i3L2, ofn, lss]
  simp only [g10i3J3, n8, n0, t0, ltT hi, a08, t8, List.getD_cons_zero, ofn]
  erw [hv]
  rw [g10i3L5, g86]
  simp only [g10i3J6, s86, n2, n6, t2, t6, m63, e1, hd, c0ok hd6, c0r0 hd6, c0r1 hd6, c0r2 hd6]
  rw [g10i3L5a, g26]
  simp only [g10i3J8, n2, t2, e2, i1]
  exact fin
theorem it11_nil : g11i3v realA [] 8 4 = NIL [] 4 := by kernel_rfl
section
variable {s : List Nat} {n : Nat}
abbrev HA (n m : Nat) (h v i : Int) (s l : List Nat) : Option Heap := g11i3L2a realA (n + 4) KF m h v (s.length : Int) i l.length s 8 4 l.length l
theorem hst {m x i : Nat} {l : List Nat} (hx : x < 256) (hg : s.getD i 0 = x) (hi : i < s.length) (hi2 : i < 4611686018427387904) (hll : l.length + 1 < 140737488355328) :
    HA n (m + 1) 0 0 i s l = HA n m 0 0 ((i + 1 : Nat) : Int) s (l ++ [hl (x / 16)] ++ [hl (x % 16)]) := by
  have hv := or_is (v := 0) (x := x) (by omega) hx
  simp only [Nat.mul_zero, Nat.zero_add] at hv
  have e1 := hx_is (w := x) (k := 4) (by omega) (by decide)
  have hd : x / 2 ^ 4 % 16 = x / 16 := by omega
  have hd6 : x / 16 < 16 := by omega
  have hl1 : l.length < 140737488355328 := by omega
  have e3 := hx_is (w := x) (k := 0) (by omega) (by decide)
  have hd3 : x / 2 ^ 0 % 16 = x % 16 := by omega
  have hd7 : x % 16 < 16 := by omega
  have e2 := mk_is (w := x) (k := 0) (by omega) (by decide)
  have e4 : x % 2 ^ 0 = 0 := by omega
  rw [e4] at e2
  have hlen0 : (l ++ [B7.hl (x / 16)]).length = l.length + 1 := by simp
  have hlen : (l ++ [B7.hl (x / 16)] ++ [B7.hl (x % 16)]).length = l.length + 1 + 1 := by simp
  have hl2 : (l ++ [B7.hl (x / 16)]).length < 140737488355328 := by omega
  have c1 := d1ok (n := (l ++ [B7.hl (x / 16)]).length) hd7 hl2
  have c2 := d1r0 (n := (l ++ [B7.hl (x / 16)]).length) hd7 hl2
  have c3 := d1r1 (n := (l ++ [B7.hl (x / 16)]).length) hd7 hl2
  have c4 := d1r2 (n := (l ++ [B7.hl (x / 16)]).length) hd7 hl2
  rw [hlen0] at c1 c2 c3 c4
  simp only [HA, hlen]
  rw [g11i3L2a, lssT hi]
  simp only [g11i3J3a, n8, ar_negN, ltT hi, a08, t8, ar_toNN, hg, ofn]
  erw [hv]
  rw [g11i3L5a, g84]
  simp only [g11i3J6a, s84, n4, t4, m15, e1, hd, d1ok hd6 hl1, d1r0 hd6 hl1, d1r1 hd6 hl1, d1r2 hd6 hl1]
  rw [g11i3L5a, g44]
  simp only [g11i3J6a, s44, n0, n4, t0, t4, m15, e3, hd3, c1, c2, c3, c4]
  rw [g11i3L5a, g04]
  simp only [g11i3J8, n0, t0, e2, inc hi2]
  rfl
theorem hen {m i : Nat} {l : List Nat} (hi : s.length ≤ i) : HA n (m + 1) 0 0 i s l = RES s 4 l := by
  simp only [HA]
  rw [g11i3L2a, lssF hi]
  simp only [g11i3J10, p0]
  rfl
theorem hrun (hs : ∀ x ∈ s, x < 256) (hlen : s.length < 1125899906842624) : ∀ (r : List Nat) (m i : Nat) (l : List Nat), s.drop i = r → r.length < m → l.length + 2 * r.length < 112589990684262 →
    HA n m 0 0 i s l = RES s 4 (l ++ (hx r).map hl) := by
  intro r
  induction r with
  | nil =>
    intro m i l hd hm hl
    obtain ⟨m, rfl⟩ : ∃ k, m = k + 1 := ⟨m - 1, by simp only [List.length_nil] at hm; omega⟩
    rw [hen (drop_nil hd)]
    simp [hx]
  | cons x r ih =>
    intro m i l hd hm hl
    simp only [List.length_cons] at hm hl
    obtain ⟨m, rfl⟩ : ∃ k, m = k + 1 := ⟨m - 1, by omega⟩
    obtain ⟨hg, hi, hd'⟩ := getD_drop hd
    have hx : x < 256 := hs x (by
      have : x ∈ s.drop i := by rw [hd]; simp
      exact List.mem_of_mem_drop this)
    have ap : ∀ (a b : Nat) (t : List Nat), l ++ [a] ++ [b] ++ t = l ++ (a :: b :: t) := fun a b t => by simp
    rw [hst hx hg hi (by omega) (by omega), ih m (i + 1) _ hd' (by omega) (by simp; omega), ap]
    rfl
end
theorem it11_cons {x : Nat} {r : List Nat} (hs : ∀ y ∈ x :: r, y < 256) (hlen : (x :: r).length < 4000000) : g11i3v realA (x :: r) 8 4 = RES (x :: r) 4 ((hx (x :: r)).map hl) := by
  have hx : x < 256 := hs x (by simp)
  have hv := or_is (v := 0) (x := x) (by decide) hx
  simp only [Nat.mul_zero, Nat.zero_add] at hv
  have e1 := hx_is (w := x) (k := 4) (by omega) (by decide)
  have hd : x / 2 ^ 4 % 16 = x / 16 := by omega
  have hd6 : x / 16 < 16 := by omega
  have e3 := hx_is (w := x) (k := 0) (by omega) (by decide)
  have hd3 : x / 2 ^ 0 % 16 = x % 16 := by omega
  have hd7 : x % 16 < 16 := by omega
  have e2 := mk_is (w := x) (k := 0) (by omega) (by decide)
  have e4 : x % 2 ^ 0 = 0 := by omega
  rw [e4] at e2
  have hi : 0 < (x :: r).length := by simp
  have i1 : realA.ib .add .i64 0 1 = ((0 + 1 : Nat) : Int) := by kernel_rfl
  have lss : realA.ic .lss 0 ((x :: r).length : Int) = true := lssT (i := 0) hi
  have fin := hrun (s := x :: r) (n := 9999996) hs (by omega) r 9999999 1 ([hl (x / 16)] ++ [hl (x % 16)]) rfl (by simp at hlen ⊢; omega) (by simp at hlen ⊢; omega)
  have c1 := d1ok (n := 1) (l := [hl (x / 16)]) hd7 (by simp)
  have c2 := d1r0 (n := 1) (l := [hl (x / 16)]) hd7 (by simp)
  have c3 := d1r1 (n := 1) (l := [hl (x / 16)]) hd7 (by simp)
  have c4 := d1r2 (n := 1) (l := [hl (x / 16)]) hd7 (by simp)
  show g11i3 realA (9999999 + 1) KF (x :: r) 8 4 = _
  unfold g11i3
  rw [g11i3L2, ofn, lss]
  simp only [g11i3J3, n8, n0, t0, ltT hi, a08, t8, List.getD_cons_zero, ofn]
  erw [hv]
  rw [g11i3L5, g84]
  simp only [g11i3J6, s84, n4, t4, m15, e1, hd, d0ok hd6, d0r0 hd6, d0r1 hd6, d0r2 hd6]
  rw [g11i3L5a, g44]
  simp only [g11i3J6a, s44, n0, n4, t0, t4, m15, e3, hd3, c1, c2, c3, c4]
  rw [g11i3L5a, g04]
  simp only [g11i3J8, n0, t0, e2, i1]
  exact fin
attribute [local irreducible] g10i3v g11i3v
theorem lnok (n : Nat) (l : List Nat) : g24a_ok realA n n l = true := rfl
theorem lnr0 (n : Nat) (l : List Nat) : g24a_r0 realA n n l = (n : Int) := rfl
theorem lnr1 (n : Nat) (l : List Nat) : g24a_r1 realA n n l = n := rfl
theorem lnr2 (n : Nat) (l : List Nat) : g24a_r2 realA n n l = n := rfl
theorem lnr3 (n : Nat) (l : List Nat) : g24a_r3 realA n n l = l := rfl
theorem ws_v (x l : List Nat) (n : Nat) (h : (l ++ x).length ≤ 140737488355328) : g25v realA x n n l = some (.tup [.cell (.int .i64 (x.length : Int)), .cell .top], [(0, ⟨[.one (.ptr 0 0 none), .one (.sl 501 none (l ++ x).length 1)], 36, 1⟩), (501, ⟨[.nums .u8 (l ++ x).length (l ++ x)], 5, 2⟩)]) := by
  have h1 : realA.le (l ++ x).length 140737488355328 = true := decide_eq_true h
  have h2 : realA.eq n (n + 0) = true := decide_eq_true rfl
  unfold g25v g25
  simp only [show g33a_ok realA n n l = true from rfl, show g33a_r0 realA n n l = n from rfl, show g33a_r1 realA n n l = n from rfl, show g33a_r2 realA n n l = l from rfl, h2, h1]
  rfl
theorem wsok {x l : List Nat} {n : Nat} (h : (l ++ x).length ≤ 140737488355328) : g25ok realA x n n l = true := by unfold g25ok; rw [ws_v _ _ _ h]; rfl
theorem wsr1 {x l : List Nat} {n : Nat} (h : (l ++ x).length ≤ 140737488355328) : g25r1 realA x n n l = (l ++ x).length := by unfold g25r1; rw [ws_v _ _ _ h]; rfl
theorem wsr2 {x l : List Nat} {n : Nat} (h : (l ++ x).length ≤ 140737488355328) : g25r2 realA x n n l = (l ++ x).length := by unfold g25r2; rw [ws_v _ _ _ h]; rfl
theorem wsr3 {x l : List Nat} {n : Nat} (h : (l ++ x).length ≤ 140737488355328) : g25r3 realA x n n l = l ++ x := by unfold g25r3; rw [ws_v _ _ _ h]; rfl
attribute [local irreducible] g25v g25ok g25r1 g25r2 g25r3
def pad (l : List Nat) : Nat := (4 - l.length % 4) % 4
theorem pad_run {n : Nat} : ∀ (j m : Nat) (l : List Nat), pad l = j → j < m → 0 < l.length → l.length + j < 140737488355328 →
    g10L5 realA n (outR (outH [] none)) m l.length l.length l = some (.v (.cell (.str (l ++ List.replicate j 61))), []) := by
  intro j
  induction j with
  | zero =>
    intro m l hp hm h0 hl
    obtain ⟨m, rfl⟩ : ∃ k, m = k + 1 := ⟨m - 1, by omega⟩
    have hr : realA.ic .neq (realA.ib .rem .i64 ((l.length : Nat) : Int) 4) 0 = false := by
      rw [ar_rem (by omega), ar_neq]
      have : ((l.length : Int) % 4) = 0 := by unfold pad at hp; omega
      rw [this]; rfl
    have hlt : realA.lt 0 l.length = true := decide_eq_true h0
    rw [g10L5]
    simp only [lnok, lnr0, lnr1, lnr2, lnr3, hr, g26ok, g26r0, hlt, List.take_length]
    simp only [List.replicate_zero, List.append_nil]
    rfl
  | succ j ih =>
    intro m l hp hm h0 hl
    obtain ⟨m, rfl⟩ : ∃ k, m = k + 1 := ⟨m - 1, by omega⟩
    have hr : realA.ic .neq (realA.ib .rem .i64 ((l.length : Nat) : Int) 4) 0 = true := by
      rw [ar_rem (by omega), ar_neq]
      have : ¬ ((l.length : Int) % 4) = 0 := by unfold pad at hp; omega
      simp [this]
    have hle : (l ++ [61]).length ≤ 140737488355328 := by simp; omega
    have hlen : (l ++ [61]).length = l.length + 1 := by simp
    have := ih m (l ++ [61]) (by unfold pad at hp ⊢; rw [hlen]; omega) (by omega) (by omega) (by omega)
    rw [g10L5]
    simp only [lnok, lnr0, lnr1, lnr2, lnr3, hr, wsok hle, wsr1 hle, wsr2 hle, wsr3 hle]
    rw [this]
    simp [List.replicate_succ]
def enc (s : List Nat) : List Nat := (dg 0 0 s).map al ++ List.replicate (pad ((dg 0 0 s).map al)) 61
def hex (s : List Nat) : List Nat := (hx s).map hl
theorem dg_len : ∀ (p v : Nat) (s : List Nat), (dg p v s).length ≤ 2 * s.length + 1
  | 0, _, [] => by simp [dg]
  | 1, v, [] => by simp [dg]
  | n + 2, v, [] => by simp [dg]
  | 0, _, x :: r => by have := dg_len 1 (x % 4) r; simp [dg]; omega
  | 1, v, x :: r => by have := dg_len 2 (x % 16) r; simp [dg]; omega
  | n + 2, v, x :: r => by have := dg_len 0 0 r; simp [dg]; omega
theorem dg_pos (x : Nat) (r : List Nat) : 0 < (dg 0 0 (x :: r)).length := by simp [dg]
theorem enc_v {s : List Nat} (hs : ∀ x ∈ s, x < 256) (hlen : s.length < 4000000) : g10v realA s = some (.v (.cell (.str (enc s))), []) := by
  cases s with
  | nil =>
    show g10v realA [] = _
    have c0 : g10i3c0 realA [] 8 6 = false := by unfold g10i3c0; rw [it_nil]; rfl
    have c1 : g10i3c1 realA [] 8 6 = false := by unfold g10i3c1; rw [it_nil]; rfl
    have c2 : g10i3c2 realA [] 8 6 = true := by unfold g10i3c2; rw [it_nil]; rfl
    unfold g10v g10
    simp only [c0, c1, c2]
    rfl
  | cons x r =>
    have it := it_cons hs hlen
    have c0 : g10i3c0 realA (x :: r) 8 6 = true := by unfold g10i3c0; rw [it]; rfl
    have r0 : g10i3r0_0 realA (x :: r) 8 6 = ((dg 0 0 (x :: r)).map al).length := by unfold g10i3r0_0; rw [it]; rfl
    have r4 : g10i3r0_4 realA (x :: r) 8 6 = ((dg 0 0 (x :: r)).map al).length := by unfold g10i3r0_4; rw [it]; rfl
    have r5 : g10i3r0_5 realA (x :: r) 8 6 = ((dg 0 0 (x :: r)).map al) := by unfold g10i3r0_5; rw [it]; rfl
    have hdl := dg_len 0 0 (x :: r)
    have hdp := dg_pos x r
    unfold g10v g10
    simp only [c0, r0, r4, r5, g10J5]
    exact pad_run _ 10000000 _ rfl (by unfold pad; omega) (by rw [List.length_map]; exact hdp) (by rw [List.length_map]; unfold pad; omega)
theorem enc_ok {s : List Nat} (hs : ∀ x ∈ s, x < 256) (hlen : s.length < 4000000) : g10ok realA s = true := by unfold g10ok; rw [enc_v hs hlen]; rfl
theorem enc_is {s : List Nat} (hs : ∀ x ∈ s, x < 256) (hlen : s.length < 4000000) : g10r0 realA s = enc s := by unfold g10r0; rw [enc_v hs hlen]; rfl
theorem hx_pos (x : Nat) (r : List Nat) : 0 < (hx (x :: r)).length := by simp [hx]
theorem hex_v {s : List Nat} (hs : ∀ x ∈ s, x < 256) (hlen : s.length < 4000000) : g11v realA s = some (.v (.cell (.str (hex s))), []) := by
  cases s with
  | nil =>
    have c0 : g11i3c0 realA [] 8 4 = false := by unfold g11i3c0; rw [it11_nil]; rfl
    have c1 : g11i3c1 realA [] 8 4 = false := by unfold g11i3c1; rw [it11_nil]; rfl
    have c2 : g11i3c2 realA [] 8 4 = true := by unfold g11i3c2; rw [it11_nil]; rfl
    unfold g11v g11
    simp only [c0, c1, c2]
    rfl
  | cons x r =>
    have it := it11_cons hs hlen
    have c0 : g11i3c0 realA (x :: r) 8 4 = true := by unfold g11i3c0; rw [it]; rfl
    have r0 : g11i3r0_0 realA (x :: r) 8 4 = ((hx (x :: r)).map hl).length := by unfold g11i3r0_0; rw [it]; rfl
    have r4 : g11i3r0_4 realA (x :: r) 8 4 = ((hx (x :: r)).map hl).length := by unfold g11i3r0_4; rw [it]; rfl
    have r5 : g11i3r0_5 realA (x :: r) 8 4 = ((hx (x :: r)).map hl) := by unfold g11i3r0_5; rw [it]; rfl
    have hlt : realA.lt 0 ((hx (x :: r)).map hl).length = true := by rw [ar_lt, List.length_map]; exact decide_eq_true (hx_pos x r)
    unfold g11v g11
    simp only [c0, r0, r4, r5, g26ok, g26r0, hlt, List.take_length]
    rfl
theorem hex_ok {s : List Nat} (hs : ∀ x ∈ s, x < 256) (hlen : s.length < 4000000) : g11ok realA s = true := by unfold g11ok; rw [hex_v hs hlen]; rfl
theorem hex_is {s : List Nat} (hs : ∀ x ∈ s, x < 256) (hlen : s.length < 4000000) : g11r0 realA s = hex s := by unfold g11r0; rw [hex_v hs hlen]; rfl
end Go.Sx.B7
namespace Go.Sx
section
variable {P : Program} {T : Tys} {O : Orc} {N : Nat} {S : Nat → Prop} {R : Type} {r : R}
def spineB (A : Ar) (T : Tys) (O : Orc) (an : Ann) (X : St → Option R) (K : St → Option R) : List Nat → Code → St → Option R
  | 0 :: l, .seq a b, s => codeN A T O an [] (fun _ _ => none) [] a (fun ex s' => match ex with
    | .normal => spineB A T O an X K l b s'
    | .ret => K s'
    | .exit _ => none) s
  | 1 :: l, .block _ c, s => spineB A T O an X K l c s
  | 2 :: l, .cond c a _, s => match ev s c with
    | some (.v (.cell (.bool true))) => spineB A T O an X K l a s
    | _ => none
  | 3 :: l, .cond c _ b, s => match ev s c with
    | some (.v (.cell (.bool false))) => spineB A T O an X K l b s
    | _ => none
  | [], _, s => X s
  | _, _, _ => none
def spineCB : List Nat → Code → Option Code
  | 0 :: l, .seq _ b => spineCB l b
  | 1 :: l, .block _ c => spineCB l c
  | 2 :: l, .cond _ a _ => spineCB l a
  | 3 :: l, .cond _ _ b => spineCB l b
  | [], c => some c
  | _, _ => none
def finR (T : Tys) (rs : List ResultVar) (k : AV → Heap → Option R) (ex : Ex) (s : St) : Option R :=
  match ex with
  | .ret => finD T rs k .ret s
  | _ => none
theorem spineB_sound {cx : Cx} {ρ₀ : Map} {w₀ : World} (hM : P.follows .mixedOrders = true) (hT : TyOK P T) (hO : OSound P O) (hD : ODet O) (hpb : cx.pb = O.pb) (hyl : ∀ vs h, O.yl vs h = none) (hnx : O.nx = none) (hrg : ∀ i v sl hp, O.rng i v sl hp = none) {an : Ann} {X : St → Option R} {K : St → Option R} {q : Code} {Q : Exit → Act → World → Prop}
    (hX : ∀ Q' : Exit → Act → World → Prop, (∀ a w, Q .ret a w → Q' .ret a w) → ∀ s ρ a w, X s = some r → Rel N S ρ₀ w₀ cx ρ s a w → q.wpIn Fence.wide 0 P Q' a w) (hQ : ∀ s ρ a w, K s = some r → Rel N S ρ₀ w₀ cx ρ s a w → Q .ret a w) :
    ∀ (n : List Nat) (c : Code), spineCB n c = some q → codeOkL cx.nt cx.L c = true → ∀ Q' : Exit → Act → World → Prop, (∀ a w, Q .ret a w → Q' .ret a w) → ∀ (s : St) (ρ : Map) (a : Act) (w : World), spineB realA T O an X K n c s = some r → Rel N S ρ₀ w₀ cx ρ s a w → c.wpIn Fence.wide 0 P Q' a w := by
  intro n
  induction n with
  | nil =>
    intro c hc _ Q' hQ' s ρ a w hk h
    have e : c = q := by cases c <;> simpa [spineCB] using hc
    subst e
    have hk : X s = some r := by cases c <;> simpa [spineB] using hk
    exact hX Q' hQ' s ρ a w hk h
  | cons d n ih =>
    intro c hc hok Q' hQ' s ρ a w hk h
    match d, c, hc, hok, hk with
    | 0, .seq x y, hc, hok, hk =>
      simp only [spineCB] at hc
      simp only [codeOkL, Bool.and_eq_true] at hok
      simp only [spineB] at hk
      have hw := go_sound (P := P) (O := O) (F := Fence.wide) (fu := 0) (G := fun _ _ => True) (I := fun _ _ => True) (cx := cx) (ρ₀ := ρ₀) (w₀ := w₀) (.inl rfl) hM hT hO hD hpb (fun _ _ _ _ _ => trivial) (fun _ _ _ => trivial) (fun _ _ _ _ _ => trivial) (fun _ _ _ => trivial) (fun t sI e => by rw [hnx] at e; cases e) (fun _ _ _ _ => ysound_none hyl) (yexit_none hyl) (an := an) (cut := []) (body := x) (rng_none hrg) (K0 := fun ex s' => match ex with
        | .normal => spineB realA T O an X K n y s'
        | .ret => K s'
        | .exit _ => none) 0 x [] _ rfl hok.1 (.inl rfl) s ρ a w hk ⟨h, fun _ _ => trivial, fun _ _ => trivial⟩
      refine wpIn_seq (wpIn_mono hw fun e a' w' hq => ?_)
      cases e with
      | normal =>
        obtain ⟨ρ', s', g1, g2⟩ := hq
        exact ih y hc hok.2 Q' hQ' s' ρ' a' w' g1 g2.rel
      | exit i =>
        obtain ⟨ρ', s', g1, g2⟩ := hq
        cases g1
      | ret =>
        obtain ⟨ρ', s', g1, g2⟩ := hq
        exact hQ' _ _ (hQ s' ρ' a' w' g1 g2.rel)
      | _ => exact hq.elim
    | 1, .block id c, hc, hok, hk =>
      simp only [spineCB] at hc
      simp only [codeOkL] at hok
      simp only [spineB] at hk
      exact wpIn_block (ih c hc hok (Exit.inBlock id Q') (fun a w q => hQ' a w q) s ρ a w hk h)
    | 2, .cond cc x y, hc, hok, hk =>
      simp only [spineCB] at hc
      simp only [codeOkL, Bool.and_eq_true] at hok
      simp only [spineB] at hk
      split at hk
      · rename_i hv
        exact wpIn_cond_true (h.er cc _ hv) (ih x hc hok.1 Q' hQ' s ρ a w hk h)
      · cases hk
    | 3, .cond cc x y, hc, hok, hk =>
      simp only [spineCB] at hc
      simp only [codeOkL, Bool.and_eq_true] at hok
      simp only [spineB] at hk
      split at hk
      · rename_i hv
        exact wpIn_cond_false (h.er cc _ hv) (ih y hc hok.2 Q' hQ' s ρ a w hk h)
      · cases hk
def funB {R : Type} (A : Ar) (T : Tys) (O : Orc) (an : Ann) (n : List Nat) (id : Nat) (ops : Array Oper) (c : Code) (rs : List ResultVar) (args : List AV) (k : AV → Heap → Option R) (X2 : List Nat → St → Option R) : Option R :=
  spineB A T O an (itGo A T O an id ops X2) (finD T rs k .ret) n c ⟨slotsOf 0 args, []⟩
theorem funB_sound {O2 : List Nat → Orc} (hM : P.follows .mixedOrders = true) (hT : TyOK P T) (hO : OSound P O) (hD : ODet O) (hpb : O.pb = 410) (hyl : ∀ vs h, O.yl vs h = none) (hnx : O.nx = none) (hrg : ∀ i v sl hp, O.rng i v sl hp = none) {d : Nat} (hO2 : ∀ s, OSound P (O2 s)) (hD2 : ∀ s, ODet (O2 s)) (hpb2 : ∀ s, (O2 s).pb = 410) (htk2 : ∀ s, (O2 s).tk = false) (hyl2 : ∀ s vs h, (O2 s).yl vs h = none) (hnx2 : ∀ s, (O2 s).nx = some (d, s))
    {an : Ann} {cut : List Nat} {f : FuncId} {fn : Func} {c blk rest : Code} {n : List Nat} {id : Nat} {ops : Array Oper} (hf : P.funcs[f]? = some fn) (hb : fn.body = some c) (hok : codeOk fn.ntmps c = true) (hsp : spineCB n c = some (.seq (.seq (.region id ops false) blk) rest)) (hok1 : codeOk fn.ntmps (.region id ops false) = true) (hok2 : codeOkL fn.ntmps [d] (.seq blk rest) = true) (hcut : isCut cut rest = false) (hdd : (lastR ops.toList).map (fun q => q.2.1) = some d)
    (hR : ∀ s N S ρ w (cx : Cx), cx.nt = fn.ntmps → cx.pb = 410 → cx.lo ≤ w.heap.size → RngOk P (O2 s) Fence.wide 0 N S ρ w cx (rngs (.seq blk rest))) {vs : List AV} {us : Array Value} {ρ : Map} {w : World}
    (hn : vs.length ≤ fn.ntmps) (hvs : RVs ρ vs us.toList) {k : AV → Heap → Option R} {X2 : List Nat → St → Option R} (hX2 : ∀ s st, X2 s st = some r → ∃ m, codeN realA T (O2 s) an cut (goD realA T (O2 s) an cut (.seq blk rest) (finR T fn.results.toList k) m) [] (.seq blk rest) (finR T fn.results.toList k) st = some r) (hk : funB realA T O an n id ops c fn.results.toList vs k X2 = some r) :
    Calls P f us w fun e w' => ∃ u ρ' v h', e = .returned u ∧ k v h' = some r ∧ RV ρ' v u ∧ Fr w.heap.size (fun _ => False) w w' := by
  refine callsIn_wide.1 (callsIn_of_wp_marks (n := 0) hf hb trivial ?_)
  have hsz : us.size = vs.length := by have := hvs.1; simpa using this
  have hle : O.pb ≤ 500 := by rw [hpb]; decide
  have hr := HR_nil ρ w
  have h0 : Rel w.heap.size (fun _ => False) ρ w ⟨fn.ntmps, [], fun _ => undef, O.pb, hle, w.heap.size⟩ ρ ⟨slotsOf 0 vs, []⟩ { tmps := us ++ Array.replicate (fn.ntmps - us.size) undef, defers := [] } w := by
    refine ⟨hr, fun t v hv => ?_, by simp; omega, DfOk.nil rfl rfl, Fr.refl _ _ _, fun _ _ => rfl⟩
    obtain ⟨_, h2⟩ := lk_slotsOf hv
    simp only [Nat.sub_zero] at h2
    have hlt : t < us.size := by rw [hsz]; exact (List.getElem?_eq_some_iff.1 h2).1
    have hu : us.toList[t]? = some us[t] := by simp [hlt]
    have hg : (us ++ Array.replicate (fn.ntmps - us.size) undef).getD t undef = us[t] := by
      rw [Array.getD_eq_getD_getElem?, Array.getElem?_append_left hlt]
      simp [hlt]
    rw [hg]
    exact hvs.2 t v _ h2 hu
  have fin : ∀ {ρ₁ : Map} {w₁ : World} {cx : Cx} (x : Ex) (ρ' : Map) (s : St) (a : Act) (w' : World), cx.nt = fn.ntmps → cx.lo = w.heap.size → finD T fn.results.toList k x s = some r → Rel w.heap.size (fun _ => False) ρ₁ w₁ cx ρ' s a w' → Fr w.heap.size (fun _ => False) w w₁ → LeavesInM Fence.wide 0 P fn a.tmps (fun e w' => ∃ u ρ' v h', e = .returned u ∧ k v h' = some r ∧ RV ρ' v u ∧ Fr w.heap.size (fun _ => False) w w') a.defers .returning w' := by
    intro ρ₁ w₁ cx x ρ' s a w' hnt hlo hx hrel hfr
    unfold finD at hx
    split at hx
    · cases hx
    · split at hx
      · rename_i v hv
        refine leaves_marks (lo := w.heap.size) (fun w2 => HR w.heap.size (fun _ => False) ρ' s.hp w2 ∧ Fr w.heap.size (fun _ => False) w w2) (fun w2 D hI hD h2 => ⟨HR_putObj hI.1 h2 rfl _, Fr_putObj hI.2 hr.low hD _⟩) (fun w2 hI => ?_) a.defers w' hrel.df.n (fun d hd => by
          obtain ⟨D, q1, q2, q3⟩ := hrel.df.m d hd
          exact ⟨D, q1, by rw [← hlo]; exact q2, q3⟩) ⟨hrel.hr, hfr.trans hrel.fr⟩
        have hrel2 : Rel w.heap.size (fun _ => False) ρ' w2 ⟨fn.ntmps, [], fun _ => undef, O.pb, hle, w.heap.size⟩ ρ' s { a with defers := [] } w2 := ⟨hI.1, hrel.sl, by rw [hrel.sz, hnt], DfOk.nil rfl rfl, Fr.refl _ _ _, fun _ _ => rfl⟩
        obtain ⟨u, h1, h2⟩ := res_sound hT hrel2 hv
        exact ⟨u, h1, u, ρ', v, s.hp, rfl, hx, h2, hI.2⟩
      · cases hx
  refine spineB_sound (P := P) (O := O) hM hT hO hD rfl hyl hnx hrg (K := finD T fn.results.toList k .ret) (X := itGo realA T O an id ops X2) (q := .seq (.seq (.region id ops false) blk) rest) ?_ ?_ n c hsp hok _ (fun _ _ h => h) _ _ _ _ hk h0
  · intro Q' hQ' s ρ' a w' hx h
    refine itGo_sound (P := P) (O := O) hT hO (fun _ _ => ysound_none hyl) rfl (by show 410 ≤ O.pb; rw [hpb]; exact Nat.le_refl _) (Nat.le_refl _) hok1 (fun d' g s' st ρ2 a2 w2 w3 hd' hx2 hf2 hg2 hit hρ9 ht9 hrel => ?_) hx h
    rw [hdd] at hd'
    obtain rfl := Option.some.inj hd'
    obtain ⟨m, hm⟩ := hX2 _ _ hx2
    subst hg2
    have nx : ∀ t sI, (O2 (natsOf s')).nx = some (t, sI) → NxOk w.heap.size (fun c w => w.heap[w2.heap.size]? = some (.stringIter s' c)) ρ2 w2 ⟨fn.ntmps, [d], fun _ => .pointer (some ⟨w2.heap.size, 0, none⟩), O.pb, hle, w.heap.size⟩ t sI := by
      intro t sI e
      rw [hnx2] at e
      simp only [Option.some.injEq, Prod.mk.injEq] at e
      obtain ⟨rfl, rfl⟩ := e
      exact ⟨w2.heap.size, s', rfl, by simp [memB], rfl, hρ9, (by show 409 < O.pb; rw [hpb]; decide), hf2.size, Nat.le_refl _, fun _ _ => Iff.rfl⟩
    have go := fun (c0 : Code) (p : List Bool) (K : Ex → St → Option R) (hp) (hok0) (s0 : St) (ρ0 : Map) (a0 : Act) (w0 : World) (hk0) (hr0) => go_sound (P := P) (O := O2 (natsOf s')) (F := Fence.wide) (fu := 0) (N := w.heap.size) (S := fun _ => False) (ρ₀ := ρ2) (w₀ := w2) (r := r) (cx := ⟨fn.ntmps, [d], fun _ => .pointer (some ⟨w2.heap.size, 0, none⟩), O.pb, hle, w.heap.size⟩) (G := fun _ _ => True) (I := fun c w => w.heap[w2.heap.size]? = some (.stringIter s' c)) (.inl rfl) hM hT (hO2 _) (hD2 _) (by rw [hpb2]; exact hpb) (fun _ _ _ _ _ => trivial) (fun _ _ _ => trivial) (fun c w w' hi ho => ho _ _ hi rfl) (fun q => by rw [hnx2] at q; cases q) nx (fun _ _ _ _ => ysound_none (hyl2 _)) (yexit_none (hyl2 _)) (an := an) (cut := cut) (body := .seq blk rest) (hR _ _ _ _ _ _ rfl hpb hf2.size) (K0 := finR T fn.results.toList k) m c0 p K hp hok0 (.inl rfl) s0 ρ0 a0 w0 hk0 hr0
    simp only [codeOkL, Bool.and_eq_true] at hok2
    refine wpIn_mono (go blk [false] _ rfl hok2.1 _ _ _ _ hm ⟨hrel, fun _ _ => trivial, fun x hx => by
      rw [ht9] at hx
      simp only [Option.some.injEq] at hx
      subst hx
      exact hit⟩) fun e a' w' hp => ?_
    cases e with
    | normal =>
      obtain ⟨ρ', s, g1, g2⟩ := hp
      change goC (O2 (natsOf s')).pb an (isCut cut rest) _ rest _ s = some r at g1
      rw [hcut] at g1
      refine wpIn_mono (go rest [true] _ rfl hok2.2 _ _ _ _ g1 g2) fun e a' w' hp => ?_
      cases e with
      | normal =>
        obtain ⟨ρ', s, g1, g2⟩ := hp
        cases g1
      | ret =>
        obtain ⟨ρ', s, g1, g2⟩ := hp
        exact hQ' _ _ (fin .ret _ _ _ _ rfl rfl g1 g2.rel hf2)
      | exit i =>
        obtain ⟨ρ', s, g1, g2⟩ := hp
        cases g1
      | _ => exact hp.elim
    | ret =>
      obtain ⟨ρ', s, g1, g2⟩ := hp
      exact hQ' _ _ (fin .ret _ _ _ _ rfl rfl g1 g2.rel hf2)
    | exit i =>
      obtain ⟨ρ', s, g1, g2⟩ := hp
      cases g1
    | _ => exact hp.elim
  · intro s ρ' a w' hx h
    exact fin .ret _ _ _ _ rfl rfl hx h (Fr.refl _ _ _)
theorem fn1_ofB {O2 : List Nat → Orc} (hM : P.follows .mixedOrders = true) (hT : TyOK P T) (hO : OSound P O) (hD : ODet O) (hpb : O.pb = 410) (hyl : ∀ vs h, O.yl vs h = none) (hnx : O.nx = none) (hrg : ∀ i v sl hp, O.rng i v sl hp = none) {d : Nat} (hO2 : ∀ s, OSound P (O2 s)) (hD2 : ∀ s, ODet (O2 s)) (hpb2 : ∀ s, (O2 s).pb = 410) (htk2 : ∀ s, (O2 s).tk = false) (hyl2 : ∀ s vs h, (O2 s).yl vs h = none) (hnx2 : ∀ s, (O2 s).nx = some (d, s))
    {an : Ann} {cut : List Nat} {f g : FuncId} {fn : Func} {c blk rest : Code} {n : List Nat} {id : Nat} {ops : Array Oper} (hf : P.funcs[g]? = some fn) (hb : fn.body = some c) (hok : codeOk fn.ntmps c = true) (hcall : ∀ us w, (callFunc f us).run P w = .ok (.enter g us) w) (hsp : spineCB n c = some (.seq (.seq (.region id ops false) blk) rest)) (hok1 : codeOk fn.ntmps (.region id ops false) = true) (hok2 : codeOkL fn.ntmps [d] (.seq blk rest) = true) (hcut : isCut cut rest = false) (hdd : (lastR ops.toList).map (fun q => q.2.1) = some d)
    (hR : ∀ s N S ρ w (cx : Cx), cx.nt = fn.ntmps → cx.pb = 410 → cx.lo ≤ w.heap.size → RngOk P (O2 s) Fence.wide 0 N S ρ w cx (rngs (.seq blk rest))) {vs : List AV} {v : AV} (hn : vs.length ≤ fn.ntmps) (hm : ∀ b, v.mentions b = false) {X2 : List Nat → St → Option AV}
    (hX2 : ∀ s st, X2 s st = some v → ∃ m, codeN realA T (O2 s) an cut (goD realA T (O2 s) an cut (.seq blk rest) (finR T fn.results.toList fun v _ => some v) m) [] (.seq blk rest) (finR T fn.results.toList fun v _ => some v) st = some v) (hk : (∃ ρ us, RVs ρ vs us) → funB realA T O an n id ops c fn.results.toList vs (fun v _ => some v) X2 = some v) : Fn1 P f vs v := by
  intro ρ w us hvs
  rw [hcall]
  refine ⟨rfl, Calls.mono (funB_sound hM hT hO hD hpb hyl hnx hrg hO2 hD2 hpb2 htk2 hyl2 hnx2 hf hb hok hsp hok1 hok2 hcut hdd hR hn hvs hX2 (hk ⟨ρ, _, hvs⟩)) fun e w' he => ?_⟩
  obtain ⟨u, ρ', v', h', e1, e2, e3, e5⟩ := he
  simp only [Option.some.injEq] at e2
  subst e2
  exact ⟨u, e1, RV_agree (fun b hb => by rw [hm b] at hb; cases hb) e3, e5⟩
end
end Go.Sx
namespace Go.Sx
open Go.Proofs
set_option linter.unusedVariables false
set_option maxRecDepth 100000
abbrev al64 : List Nat := [65, 66, 67, 68, 69, 70, 71, 72, 73, 74, 75, 76, 77, 78, 79, 80, 81, 82, 83, 84, 85, 86, 87, 88, 89, 90, 97, 98, 99, 100, 101, 102, 103, 104, 105, 106, 107, 108, 109, 110, 111, 112, 113, 114, 115, 116, 117, 118, 119, 120, 121, 122, 48, 49, 50, 51, 52, 53, 54, 55, 56, 57, 43, 47]
noncomputable abbrev q28 : Code := (spineCB [0, 1, 0, 3, 0, 2] (bodyOf Tryd.f28)).getD .skip
noncomputable abbrev C28 : Code := .seq (tailC (headC q28)) (tailC q28)
noncomputable abbrev p28 : Array Oper := opsOf (headC (headC q28))
def r28O : Orc := { orcOf [] with pb := 410 }
def r28P (s : List Nat) : Orc := { orcOf [] with pb := 410, nx := some (175, s) }
theorem r28_sound : OSound Tryd.prog (orcOf []) := orc_sound fun f g hm args v hv => by cases hm
theorem r28_det : ODet (orcOf []) := orc_det _
noncomputable def r28X (s : List Nat) (st : St) : Option AV := codeN realA gtys (r28P s) [] [] (goD realA gtys (r28P s) [] [] C28 (finR gtys Tryd.f28.results.toList fun v _ => some v) 200) [] C28 (finR gtys Tryd.f28.results.toList fun v _ => some v) st
theorem r28v : funB realA gtys r28O [] [0, 1, 0, 3, 0, 2] 37 p28 (bodyOf Tryd.f28) Tryd.f28.results.toList [tS al64, .v (.cell (.int .i32 65533))] (fun v _ => some v) r28X = some (.v (.cell (.int .i64 (-1)))) := by kernel_rfl
theorem r28 : Fn1 Tryd.prog 28 [tS al64, .v (.cell (.int .i32 65533))] (.v (.cell (.int .i64 (-1)))) :=
  fn1_ofB mixed gtysOK (O := r28O) (O2 := r28P) r28_sound r28_det rfl (fun _ _ => rfl) rfl (fun _ _ _ _ => rfl) (d := 175) (fun _ => r28_sound) (fun _ => r28_det) (fun _ => rfl) (fun _ => rfl) (fun _ _ _ => rfl) (fun _ => rfl) (an := []) (cut := []) Tryd.func28 (c := bodyOf Tryd.f28) (n := [0, 1, 0, 3, 0, 2]) (id := 37) (ops := p28) (blk := tailC (headC q28)) (rest := tailC q28) rfl (by kernel_rfl) Tryd.call28 (by kernel_rfl) (by kernel_rfl) (by kernel_rfl) (by kernel_rfl) (by kernel_rfl) (fun _ _ _ _ _ _ _ _ _ => rng_none (fun _ _ _ _ => rfl)) (by decide) (fun b => rfl) (X2 := r28X) (fun s st h => ⟨200, h⟩) fun _ => r28v
def lsB : List Nat → List Nat → Bool
  | [], [] => true
  | a :: r, b :: s => Nat.beq a b && lsB r s
  | _, _ => false
theorem lsB_spec : ∀ {a b : List Nat}, lsB a b = true → a = b
  | [], [], _ => rfl
  | a :: r, b :: s, h => by
    simp only [lsB, Bool.and_eq_true] at h
    rw [beq_true h.1, lsB_spec h.2]
  | [], _ :: _, h => by cases h
  | _ :: _, [], h => by cases h
def idxRok (A : Ar) (r : Int) : Bool := match A.ic .eql r 65533 with
  | true => true
  | false => g28ok A al64 r
def idxR (A : Ar) (r : Int) : Int := match A.ic .eql r 65533 with
  | true => -1
  | false => g28r0 A al64 r
def g28xo (A : Ar) (args : List AV) : Option (Bool × AV) := match args with
  | [.v (.cell (.str a)), .v (.cell (.int .i32 r))] => match lsB a al64 with
    | true => some (idxRok A r, .v (.cell (.int .i64 (idxR A r))))
    | false => none
  | _ => none
theorem g28xo_sound : ∀ args v, g28xo realA args = some (true, v) → Fn1 Tryd.prog 28 args v := by
  intro args v h
  unfold g28xo at h
  split at h
  · rename_i a r
    split at h
    · rename_i hl
      simp only [Option.some.injEq, Prod.mk.injEq] at h
      obtain ⟨hc, h⟩ := h
      subst h
      rw [lsB_spec hl]
      unfold idxRok at hc
      unfold idxR
      split at hc
      · rename_i hr
        have : r = 65533 := of_decide_eq_true hr
        subst this
        exact r28
      · exact g28o_sound _ _ (show g28o realA [tS al64, .v (.cell (.int .i32 r))] = some (true, .v (.cell (.int .i64 (g28r0 realA al64 r)))) by
          show some (g28ok realA al64 r, _) = _
          rw [hc])
    · cases h
  · cases h
end Go.Sx
