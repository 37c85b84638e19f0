import Derived.Test.YtkomlijabeedpaaDoorSxP07c
import Derived.Test.YtkomlijabeedpaaDoorSxAr
import Derived.Test.YtkomlijabeedpaaDoorSxPl
namespace Go.Sx.B7
set_option linter.unusedSectionVars false
open Go.Proofs
set_option linter.unusedVariables false
set_option maxRecDepth 100000
theorem w0 (x : Nat) : g23v realA x = some (.v (.cell .top), [(0, ⟨[.one (.ptr 0 0 none), .one (.sl 700 none 1 1)], 36, 1⟩), (700, ⟨[.nums .u8 1 [x]], 5, 2⟩)]) := by kernel_rfl
theorem w0ok (x : Nat) : g23ok realA x = true := by unfold g23ok; rw [w0]; rfl
theorem w0r0 (x : Nat) : g23r0 realA x = 1 := by unfold g23r0; rw [w0]; rfl
theorem w0r1 (x : Nat) : g23r1 realA x = 1 := by unfold g23r1; rw [w0]; rfl
theorem w0r2 (x : Nat) : g23r2 realA x = [x] := by unfold g23r2; rw [w0]; rfl
theorem w1 (x n : Nat) (l : List Nat) (h : l.length < 140737488355328) : g23a_v realA x n n l = some (.v (.cell .top), [(0, ⟨[.one (.ptr 0 0 none), .one (.sl 501 none (l.length + 1) 1)], 36, 1⟩), (501, ⟨[.nums .u8 (l.length + 1) (l ++ [x])], 5, 2⟩)]) := by
  have e : (l ++ [x]).length = l.length + 1 := by simp
  have e2 : (l ++ [x].take 1) = l ++ [x] := rfl
  have h1 : realA.le (l.length + 1) 140737488355328 = true := decide_eq_true (by omega)
  have h2 : realA.eq n (n + 0) = true := decide_eq_true rfl
  unfold g23a_v g23a_
  simp only [show g33a_ok realA n n l = true from rfl, show g33a_r0 realA n n l = n from rfl, show g33a_r1 realA n n l = n from rfl, show g33a_r2 realA n n l = l from rfl, h2, e2, e, h1]
  rfl
theorem w1ok (x n : Nat) (l : List Nat) (h : l.length < 140737488355328) : g23a_ok realA x n n l = true := by unfold g23a_ok; rw [w1 _ _ _ h]; rfl
theorem w1r0 (x n : Nat) (l : List Nat) (h : l.length < 140737488355328) : g23a_r0 realA x n n l = l.length + 1 := by unfold g23a_r0; rw [w1 _ _ _ h]; rfl
theorem w1r1 (x n : Nat) (l : List Nat) (h : l.length < 140737488355328) : g23a_r1 realA x n n l = l.length + 1 := by unfold g23a_r1; rw [w1 _ _ _ h]; rfl
theorem w1r2 (x n : Nat) (l : List Nat) (h : l.length < 140737488355328) : g23a_r2 realA x n n l = l ++ [x] := by unfold g23a_r2; rw [w1 _ _ _ h]; rfl
attribute [local irreducible] g23v g23ok g23r0 g23r1 g23r2 g23a_v g23a_ok g23a_r0 g23a_r1 g23a_r2
abbrev AL : List Nat := [65, 66, 67, 68, 69, 70, 71, 72, 73, 74, 75, 76, 77, 78, 79, 80, 81, 82, 83, 84, 85, 86, 87, 88, 89, 90, 97, 98, 99, 100, 101, 102, 103, 104, 105, 106, 107, 108, 109, 110, 111, 112, 113, 114, 115, 116, 117, 118, 119, 120, 121, 122, 48, 49, 50, 51, 52, 53, 54, 55, 56, 57, 43, 47]
abbrev HL : List Nat := [48, 49, 50, 51, 52, 53, 54, 55, 56, 57, 97, 98, 99, 100, 101, 102]
def al (d : Nat) : Nat := AL.getD d 0
def hl (d : Nat) : Nat := HL.getD d 0
theorem AL_len : AL.length = 64 := rfl
theorem HL_len : HL.length = 16 := rfl
theorem b0 (d : Nat) (hd : d < 64) : g10b3v realA (d : Int) = some (.normal, [(410, ⟨[.one (.ptr 410 0 none), .one (.sl 5002 none 1 1)], 36, 1⟩), (5002, ⟨[.nums .u8 1 [al d]], 5, 2⟩)]) := by
  have h1 : realA.lt (realA.toN (d : Int)) (AL.length) = true := decide_eq_true (by rw [AL_len]; exact hd)
  unfold g10b3v g10b3 g10b3t0 g10b3t1 g10b3t2
  simp only [ar_negN, h1, w0ok, w0r0, w0r1, w0r2]
  rfl
theorem b1 (d n : Nat) (l : List Nat) (hd : d < 64) (h : l.length < 140737488355328) : g10b3a_v realA (d : Int) n n l = some (.normal, [(410, ⟨[.one (.ptr 410 0 none), .one (.sl 500 none (l.length + 1) 1)], 36, 1⟩), (500, ⟨[.nums .u8 (l.length + 1) (l ++ [al d])], 5, 2⟩)]) := by
  have h1 : realA.lt (realA.toN (d : Int)) (AL.length) = true := decide_eq_true (by rw [AL_len]; exact hd)
  unfold g10b3a_v g10b3a_ g10b3a_t0 g10b3a_t1 g10b3a_t2
  simp only [ar_negN, h1, w1ok _ _ _ h, w1r0 _ _ _ h, w1r1 _ _ _ h, w1r2 _ _ _ h]
  rfl
theorem c0ok {d : Nat} (hd : d < 64) : g10b3c0 realA (d : Int) = true := by unfold g10b3c0; rw [b0 d hd]; rfl
theorem c0r0 {d : Nat} (hd : d < 64) : g10b3r0_0 realA (d : Int) = 1 := by unfold g10b3r0_0; rw [b0 d hd]; rfl
theorem c0r1 {d : Nat} (hd : d < 64) : g10b3r0_1 realA (d : Int) = 1 := by unfold g10b3r0_1; rw [b0 d hd]; rfl
theorem c0r2 {d : Nat} (hd : d < 64) : g10b3r0_2 realA (d : Int) = [al d] := by unfold g10b3r0_2; rw [b0 d hd]; rfl
theorem c1ok {d n : Nat} {l : List Nat} (hd : d < 64) (h : l.length < 140737488355328) : g10b3a_c0 realA (d : Int) n n l = true := by unfold g10b3a_c0; rw [b1 d n l hd h]; rfl
theorem c1r0 {d n : Nat} {l : List Nat} (hd : d < 64) (h : l.length < 140737488355328) : g10b3a_r0_0 realA (d : Int) n n l = l.length + 1 := by unfold g10b3a_r0_0; rw [b1 d n l hd h]; rfl
theorem c1r1 {d n : Nat} {l : List Nat} (hd : d < 64) (h : l.length < 140737488355328) : g10b3a_r0_1 realA (d : Int) n n l = l.length + 1 := by unfold g10b3a_r0_1; rw [b1 d n l hd h]; rfl
theorem c1r2 {d n : Nat} {l : List Nat} (hd : d < 64) (h : l.length < 140737488355328) : g10b3a_r0_2 realA (d : Int) n n l = l ++ [al d] := by unfold g10b3a_r0_2; rw [b1 d n l hd h]; rfl
theorem h0 (d : Nat) (hd : d < 16) : g11b3v realA (d : Int) = some (.normal, [(410, ⟨[.one (.ptr 410 0 none), .one (.sl 5002 none 1 1)], 36, 1⟩), (5002, ⟨[.nums .u8 1 [hl d]], 5, 2⟩)]) := by
  have h1 : realA.lt (realA.toN (d : Int)) (HL.length) = true := decide_eq_true (by rw [HL_len]; exact hd)
  unfold g11b3v g11b3
  simp only [ar_negN, h1, w0ok, w0r0, w0r1, w0r2]
  rfl
theorem h1 (d n : Nat) (l : List Nat) (hd : d < 16) (h : l.length < 140737488355328) : g11b3a_v realA (d : Int) n n l = some (.normal, [(410, ⟨[.one (.ptr 410 0 none), .one (.sl 500 none (l.length + 1) 1)], 36, 1⟩), (500, ⟨[.nums .u8 (l.length + 1) (l ++ [hl d])], 5, 2⟩)]) := by
  have h1 : realA.lt (realA.toN (d : Int)) (HL.length) = true := decide_eq_true (by rw [HL_len]; exact hd)
  unfold g11b3a_v g11b3a_
  simp only [ar_negN, h1, w1ok _ _ _ h, w1r0 _ _ _ h, w1r1 _ _ _ h, w1r2 _ _ _ h]
  rfl
theorem d0ok {d : Nat} (hd : d < 16) : g11b3c0 realA (d : Int) = true := by unfold g11b3c0; rw [h0 d hd]; rfl
theorem d0r0 {d : Nat} (hd : d < 16) : g11b3r0_0 realA (d : Int) = 1 := by unfold g11b3r0_0; rw [h0 d hd]; rfl
theorem d0r1 {d : Nat} (hd : d < 16) : g11b3r0_1 realA (d : Int) = 1 := by unfold g11b3r0_1; rw [h0 d hd]; rfl
theorem d0r2 {d : Nat} (hd : d < 16) : g11b3r0_2 realA (d : Int) = [hl d] := by unfold g11b3r0_2; rw [h0 d hd]; rfl
theorem d1ok {d n : Nat} {l : List Nat} (hd : d < 16) (h : l.length < 140737488355328) : g11b3a_c0 realA (d : Int) n n l = true := by unfold g11b3a_c0; rw [h1 d n l hd h]; rfl
theorem d1r0 {d n : Nat} {l : List Nat} (hd : d < 16) (h : l.length < 140737488355328) : g11b3a_r0_0 realA (d : Int) n n l = l.length + 1 := by unfold g11b3a_r0_0; rw [h1 d n l hd h]; rfl
theorem d1r1 {d n : Nat} {l : List Nat} (hd : d < 16) (h : l.length < 140737488355328) : g11b3a_r0_1 realA (d : Int) n n l = l.length + 1 := by unfold g11b3a_r0_1; rw [h1 d n l hd h]; rfl
theorem d1r2 {d n : Nat} {l : List Nat} (hd : d < 16) (h : l.length < 140737488355328) : g11b3a_r0_2 realA (d : Int) n n l = l ++ [hl d] := by unfold g11b3a_r0_2; rw [h1 d n l hd h]; rfl
attribute [local irreducible] g10b3v g10b3c0 g10b3r0_0 g10b3r0_1 g10b3r0_2 g10b3a_v g10b3a_c0 g10b3a_r0_0 g10b3a_r0_1 g10b3a_r0_2 g11b3v g11b3c0 g11b3r0_0 g11b3r0_1 g11b3r0_2 g11b3a_v g11b3a_c0 g11b3a_r0_0 g11b3a_r0_1 g11b3a_r0_2
def allB (p : Nat → Bool) : Nat → Bool
  | 0 => true
  | n + 1 => p n && allB p n
theorem allB_spec {p : Nat → Bool} : ∀ {n i : Nat}, allB p n = true → i < n → p i = true
  | n + 1, i, h, hi => by
    simp only [allB, Bool.and_eq_true] at h
    rcases Nat.lt_succ_iff_lt_or_eq.1 hi with h2 | h2
    · exact allB_spec h.2 h2
    · subst h2; exact h.1
theorem sh_all : allB (fun v => decide (realA.ish .shl .i64 (v : Int) 8 = ((256 * v : Nat) : Int))) 16 = true := by kernel_rfl
theorem sh_is {v : Nat} (hv : v < 16) : realA.ish .shl .i64 (v : Int) 8 = ((256 * v : Nat) : Int) := of_decide_eq_true (allB_spec sh_all hv)
def orB (v x : Nat) : Bool := decide (realA.ib .or .i64 ((256 * v : Nat) : Int) (x : Int) = ((256 * v + x : Nat) : Int))
theorem or_all : allB (fun v => allB (orB v) 256) 16 = true := by kernel_rfl
theorem or_is {v x : Nat} (hv : v < 16) (hx : x < 256) : realA.ib .or .i64 (realA.ish .shl .i64 (v : Int) 8) (x : Int) = ((256 * v + x : Nat) : Int) := by
  rw [sh_is hv]
  have h : orB v x = true := allB_spec (p := orB v) (allB_spec (p := fun v => allB (orB v) 256) or_all hv) hx
  unfold orB at h
  exact of_decide_eq_true h
def dgB (w k : Nat) : Bool := decide (realA.ib .and .i64 (realA.ish .shr .i64 (w : Int) k) 63 = ((w / 2 ^ k % 64 : Nat) : Int))
theorem dg_all : allB (fun w => allB (dgB w) 7) 4096 = true := by kernel_rfl
theorem dg_is {w k : Nat} (hw : w < 4096) (hk : k < 7) : realA.ib .and .i64 (realA.ish .shr .i64 (w : Int) k) 63 = ((w / 2 ^ k % 64 : Nat) : Int) := by
  have h : dgB w k = true := allB_spec (p := dgB w) (allB_spec (p := fun w => allB (dgB w) 7) dg_all hw) hk
  unfold dgB at h
  exact of_decide_eq_true h
def hxB (w k : Nat) : Bool := decide (realA.ib .and .i64 (realA.ish .shr .i64 (w : Int) k) 15 = ((w / 2 ^ k % 16 : Nat) : Int))
theorem hx_all : allB (fun w => allB (hxB w) 5) 256 = true := by kernel_rfl
theorem hx_is {w k : Nat} (hw : w < 256) (hk : k < 5) : realA.ib .and .i64 (realA.ish .shr .i64 (w : Int) k) 15 = ((w / 2 ^ k % 16 : Nat) : Int) := by
  have h : hxB w k = true := allB_spec (p := hxB w) (allB_spec (p := fun w => allB (hxB w) 5) hx_all hw) hk
  unfold hxB at h
  exact of_decide_eq_true h
def mkB (w k : Nat) : Bool := decide (realA.ib .and .i64 (w : Int) (realA.ib .sub .i64 (realA.ish .shl .i64 1 k) 1) = ((w % 2 ^ k : Nat) : Int))
theorem mk_all : allB (fun w => allB (mkB w) 5) 4096 = true := by kernel_rfl
theorem mk_is {w k : Nat} (hw : w < 4096) (hk : k < 5) : realA.ib .and .i64 (w : Int) (realA.ib .sub .i64 (realA.ish .shl .i64 1 k) 1) = ((w % 2 ^ k : Nat) : Int) := by
  have h : mkB w k = true := allB_spec (p := mkB w) (allB_spec (p := fun w => allB (mkB w) 5) mk_all hw) hk
  unfold mkB at h
  exact of_decide_eq_true h
def lsB (w k : Nat) : Bool := decide (realA.ib .and .i64 (realA.ish .shl .i64 (w : Int) k) 63 = ((w * 2 ^ k % 64 : Nat) : Int))
theorem ls_all : allB (fun w => allB (lsB w) 5) 16 = true := by kernel_rfl
theorem ls_is {w k : Nat} (hw : w < 16) (hk : k < 5) : realA.ib .and .i64 (realA.ish .shl .i64 (w : Int) k) 63 = ((w * 2 ^ k % 64 : Nat) : Int) := by
  have h : lsB w k = true := allB_spec (p := lsB w) (allB_spec (p := fun w => allB (lsB w) 5) ls_all hw) hk
  unfold lsB at h
  exact of_decide_eq_true h
end Go.Sx.B7
namespace Go.Sx.B7
set_option linter.unusedSectionVars false
open Go.Proofs
set_option linter.unusedVariables false
set_option maxRecDepth 100000
attribute [local irreducible] g10b3c0 g10b3r0_0 g10b3r0_1 g10b3r0_2 g10b3a_c0 g10b3a_r0_0 g10b3a_r0_1 g10b3a_r0_2 g11b3c0 g11b3r0_0 g11b3r0_1 g11b3r0_2 g11b3a_c0 g11b3a_r0_0 g11b3a_r0_1 g11b3a_r0_2
def dg : Nat → Nat → List Nat → List Nat
  | 0, _, [] => []
  | 1, v, [] => [v * 16]
  | _, v, [] => [v * 4]
  | 0, _, x :: r => x / 4 :: dg 1 (x % 4) r
  | 1, v, x :: r => (v * 16 + x / 16) :: dg 2 (x % 16) r
  | _, v, x :: r => (v * 4 + x / 64) :: x % 64 :: dg 0 0 r
def hx : List Nat → List Nat
  | [] => []
  | x :: r => x / 16 :: x % 16 :: hx r
def KF : AV → Heap → Option Heap := fun _ h => some (pick h [410, 411, 412, 413, 448, 500, 5002])
def RES (s : List Nat) (b : Int) (l : List Nat) : Option Heap := some [(410, ⟨[.one (.ptr 410 0 none), .one (.sl 500 none l.length 1)], 36, 1⟩), (411, ⟨[.one (.str s)], 9, 1⟩), (412, ⟨[.one (.int .i64 8)], 3, 1⟩), (413, ⟨[.one (.int .i64 b)], 3, 1⟩), (448, ⟨[], 0, 0⟩), (500, ⟨[.nums .u8 l.length l], 5, 2⟩)]
theorem a08 : realA.ib .add .i64 0 8 = 8 := by kernel_rfl
theorem a28 : realA.ib .add .i64 2 8 = 10 := by kernel_rfl
theorem a48 : realA.ib .add .i64 4 8 = 12 := by kernel_rfl
theorem s86 : realA.ib .sub .i64 8 6 = 2 := by kernel_rfl
theorem s106 : realA.ib .sub .i64 10 6 = 4 := by kernel_rfl
theorem s126 : realA.ib .sub .i64 12 6 = 6 := by kernel_rfl
theorem s66 : realA.ib .sub .i64 6 6 = 0 := by kernel_rfl
theorem s62 : realA.ib .sub .i64 6 2 = 4 := by kernel_rfl
theorem s64 : realA.ib .sub .i64 6 4 = 2 := by kernel_rfl
theorem s84 : realA.ib .sub .i64 8 4 = 4 := by kernel_rfl
theorem s44 : realA.ib .sub .i64 4 4 = 0 := by kernel_rfl
theorem m63 : realA.ib .sub .i64 (realA.ish .shl .i64 1 6) 1 = 63 := by kernel_rfl
theorem m15 : realA.ib .sub .i64 (realA.ish .shl .i64 1 4) 1 = 15 := by kernel_rfl
theorem t0 : realA.toN 0 = 0 := rfl
theorem t2 : realA.toN 2 = 2 := rfl
theorem t4 : realA.toN 4 = 4 := rfl
theorem t6 : realA.toN 6 = 6 := rfl
theorem t8 : realA.toN 8 = 8 := rfl
theorem n0 : realA.neg 0 = false := by kernel_rfl
theorem n2 : realA.neg 2 = false := by kernel_rfl
theorem n4 : realA.neg 4 = false := by kernel_rfl
theorem n6 : realA.neg 6 = false := by kernel_rfl
theorem n8 : realA.neg 8 = false := by kernel_rfl
theorem g86 : realA.ic .geq 8 6 = true := by kernel_rfl
theorem g26 : realA.ic .geq 2 6 = false := by kernel_rfl
theorem g106 : realA.ic .geq 10 6 = true := by kernel_rfl
theorem g46 : realA.ic .geq 4 6 = false := by kernel_rfl
theorem g126 : realA.ic .geq 12 6 = true := by kernel_rfl
theorem g66 : realA.ic .geq 6 6 = true := by kernel_rfl
theorem g06 : realA.ic .geq 0 6 = false := by kernel_rfl
theorem g84 : realA.ic .geq 8 4 = true := by kernel_rfl
theorem g44 : realA.ic .geq 4 4 = true := by kernel_rfl
theorem g04 : realA.ic .geq 0 4 = false := by kernel_rfl
theorem p0 : realA.ic .gtr 0 0 = false := by kernel_rfl
theorem p2 : realA.ic .gtr 2 0 = true := by kernel_rfl
theorem p4 : realA.ic .gtr 4 0 = true := by kernel_rfl
theorem lssT {i n : Nat} (h : i < n) : realA.ic .lss (i : Int) (n : Int) = true := decide_eq_true (by omega)
theorem lssF {i n : Nat} (h : n ≤ i) : realA.ic .lss (i : Int) (n : Int) = false := decide_eq_false (by omega)
theorem ltT {i n : Nat} (h : i < n) : realA.lt i n = true := decide_eq_true h
theorem inc {i : Nat} (h : i < 4611686018427387904) : realA.ib .add .i64 (i : Int) 1 = ((i + 1 : Nat) : Int) := by
  rw [ar_add (by omega)]; rfl
theorem ofn (x : Nat) : realA.ofN x = (x : Int) := rfl
theorem getD_drop {s : List Nat} {i x : Nat} {r : List Nat} (h : s.drop i = x :: r) : s.getD i 0 = x ∧ i < s.length ∧ s.drop (i + 1) = r := by
  have hlt : i < s.length := by
    apply Nat.lt_of_not_le
    intro hc
    rw [List.drop_eq_nil_of_le hc] at h
    cases h
  rw [List.drop_eq_getElem_cons hlt] at h
  simp only [List.cons.injEq] at h
  refine ⟨?_, hlt, h.2⟩
  rw [List.getD_eq_getElem?_getD, List.getElem?_eq_getElem hlt]
  exact h.1
theorem drop_nil {s : List Nat} {i : Nat} (h : s.drop i = []) : s.length ≤ i := List.drop_eq_nil_iff.1 h
section
variable {s : List Nat} {n : Nat}
abbrev LA (n m : Nat) (h v i : Int) (s l : List Nat) : Option Heap := g10i3L2a realA (n + 4) KF m h v (s.length : Int) i l.length s 8 6 l.length l
theorem st0 {m x i : Nat} {l : List Nat} (hx : x < 256) (hg : s.getD i 0 = x) (hi : i < s.length) (hi2 : i < 4611686018427387904) (hl : l.length + 1 < 140737488355328) :
    LA n (m + 1) 0 0 i s l = LA n m 2 ((x % 4 : Nat) : Int) ((i + 1 : Nat) : Int) s (l ++ [al (x / 4)]) := by
  have hv := or_is (v := 0) (x := x) (by omega) hx
  simp only [Nat.mul_zero, Nat.zero_add] at hv
  have e1 := dg_is (w := x) (k := 2) (by omega) (by decide)
  have hd : (x) / 2 ^ 2 % 64 = x / 4 := by omega
  have hd6 : x / 4 < 64 := by omega
  have hl1 : l.length < 140737488355328 := by omega
  have e2 := mk_is (w := x) (k := 2) (by omega) (by decide)
  have e4 : (x) % 2 ^ 2 = x % 4 := by omega
  rw [e4] at e2
  have hlen : (l ++ [al (x / 4)]).length = l.length + 1 := by simp
  simp only [LA, hlen]
  rw [g10i3L2a, lssT hi]
  simp only [g10i3J3a, n8, ar_negN, ltT hi, a08, t8, ar_toNN, hg, ofn]
  erw [hv]
  rw [g10i3L5a, g86]
  simp only [g10i3J6a, s86, n2, n6, t2, t6, m63, e1, hd, c1ok hd6 hl1, c1r0 hd6 hl1, c1r1 hd6 hl1, c1r2 hd6 hl1]
  rw [g10i3L5a, g26]
  simp only [g10i3J8, n2, t2, e2, inc hi2]
theorem st2 {m v x i : Nat} {l : List Nat} (hv0 : v < 4) (hx : x < 256) (hg : s.getD i 0 = x) (hi : i < s.length) (hi2 : i < 4611686018427387904) (hl : l.length + 1 < 140737488355328) :
    LA n (m + 1) 2 ((v : Nat) : Int) i s l = LA n m 4 ((x % 16 : Nat) : Int) ((i + 1 : Nat) : Int) s (l ++ [al (v * 16 + x / 16)]) := by
  have hv := or_is (v := v) (x := x) (by omega) hx
  have e1 := dg_is (w := 256 * v + x) (k := 4) (by omega) (by decide)
  have hd : (256 * v + x) / 2 ^ 4 % 64 = v * 16 + x / 16 := by omega
  have hd6 : v * 16 + x / 16 < 64 := by omega
  have hl1 : l.length < 140737488355328 := by omega
  have e2 := mk_is (w := 256 * v + x) (k := 4) (by omega) (by decide)
  have e4 : (256 * v + x) % 2 ^ 4 = x % 16 := by omega
  rw [e4] at e2
  have hlen : (l ++ [al (v * 16 + x / 16)]).length = l.length + 1 := by simp
  simp only [LA, hlen]
  rw [g10i3L2a, lssT hi]
  simp only [g10i3J3a, n8, ar_negN, ltT hi, a28, t8, ar_toNN, hg, ofn]
  erw [hv]
  rw [g10i3L5a, g106]
  simp only [g10i3J6a, s106, n4, n6, t4, t6, m63, e1, hd, c1ok hd6 hl1, c1r0 hd6 hl1, c1r1 hd6 hl1, c1r2 hd6 hl1]
  rw [g10i3L5a, g46]
  simp only [g10i3J8, n4, t4, e2, inc hi2]
theorem st4 {m v x i : Nat} {l : List Nat} (hv0 : v < 16) (hx : x < 256) (hg : s.getD i 0 = x) (hi : i < s.length) (hi2 : i < 4611686018427387904) (hl : l.length + 1 < 140737488355328) :
    LA n (m + 1) 4 ((v : Nat) : Int) i s l = LA n m 0 0 ((i + 1 : Nat) : Int) s (l ++ [al (v * 4 + x / 64)] ++ [al (x % 64)]) := by
  have hv := or_is (v := v) (x := x) (by omega) hx
  have e1 := dg_is (w := 256 * v + x) (k := 6) (by omega) (by decide)
  have hd : (256 * v + x) / 2 ^ 6 % 64 = v * 4 + x / 64 := by omega
  have hd6 : v * 4 + x / 64 < 64 := by omega
  have hl1 : l.length < 140737488355328 := by omega
  have e3 := dg_is (w := 256 * v + x) (k := 0) (by omega) (by decide)
  have hd3 : (256 * v + x) / 2 ^ 0 % 64 = x % 64 := by omega
  have hd7 : x % 64 < 64 := by omega
  have e2 := mk_is (w := 256 * v + x) (k := 0) (by omega) (by decide)
  have e4 : (256 * v + x) % 2 ^ 0 = 0 := by omega
  rw [e4] at e2
  have hlen0 : (l ++ [al (v * 4 + x / 64)]).length = l.length + 1 := by simp
  have hlen : (l ++ [al (v * 4 + x / 64)] ++ [al (x % 64)]).length = l.length + 1 + 1 := by simp
  have hl2 : (l ++ [al (v * 4 + x / 64)]).length < 140737488355328 := by omega
  have c1 := c1ok (n := (l ++ [al (v * 4 + x / 64)]).length) hd7 hl2
  have c2 := c1r0 (n := (l ++ [al (v * 4 + x / 64)]).length) hd7 hl2
  have c3 := c1r1 (n := (l ++ [al (v * 4 + x / 64)]).length) hd7 hl2
  have c4 := c1r2 (n := (l ++ [al (v * 4 + x / 64)]).length) hd7 hl2
  rw [hlen0] at c1 c2 c3 c4
  simp only [LA, hlen]
  rw [g10i3L2a, lssT hi]
  simp only [g10i3J3a, n8, ar_negN, ltT hi, a48, t8, ar_toNN, hg, ofn]
  erw [hv]
  rw [g10i3L5a, g126]
  simp only [g10i3J6a, s126, n6, n6, t6, t6, m63, e1, hd, c1ok hd6 hl1, c1r0 hd6 hl1, c1r1 hd6 hl1, c1r2 hd6 hl1]
  rw [g10i3L5a, g66]
  simp only [g10i3J6a, s66, n0, n6, t0, t6, m63, e3, hd3, c1, c2, c3, c4]
  rw [g10i3L5a, g06]
  simp only [g10i3J8, n0, t0, e2, inc hi2]
  rfl
theorem en0 {m i : Nat} {l : List Nat} (hi : s.length ≤ i) : LA n (m + 1) 0 0 i s l = RES s 6 l := by
  simp only [LA]
  rw [g10i3L2a, lssF hi]
  simp only [g10i3J10, p0]
  rfl
theorem en2 {m v i : Nat} {l : List Nat} (hv : v < 4) (hi : s.length ≤ i) (hl : l.length < 140737488355328) : LA n (m + 1) 2 ((v : Nat) : Int) i s l = RES s 6 (l ++ [al (v * 16)]) := by
  have e1 := ls_is (w := v) (k := 4) (by omega) (by decide)
  have hd : v * 2 ^ 4 % 64 = v * 16 := by omega
  have hd6 : v * 16 < 64 := by omega
  have hlen : (l ++ [al (v * 16)]).length = l.length + 1 := by simp
  simp only [LA, RES, hlen]
  rw [g10i3L2a, lssF hi]
  simp only [g10i3J10, p2, s62, n4, n6, t4, t6, m63, e1, hd, c1ok hd6 hl, c1r0 hd6 hl, c1r1 hd6 hl, c1r2 hd6 hl]
  rfl
theorem en4 {m v i : Nat} {l : List Nat} (hv : v < 16) (hi : s.length ≤ i) (hl : l.length < 140737488355328) : LA n (m + 1) 4 ((v : Nat) : Int) i s l = RES s 6 (l ++ [al (v * 4)]) := by
  have e1 := ls_is (w := v) (k := 2) (by omega) (by decide)
  have hd : v * 2 ^ 2 % 64 = v * 4 := by omega
  have hd6 : v * 4 < 64 := by omega
  have hlen : (l ++ [al (v * 4)]).length = l.length + 1 := by simp
  simp only [LA, RES, hlen]
  rw [g10i3L2a, lssF hi]
  simp only [g10i3J10, p4, s64, n2, n6, t2, t6, m63, e1, hd, c1ok hd6 hl, c1r0 hd6 hl, c1r1 hd6 hl, c1r2 hd6 hl]
  rfl
theorem run (hs : ∀ x ∈ s, x < 256) (hlen : s.length < 1125899906842624) : ∀ (r : List Nat) (m i : Nat) (l : List Nat), s.drop i = r → r.length < m → l.length + 2 * r.length < 112589990684262 →
    LA n m 0 0 i s l = RES s 6 (l ++ (dg 0 0 r).map al) ∧ (∀ v, v < 4 → LA n m 2 ((v : Nat) : Int) i s l = RES s 6 (l ++ (dg 1 v r).map al)) ∧ (∀ v, v < 16 → LA n m 4 ((v : Nat) : Int) i s l = RES s 6 (l ++ (dg 2 v r).map al)) := by
  intro r
  induction r with
  | nil =>
    intro m i l hd hm hl
    obtain ⟨m, rfl⟩ : ∃ k, m = k + 1 := ⟨m - 1, by simp only [List.length_nil] at hm; omega⟩
    have hi := drop_nil hd
    simp only [List.length_nil] at hl
    refine ⟨?_, fun v hv => ?_, fun v hv => ?_⟩
    · rw [en0 hi]; simp [dg]
    · rw [en2 hv hi (by omega)]; rfl
    · rw [en4 hv hi (by omega)]; rfl
  | cons x r ih =>
    intro m i l hd hm hl
    simp only [List.length_cons] at hm hl
    obtain ⟨m, rfl⟩ : ∃ k, m = k + 1 := ⟨m - 1, by omega⟩
    obtain ⟨hg, hi, hd'⟩ := getD_drop hd
    have hx : x < 256 := hs x (by
      have : x ∈ s.drop i := by rw [hd]; simp
      exact List.mem_of_mem_drop this)
    have hi2 : i < 4611686018427387904 := by omega
    have ap : ∀ (a b : Nat) (t : List Nat), l ++ [a] ++ [b] ++ t = l ++ (a :: b :: t) := fun a b t => by simp
    have ap1 : ∀ (a : Nat) (t : List Nat), l ++ [a] ++ t = l ++ (a :: t) := fun a t => by simp
    refine ⟨?_, fun v hv => ?_, fun v hv => ?_⟩
    · rw [st0 hx hg hi hi2 (by omega), (ih m (i + 1) _ hd' (by omega) (by simp; omega)).2.1 _ (by omega), ap1]
      rfl
    · rw [st2 hv hx hg hi hi2 (by omega), (ih m (i + 1) _ hd' (by omega) (by simp; omega)).2.2 _ (by omega), ap1]
      rfl
    · rw [st4 hv hx hg hi hi2 (by omega), (ih m (i + 1) _ hd' (by omega) (by simp; omega)).1, ap]
      rfl
end
end Go.Sx.B7
namespace Go.Sx.B7
set_option linter.unusedSectionVars false
open Go.Proofs
set_option linter.unusedVariables false
set_option maxRecDepth 100000
attribute [local irreducible] g10b3c0 g10b3r0_0 g10b3r0_1 g10b3r0_2 g10b3a_c0 g10b3a_r0_0 g10b3a_r0_1 g10b3a_r0_2 g11b3c0 g11b3r0_0 g11b3r0_1 g11b3r0_2 g11b3a_c0 g11b3a_r0_0 g11b3a_r0_1 g11b3a_r0_2
def NIL (s : List Nat) (b : Int) : Option Heap := some [(410, ⟨[.one .nilp, .one .nils], 36, 1⟩), (411, ⟨[.one (.str s)], 9, 1⟩), (412, ⟨[.one (.int .i64 8)], 3, 1⟩), (413, ⟨[.one (.int .i64 b)], 3, 1⟩), (448, ⟨[], 0, 0⟩)]
theorem it_nil : g10i3v realA [] 8 6 = NIL [] 6 := by kernel_rfl
theorem it_cons {x : Nat} {r : List Nat} (hs : ∀ y ∈ x :: r, y < 256) (hlen : (x :: r).length < 4000000) : g10i3v realA (x :: r) 8 6 = RES (x :: r) 6 ((dg 0 0 (x :: r)).map al) := by
  have hx : x < 256 := hs x (by simp)
  have hv := or_is (v := 0) (x := x) (by decide) hx
  simp only [Nat.mul_zero, Nat.zero_add] at hv
  have e1 := dg_is (w := x) (k := 2) (by omega) (by decide)
  have hd : x / 2 ^ 2 % 64 = x / 4 := by omega
  have hd6 : x / 4 < 64 := by omega
  have e2 := mk_is (w := x) (k := 2) (by omega) (by decide)
  have e4 : x % 2 ^ 2 = x % 4 := by omega
  rw [e4] at e2
  have hi : 0 < (x :: r).length := by simp
  have i1 : realA.ib .add .i64 0 1 = ((0 + 1 : Nat) : Int) := by kernel_rfl
  have lss : realA.ic .lss 0 ((x :: r).length : Int) = true := lssT (i := 0) hi
  have fin := ((run (s := x :: r) (n := 9999996) hs (by omega) r 9999999 1 [al (x / 4)] rfl (by simp at hlen ⊢; omega) (by simp at hlen ⊢; omega)).2.1 (x % 4) (by omega))
  show g10i3 realA (9999999 + 1) KF (x :: r) 8 6 = _
  unfold g10i3
  rw [g10i3L2, ofn, lss]
  simp only [g10i3J3, n8, n0, t0, ltT hi, a08, t8, List.getD_cons_zero, ofn]
  erw [hv]
  rw [g10i3L5, g86]
  simp only [g10i3J6, s86, n2, n6, t2, t6, m63, e1, hd, c0ok hd6, c0r0 hd6, c0r1 hd6, c0r2 hd6]
  rw [g10i3L5a, g26]
  simp only [g10i3J8, n2, t2, e2, i1]
  exact fin
theorem it11_nil : g11i3v realA [] 8 4 = NIL [] 4 := by kernel_rfl
section
variable {s : List Nat} {n : Nat}
abbrev HA (n m : Nat) (h v i : Int) (s l : List Nat) : Option Heap := g11i3L2a realA (n + 4) KF m h v (s.length : Int) i l.length s 8 4 l.length l
theorem hst {m x i : Nat} {l : List Nat} (hx : x < 256) (hg : s.getD i 0 = x) (hi : i < s.length) (hi2 : i < 4611686018427387904) (hll : l.length + 1 < 140737488355328) :
    HA n (m + 1) 0 0 i s l = HA n m 0 0 ((i + 1 : Nat) : Int) s (l ++ [hl (x / 16)] ++ [hl (x % 16)]) := by
  have hv := or_is (v := 0) (x := x) (by omega) hx
  simp only [Nat.mul_zero, Nat.zero_add] at hv
  have e1 := hx_is (w := x) (k := 4) (by omega) (by decide)
  have hd : x / 2 ^ 4 % 16 = x / 16 := by omega
  have hd6 : x / 16 < 16 := by omega
  have hl1 : l.length < 140737488355328 := by omega
  have e3 := hx_is (w := x) (k := 0) (by omega) (by decide)
  have hd3 : x / 2 ^ 0 % 16 = x % 16 := by omega
  have hd7 : x % 16 < 16 := by omega
  have e2 := mk_is (w := x) (k := 0) (by omega) (by decide)
  have e4 : x % 2 ^ 0 = 0 := by omega
  rw [e4] at e2
  have hlen0 : (l ++ [B7.hl (x / 16)]).length = l.length + 1 := by simp
  have hlen : (l ++ [B7.hl (x / 16)] ++ [B7.hl (x % 16)]).length = l.length + 1 + 1 := by simp
  have hl2 : (l ++ [B7.hl (x / 16)]).length < 140737488355328 := by omega
  have c1 := d1ok (n := (l ++ [B7.hl (x / 16)]).length) hd7 hl2
  have c2 := d1r0 (n := (l ++ [B7.hl (x / 16)]).length) hd7 hl2
  have c3 := d1r1 (n := (l ++ [B7.hl (x / 16)]).length) hd7 hl2
  have c4 := d1r2 (n := (l ++ [B7.hl (x / 16)]).length) hd7 hl2
  rw [hlen0] at c1 c2 c3 c4
  simp only [HA, hlen]
  rw [g11i3L2a, lssT hi]
  simp only [g11i3J3a, n8, ar_negN, ltT hi, a08, t8, ar_toNN, hg, ofn]
  erw [hv]
  rw [g11i3L5a, g84]
  simp only [g11i3J6a, s84, n4, t4, m15, e1, hd, d1ok hd6 hl1, d1r0 hd6 hl1, d1r1 hd6 hl1, d1r2 hd6 hl1]
  rw [g11i3L5a, g44]
  simp only [g11i3J6a, s44, n0, n4, t0, t4, m15, e3, hd3, c1, c2, c3, c4]
  rw [g11i3L5a, g04]
  simp only [g11i3J8, n0, t0, e2, inc hi2]
  rfl
theorem hen {m i : Nat} {l : List Nat} (hi : s.length ≤ i) : HA n (m + 1) 0 0 i s l = RES s 4 l := by
  simp only [HA]
  rw [g11i3L2a, lssF hi]
  simp only [g11i3J10, p0]
  rfl
theorem hrun (hs : ∀ x ∈ s, x < 256) (hlen : s.length < 1125899906842624) : ∀ (r : List Nat) (m i : Nat) (l : List Nat), s.drop i = r → r.length < m → l.length + 2 * r.length < 112589990684262 →
    HA n m 0 0 i s l = RES s 4 (l ++ (hx r).map hl) := by
  intro r
  induction r with
  | nil =>
    intro m i l hd hm hl
    obtain ⟨m, rfl⟩ : ∃ k, m = k + 1 := ⟨m - 1, by simp only [List.length_nil] at hm; omega⟩
    rw [hen (drop_nil hd)]
    simp [hx]
  | cons x r ih =>
    intro m i l hd hm hl
    simp only [List.length_cons] at hm hl
    obtain ⟨m, rfl⟩ : ∃ k, m = k + 1 := ⟨m - 1, by omega⟩
    obtain ⟨hg, hi, hd'⟩ := getD_drop hd
    have hx : x < 256 := hs x (by
      have : x ∈ s.drop i := by rw [hd]; simp
      exact List.mem_of_mem_drop this)
    have ap : ∀ (a b : Nat) (t : List Nat), l ++ [a] ++ [b] ++ t = l ++ (a :: b :: t) := fun a b t => by simp
    rw [hst hx hg hi (by omega) (by omega), ih m (i + 1) _ hd' (by omega) (by simp; omega), ap]
    rfl
end
theorem it11_cons {x : Nat} {r : List Nat} (hs : ∀ y ∈ x :: r, y < 256) (hlen : (x :: r).length < 4000000) : g11i3v realA (x :: r) 8 4 = RES (x :: r) 4 ((hx (x :: r)).map hl) := by
  have hx : x < 256 := hs x (by simp)
  have hv := or_is (v := 0) (x := x) (by decide) hx
  simp only [Nat.mul_zero, Nat.zero_add] at hv
  have e1 := hx_is (w := x) (k := 4) (by omega) (by decide)
  have hd : x / 2 ^ 4 % 16 = x / 16 := by omega
  have hd6 : x / 16 < 16 := by omega
  have e3 := hx_is (w := x) (k := 0) (by omega) (by decide)
  have hd3 : x / 2 ^ 0 % 16 = x % 16 := by omega
  have hd7 : x % 16 < 16 := by omega
  have e2 := mk_is (w := x) (k := 0) (by omega) (by decide)
  have e4 : x % 2 ^ 0 = 0 := by omega
  rw [e4] at e2
  have hi : 0 < (x :: r).length := by simp
  have i1 : realA.ib .add .i64 0 1 = ((0 + 1 : Nat) : Int) := by kernel_rfl
  have lss : realA.ic .lss 0 ((x :: r).length : Int) = true := lssT (i := 0) hi
  have fin := hrun (s := x :: r) (n := 9999996) hs (by omega) r 9999999 1 ([hl (x / 16)] ++ [hl (x % 16)]) rfl (by simp at hlen ⊢; omega) (by simp at hlen ⊢; omega)
  have c1 := d1ok (n := 1) (l := [hl (x / 16)]) hd7 (by simp)
  have c2 := d1r0 (n := 1) (l := [hl (x / 16)]) hd7 (by simp)
  have c3 := d1r1 (n := 1) (l := [hl (x / 16)]) hd7 (by simp)
  have c4 := d1r2 (n := 1) (l := [hl (x / 16)]) hd7 (by simp)
  show g11i3 realA (9999999 + 1) KF (x :: r) 8 4 = _
  unfold g11i3
  rw [g11i3L2, ofn, lss]
  simp only [g11i3J3, n8, n0, t0, ltT hi, a08, t8, List.getD_cons_zero, ofn]
  erw [hv]
  rw [g11i3L5, g84]
  simp only [g11i3J6, s84, n4, t4, m15, e1, hd, d0ok hd6, d0r0 hd6, d0r1 hd6, d0r2 hd6]
  rw [g11i3L5a, g44]
  simp only [g11i3J6a, s44, n0, n4, t0, t4, m15, e3, hd3, c1, c2, c3, c4]
  rw [g11i3L5a, g04]
  simp only [g11i3J8, n0, t0, e2, i1]
  exact fin
attribute [local irreducible] g10i3v g11i3v
theorem lnok (n : Nat) (l : List Nat) : g24a_ok realA n n l = true := rfl
theorem lnr0 (n : Nat) (l : List Nat) : g24a_r0 realA n n l = (n : Int) := rfl
theorem lnr1 (n : Nat) (l : List Nat) : g24a_r1 realA n n l = n := rfl
theorem lnr2 (n : Nat) (l : List Nat) : g24a_r2 realA n n l = n := rfl
theorem lnr3 (n : Nat) (l : List Nat) : g24a_r3 realA n n l = l := rfl
theorem ws_v (x l : List Nat) (n : Nat) (h : (l ++ x).length ≤ 140737488355328) : g25v realA x n n l = some (.tup [.cell (.int .i64 (x.length : Int)), .cell .top], [(0, ⟨[.one (.ptr 0 0 none), .one (.sl 501 none (l ++ x).length 1)], 36, 1⟩), (501, ⟨[.nums .u8 (l ++ x).length (l ++ x)], 5, 2⟩)]) := by
  have h1 : realA.le (l ++ x).length 140737488355328 = true := decide_eq_true h
  have h2 : realA.eq n (n + 0) = true := decide_eq_true rfl
  unfold g25v g25
  simp only [show g33a_ok realA n n l = true from rfl, show g33a_r0 realA n n l = n from rfl, show g33a_r1 realA n n l = n from rfl, show g33a_r2 realA n n l = l from rfl, h2, h1]
  rfl
theorem wsok {x l : List Nat} {n : Nat} (h : (l ++ x).length ≤ 140737488355328) : g25ok realA x n n l = true := by unfold g25ok; rw [ws_v _ _ _ h]; rfl
theorem wsr1 {x l : List Nat} {n : Nat} (h : (l ++ x).length ≤ 140737488355328) : g25r1 realA x n n l = (l ++ x).length := by unfold g25r1; rw [ws_v _ _ _ h]; rfl
theorem wsr2 {x l : List Nat} {n : Nat} (h : (l ++ x).length ≤ 140737488355328) : g25r2 realA x n n l = (l ++ x).length := by unfold g25r2; rw [ws_v _ _ _ h]; rfl
theorem wsr3 {x l : List Nat} {n : Nat} (h : (l ++ x).length ≤ 140737488355328) : g25r3 realA x n n l = l ++ x := by unfold g25r3; rw [ws_v _ _ _ h]; rfl
attribute [local irreducible] g25v g25ok g25r1 g25r2 g25r3
def pad (l : List Nat) : Nat := (4 - l.length % 4) % 4
theorem pad_run {n : Nat} : ∀ (j m : Nat) (l : List Nat), pad l = j → j < m → 0 < l.length → l.length + j < 140737488355328 →
    g10L5 realA n (outR (outH [] none)) m l.length l.length l = some (.v (.cell (.str (l ++ List.replicate j 61))), []) := by
  intro j
  induction j with
  | zero =>
    intro m l hp hm h0 hl
    obtain ⟨m, rfl⟩ : ∃ k, m = k + 1 := ⟨m - 1, by omega⟩
    have hr : realA.ic .neq (realA.ib .rem .i64 ((l.length : Nat) : Int) 4) 0 = false := by
      rw [ar_rem (by omega), ar_neq]
      have : ((l.length : Int) % 4) = 0 := by unfold pad at hp; omega
      rw [this]; rfl
    have hlt : realA.lt 0 l.length = true := decide_eq_true h0
    rw [g10L5]
    simp only [lnok, lnr0, lnr1, lnr2, lnr3, hr, g26ok, g26r0, hlt, List.take_length]
    simp only [List.replicate_zero, List.append_nil]
    rfl
  | succ j ih =>
    intro m l hp hm h0 hl
    obtain ⟨m, rfl⟩ : ∃ k, m = k + 1 := ⟨m - 1, by omega⟩
    have hr : realA.ic .neq (realA.ib .rem .i64 ((l.length : Nat) : Int) 4) 0 = true := by
      rw [ar_rem (by omega), ar_neq]
      have : ¬ ((l.length : Int) % 4) = 0 := by unfold pad at hp; omega
      simp [this]
    have hle : (l ++ [61]).length ≤ 140737488355328 := by simp; omega
    have hlen : (l ++ [61]).length = l.length + 1 := by simp
    have := ih m (l ++ [61]) (by unfold pad at hp ⊢; rw [hlen]; omega) (by omega) (by omega) (by omega)
    rw [g10L5]
    simp only [lnok, lnr0, lnr1, lnr2, lnr3, hr, wsok hle, wsr1 hle, wsr2 hle, wsr3 hle]
    rw [this]
    simp [List.replicate_succ]
def enc (s : List Nat) : List Nat := (dg 0 0 s).map al ++ List.replicate (pad ((dg 0 0 s).map al)) 61
def hex (s : List Nat) : List Nat := (hx s).map hl
theorem dg_len : ∀ (p v : Nat) (s : List Nat), (dg p v s).length ≤ 2 * s.length + 1
  | 0, _, [] => by simp [dg]
  | 1, v, [] => by simp [dg]
  | n + 2, v, [] => by simp [dg]
  | 0, _, x :: r => by have := dg_len 1 (x % 4) r; simp [dg]; omega
  | 1, v, x :: r => by have := dg_len 2 (x % 16) r; simp [dg]; omega
  | n + 2, v, x :: r => by have := dg_len 0 0 r; simp [dg]; omega
theorem dg_pos (x : Nat) (r : List Nat) : 0 < (dg 0 0 (x :: r)).length := by simp [dg]
theorem enc_v {s : List Nat} (hs : ∀ x ∈ s, x < 256) (hlen : s.length < 4000000) : g10v realA s = some (.v (.cell (.str (enc s))), []) := by
  cases s with
  | nil =>
    show g10v realA [] = _
    have c0 : g10i3c0 realA [] 8 6 = false := by unfold g10i3c0; rw [it_nil]; rfl
    have c1 : g10i3c1 realA [] 8 6 = false := by unfold g10i3c1; rw [it_nil]; rfl
    have c2 : g10i3c2 realA [] 8 6 = true := by unfold g10i3c2; rw [it_nil]; rfl
    unfold g10v g10
    simp only [c0, c1, c2]
    rfl
  | cons x r =>
    have it := it_cons hs hlen
    have c0 : g10i3c0 realA (x :: r) 8 6 = true := by unfold g10i3c0; rw [it]; rfl
    have r0 : g10i3r0_0 realA (x :: r) 8 6 = ((dg 0 0 (x :: r)).map al).length := by unfold g10i3r0_0; rw [it]; rfl
    have r4 : g10i3r0_4 realA (x :: r) 8 6 = ((dg 0 0 (x :: r)).map al).length := by unfold g10i3r0_4; rw [it]; rfl
    have r5 : g10i3r0_5 realA (x :: r) 8 6 = ((dg 0 0 (x :: r)).map al) := by unfold g10i3r0_5; rw [it]; rfl
    have hdl := dg_len 0 0 (x :: r)
    have hdp := dg_pos x r
    unfold g10v g10
    simp only [c0, r0, r4, r5, g10J5]
    exact pad_run _ 10000000 _ rfl (by unfold pad; omega) (by rw [List.length_map]; exact hdp) (by rw [List.length_map]; unfold pad; omega)
theorem enc_ok {s : List Nat} (hs : ∀ x ∈ s, x < 256) (hlen : s.length < 4000000) : g10ok realA s = true := by unfold g10ok; rw [enc_v hs hlen]; rfl
theorem enc_is {s : List Nat} (hs : ∀ x ∈ s, x < 256) (hlen : s.length < 4000000) : g10r0 realA s = enc s := by unfold g10r0; rw [enc_v hs hlen]; rfl
theorem hx_pos (x : Nat) (r : List Nat) : 0 < (hx (x :: r)).length := by simp [hx]
theorem hex_v {s : List Nat} (hs : ∀ x ∈ s, x < 256) (hlen : s.length < 4000000) : g11v realA s = some (.v (.cell (.str (hex s))), []) := by
  cases s with
  | nil =>
    have c0 : g11i3c0 realA [] 8 4 = false := by unfold g11i3c0; rw [it11_nil]; rfl
    have c1 : g11i3c1 realA [] 8 4 = false := by unfold g11i3c1; rw [it11_nil]; rfl
    have c2 : g11i3c2 realA [] 8 4 = true := by unfold g11i3c2; rw [it11_nil]; rfl
    unfold g11v g11
    simp only [c0, c1, c2]
    rfl
  | cons x r =>
    have it := it11_cons hs hlen
    have c0 : g11i3c0 realA (x :: r) 8 4 = true := by unfold g11i3c0; rw [it]; rfl
    have r0 : g11i3r0_0 realA (x :: r) 8 4 = ((hx (x :: r)).map hl).length := by unfold g11i3r0_0; rw [it]; rfl
    have r4 : g11i3r0_4 realA (x :: r) 8 4 = ((hx (x :: r)).map hl).length := by unfold g11i3r0_4; rw [it]; rfl
    have r5 : g11i3r0_5 realA (x :: r) 8 4 = ((hx (x :: r)).map hl) := by unfold g11i3r0_5; rw [it]; rfl
    have hlt : realA.lt 0 ((hx (x :: r)).map hl).length = true := by rw [ar_lt, List.length_map]; exact decide_eq_true (hx_pos x r)
    unfold g11v g11
    simp only [c0, r0, r4, r5, g26ok, g26r0, hlt, List.take_length]
    rfl
theorem hex_ok {s : List Nat} (hs : ∀ x ∈ s, x < 256) (hlen : s.length < 4000000) : g11ok realA s = true := by unfold g11ok; rw [hex_v hs hlen]; rfl
theorem hex_is {s : List Nat} (hs : ∀ x ∈ s, x < 256) (hlen : s.length < 4000000) : g11r0 realA s = hex s := by unfold g11r0; rw [hex_v hs hlen]; rfl
end Go.Sx.B7
namespace Go.Sx
set_option linter.unusedSectionVars false
open Go.Proofs
set_option linter.unusedVariables false
set_option maxRecDepth 100000
def d12BO (A : Ar) : Orc := orc3 22 32 9 3 3 (orcH [(27, g27o A), (28, g28o A)] [(23, ⟨[0, 1], none, (ho2 (g23o A) (g23a_o A))⟩), (24, ⟨[], none, (ho2 (g24o A) (ho2 (g24a_o A) (g24b_o A)))⟩), (26, ⟨[], none, (ho2 (g26o A) (g26a_o A))⟩), (10, ⟨[], none, (g10o A)⟩)])
theorem d12BO_sound : OSound Tryd.prog (d12BO realA) := orc3_sound Bd07.box3 <| orcH_sound (fun f g hm args v hv => by
    simp only [List.mem_cons, List.not_mem_nil, or_false, Prod.mk.injEq] at hm
    rcases hm with ⟨rfl, rfl⟩ | ⟨rfl, rfl⟩
    · exact g27o_sound _ _ hv
    · exact g28o_sound _ _ hv) (fun f e hm args h v h' hv => by
    simp only [List.mem_cons, List.not_mem_nil, or_false, Prod.mk.injEq] at hm
    rcases hm with ⟨rfl, rfl⟩ | ⟨rfl, rfl⟩ | ⟨rfl, rfl⟩ | ⟨rfl, rfl⟩
    · exact (ho2_sound g23o_sound g23a_o_sound) _ _ _ _ hv
    · exact (ho2_sound g24o_sound (ho2_sound g24a_o_sound g24b_o_sound)) _ _ _ _ hv
    · exact (ho2_sound g26o_sound g26a_o_sound) _ _ _ _ hv
    · exact g10o_sound _ _ _ _ hv)
theorem d12BO_det : ODet (d12BO realA) := orc3_det <| orcH_det _ _

noncomputable abbrev c12 : Code := bodyOf Tryd.f12
noncomputable abbrev q12 : Code := (spineC 2 c12).getD .skip
noncomputable abbrev r12 : Code := .seq (tailC (headC q12)) (tailC q12)
noncomputable abbrev o12 : Array Oper := opsOf (headC (headC q12))
noncomputable abbrev x12 : Code := rfOf 0 r12
noncomputable abbrev b12 : Code := .seq (rfAs x12) (rfBd x12)
def d12E : List Nat := [412, 413, 414, 448]
def d12b : List Nat := [410, 411, 415, 500, 13004]
def d12i : List Nat := [410, 411, 412, 413, 414, 415, 448, 500, 13004]
noncomputable def d12bE (sl : Slots) (vs : List AV) (g : Heap) : Option (Ex × Heap) := codeN realA gtys (orcOf []) [] [] (goD realA gtys (orcOf []) [] [] b12 (bdP d12b fun ex h => some (ex, h)) 20) [] b12 (bdP d12b fun ex h => some (ex, h)) ⟨zipS (rfPs x12).toList vs ++ sl, g⟩
noncomputable def d12U (sl : Slots) : Orc := { orcOf [] with ylg := yRoundG d12E 1 (fun vs g => [(true, d12bE sl vs g)]), tk := true, pb := 450 }
def d12ia : Ann := [(1000002, ([13004], [500])), (1000005, ([13004], [500]))]
noncomputable def d12I (sl : Slots) (caps : List V1) (h : Heap) : Option Heap := match Nat.ble (caps.length + 1) Tryd.f32.ntmps with
  | true => funN realA gtys (d12U (pick sl [8])) d12ia [] (bodyOf Tryd.f32) Tryd.f32.results.toList (.yld 449 :: vAV caps []) h (fun _ h => some (pick h d12i)) (goD realA gtys (d12U (pick sl [8])) d12ia [] (bodyOf Tryd.f32) (finD gtys Tryd.f32.results.toList (fun _ h => some (pick h d12i))) 100)
  | false => none
noncomputable def d12W (i : Nat) (v : AV) (sl : Slots) (h : Heap) : GL (Ex × Heap) := match Nat.beq i 11 with
  | true => [(true, rngF 32 d12I v sl h)]
  | false => []
def d12O : Orc := { d12BO realA with pb := 410 }
noncomputable def d12P (s : List Nat) : Orc := { d12BO realA with rngg := d12W, pb := 410, nx := some (13, s) }
def d12a : Ann := [(9, ([0, 2, 3, 4], [2000, 500, 9002])), (1000009, ([9002], [500])), (1000003, ([9002], [500])), (3000011, ([2000, 10000, 11001, 11501, 11502, 500], [410, 411, 412, 413, 414, 415]))]
noncomputable def d12X (s : List Nat) (st : St) : Option AV := codeN realA gtys (d12P s) d12a [] (goD realA gtys (d12P s) d12a [] r12 (finD gtys Tryd.f12.results.toList fun v _ => some v) 100) [] r12 (finD gtys Tryd.f12.results.toList fun v _ => some v) st
theorem d12v : funI realA gtys d12O d12a 2 2 o12 c12 Tryd.f12.results.toList [tS [89, 87, 73, 61]] (fun v _ => some v) d12X = some (.tup [.cell (.str [97, 98]), .cell (.bool true)]) := by kernel_rfl
theorem d12NO_sound : OSound Tryd.prog (orcOf []) := orc_sound fun f g hm args v hv => by cases hm
theorem d12NO_det : ODet (orcOf []) := orc_det _
theorem d12hB {sl : Slots} {vs : List AV} {g g' : Heap} {ex : Ex} (h : d12bE sl vs g = some (ex, g')) : BodyH Tryd.prog Tryd.f12.ntmps (rfAs x12) (rfBd x12) (rfPs x12).toList sl vs g ex g' :=
  bodyH_ofM mixed gtysOK (d12NO_sound) (d12NO_det) (an := []) (cut := []) (bs := d12b) (by kernel_rfl) (by kernel_rfl) (by kernel_rfl) (by kernel_rfl) (by kernel_rfl) (by kernel_rfl) h
theorem pickG_one {α : Type} (o : Option α) : pickG [(true, o)] = o := rfl
theorem d12W_is (v : AV) (sl : Slots) (h : Heap) : d12W 11 v sl h = [(true, rngF 32 d12I v sl h)] := by
  unfold d12W
  rfl
theorem d12P_rng (s : List Nat) (v : AV) (sl : Slots) (h : Heap) : (d12P s).rng 11 v sl h = rngF 32 d12I v sl h := by
  show pickG (d12W 11 v sl h) = _
  rw [d12W_is, pickG_one]
theorem d12U_yl (sl : Slots) (vs : List AV) (h : Heap) : (d12U sl).yl vs h = yRound d12E 1 (fun vs g => pickG [(true, d12bE sl vs g)]) vs h := by
  show pickG (yRoundG d12E 1 (fun vs g => [(true, d12bE sl vs g)]) vs h) = _
  exact yRoundG_pick (bodyG := fun vs g => [(true, d12bE sl vs g)])
theorem d12I_hit {sl : Slots} {caps : List V1} {h h2 : Heap} (hi : d12I sl caps h = some h2) : caps.length + 1 ≤ Tryd.f32.ntmps ∧ ∃ m, funN realA gtys (d12U (pick sl [8])) d12ia [] (bodyOf Tryd.f32) Tryd.f32.results.toList (.yld 449 :: vAV caps []) h (fun _ h => some (pick h d12i)) (goD realA gtys (d12U (pick sl [8])) d12ia [] (bodyOf Tryd.f32) (finD gtys Tryd.f32.results.toList (fun _ h => some (pick h d12i))) m) = some h2 := by
  unfold d12I at hi
  split at hi
  · rename_i hc
    exact ⟨Nat.le_of_ble_eq_true hc, 100, hi⟩
  · cases hi
theorem d12hR : ∀ s N S ρ w (cx : Cx), cx.nt = Tryd.f12.ntmps → cx.pb = 410 → cx.lo ≤ w.heap.size → RngOk Tryd.prog (d12P s) Fence.wide 0 N S ρ w cx (rngs r12) := by
  intro s N S ρ w cx hnt hpb hlo
  have hrs : rngs r12 = [.rangeFunc (rfG x12) (rfPs x12) (rfAs x12) (rfBd x12)] := by kernel_rfl
  rw [hrs]
  exact rng_ok (O := d12P s) mixed gtysOK (OU := fun sl => d12U (pick sl [8])) (fun _ => d12NO_sound) (fun _ => d12NO_det) (fun _ => rfl) (fun _ _ _ _ _ => rfl) (E := d12E) (np := 1) (bodyE := fun sl vs g => pickG [(true, d12bE (pick sl [8]) vs g)]) (fun _ => rfl) (fun _ _ _ => d12U_yl _ _ _) (i0 := 11) (by kernel_rfl) (fun _ _ _ _ _ h => by
    rw [hnt]
    exact bodyH_pick [8] (d12hB h)) (by kernel_rfl) (nodupB_spec (by kernel_rfl)) (by rw [hnt]; exact allLtB_spec (by kernel_rfl)) Tryd.func32 (ic := bodyOf Tryd.f32) rfl (by kernel_rfl) Tryd.call32 (itE := d12I) (an := d12ia) (cut := []) (bs := d12i) (fun sl caps h h2 _ hi => d12I_hit hi) (fun v sl hp r hh => by rw [d12P_rng] at hh; exact hh) (by rw [hpb]; decide) hlo
theorem d12 : Fn1 Tryd.prog 12 [tS [89, 87, 73, 61]] (.tup [.cell (.str [97, 98]), .cell (.bool true)]) :=
  fn1_ofI mixed gtysOK (O := d12O) (O2 := d12P) d12BO_sound d12BO_det rfl (fun _ _ => rfl) rfl (fun _ _ _ _ => rfl) (d := 13) (fun _ => d12BO_sound) (fun _ => d12BO_det) (fun _ => rfl) (fun _ => rfl) (fun _ _ _ => rfl) (fun _ => rfl) (an := d12a) (cut := []) Tryd.func12 (c := c12) (n := 2) (id := 2) (ops := o12) (blk := tailC (headC q12)) (rest := tailC q12) rfl (by kernel_rfl) Tryd.call12 (by kernel_rfl) (by kernel_rfl) (by kernel_rfl) (by kernel_rfl) (by kernel_rfl) d12hR (by decide) (fun b => rfl) (X2 := d12X) (fun s st h => ⟨100, h⟩) fun _ => d12v
def lsB : List Nat → List Nat → Bool
  | [], [] => true
  | a :: r, b :: s => Nat.beq a b && lsB r s
  | _, _ => false
theorem lsB_spec : ∀ {a b : List Nat}, lsB a b = true → a = b
  | [], [], _ => rfl
  | a :: r, b :: s, h => by
    simp only [lsB, Bool.and_eq_true] at h
    rw [beq_true h.1, lsB_spec h.2]
  | [], _ :: _, h => by cases h
  | _ :: _, [], h => by cases h
def d12o (args : List AV) : Option (Bool × AV) := match args with
  | [.v (.cell (.str a))] => match lsB a [89, 87, 73, 61] with
    | true => some (true, .tup [.cell (.str [97, 98]), .cell (.bool true)])
    | false => none
  | _ => none
theorem d12o_sound : ∀ args v, d12o args = some (true, v) → Fn1 Tryd.prog 12 args v := by
  intro args v h
  unfold d12o at h
  split at h
  · split at h
    · rename_i hl
      rw [lsB_spec hl]
      simp only [Option.some.injEq, Prod.mk.injEq, true_and] at h
      subst h
      exact d12
    · cases h
  · cases h
end Go.Sx
namespace Go.Sx
set_option linter.unusedSectionVars false
open Go.Proofs
set_option linter.unusedVariables false
set_option maxRecDepth 100000
theorem SxP07dpi {R : Type} (c : Bool) {f1 f2 : Nat → Option R} {a1 a2 : Option R} (h1 : Prs f1 a1) (h2 : Prs f2 a2) : Prs (fun k => match c with | true => f1 k | false => f2 k) (match c with | true => a1 | false => a2) := by cases c <;> assumption
attribute [local irreducible] g18ok g18r0 g18r1 g10ok g10r0 g11ok g11r0
def g12o (A : Ar) := d12o
theorem g12o_sound : ∀ args v, g12o realA args = some (true, v) → Fn1 Tryd.prog 12 args v := d12o_sound
def g9O (A : Ar) : Orc := orcH [(12, g12o A), (18, g18o A)] [(10, ⟨[], none, (g10o A)⟩), (11, ⟨[], none, (g11o A)⟩)]
theorem g9O_sound : OSound Tryd.prog (g9O realA) := orcH_sound (fun f g hm args v hv => by
    simp only [List.mem_cons, List.not_mem_nil, or_false, Prod.mk.injEq] at hm
    rcases hm with ⟨rfl, rfl⟩ | ⟨rfl, rfl⟩
    · exact g12o_sound _ _ hv
    · exact g18o_sound _ _ hv) (fun f e hm args h v h' hv => by
    simp only [List.mem_cons, List.not_mem_nil, or_false, Prod.mk.injEq] at hm
    rcases hm with ⟨rfl, rfl⟩ | ⟨rfl, rfl⟩
    · exact g10o_sound _ _ _ _ hv
    · exact g11o_sound _ _ _ _ hv)
theorem g9O_det : ODet (g9O realA) := orcH_det _ _
def g9an : Ann := [(0, ([], [])), (1, ([], [])), (2, ([1, 2], [])), (3, ([1, 2, 3, 4], []))]
def g9res : List ResultVar := [.tmp 0]
def g9cut : List Nat := []
noncomputable def g9N {R : Type} (A : Ar) (kk : AV → Heap → Option R) (t : List Bool → St → Option R) (p : List Bool) (s : St) : Option R := nodeN A gtys (g9O A) g9an g9cut t (bodyOf Tryd.f9) (finD gtys g9res kk) p s
def g9 {R : Type} (A : Ar) (n : Nat) (kk : AV → Heap → Option R)  : Option R :=
  match g18ok A 1030 with
  | true => match g10ok A [97, 98] with
    | true => match A.sc .eql (g10r0 A [97, 98]) [89, 87, 73, 61] with
      | true => match A.sc .eql [97, 98] [97, 98] with
        | true => match A.sc .eql (g18r0 A 1030) [49, 48, 51, 48] with
          | true => match g18r1 A 1030 with
            | true => match g11ok A [10, 255] with
              | true => kk (bO (A.sc .eql (g11r0 A [10, 255]) [48, 97, 102, 102])) []
              | false => none
            | false => kk (bO false) []
          | false => kk (bO false) []
        | false => kk (bO false) []
      | false => kk (bO false) []
    | false => none
  | false => none
section
variable {R : Type} {A : Ar} {n : Nat} {kk : AV → Heap → Option R} {tb : Nat → List Bool → St → Option R} (st : Stp (g9N A kk) tb)
include st
theorem g9_go  : Prs (fun k => funN A gtys (g9O A) g9an g9cut (bodyOf Tryd.f9) g9res [] [] kk (tb k)) (g9 A n kk ) := by
  unfold g9
  exact pc (SxP07dpi _ (SxP07dpi _ (SxP07dpi _ (SxP07dpi _ (SxP07dpi _ (SxP07dpi _ (SxP07dpi _ (pf _) pn) (pf _)) (pf _)) (pf _)) (pf _)) pn) pn) (by kernel_rfl)
end
def g9is (o : Option AV) : Bool := match o with
  | some (.v (.cell (.bool _))) => true
  | _ => false
def g9g0 (o : Option AV) : Bool := match o with
  | some (.v (.cell (.bool x))) => x
  | _ => false
theorem g9is_spec {o : Option AV} (h : g9is o = true) : o = some (.v (.cell (.bool (g9g0 o)))) := by
  unfold g9is at h
  split at h
  · rfl
  · cases h
def g9v (A : Ar)  : Option AV := g9 A (10000000) (fun v _ => some v) 
def g9ok (A : Ar)  : Bool := g9is (g9v A )
def g9r0 (A : Ar)  : Bool := g9g0 (g9v A )
theorem g9ok_spec {A : Ar} (h : g9ok A = true) : g9v A = some (.v (.cell (.bool (g9r0 A)))) := g9is_spec h
def g9o (A : Ar) (args : List AV) : Option (Bool × AV) := match args with
  | [] => some (g9ok A , .v (.cell (.bool (g9r0 A))))
  | _ => none
theorem g9o_sound : ∀ args v, g9o realA args = some (true, v) → Fn1 Tryd.prog 9 args v := by
  intro args v h
  unfold g9o at h
  split at h
  · simp only [Option.some.injEq, Prod.mk.injEq] at h
    obtain ⟨hc, h⟩ := h
    subst h
    · skip
      exact fn1_ofG mixed gtysOK g9O_sound g9O_det (an := g9an) (cut := g9cut) Tryd.func9 (c := bodyOf Tryd.f9) rfl (by kernel_rfl) Tryd.call9 (Nat.le_of_ble_eq_true rfl) (fun b => rfl) (fun _ => (show g9v realA  = _ from g9ok_spec hc)) fun _ st => g9_go st
  · cases h
attribute [local irreducible] g9ok g9r0
end Go.Sx
namespace Go.Sx.B7
set_option linter.unusedSectionVars false
set_option linter.unusedVariables false
theorem dg_app : ∀ (h b : List Nat), h.length % 3 = 0 → dg 0 0 (h ++ b) = dg 0 0 h ++ dg 0 0 b
  | [], b, _ => by simp [dg]
  | [x], b, h => by simp at h
  | [x, y], b, h => by simp at h
  | x :: y :: z :: r, b, h => by
    have := dg_app r b (by simp only [List.length_cons] at h; omega)
    simp [dg, this]
theorem dg_len3 : ∀ (s : List Nat), (dg 0 0 s).length = s.length / 3 * 4 + (if s.length % 3 = 0 then 0 else s.length % 3 + 1)
  | [] => rfl
  | [x] => by simp [dg]
  | [x, y] => by simp [dg]
  | x :: y :: z :: r => by
    have := dg_len3 r
    simp only [dg, List.length_cons, this]
    rw [show r.length + 1 + 1 + 1 = r.length + 3 from rfl, Nat.add_div_right _ (by decide), Nat.add_mod_right]
    omega
theorem pad_dg (s : List Nat) : pad ((dg 0 0 s).map al) = (3 - s.length % 3) % 3 := by
  unfold pad
  rw [List.length_map, dg_len3]
  have : s.length % 3 = 0 ∨ s.length % 3 = 1 ∨ s.length % 3 = 2 := by omega
  rcases this with h | h | h <;> rw [h] <;> simp <;> omega
theorem hx_app (h b : List Nat) : hx (h ++ b) = hx h ++ hx b := by
  induction h with
  | nil => rfl
  | cons x r ih => simp [hx, ih]
theorem hex_app (h b : List Nat) : hex (h ++ b) = hex h ++ hex b := by simp [hex, hx_app]
theorem enc_app (h b : List Nat) (h3 : h.length % 3 = 0) : enc (h ++ b) = enc h ++ enc b := by
  have e1 : pad ((dg 0 0 h).map al) = 0 := by rw [pad_dg, h3]
  have e2 : pad ((dg 0 0 (h ++ b)).map al) = pad ((dg 0 0 b).map al) := by
    rw [pad_dg, pad_dg, List.length_append]
    have : (h.length + b.length) % 3 = b.length % 3 := by omega
    rw [this]
  unfold enc
  rw [e1, e2, dg_app _ _ h3]
  simp
theorem enc_len (s : List Nat) : (enc s).length ≤ 2 * s.length + 5 := by
  have := dg_len 0 0 s
  unfold enc pad
  simp
  omega
theorem hx_len (s : List Nat) : (hx s).length = 2 * s.length := by
  induction s with
  | nil => rfl
  | cons x r ih => simp only [hx, List.length_cons, ih]; omega
theorem hex_len (s : List Nat) : (hex s).length = 2 * s.length := by simp [hex, hx_len]
theorem ex_ok : g9ok realA = true := by kernel_rfl
theorem ex_is : g9r0 realA = true := by kernel_rfl
end Go.Sx.B7
namespace Go.Sx
set_option linter.unusedSectionVars false
open Go.Proofs
set_option linter.unusedVariables false
set_option maxRecDepth 100000
theorem SxP07epi {R : Type} (c : Bool) {f1 f2 : Nat → Option R} {a1 a2 : Option R} (h1 : Prs f1 a1) (h2 : Prs f2 a2) : Prs (fun k => match c with | true => f1 k | false => f2 k) (match c with | true => a1 | false => a2) := by cases c <;> assumption
attribute [local irreducible] g10ok g10r0 g11ok g11r0 g9ok g9r0
def g3O (A : Ar) : Orc := orcH [(9, g9o A)] [(10, ⟨[], none, (g10o A)⟩), (11, ⟨[], none, (g11o A)⟩)]
theorem g3O_sound : OSound Tryd.prog (g3O realA) := orcH_sound (fun f g hm args v hv => by
    simp only [List.mem_cons, List.not_mem_nil, or_false, Prod.mk.injEq] at hm
    rcases hm with ⟨rfl, rfl⟩
    · exact g9o_sound _ _ hv) (fun f e hm args h v h' hv => by
    simp only [List.mem_cons, List.not_mem_nil, or_false, Prod.mk.injEq] at hm
    rcases hm with ⟨rfl, rfl⟩ | ⟨rfl, rfl⟩
    · exact g10o_sound _ _ _ _ hv
    · exact g11o_sound _ _ _ _ hv)
theorem g3O_det : ODet (g3O realA) := orcH_det _ _
def g3an : Ann := [(0, ([0, 1], [])), (1, ([0, 1], [])), (2, ([0, 1, 5], [])), (3, ([], [])), (4, ([0, 1, 5], [])), (5, ([0, 1, 5], []))]
def g3res : List ResultVar := [.tmp 4]
def g3cut : List Nat := [4]
noncomputable def g3N {R : Type} (A : Ar) (kk : AV → Heap → Option R) (t : List Bool → St → Option R) (p : List Bool) (s : St) : Option R := nodeN A gtys (g3O A) g3an g3cut t (bodyOf Tryd.f3) (finD gtys g3res kk) p s
def g3J4s (x0 x1 : List Nat) (x2 : Bool) : St := ⟨[(0, (tS x0)), (1, (tS x1)), (5, (bO x2))], []⟩
def g3J4 {R : Type} (A : Ar) (n : Nat) (kk : AV → Heap → Option R)  (x0 x1 : List Nat) (x2 : Bool) : Option R :=
  match A.neg (A.ib .mul .i64 (A.ib .quo .i64 (A.ofN x0.length) 3) 3) with
  | true => none
  | false => match A.le (A.toN (A.ib .mul .i64 (A.ib .quo .i64 (A.ofN x0.length) 3) 3)) x0.length with
    | true => match x2 with
      | true => match A.le (((x0.take (A.toN (A.ib .mul .i64 (A.ib .quo .i64 (A.ofN x0.length) 3) 3))).drop 0).length + x1.length) 9223372036854775807 with
        | true => match g10ok A (((x0.take (A.toN (A.ib .mul .i64 (A.ib .quo .i64 (A.ofN x0.length) 3) 3))).drop 0) ++ x1) with
          | true => match g10ok A ((x0.take (A.toN (A.ib .mul .i64 (A.ib .quo .i64 (A.ofN x0.length) 3) 3))).drop 0) with
            | true => match g10ok A x1 with
              | true => match A.le ((g10r0 A ((x0.take (A.toN (A.ib .mul .i64 (A.ib .quo .i64 (A.ofN x0.length) 3) 3))).drop 0)).length + (g10r0 A x1).length) 9223372036854775807 with
                | true => match A.sc .eql (g10r0 A (((x0.take (A.toN (A.ib .mul .i64 (A.ib .quo .i64 (A.ofN x0.length) 3) 3))).drop 0) ++ x1)) ((g10r0 A ((x0.take (A.toN (A.ib .mul .i64 (A.ib .quo .i64 (A.ofN x0.length) 3) 3))).drop 0)) ++ (g10r0 A x1)) with
                  | true => match A.le (((x0.take (A.toN (A.ib .mul .i64 (A.ib .quo .i64 (A.ofN x0.length) 3) 3))).drop 0).length + x1.length) 9223372036854775807 with
                    | true => match g11ok A (((x0.take (A.toN (A.ib .mul .i64 (A.ib .quo .i64 (A.ofN x0.length) 3) 3))).drop 0) ++ x1) with
                      | true => match g11ok A ((x0.take (A.toN (A.ib .mul .i64 (A.ib .quo .i64 (A.ofN x0.length) 3) 3))).drop 0) with
                        | true => match g11ok A x1 with
                          | true => match A.le ((g11r0 A ((x0.take (A.toN (A.ib .mul .i64 (A.ib .quo .i64 (A.ofN x0.length) 3) 3))).drop 0)).length + (g11r0 A x1).length) 9223372036854775807 with
                            | true => kk (bO (A.sc .eql (g11r0 A (((x0.take (A.toN (A.ib .mul .i64 (A.ib .quo .i64 (A.ofN x0.length) 3) 3))).drop 0) ++ x1)) ((g11r0 A ((x0.take (A.toN (A.ib .mul .i64 (A.ib .quo .i64 (A.ofN x0.length) 3) 3))).drop 0)) ++ (g11r0 A x1)))) []
                            | false => none
                          | false => none
                        | false => none
                      | false => none
                    | false => none
                  | false => kk (bO false) []
                | false => none
              | false => none
            | false => none
          | false => none
        | false => none
      | false => kk (bO false) []
    | false => none
def g3 {R : Type} (A : Ar) (n : Nat) (kk : AV → Heap → Option R) (a b : List Nat) : Option R :=
  match g9ok A with
  | true => match !(g9r0 A) with
    | true => kk (bO false) []
    | false => g3J4 A n kk  a b (g9r0 A)
  | false => none
section
variable {R : Type} {A : Ar} {n : Nat} {kk : AV → Heap → Option R} {tb : Nat → List Bool → St → Option R} (st : Stp (g3N A kk) tb)
include st
theorem g3J4_go {x0 : List Nat} {x1 : List Nat} {x2 : Bool} : Prs (fun k => tb k (pth 15) (g3J4s x0 x1 x2)) (g3J4 A n kk x0 x1 x2) := by
  unfold g3J4
  exact st.g (pc (SxP07epi _ pn (SxP07epi _ (SxP07epi _ (SxP07epi _ (SxP07epi _ (SxP07epi _ (SxP07epi _ (SxP07epi _ (SxP07epi _ (SxP07epi _ (SxP07epi _ (SxP07epi _ (SxP07epi _ (SxP07epi _ (pf _) pn) pn) pn) pn) pn) (pf _)) pn) pn) pn) pn) pn) (pf _)) pn)) (by kernel_rfl))
theorem g3_go {a : List Nat} {b : List Nat} : Prs (fun k => funN A gtys (g3O A) g3an g3cut (bodyOf Tryd.f3) g3res [(tS a), (tS b)] [] kk (tb k)) (g3 A n kk a b) := by
  unfold g3
  exact pc (SxP07epi _ (SxP07epi _ (pf _) (g3J4_go st)) pn) (by kernel_rfl)
end
def g3is (o : Option AV) : Bool := match o with
  | some (.v (.cell (.bool _))) => true
  | _ => false
def g3g0 (o : Option AV) : Bool := match o with
  | some (.v (.cell (.bool x))) => x
  | _ => false
theorem g3is_spec {o : Option AV} (h : g3is o = true) : o = some (.v (.cell (.bool (g3g0 o)))) := by
  unfold g3is at h
  split at h
  · rfl
  · cases h
def g3v (A : Ar) (a b : List Nat) : Option AV := g3 A (10000000) (fun v _ => some v) a b
def g3ok (A : Ar) (a b : List Nat) : Bool := g3is (g3v A a b)
def g3r0 (A : Ar) (a b : List Nat) : Bool := g3g0 (g3v A a b)
theorem g3ok_spec {A : Ar} {a b} (h : g3ok A a b = true) : g3v A a b = some (.v (.cell (.bool (g3r0 A a b)))) := g3is_spec h
def g3o (A : Ar) (args : List AV) : Option (Bool × AV) := match args with
  | [.v (.cell (.str a)), .v (.cell (.str b))] => some (g3ok A a b, .v (.cell (.bool (g3r0 A a b))))
  | _ => none
theorem g3o_sound : ∀ args v, g3o realA args = some (true, v) → Fn1 Tryd.prog 3 args v := by
  intro args v h
  unfold g3o at h
  split at h
  · rename_i a b
    simp only [Option.some.injEq, Prod.mk.injEq] at h
    obtain ⟨hc, h⟩ := h
    subst h
    · skip
      exact fn1_ofG mixed gtysOK g3O_sound g3O_det (an := g3an) (cut := g3cut) Tryd.func3 (c := bodyOf Tryd.f3) rfl (by kernel_rfl) Tryd.call3 (Nat.le_of_ble_eq_true rfl) (fun b => rfl) (fun _ => (show g3v realA a b = _ from g3ok_spec hc)) fun _ st => g3_go st
  · cases h
attribute [local irreducible] g3ok g3r0
end Go.Sx
namespace Go.Sx.B7
set_option linter.unusedSectionVars false
set_option linter.unusedVariables false
set_option maxRecDepth 100000
attribute [local irreducible] g9ok g9r0 g10ok g10r0 g11ok g11r0
theorem g3_v (a b : List Nat) (ha : ∀ x ∈ a, x < 256) (hb : ∀ x ∈ b, x < 256) (la : a.length ≤ 1048576) (lb : b.length ≤ 1048576) : g3v realA a b = some (.v (.cell (.bool true))) := by
  have k1 : realA.ib .mul .i64 (realA.ib .quo .i64 (realA.ofN a.length) 3) 3 = ((a.length / 3 * 3 : Nat) : Int) := by
    rw [ar_ofN, ar_quo (by omega) (by omega) (by omega), ar_mul (by omega)]
    omega
  have hle : realA.le (a.length / 3 * 3) a.length = true := decide_eq_true (by omega)
  obtain ⟨h, hh⟩ : ∃ h, h = (a.take (a.length / 3 * 3)).drop 0 := ⟨_, rfl⟩
  have h3 : h.length % 3 = 0 := by
    rw [hh, List.drop_zero, List.length_take]
    omega
  have hlen : h.length ≤ a.length := by rw [hh, List.drop_zero, List.length_take]; omega
  have hby : ∀ x ∈ h, x < 256 := fun x hx => ha x (by
    rw [hh, List.drop_zero] at hx
    exact List.mem_of_mem_take hx)
  have hby2 : ∀ x ∈ h ++ b, x < 256 := fun x hx => (List.mem_append.1 hx).elim (hby x) (hb x)
  have hl2 : (h ++ b).length < 4000000 := by rw [List.length_append]; omega
  have l1 := enc_len h
  have l2 := enc_len b
  have q1 : realA.le (h.length + b.length) 9223372036854775807 = true := decide_eq_true (by omega)
  have q2 : realA.le ((enc h).length + (enc b).length) 9223372036854775807 = true := decide_eq_true (by omega)
  have q3 : realA.le ((hex h).length + (hex b).length) 9223372036854775807 = true := decide_eq_true (by rw [hex_len, hex_len]; omega)
  have s1 : realA.sc .eql (enc (h ++ b)) (enc h ++ enc b) = true := by rw [ar_sceq]; exact decide_eq_true (enc_app h b h3)
  have s2 : realA.sc .eql (hex (h ++ b)) (hex h ++ hex b) = true := by rw [ar_sceq]; exact decide_eq_true (hex_app h b)
  unfold g3v g3
  simp only [ex_ok, ex_is, Bool.not_true, g3J4, k1, ar_negN, ar_toNN, hle, ← hh, q1, enc_ok hby2 hl2, enc_ok hby (by omega), enc_ok hb (by omega), enc_is hby2 hl2, enc_is hby (by omega), enc_is hb (by omega), q2, s1, hex_ok hby2 hl2, hex_ok hby (by omega), hex_ok hb (by omega), hex_is hby2 hl2, hex_is hby (by omega), hex_is hb (by omega), q3, s2]
theorem law3 (a b : List Nat) (ha : ∀ x ∈ a, x < 256) (hb : ∀ x ∈ b, x < 256) (la : a.length ≤ 1048576) (lb : b.length ≤ 1048576) : g3ok realA a b = true ∧ g3r0 realA a b = true := by
  unfold g3ok g3r0
  rw [g3_v a b ha hb la lb]
  exact ⟨rfl, rfl⟩
end Go.Sx.B7
