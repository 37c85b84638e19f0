import Derived.Test.YtkomlijabeedpaaDoorSxP07c
import Derived.Test.YtkomlijabeedpaaDoorSxAr
import Derived.Test.YtkomlijabeedpaaDoorSxPl
namespace Go.Sx.B7
set_option linter.unusedSectionVars false
open Go.Proofs
set_option linter.unusedVariables false
set_option maxRecDepth 100000
theorem w0 (x : Nat) : g23v realA x = some (.v (.cell .top), [(0, ⟨[.one (.ptr 0 0 none), .one (.sl 700 none 1 1)], 36, 1⟩), (700, ⟨[.nums .u8 1 [x]], 5, 2⟩)]) := by kernel_rfl
theorem w0ok (x : Nat) : g23ok realA x = true := by unfold g23ok; rw [w0]; rfl
theorem w0r0 (x : Nat) : g23r0 realA x = 1 := by unfold g23r0; rw [w0]; rfl
theorem w0r1 (x : Nat) : g23r1 realA x = 1 := by unfold g23r1; rw [w0]; rfl
theorem w0r2 (x : Nat) : g23r2 realA x = [x] := by unfold g23r2; rw [w0]; rfl
theorem w1 (x n : Nat) (l : List Nat) (h : l.length < 140737488355328) : g23a_v realA x n n l = some (.v (.cell .top), [(0, ⟨[.one (.ptr 0 0 none), .one (.sl 501 none (l.length + 1) 1)], 36, 1⟩), (501, ⟨[.nums .u8 (l.length + 1) (l ++ [x])], 5, 2⟩)]) := by
  have e : (l ++ [x]).length = l.length + 1 := by simp
  have e2 : (l ++ [x].take 1) = l ++ [x] := rfl
  have h1 : realA.le (l.length + 1) 140737488355328 = true := decide_eq_true (by omega)
  have h2 : realA.eq n (n + 0) = true := decide_eq_true rfl
  unfold g23a_v g23a_
  simp only [show g33a_ok realA n n l = true from rfl, show g33a_r0 realA n n l = n from rfl, show g33a_r1 realA n n l = n from rfl, show g33a_r2 realA n n l = l from rfl, h2, e2, e, h1]
  rfl
theorem w1ok (x n : Nat) (l : List Nat) (h : l.length < 140737488355328) : g23a_ok realA x n n l = true := by unfold g23a_ok; rw [w1 _ _ _ h]; rfl
theorem w1r0 (x n : Nat) (l : List Nat) (h : l.length < 140737488355328) : g23a_r0 realA x n n l = l.length + 1 := by unfold g23a_r0; rw [w1 _ _ _ h]; rfl
theorem w1r1 (x n : Nat) (l : List Nat) (h : l.length < 140737488355328) : g23a_r1 realA x n n l = l.length + 1 := by unfold g23a_r1; rw [w1 _ _ _ h]; rfl
theorem w1r2 (x n : Nat) (l : List Nat) (h : l.length < 140737488355328) : g23a_r2 realA x n n l = l ++ [x] := by unfold g23a_r2; rw [w1 _ _ _ h]; rfl
attribute [local irreducible] g23v g23ok g23r0 g23r1 g23r2 g23a_v g23a_ok g23a_r0 g23a_r1 g23a_r2
abbrev AL : List Nat := [65, 66, 67, 68, 69, 70, 71, 72, 73, 74, 75, 76, 77, 78, 79, 80, 81, 82, 83, 84, 85, 86, 87, 88, 89, 90, 97, 98, 99, 100, 101, 102, 103, 104, 105, 106, 107, 108, 109, 110, 111, 112, 113, 114, 115, 116, 117, 118, 119, 120, 121, 122, 48, 49, 50, 51, 52, 53, 54, 55, 56, 57, 43, 47]
abbrev HL : List Nat := [48, 49, 50, 51, 52, 53, 54, 55, 56, 57, 97, 98, 99, 100, 101, 102]
def al (d : Nat) : Nat := AL.getD d 0
def hl (d : Nat) : Nat := HL.getD d 0
theorem AL_len : AL.length = 64 := rfl
theorem HL_len : HL.length = 16 := rfl
theorem b0 (d : Nat) (hd : d < 64) : g10b3v realA (d : Int) = some (.normal, [(410, ⟨[.one (.ptr 410 0 none), .one (.sl 5002 none 1 1)], 36, 1⟩), (5002, ⟨[.nums .u8 1 [al d]], 5, 2⟩)]) := by
  have h1 : realA.lt (realA.toN (d : Int)) (AL.length) = true := decide_eq_true (by rw [AL_len]; exact hd)
  unfold g10b3v g10b3 g10b3t0 g10b3t1 g10b3t2
  simp only [ar_negN, h1, w0ok, w0r0, w0r1, w0r2]
  rfl
theorem b1 (d n : Nat) (l : List Nat) (hd : d < 64) (h : l.length < 140737488355328) : g10b3a_v realA (d : Int) n n l = some (.normal, [(410, ⟨[.one (.ptr 410 0 none), .one (.sl 500 none (l.length + 1) 1)], 36, 1⟩), (500, ⟨[.nums .u8 (l.length + 1) (l ++ [al d])], 5, 2⟩)]) := by
  have h1 : realA.lt (realA.toN (d : Int)) (AL.length) = true := decide_eq_true (by rw [AL_len]; exact hd)
  unfold g10b3a_v g10b3a_ g10b3a_t0 g10b3a_t1 g10b3a_t2
  simp only [ar_negN, h1, w1ok _ _ _ h, w1r0 _ _ _ h, w1r1 _ _ _ h, w1r2 _ _ _ h]
  rfl
theorem c1ok {d n : Nat} {l : List Nat} (hd : d < 64) (h : l.length < 140737488355328) : g10b3a_c0 realA (d : Int) n n l = true := by unfold g10b3a_c0; rw [b1 d n l hd h]; rfl
theorem c1r0 {d n : Nat} {l : List Nat} (hd : d < 64) (h : l.length < 140737488355328) : g10b3a_r0_0 realA (d : Int) n n l = l.length + 1 := by unfold g10b3a_r0_0; rw [b1 d n l hd h]; rfl
theorem c1r1 {d n : Nat} {l : List Nat} (hd : d < 64) (h : l.length < 140737488355328) : g10b3a_r0_1 realA (d : Int) n n l = l.length + 1 := by unfold g10b3a_r0_1; rw [b1 d n l hd h]; rfl
theorem c1r2 {d n : Nat} {l : List Nat} (hd : d < 64) (h : l.length < 140737488355328) : g10b3a_r0_2 realA (d : Int) n n l = l ++ [al d] := by unfold g10b3a_r0_2; rw [b1 d n l hd h]; rfl
theorem h0 (d : Nat) (hd : d < 16) : g11b3v realA (d : Int) = some (.normal, [(410, ⟨[.one (.ptr 410 0 none), .one (.sl 5002 none 1 1)], 36, 1⟩), (5002, ⟨[.nums .u8 1 [hl d]], 5, 2⟩)]) := by
  have h1 : realA.lt (realA.toN (d : Int)) (HL.length) = true := decide_eq_true (by rw [HL_len]; exact hd)
  unfold g11b3v g11b3
  simp only [ar_negN, h1, w0ok, w0r0, w0r1, w0r2]
  rfl
theorem h1 (d n : Nat) (l : List Nat) (hd : d < 16) (h : l.length < 140737488355328) : g11b3a_v realA (d : Int) n n l = some (.normal, [(410, ⟨[.one (.ptr 410 0 none), .one (.sl 500 none (l.length + 1) 1)], 36, 1⟩), (500, ⟨[.nums .u8 (l.length + 1) (l ++ [hl d])], 5, 2⟩)]) := by
  have h1 : realA.lt (realA.toN (d : Int)) (HL.length) = true := decide_eq_true (by rw [HL_len]; exact hd)
  unfold g11b3a_v g11b3a_
  simp only [ar_negN, h1, w1ok _ _ _ h, w1r0 _ _ _ h, w1r1 _ _ _ h, w1r2 _ _ _ h]
  rfl
theorem d1ok {d n : Nat} {l : List Nat} (hd : d < 16) (h : l.length < 140737488355328) : g11b3a_c0 realA (d : Int) n n l = true := by unfold g11b3a_c0; rw [h1 d n l hd h]; rfl
theorem d1r0 {d n : Nat} {l : List Nat} (hd : d < 16) (h : l.length < 140737488355328) : g11b3a_r0_0 realA (d : Int) n n l = l.length + 1 := by unfold g11b3a_r0_0; rw [h1 d n l hd h]; rfl
theorem d1r1 {d n : Nat} {l : List Nat} (hd : d < 16) (h : l.length < 140737488355328) : g11b3a_r0_1 realA (d : Int) n n l = l.length + 1 := by unfold g11b3a_r0_1; rw [h1 d n l hd h]; rfl
theorem d1r2 {d n : Nat} {l : List Nat} (hd : d < 16) (h : l.length < 140737488355328) : g11b3a_r0_2 realA (d : Int) n n l = l ++ [hl d] := by unfold g11b3a_r0_2; rw [h1 d n l hd h]; rfl
attribute [local irreducible] g10b3v g10b3c0 g10b3r0_0 g10b3r0_1 g10b3r0_2 g10b3a_v g10b3a_c0 g10b3a_r0_0 g10b3a_r0_1 g10b3a_r0_2 g11b3v g11b3c0 g11b3r0_0 g11b3r0_1 g11b3r0_2 g11b3a_v g11b3a_c0 g11b3a_r0_0 g11b3a_r0_1 g11b3a_r0_2
def allB (p : Nat → Bool) : Nat → Bool
  | 0 => true
  | n + 1 => p n && allB p n
theorem allB_spec {p : Nat → Bool} : ∀ {n i : Nat}, allB p n = true → i < n → p i = true
  | n + 1, i, h, hi => by
    simp only [allB, Bool.and_eq_true] at h
    rcases Nat.lt_succ_iff_lt_or_eq.1 hi with h2 | h2
    · exact allB_spec h.2 h2
    · subst h2; exact h.1
theorem sh_all : allB (fun v => decide (realA.ish .shl .i64 (v : Int) 8 = ((256 * v : Nat) : Int))) 16 = true := by kernel_rfl
theorem sh_is {v : Nat} (hv : v < 16) : realA.ish .shl .i64 (v : Int) 8 = ((256 * v : Nat) : Int) := of_decide_eq_true (allB_spec sh_all hv)
def orB (v x : Nat) : Bool := decide (realA.ib .or .i64 ((256 * v : Nat) : Int) (x : Int) = ((256 * v + x : Nat) : Int))
theorem or_all : allB (fun v => allB (orB v) 256) 16 = true := by kernel_rfl
theorem or_is {v x : Nat} (hv : v < 16) (hx : x < 256) : realA.ib .or .i64 (realA.ish .shl .i64 (v : Int) 8) (x : Int) = ((256 * v + x : Nat) : Int) := by
  rw [sh_is hv]
  have h : orB v x = true := allB_spec (p := orB v) (allB_spec (p := fun v => allB (orB v) 256) or_all hv) hx
  unfold orB at h
  exact of_decide_eq_true h
def dgB (w k : Nat) : Bool := decide (realA.ib .and .i64 (realA.ish .shr .i64 (w : Int) k) 63 = ((w / 2 ^ k % 64 : Nat) : Int))
theorem dg_all : allB (fun w => allB (dgB w) 7) 4096 = true := by kernel_rfl
theorem dg_is {w k : Nat} (hw : w < 4096) (hk : k < 7) : realA.ib .and .i64 (realA.ish .shr .i64 (w : Int) k) 63 = ((w / 2 ^ k % 64 : Nat) : Int) := by
  have h : dgB w k = true := allB_spec (p := dgB w) (allB_spec (p := fun w => allB (dgB w) 7) dg_all hw) hk
  unfold dgB at h
  exact of_decide_eq_true h
def hxB (w k : Nat) : Bool := decide (realA.ib .and .i64 (realA.ish .shr .i64 (w : Int) k) 15 = ((w / 2 ^ k % 16 : Nat) : Int))
theorem hx_all : allB (fun w => allB (hxB w) 5) 256 = true := by kernel_rfl
theorem hx_is {w k : Nat} (hw : w < 256) (hk : k < 5) : realA.ib .and .i64 (realA.ish .shr .i64 (w : Int) k) 15 = ((w / 2 ^ k % 16 : Nat) : Int) := by
  have h : hxB w k = true := allB_spec (p := hxB w) (allB_spec (p := fun w => allB (hxB w) 5) hx_all hw) hk
  unfold hxB at h
  exact of_decide_eq_true h
def mkB (w k : Nat) : Bool := decide (realA.ib .and .i64 (w : Int) (realA.ib .sub .i64 (realA.ish .shl .i64 1 k) 1) = ((w % 2 ^ k : Nat) : Int))
theorem mk_all : allB (fun w => allB (mkB w) 5) 4096 = true := by kernel_rfl
theorem mk_is {w k : Nat} (hw : w < 4096) (hk : k < 5) : realA.ib .and .i64 (w : Int) (realA.ib .sub .i64 (realA.ish .shl .i64 1 k) 1) = ((w % 2 ^ k : Nat) : Int) := by
  have h : mkB w k = true := allB_spec (p := mkB w) (allB_spec (p := fun w => allB (mkB w) 5) mk_all hw) hk
  unfold mkB at h
  exact of_decide_eq_true h
def lsB (w k : Nat) : Bool := decide (realA.ib .and .i64 (realA.ish .shl .i64 (w : Int) k) 63 = ((w * 2 ^ k % 64 : Nat) : Int))
theorem ls_all : allB (fun w => allB (lsB w) 5) 16 = true := by kernel_rfl
theorem ls_is {w k : Nat} (hw : w < 16) (hk : k < 5) : realA.ib .and .i64 (realA.ish .shl .i64 (w : Int) k) 63 = ((w * 2 ^ k % 64 : Nat) : Int) := by
  have h : lsB w k = true := allB_spec (p := lsB w) (allB_spec (p := fun w => allB (lsB w) 5) ls_all hw) hk
  unfold lsB at h
  exact of_decide_eq_true h
end Go.Sx.B7
namespace Go.Sx.B7
set_option linter.unusedSectionVars false
open Go.Proofs
set_option linter.unusedVariables false
set_option maxRecDepth 100000
attribute [local irreducible] g10b3c0 g10b3r0_0 g10b3r0_1 g10b3r0_2 g10b3a_c0 g10b3a_r0_0 g10b3a_r0_1 g10b3a_r0_2 g11b3c0 g11b3r0_0 g11b3r0_1 g11b3r0_2 g11b3a_c0 g11b3a_r0_0 g11b3a_r0_1 g11b3a_r0_2
def dg : Nat → Nat → List Nat → List Nat
  | 0, _, [] => []
  | 1, v, [] => [v * 16]
  | _, v, [] => [v * 4]
  | 0, _, x :: r => x / 4 :: dg 1 (x % 4) r
  | 1, v, x :: r => (v * 16 + x / 16) :: dg 2 (x % 16) r
  | _, v, x :: r => (v * 4 + x / 64) :: x % 64 :: dg 0 0 r
def hx : List Nat → List Nat
  | [] => []
  | x :: r => x / 16 :: x % 16 :: hx r
def KF : AV → Heap → Option Heap := fun _ h => some (pick h [410, 411, 412, 413, 448, 500, 5002])
def RES (s : List Nat) (b : Int) (l : List Nat) : Option Heap := some [(410, ⟨[.one (.ptr 410 0 none), .one (.sl 500 none l.length 1)], 36, 1⟩), (411, ⟨[.one (.str s)], 9, 1⟩), (412, ⟨[.one (.int .i64 8)], 3, 1⟩), (413, ⟨[.one (.int .i64 b)], 3, 1⟩), (448, ⟨[], 0, 0⟩), (500, ⟨[.nums .u8 l.length l], 5, 2⟩)]
theorem a08 : realA.ib .add .i64 0 8 = 8 := by kernel_rfl
theorem a28 : realA.ib .add .i64 2 8 = 10 := by kernel_rfl
theorem a48 : realA.ib .add .i64 4 8 = 12 := by kernel_rfl
theorem s86 : realA.ib .sub .i64 8 6 = 2 := by kernel_rfl
theorem s106 : realA.ib .sub .i64 10 6 = 4 := by kernel_rfl
theorem s126 : realA.ib .sub .i64 12 6 = 6 := by kernel_rfl
theorem s66 : realA.ib .sub .i64 6 6 = 0 := by kernel_rfl
theorem s62 : realA.ib .sub .i64 6 2 = 4 := by kernel_rfl
theorem s64 : realA.ib .sub .i64 6 4 = 2 := by kernel_rfl
theorem s84 : realA.ib .sub .i64 8 4 = 4 := by kernel_rfl
theorem s44 : realA.ib .sub .i64 4 4 = 0 := by kernel_rfl
theorem m63 : realA.ib .sub .i64 (realA.ish .shl .i64 1 6) 1 = 63 := by kernel_rfl
theorem m15 : realA.ib .sub .i64 (realA.ish .shl .i64 1 4) 1 = 15 := by kernel_rfl
theorem t0 : realA.toN 0 = 0 := rfl
theorem t2 : realA.toN 2 = 2 := rfl
theorem t4 : realA.toN 4 = 4 := rfl
theorem t6 : realA.toN 6 = 6 := rfl
theorem t8 : realA.toN 8 = 8 := rfl
theorem n0 : realA.neg 0 = false := by kernel_rfl
theorem n2 : realA.neg 2 = false := by kernel_rfl
theorem n4 : realA.neg 4 = false := by kernel_rfl
theorem n6 : realA.neg 6 = false := by kernel_rfl
theorem n8 : realA.neg 8 = false := by kernel_rfl
theorem g86 : realA.ic .geq 8 6 = true := by kernel_rfl
theorem g26 : realA.ic .geq 2 6 = false := by kernel_rfl
theorem g106 : realA.ic .geq 10 6 = true := by kernel_rfl
theorem g46 : realA.ic .geq 4 6 = false := by kernel_rfl
theorem g126 : realA.ic .geq 12 6 = true := by kernel_rfl
theorem g66 : realA.ic .geq 6 6 = true := by kernel_rfl
theorem g06 : realA.ic .geq 0 6 = false := by kernel_rfl
theorem g84 : realA.ic .geq 8 4 = true := by kernel_rfl
theorem g44 : realA.ic .geq 4 4 = true := by kernel_rfl
theorem g04 : realA.ic .geq 0 4 = false := by kernel_rfl
theorem p0 : realA.ic .gtr 0 0 = false := by kernel_rfl
theorem p2 : realA.ic .gtr 2 0 = true := by kernel_rfl
theorem p4 : realA.ic .gtr 4 0 = true := by kernel_rfl
theorem lssT {i n : Nat} (h : i < n) : realA.ic .lss (i : Int) (n : Int) = true := decide_eq_true (by omega)
theorem lssF {i n : Nat} (h : n ≤ i) : realA.ic .lss (i : Int) (n : Int) = false := decide_eq_false (by omega)
theorem ltT {i n : Nat} (h : i < n) : realA.lt i n = true := decide_eq_true h
theorem inc {i : Nat} (h : i < 4611686018427387904) : realA.ib .add .i64 (i : Int) 1 = ((i + 1 : Nat) : Int) := by
  rw [ar_add (by omega)]; rfl
theorem ofn (x : Nat) : realA.ofN x = (x : Int) := rfl
theorem getD_drop {s : List Nat} {i x : Nat} {r : List Nat} (h : s.drop i = x :: r) : s.getD i 0 = x ∧ i < s.length ∧ s.drop (i + 1) = r := by
  have hlt : i < s.length := by
    apply Nat.lt_of_not_le
    intro hc
    rw [List.drop_eq_nil_of_le hc] at h
    cases h
  rw [List.drop_eq_getElem_cons hlt] at h
  simp only [List.cons.injEq] at h
  refine ⟨?_, hlt, h.2⟩
  rw [List.getD_eq_getElem?_getD, List.getElem?_eq_getElem hlt]
  exact h.1
theorem drop_nil {s : List Nat} {i : Nat} (h : s.drop i = []) : s.length ≤ i := List.drop_eq_nil_iff.1 h
section
variable {s : List Nat} {n : Nat}
abbrev LA (n m : Nat) (h v i : Int) (s l : List Nat) : Option Heap := g10i3L2a realA (n + 4) KF m h v (s.length : Int) i l.length s 8 6 l.length l
theorem st0 {m x i : Nat} {l : List Nat} (hx : x < 256) (hg : s.getD i 0 = x) (hi : i < s.length) (hi2 : i < 4611686018427387904) (hl : l.length + 1 < 140737488355328) :
    LA n (m + 1) 0 0 i s l = LA n m 2 ((x % 4 : Nat) : Int) ((i + 1 : Nat) : Int) s (l ++ [al (x / 4)]) := by
  have hv := or_is (v := 0) (x := x) (by omega) hx
  simp only [Nat.mul_zero, Nat.zero_add] at hv
  have e1 := dg_is (w := x) (k := 2) (by omega) (by decide)
  have hd : (x) / 2 ^ 2 % 64 = x / 4 := by omega
  have hd6 : x / 4 < 64 := by omega
  have hl1 : l.length < 140737488355328 := by omega
  have e2 := mk_is (w := x) (k := 2) (by omega) (by decide)
  have e4 : (x) % 2 ^ 2 = x % 4 := by omega
  rw [e4] at e2
  have hlen : (l ++ [al (x / 4)]).length = l.length + 1 := by simp
  simp only [LA, hlen]
  rw [g10i3L2a, lssT hi]
  simp only [g10i3J3a, n8, ar_negN, ltT hi, a08, t8, ar_toNN, hg, ofn]
  erw [hv]
  rw [g10i3L5a, g86]
  simp only [g10i3J6a, s86, n2, n6, t2, t6, m63, e1, hd, c1ok hd6 hl1, c1r0 hd6 hl1, c1r1 hd6 hl1, c1r2 hd6 hl1]
  rw [g10i3L5a, g26]
  simp only [g10i3J8, n2, t2, e2, inc hi2]
theorem st2 {m v x i : Nat} {l : List Nat} (hv0 : v < 4) (hx : x < 256) (hg : s.getD i 0 = x) (hi : i < s.length) (hi2 : i < 4611686018427387904) (hl : l.length + 1 < 140737488355328) :
    LA n (m + 1) 2 ((v : Nat) : Int) i s l = LA n m 4 ((x % 16 : Nat) : Int) ((i + 1 : Nat) : Int) s (l ++ [al (v * 16 + x / 16)]) := by
  have hv := or_is (v := v) (x := x) (by omega) hx
  have e1 := dg_is (w := 256 * v + x) (k := 4) (by omega) (by decide)
  have hd : (256 * v + x) / 2 ^ 4 % 64 = v * 16 + x / 16 := by omega
  have hd6 : v * 16 + x / 16 < 64 := by omega
  have hl1 : l.length < 140737488355328 := by omega
  have e2 := mk_is (w := 256 * v + x) (k := 4) (by omega) (by decide)
  have e4 : (256 * v + x) % 2 ^ 4 = x % 16 := by omega
  rw [e4] at e2
  have hlen : (l ++ [al (v * 16 + x / 16)]).length = l.length + 1 := by simp
  simp only [LA, hlen]
  rw [g10i3L2a, lssT hi]
  simp only [g10i3J3a, n8, ar_negN, ltT hi, a28, t8, ar_toNN, hg, ofn]
  erw [hv]
  rw [g10i3L5a, g106]
  simp only [g10i3J6a, s106, n4, n6, t4, t6, m63, e1, hd, c1ok hd6 hl1, c1r0 hd6 hl1, c1r1 hd6 hl1, c1r2 hd6 hl1]
  rw [g10i3L5a, g46]
  simp only [g10i3J8, n4, t4, e2, inc hi2]
theorem st4 {m v x i : Nat} {l : List Nat} (hv0 : v < 16) (hx : x < 256) (hg : s.getD i 0 = x) (hi : i < s.length) (hi2 : i < 4611686018427387904) (hl : l.length + 1 < 140737488355328) :
    LA n (m + 1) 4 ((v : Nat) : Int) i s l = LA n m 0 0 ((i + 1 : Nat) : Int) s (l ++ [al (v * 4 + x / 64)] ++ [al (x % 64)]) := by
  have hv := or_is (v := v) (x := x) (by omega) hx
  have e1 := dg_is (w := 256 * v + x) (k := 6) (by omega) (by decide)
  have hd : (256 * v + x) / 2 ^ 6 % 64 = v * 4 + x / 64 := by omega
  have hd6 : v * 4 + x / 64 < 64 := by omega
  have hl1 : l.length < 140737488355328 := by omega
  have e3 := dg_is (w := 256 * v + x) (k := 0) (by omega) (by decide)
  have hd3 : (256 * v + x) / 2 ^ 0 % 64 = x % 64 := by omega
  have hd7 : x % 64 < 64 := by omega
  have e2 := mk_is (w := 256 * v + x) (k := 0) (by omega) (by decide)
  have e4 : (256 * v + x) % 2 ^ 0 = 0 := by omega
  rw [e4] at e2
  have hlen0 : (l ++ [al (v * 4 + x / 64)]).length = l.length + 1 := by simp
  have hlen : (l ++ [al (v * 4 + x / 64)] ++ [al (x % 64)]).length = l.length + 1 + 1 := by simp
  have hl2 : (l ++ [al (v * 4 + x / 64)]).length < 140737488355328 := by omega
  have c1 := c1ok (n := (l ++ [al (v * 4 + x / 64)]).length) hd7 hl2
  have c2 := c1r0 (n := (l ++ [al (v * 4 + x / 64)]).length) hd7 hl2
  have c3 := c1r1 (n := (l ++ [al (v * 4 + x / 64)]).length) hd7 hl2
  have c4 := c1r2 (n := (l ++ [al (v * 4 + x / 64)]).length) hd7 hl2
  rw [hlen0] at c1 c2 c3 c4
  simp only [LA, hlen]
  rw [g10i3L2a, lssT hi]
  simp only [g10i3J3a, n8, ar_negN, ltT hi, a48, t8, ar_toNN, hg, ofn]
  erw [hv]
  rw [g10i3L5a, g126]
  simp only [g10i3J6a, s126, n6, n6, t6, t6, m63, e1, hd, c1ok hd6 hl1, c1r0 hd6 hl1, c1r1 hd6 hl1, c1r2 hd6 hl1]
  rw [g10i3L5a, g66]
  simp only [g10i3J6a, s66, n0, n6, t0, t6, m63, e3, hd3, c1, c2, c3, c4]
  rw [g10i3L5a, g06]
  simp only [g10i3J8, n0, t0, e2, inc hi2]
  rfl
theorem en0 {m i : Nat} {l : List Nat} (hi : s.length ≤ i) : LA n (m + 1) 0 0 i s l = RES s 6 l := by
  simp only [LA]
  rw [g10i3L2a, lssF hi]
  simp only [g10i3J10, p0]
  rfl
theorem en2 {m v i : Nat} {l : List Nat} (hv : v < 4) (hi : s.length ≤ i) (hl : l.length < 140737488355328) : LA n (m + 1) 2 ((v : Nat) : Int) i s l = RES s 6 (l ++ [al (v * 16)]) := by
  have e1 := ls_is (w := v) (k := 4) (by omega) (by decide)
  have hd : v * 2 ^ 4 % 64 = v * 16 := by omega
  have hd6 : v * 16 < 64 := by omega
  have hlen : (l ++ [al (v * 16)]).length = l.length + 1 := by simp
  simp only [LA, RES, hlen]
  rw [g10i3L2a, lssF hi]
  simp only [g10i3J10, p2, s62, n4, n6, t4, t6, m63, e1, hd, c1ok hd6 hl, c1r0 hd6 hl, c1r1 hd6 hl, c1r2 hd6 hl]
  rfl
theorem en4 {m v i : Nat} {l : List Nat} (hv : v < 16) (hi : s.length ≤ i) (hl : l.length < 140737488355328) : LA n (m + 1) 4 ((v : Nat) : Int) i s l = RES s 6 (l ++ [al (v * 4)]) := by
  have e1 := ls_is (w := v) (k := 2) (by omega) (by decide)
  have hd : v * 2 ^ 2 % 64 = v * 4 := by omega
  have hd6 : v * 4 < 64 := by omega
  have hlen : (l ++ [al (v * 4)]).length = l.length + 1 := by simp
  simp only [LA, RES, hlen]
  rw [g10i3L2a, lssF hi]
  simp only [g10i3J10, p4, s64, n2, n6, t2, t6, m63, e1, hd, c1ok hd6 hl, c1r0 hd6 hl, c1r1 hd6 hl, c1r2 hd6 hl]
  rfl
theorem run (hs : ∀ x ∈ s, x < 256) (hlen : s.length < 1125899906842624) : ∀ (r : List Nat) (m i : Nat) (l : List Nat), s.drop i = r → r.length < m → l.length + 2 * r.length < 112589990684262 →
    LA n m 0 0 i s l = RES s 6 (l ++ (dg 0 0 r).map al) ∧ (∀ v, v < 4 → LA n m 2 ((v : Nat) : Int) i s l = RES s 6 (l ++ (dg 1 v r).map al)) ∧ (∀ v, v < 16 → LA n m 4 ((v : Nat) : Int) i s l = RES s 6 (l ++ (dg 2 v r).map al)) := by
  intro r
  induction r with
  | nil =>
    intro m i l hd hm hl
    obtain ⟨m, rfl⟩ : ∃ k, m = k + 1 := ⟨m - 1, by simp only [List.length_nil] at hm; omega⟩
    have hi := drop_nil hd
    simp only [List.length_nil] at hl
    refine ⟨?_, fun v hv => ?_, fun v hv => ?_⟩
    · rw [en0 hi]; simp [dg]
    · rw [en2 hv hi (by omega)]; rfl
    · rw [en4 hv hi (by omega)]; rfl
  | cons x r ih =>
    intro m i l hd hm hl
    simp only [List.length_cons] at hm hl
    obtain ⟨m, rfl⟩ : ∃ k, m = k + 1 := ⟨m - 1, by omega⟩
    obtain ⟨hg, hi, hd'⟩ := getD_drop hd
    have hx : x < 256 := hs x (by
      have : x ∈ s.drop i := by rw [hd]; simp
      exact List.mem_of_mem_drop this)
    have hi2 : i < 4611686018427387904 := by omega
    have ap : ∀ (a b : Nat) (t : List Nat), l ++ [a] ++ [b] ++ t = l ++ (a :: b :: t) := fun a b t => by simp
    have ap1 : ∀ (a : Nat) (t : List Nat), l ++ [a] ++ t = l ++ (a :: t) := fun a t => by simp
    refine ⟨?_, fun v hv => ?_, fun v hv => ?_⟩
    · rw [st0 hx hg hi hi2 (by omega), (ih m (i + 1) _ hd' (by omega) (by simp; omega)).2.1 _ (by omega), ap1]
      rfl
    · rw [st2 hv hx hg hi hi2 (by omega), (ih m (i + 1) _ hd' (by omega) (by simp; omega)).2.2 _ (by omega), ap1]
      rfl
    · rw [st4 hv hx hg hi hi2 (by omega), (ih m (i + 1) _ hd' (by omega) (by simp; omega)).1, ap]
      rfl
end
end Go.Sx.B7
namespace Go.Sx.B7
set_option linter.unusedSectionVars false
open Go.Proofs
set_option linter.unusedVariables false
set_option maxRecDepth 100000
attribute [local irreducible] g10b3c0 g10b3r0_0 g10b3r0_1 g10b3r0_2 g10b3a_c0 g10b3a_r0_0 g10b3a_r0_1 g10b3a_r0_2 g11b3c0 g11b3r0_0 g11b3r0_1 g11b3r0_2 g11b3a_c0 g11b3a_r0_0 g11b3a_r0_1 g11b3a_r0_2
section
variable {s : List Nat} {n : Nat}
abbrev HA (n m : Nat) (h v i : Int) (s l : List Nat) : Option Heap := g11i3L2a realA (n + 4) KF m h v (s.length : Int) i l.length s 8 4 l.length l
theorem hst {m x i : Nat} {l : List Nat} (hx : x < 256) (hg : s.getD i 0 = x) (hi : i < s.length) (hi2 : i < 4611686018427387904) (hll : l.length + 1 < 140737488355328) :
    HA n (m + 1) 0 0 i s l = HA n m 0 0 ((i + 1 : Nat) : Int) s (l ++ [hl (x / 16)] ++ [hl (x % 16)]) := by
  have hv := or_is (v := 0) (x := x) (by omega) hx
  simp only [Nat.mul_zero, Nat.zero_add] at hv
  have e1 := hx_is (w := x) (k := 4) (by omega) (by decide)
  have hd : x / 2 ^ 4 % 16 = x / 16 := by omega
  have hd6 : x / 16 < 16 := by omega
  have hl1 : l.length < 140737488355328 := by omega
  have e3 := hx_is (w := x) (k := 0) (by omega) (by decide)
  have hd3 : x / 2 ^ 0 % 16 = x % 16 := by omega
  have hd7 : x % 16 < 16 := by omega
  have e2 := mk_is (w := x) (k := 0) (by omega) (by decide)
  have e4 : x % 2 ^ 0 = 0 := by omega
  rw [e4] at e2
  have hlen0 : (l ++ [B7.hl (x / 16)]).length = l.length + 1 := by simp
  have hlen : (l ++ [B7.hl (x / 16)] ++ [B7.hl (x % 16)]).length = l.length + 1 + 1 := by simp
  have hl2 : (l ++ [B7.hl (x / 16)]).length < 140737488355328 := by omega
  have c1 := d1ok (n := (l ++ [B7.hl (x / 16)]).length) hd7 hl2
  have c2 := d1r0 (n := (l ++ [B7.hl (x / 16)]).length) hd7 hl2
  have c3 := d1r1 (n := (l ++ [B7.hl (x / 16)]).length) hd7 hl2
  have c4 := d1r2 (n := (l ++ [B7.hl (x / 16)]).length) hd7 hl2
  rw [hlen0] at c1 c2 c3 c4
  simp only [HA, hlen]
  rw [g11i3L2a, lssT hi]
  simp only [g11i3J3a, n8, ar_negN, ltT hi, a08, t8, ar_toNN, hg, ofn]
  erw [hv]
  rw [g11i3L5a, g84]
  simp only [g11i3J6a, s84, n4, t4, m15, e1, hd, d1ok hd6 hl1, d1r0 hd6 hl1, d1r1 hd6 hl1, d1r2 hd6 hl1]
  rw [g11i3L5a, g44]
  simp only [g11i3J6a, s44, n0, n4, t0, t4, m15, e3, hd3, c1, c2, c3, c4]
  rw [g11i3L5a, g04]
  simp only [g11i3J8, n0, t0, e2, inc hi2]
  rfl
theorem hen {m i : Nat} {l : List Nat} (hi : s.length ≤ i) : HA n (m + 1) 0 0 i s l = RES s 4 l := by
  simp only [HA]
  rw [g11i3L2a, lssF hi]
  simp only [g11i3J10, p0]
  rfl
theorem hrun (hs : ∀ x ∈ s, x < 256) (hlen : s.length < 1125899906842624) : ∀ (r : List Nat) (m i : Nat) (l : List Nat), s.drop i = r → r.length < m → l.length + 2 * r.length < 112589990684262 →
    HA n m 0 0 i s l = RES s 4 (l ++ (hx r).map hl) := by
  intro r
  induction r with
  | nil =>
    intro m i l hd hm hl
    obtain ⟨m, rfl⟩ : ∃ k, m = k + 1 := ⟨m - 1, by simp only [List.length_nil] at hm; omega⟩
    rw [hen (drop_nil hd)]
    simp [hx]
  | cons x r ih =>
    intro m i l hd hm hl
    simp only [List.length_cons] at hm hl
    obtain ⟨m, rfl⟩ : ∃ k, m = k + 1 := ⟨m - 1, by omega⟩
    obtain ⟨hg, hi, hd'⟩ := getD_drop hd
    have hx : x < 256 := hs x (by
      have : x ∈ s.drop i := by rw [hd]; simp
      exact List.mem_of_mem_drop this)
    have ap : ∀ (a b : Nat) (t : List Nat), l ++ [a] ++ [b] ++ t = l ++ (a :: b :: t) := fun a b t => by simp
    rw [hst hx hg hi (by omega) (by omega), ih m (i + 1) _ hd' (by omega) (by simp; omega), ap]
    rfl
end
attribute [local irreducible] g10i3v g11i3v
attribute [local irreducible] g25v g25ok g25r1 g25r2 g25r3
def pad (l : List Nat) : Nat := (4 - l.length % 4) % 4
def enc (s : List Nat) : List Nat := (dg 0 0 s).map al ++ List.replicate (pad ((dg 0 0 s).map al)) 61
def hex (s : List Nat) : List Nat := (hx s).map hl
end Go.Sx.B7
namespace Go.Sx
set_option linter.unusedSectionVars false
open Go.Proofs
set_option linter.unusedVariables false
set_option maxRecDepth 100000
def d12BO (A : Ar) : Orc := orc3 22 32 9 3 3 (orcH [(27, g27o A), (28, g28o A)] [(23, ⟨[0, 1], none, (ho2 (g23o A) (g23a_o A))⟩), (24, ⟨[], none, (ho2 (g24o A) (ho2 (g24a_o A) (g24b_o A)))⟩), (26, ⟨[], none, (ho2 (g26o A) (g26a_o A))⟩), (10, ⟨[], none, (g10o A)⟩)])
theorem d12BO_sound : OSound Tryd.prog (d12BO realA) := orc3_sound Bd07.box3 <| orcH_sound (fun f g hm args v hv => by
    simp only [List.mem_cons, List.not_mem_nil, or_false, Prod.mk.injEq] at hm
    rcases hm with ⟨rfl, rfl⟩ | ⟨rfl, rfl⟩
    · exact g27o_sound _ _ hv
    · exact g28o_sound _ _ hv) (fun f e hm args h v h' hv => by
    simp only [List.mem_cons, List.not_mem_nil, or_false, Prod.mk.injEq] at hm
    rcases hm with ⟨rfl, rfl⟩ | ⟨rfl, rfl⟩ | ⟨rfl, rfl⟩ | ⟨rfl, rfl⟩
    · exact (ho2_sound g23o_sound g23a_o_sound) _ _ _ _ hv
    · exact (ho2_sound g24o_sound (ho2_sound g24a_o_sound g24b_o_sound)) _ _ _ _ hv
    · exact (ho2_sound g26o_sound g26a_o_sound) _ _ _ _ hv
    · exact g10o_sound _ _ _ _ hv)
theorem d12BO_det : ODet (d12BO realA) := orc3_det <| orcH_det _ _

noncomputable abbrev c12 : Code := bodyOf Tryd.f12
noncomputable abbrev q12 : Code := (spineC 2 c12).getD .skip
noncomputable abbrev r12 : Code := .seq (tailC (headC q12)) (tailC q12)
noncomputable abbrev o12 : Array Oper := opsOf (headC (headC q12))
noncomputable abbrev x12 : Code := rfOf 0 r12
noncomputable abbrev b12 : Code := .seq (rfAs x12) (rfBd x12)
def d12E : List Nat := [412, 413, 414, 448]
def d12b : List Nat := [410, 411, 415, 500, 13004]
def d12i : List Nat := [410, 411, 412, 413, 414, 415, 448, 500, 13004]
noncomputable def d12bE (sl : Slots) (vs : List AV) (g : Heap) : Option (Ex × Heap) := codeN realA gtys (orcOf []) [] [] (goD realA gtys (orcOf []) [] [] b12 (bdP d12b fun ex h => some (ex, h)) 20) [] b12 (bdP d12b fun ex h => some (ex, h)) ⟨zipS (rfPs x12).toList vs ++ sl, g⟩
noncomputable def d12U (sl : Slots) : Orc := { orcOf [] with ylg := yRoundG d12E 1 (fun vs g => [(true, d12bE sl vs g)]), tk := true, pb := 450 }
def d12ia : Ann := [(1000002, ([13004], [500])), (1000005, ([13004], [500]))]
noncomputable def d12I (sl : Slots) (caps : List V1) (h : Heap) : Option Heap := match Nat.ble (caps.length + 1) Tryd.f32.ntmps with
  | true => funN realA gtys (d12U (pick sl [8])) d12ia [] (bodyOf Tryd.f32) Tryd.f32.results.toList (.yld 449 :: vAV caps []) h (fun _ h => some (pick h d12i)) (goD realA gtys (d12U (pick sl [8])) d12ia [] (bodyOf Tryd.f32) (finD gtys Tryd.f32.results.toList (fun _ h => some (pick h d12i))) 100)
  | false => none
noncomputable def d12W (i : Nat) (v : AV) (sl : Slots) (h : Heap) : GL (Ex × Heap) := match Nat.beq i 11 with
  | true => [(true, rngF 32 d12I v sl h)]
  | false => []
def d12O : Orc := { d12BO realA with pb := 410 }
noncomputable def d12P (s : List Nat) : Orc := { d12BO realA with rngg := d12W, pb := 410, nx := some (13, s) }
def d12a : Ann := [(9, ([0, 2, 3, 4], [2000, 500, 9002])), (1000009, ([9002], [500])), (1000003, ([9002], [500])), (3000011, ([2000, 10000, 11001, 11501, 11502, 500], [410, 411, 412, 413, 414, 415]))]
noncomputable def d12X (s : List Nat) (st : St) : Option AV := codeN realA gtys (d12P s) d12a [] (goD realA gtys (d12P s) d12a [] r12 (finD gtys Tryd.f12.results.toList fun v _ => some v) 100) [] r12 (finD gtys Tryd.f12.results.toList fun v _ => some v) st
theorem d12v : funI realA gtys d12O d12a 2 2 o12 c12 Tryd.f12.results.toList [tS [89, 87, 73, 61]] (fun v _ => some v) d12X = some (.tup [.cell (.str [97, 98]), .cell (.bool true)]) := by kernel_rfl
theorem d12NO_sound : OSound Tryd.prog (orcOf []) := orc_sound fun f g hm args v hv => by cases hm
theorem d12NO_det : ODet (orcOf []) := orc_det _
theorem d12hB {sl : Slots} {vs : List AV} {g g' : Heap} {ex : Ex} (h : d12bE sl vs g = some (ex, g')) : BodyH Tryd.prog Tryd.f12.ntmps (rfAs x12) (rfBd x12) (rfPs x12).toList sl vs g ex g' :=
  bodyH_ofM mixed gtysOK (d12NO_sound) (d12NO_det) (an := []) (cut := []) (bs := d12b) (by kernel_rfl) (by kernel_rfl) (by kernel_rfl) (by kernel_rfl) (by kernel_rfl) (by kernel_rfl) h
theorem pickG_one {α : Type} (o : Option α) : pickG [(true, o)] = o := rfl
theorem d12W_is (v : AV) (sl : Slots) (h : Heap) : d12W 11 v sl h = [(true, rngF 32 d12I v sl h)] := by
  unfold d12W
  rfl
theorem d12P_rng (s : List Nat) (v : AV) (sl : Slots) (h : Heap) : (d12P s).rng 11 v sl h = rngF 32 d12I v sl h := by
  show pickG (d12W 11 v sl h) = _
  rw [d12W_is, pickG_one]
theorem d12U_yl (sl : Slots) (vs : List AV) (h : Heap) : (d12U sl).yl vs h = yRound d12E 1 (fun vs g => pickG [(true, d12bE sl vs g)]) vs h := by
  show pickG (yRoundG d12E 1 (fun vs g => [(true, d12bE sl vs g)]) vs h) = _
  exact yRoundG_pick (bodyG := fun vs g => [(true, d12bE sl vs g)])
theorem d12I_hit {sl : Slots} {caps : List V1} {h h2 : Heap} (hi : d12I sl caps h = some h2) : caps.length + 1 ≤ Tryd.f32.ntmps ∧ ∃ m, funN realA gtys (d12U (pick sl [8])) d12ia [] (bodyOf Tryd.f32) Tryd.f32.results.toList (.yld 449 :: vAV caps []) h (fun _ h => some (pick h d12i)) (goD realA gtys (d12U (pick sl [8])) d12ia [] (bodyOf Tryd.f32) (finD gtys Tryd.f32.results.toList (fun _ h => some (pick h d12i))) m) = some h2 := by
  unfold d12I at hi
  split at hi
  · rename_i hc
    exact ⟨Nat.le_of_ble_eq_true hc, 100, hi⟩
  · cases hi
theorem d12hR : ∀ s N S ρ w (cx : Cx), cx.nt = Tryd.f12.ntmps → cx.pb = 410 → cx.lo ≤ w.heap.size → RngOk Tryd.prog (d12P s) Fence.wide 0 N S ρ w cx (rngs r12) := by
  intro s N S ρ w cx hnt hpb hlo
  have hrs : rngs r12 = [.rangeFunc (rfG x12) (rfPs x12) (rfAs x12) (rfBd x12)] := by kernel_rfl
  rw [hrs]
  exact rng_ok (O := d12P s) mixed gtysOK (OU := fun sl => d12U (pick sl [8])) (fun _ => d12NO_sound) (fun _ => d12NO_det) (fun _ => rfl) (fun _ _ _ _ _ => rfl) (E := d12E) (np := 1) (bodyE := fun sl vs g => pickG [(true, d12bE (pick sl [8]) vs g)]) (fun _ => rfl) (fun _ _ _ => d12U_yl _ _ _) (i0 := 11) (by kernel_rfl) (fun _ _ _ _ _ h => by
    rw [hnt]
    exact bodyH_pick [8] (d12hB h)) (by kernel_rfl) (nodupB_spec (by kernel_rfl)) (by rw [hnt]; exact allLtB_spec (by kernel_rfl)) Tryd.func32 (ic := bodyOf Tryd.f32) rfl (by kernel_rfl) Tryd.call32 (itE := d12I) (an := d12ia) (cut := []) (bs := d12i) (fun sl caps h h2 _ hi => d12I_hit hi) (fun v sl hp r hh => by rw [d12P_rng] at hh; exact hh) (by rw [hpb]; decide) hlo
theorem d12 : Fn1 Tryd.prog 12 [tS [89, 87, 73, 61]] (.tup [.cell (.str [97, 98]), .cell (.bool true)]) :=
  fn1_ofI mixed gtysOK (O := d12O) (O2 := d12P) d12BO_sound d12BO_det rfl (fun _ _ => rfl) rfl (fun _ _ _ _ => rfl) (d := 13) (fun _ => d12BO_sound) (fun _ => d12BO_det) (fun _ => rfl) (fun _ => rfl) (fun _ _ _ => rfl) (fun _ => rfl) (an := d12a) (cut := []) Tryd.func12 (c := c12) (n := 2) (id := 2) (ops := o12) (blk := tailC (headC q12)) (rest := tailC q12) rfl (by kernel_rfl) Tryd.call12 (by kernel_rfl) (by kernel_rfl) (by kernel_rfl) (by kernel_rfl) (by kernel_rfl) d12hR (by decide) (fun b => rfl) (X2 := d12X) (fun s st h => ⟨100, h⟩) fun _ => d12v
def lsB : List Nat → List Nat → Bool
  | [], [] => true
  | a :: r, b :: s => Nat.beq a b && lsB r s
  | _, _ => false
theorem lsB_spec : ∀ {a b : List Nat}, lsB a b = true → a = b
  | [], [], _ => rfl
  | a :: r, b :: s, h => by
    simp only [lsB, Bool.and_eq_true] at h
    rw [beq_true h.1, lsB_spec h.2]
  | [], _ :: _, h => by cases h
  | _ :: _, [], h => by cases h
def d12o (args : List AV) : Option (Bool × AV) := match args with
  | [.v (.cell (.str a))] => match lsB a [89, 87, 73, 61] with
    | true => some (true, .tup [.cell (.str [97, 98]), .cell (.bool true)])
    | false => none
  | _ => none
theorem d12o_sound : ∀ args v, d12o args = some (true, v) → Fn1 Tryd.prog 12 args v := by
  intro args v h
  unfold d12o at h
  split at h
  · split at h
    · rename_i hl
      rw [lsB_spec hl]
      simp only [Option.some.injEq, Prod.mk.injEq, true_and] at h
      subst h
      exact d12
    · cases h
  · cases h
end Go.Sx
namespace Go.Sx
set_option linter.unusedSectionVars false
open Go.Proofs
set_option linter.unusedVariables false
set_option maxRecDepth 100000
theorem SxP07dpi {R : Type} (c : Bool) {f1 f2 : Nat → Option R} {a1 a2 : Option R} (h1 : Prs f1 a1) (h2 : Prs f2 a2) : Prs (fun k => match c with | true => f1 k | false => f2 k) (match c with | true => a1 | false => a2) := by cases c <;> assumption
attribute [local irreducible] g18ok g18r0 g18r1 g10ok g10r0 g11ok g11r0
def g12o (A : Ar) := d12o
theorem g12o_sound : ∀ args v, g12o realA args = some (true, v) → Fn1 Tryd.prog 12 args v := d12o_sound
def g9O (A : Ar) : Orc := orcH [(12, g12o A), (18, g18o A)] [(10, ⟨[], none, (g10o A)⟩), (11, ⟨[], none, (g11o A)⟩)]
theorem g9O_sound : OSound Tryd.prog (g9O realA) := orcH_sound (fun f g hm args v hv => by
    simp only [List.mem_cons, List.not_mem_nil, or_false, Prod.mk.injEq] at hm
    rcases hm with ⟨rfl, rfl⟩ | ⟨rfl, rfl⟩
    · exact g12o_sound _ _ hv
    · exact g18o_sound _ _ hv) (fun f e hm args h v h' hv => by
    simp only [List.mem_cons, List.not_mem_nil, or_false, Prod.mk.injEq] at hm
    rcases hm with ⟨rfl, rfl⟩ | ⟨rfl, rfl⟩
    · exact g10o_sound _ _ _ _ hv
    · exact g11o_sound _ _ _ _ hv)
theorem g9O_det : ODet (g9O realA) := orcH_det _ _
def g9an : Ann := [(0, ([], [])), (1, ([], [])), (2, ([1, 2], [])), (3, ([1, 2, 3, 4], []))]
def g9res : List ResultVar := [.tmp 0]
def g9cut : List Nat := []
noncomputable def g9N {R : Type} (A : Ar) (kk : AV → Heap → Option R) (t : List Bool → St → Option R) (p : List Bool) (s : St) : Option R := nodeN A gtys (g9O A) g9an g9cut t (bodyOf Tryd.f9) (finD gtys g9res kk) p s
def g9 {R : Type} (A : Ar) (n : Nat) (kk : AV → Heap → Option R)  : Option R :=
  match g18ok A 1030 with
  | true => match g10ok A [97, 98] with
    | true => match A.sc .eql (g10r0 A [97, 98]) [89, 87, 73, 61] with
      | true => match A.sc .eql [97, 98] [97, 98] with
        | true => match A.sc .eql (g18r0 A 1030) [49, 48, 51, 48] with
          | true => match g18r1 A 1030 with
            | true => match g11ok A [10, 255] with
              | true => kk (bO (A.sc .eql (g11r0 A [10, 255]) [48, 97, 102, 102])) []
              | false => none
            | false => kk (bO false) []
          | false => kk (bO false) []
        | false => kk (bO false) []
      | false => kk (bO false) []
    | false => none
  | false => none
section
variable {R : Type} {A : Ar} {n : Nat} {kk : AV → Heap → Option R} {tb : Nat → List Bool → St → Option R} (st : Stp (g9N A kk) tb)
include st
theorem g9_go  : Prs (fun k => funN A gtys (g9O A) g9an g9cut (bodyOf Tryd.f9) g9res [] [] kk (tb k)) (g9 A n kk ) := by
  unfold g9
  exact pc (SxP07dpi _ (SxP07dpi _ (SxP07dpi _ (SxP07dpi _ (SxP07dpi _ (SxP07dpi _ (SxP07dpi _ (pf _) pn) (pf _)) (pf _)) (pf _)) (pf _)) pn) pn) (by kernel_rfl)
end
def g9is (o : Option AV) : Bool := match o with
  | some (.v (.cell (.bool _))) => true
  | _ => false
def g9g0 (o : Option AV) : Bool := match o with
  | some (.v (.cell (.bool x))) => x
  | _ => false
theorem g9is_spec {o : Option AV} (h : g9is o = true) : o = some (.v (.cell (.bool (g9g0 o)))) := by
  unfold g9is at h
  split at h
  · rfl
  · cases h
def g9v (A : Ar)  : Option AV := g9 A (10000000) (fun v _ => some v) 
def g9ok (A : Ar)  : Bool := g9is (g9v A )
def g9r0 (A : Ar)  : Bool := g9g0 (g9v A )
theorem g9ok_spec {A : Ar} (h : g9ok A = true) : g9v A = some (.v (.cell (.bool (g9r0 A)))) := g9is_spec h
def g9o (A : Ar) (args : List AV) : Option (Bool × AV) := match args with
  | [] => some (g9ok A , .v (.cell (.bool (g9r0 A))))
  | _ => none
theorem g9o_sound : ∀ args v, g9o realA args = some (true, v) → Fn1 Tryd.prog 9 args v := by
  intro args v h
  unfold g9o at h
  split at h
  · simp only [Option.some.injEq, Prod.mk.injEq] at h
    obtain ⟨hc, h⟩ := h
    subst h
    · skip
      exact fn1_ofG mixed gtysOK g9O_sound g9O_det (an := g9an) (cut := g9cut) Tryd.func9 (c := bodyOf Tryd.f9) rfl (by kernel_rfl) Tryd.call9 (Nat.le_of_ble_eq_true rfl) (fun b => rfl) (fun _ => (show g9v realA  = _ from g9ok_spec hc)) fun _ st => g9_go st
  · cases h
attribute [local irreducible] g9ok g9r0
end Go.Sx
namespace Go.Sx.B7
set_option linter.unusedSectionVars false
set_option linter.unusedVariables false
theorem ex_ok : g9ok realA = true := by kernel_rfl
theorem ex_is : g9r0 realA = true := by kernel_rfl
end Go.Sx.B7
namespace Go.Sx.B7
set_option linter.unusedSectionVars false
set_option linter.unusedVariables false
theorem get_at (s : List Nat) (hs : ∀ x ∈ s, x < 256) (i : Nat) : (((ByteArray.mk (s.map UInt8.ofNat).toArray).get! i).toNat) = s.getD i 0 := by
  have e : ∀ A : Array UInt8, (ByteArray.mk A).get! i = A[i]! := fun A => rfl
  rw [e, List.getD_eq_getElem?_getD]
  by_cases h : i < s.length
  · have h2 : i < (s.map UInt8.ofNat).toArray.size := by simpa using h
    rw [getElem!_pos (s.map UInt8.ofNat).toArray i h2, List.getElem?_eq_getElem h]
    have := hs _ (List.getElem_mem h)
    simp
    omega
  · rw [List.getElem?_eq_none (by omega), getElem!_neg (s.map UInt8.ofNat).toArray i (by simpa using h)]
    rfl
theorem rune_ascii {s : List Nat} (hs : ∀ x ∈ s, x < 256) {i c : Nat} (hc : s.getD i 0 = c) (h : c < 128) : runeN s i = c ∧ stepN s i = i + 1 := by
  have e := get_at s hs i
  rw [hc] at e
  unfold runeN stepN Utf8.decode
  simp only [Nat.add_zero, e, if_pos h, and_self]
theorem rune_big {s : List Nat} (hs : ∀ x ∈ s, x < 256) {i c : Nat} (hc : s.getD i 0 = c) (h : 128 ≤ c) (h2 : c < 256) : 128 ≤ runeN s i ∧ runeN s i ≤ 1114111 := by
  have e := get_at s hs i
  rw [hc] at e
  have f1 := get_at s hs (i + 1)
  have f2 := get_at s hs (i + 2)
  have f3 := get_at s hs (i + 3)
  unfold runeN Utf8.decode Utf8.valid Utf8.runeError
  simp only [Nat.add_zero, e]
  rw [if_neg (by omega)]
  generalize ((ByteArray.mk (s.map UInt8.ofNat).toArray).get! (i + 1)).toNat = b1
  generalize ((ByteArray.mk (s.map UInt8.ofNat).toArray).get! (i + 2)).toNat = b2
  generalize ((ByteArray.mk (s.map UInt8.ofNat).toArray).get! (i + 3)).toNat = b3
  simp only [Bool.and_eq_true, Bool.or_eq_true, beq_iff_eq, decide_eq_true_eq, ge_iff_le]
  repeat' split
  all_goals (simp only; omega)
def dec (n : Nat) : List Nat := if n < 10 then [48 + n] else dec (n / 10) ++ [48 + n % 10]
termination_by n
decreasing_by omega
theorem dec_lt {n : Nat} (h : n < 10) : dec n = [48 + n] := by rw [dec, if_pos h]
theorem dec_ge {n : Nat} (h : 10 ≤ n) : dec n = dec (n / 10) ++ [48 + n % 10] := by rw [dec, if_neg (by omega)]
theorem dec_ne (n : Nat) : dec n ≠ [] := by
  by_cases h : n < 10
  · rw [dec_lt h]; simp
  · rw [dec_ge (by omega)]; simp
theorem dec_len : ∀ (k n : Nat), n < 10 ^ (k + 1) → (dec n).length ≤ k + 1
  | 0, n, h => by rw [dec_lt (by simpa using h)]; simp
  | k + 1, n, h => by
    by_cases h10 : n < 10
    · rw [dec_lt h10]; simp
    · rw [dec_ge (by omega)]
      have := dec_len k (n / 10) (by rw [Nat.div_lt_iff_lt_mul (by decide)]; rw [Nat.pow_succ] at h; exact h)
      simp; omega
theorem dec_digit : ∀ n, ∀ c ∈ dec n, 48 ≤ c ∧ c ≤ 57 := by
  intro n
  induction n using Nat.strongRecOn with
  | _ n ih =>
    intro c hc
    by_cases h : n < 10
    · rw [dec_lt h] at hc; simp at hc; omega
    · rw [dec_ge (by omega)] at hc
      rcases List.mem_append.1 hc with h2 | h2
      · exact ih (n / 10) (by omega) c h2
      · simp at h2; omega
theorem dec_head : ∀ n, 1 ≤ n → (dec n).getD 0 0 ≠ 48 := by
  intro n
  induction n using Nat.strongRecOn with
  | _ n ih =>
    intro hn
    by_cases h : n < 10
    · rw [dec_lt h]; simp; omega
    · rw [dec_ge (by omega)]
      have := ih (n / 10) (by omega) (by omega)
      have hne := dec_ne (n / 10)
      revert this hne
      cases dec (n / 10) with
      | nil => intro _ h; exact absurd rfl h
      | cons a r => intro h _; simpa using h
def tk : Nat → List Nat → Option Nat
  | n, [] => some n
  | n, c :: r => if c < 48 ∨ 57 < c ∨ (4611686018427387904 - (c - 48)) / 10 < n then none else tk (n * 10 + (c - 48)) r
theorem tk_app : ∀ (s t : List Nat) (n : Nat), tk n (s ++ t) = (tk n s).bind fun m => tk m t
  | [], t, n => rfl
  | c :: r, t, n => by
    simp only [List.cons_append, tk]
    split
    · rfl
    · exact tk_app r t _
theorem tk_of_dec : ∀ n, tk 0 (dec n) = if n ≤ 4611686018427387904 then some n else none := by
  intro n
  induction n using Nat.strongRecOn with
  | _ n ih =>
    by_cases h : n < 10
    · rw [dec_lt h, if_pos (by omega)]
      simp only [tk]
      rw [if_neg (by omega)]
      congr 1; omega
    · rw [dec_ge (by omega), tk_app, ih (n / 10) (by omega)]
      by_cases hle : n / 10 ≤ 4611686018427387904
      · rw [if_pos hle]
        simp only [Option.bind_some, tk]
        by_cases hn : n ≤ 4611686018427387904
        · rw [if_pos hn, if_neg (by omega)]
          congr 1; omega
        · rw [if_neg hn, if_pos (by omega)]
      · rw [if_neg hle, if_neg (by omega)]
        rfl
end Go.Sx.B7
namespace Go.Sx
set_option linter.unusedSectionVars false
open Go.Proofs
set_option linter.unusedVariables false
set_option maxRecDepth 100000
theorem SxP07gpi {R : Type} (c : Bool) {f1 f2 : Nat → Option R} {a1 a2 : Option R} (h1 : Prs f1 a1) (h2 : Prs f2 a2) : Prs (fun k => match c with | true => f1 k | false => f2 k) (match c with | true => a1 | false => a2) := by cases c <;> assumption
attribute [local irreducible] runeN stepN
def g20BO (A : Ar) : Orc := orcOf []
theorem g20BO_sound : OSound Tryd.prog (g20BO realA) := orc_sound fun f g hm args v hv => by
  cases hm
theorem g20BO_det : ODet (g20BO realA) := orc_det _
def g20O (A : Ar) : Orc := { g20BO A with pb := 410 }
noncomputable abbrev g20q : Code := ((spineC 3 (bodyOf Tryd.f20)).getD .skip)
noncomputable abbrev g20C : Code := .seq (tailC (headC g20q)) (tailC g20q)
noncomputable abbrev g20p : Array Oper := opsOf (headC (headC g20q))

def g20P (A : Ar) (sI : List Nat) : Orc := { g20BO A with pb := 410, nx := some (21, sI) }
def g20an : Ann := [(0, ([0], [])), (1, ([0], [])), (2, ([], [])), (3, ([0], [])), (4, ([0, 4], [])), (5, ([4, 21], [409])), (6, ([4, 21, 22], [409])), (7, ([4, 6, 21], [409])), (8, ([4, 7, 21], [409])), (9, ([], [409])), (10, ([4, 7, 21], [409])), (11, ([4], []))]
def g20res : List ResultVar := [.tmp 2, .tmp 3]
def g20Scut : List Nat := [6, 10]
noncomputable def g20SN {R : Type} (A : Ar) (sI : List Nat) (kk : AV → Heap → Option R) (t : List Bool → St → Option R) (p : List Bool) (s : St) : Option R := nodeN A gtys (g20P A sI) g20an g20Scut t g20C (finD gtys g20res kk) p s
def g20SJ10s (x0 x1 : Int) (x2 : Nat) : St := ⟨[(4, (i6 x0)), (7, (i6 x1))], [(409, ⟨[], x2, 0⟩)]⟩
def g20SJ10 {R : Type} (A : Ar) (sI : List Nat) (n : Nat) (kk : AV → Heap → Option R) (lg20SL5 : Int → Nat → Option R) (x0 x1 : Int) (x2 : Nat) : Option R :=
  lg20SL5 (A.ib .add .i64 (A.ib .mul .i64 x0 10) x1) x2
def g20SJ6s (x0 x1 x2 : Int) (x3 : Nat) : St := ⟨[(4, (i6 x0)), (22, (.tup [(.cell (.bool true)), (.cell (.int .i64 x1)), (.cell (.int .i32 x2))]))], [(409, ⟨[], x3, 0⟩)]⟩
def g20SJ6 {R : Type} (A : Ar) (sI : List Nat) (n : Nat) (kk : AV → Heap → Option R) (lg20SL5 : Int → Nat → Option R) (x0 x1 x2 : Int) (x3 : Nat) : Option R :=
  match A.ic .lss (A.i2i .i64 (A.ib .sub .i32 x2 48)) 0 with
  | true => kk (.tup [(.cell (.int .i64 0)), (.cell (.bool false))]) [(409, ⟨[], x3, 0⟩)]
  | false => match A.ic .gtr (A.i2i .i64 (A.ib .sub .i32 x2 48)) 9 with
    | true => kk (.tup [(.cell (.int .i64 0)), (.cell (.bool false))]) [(409, ⟨[], x3, 0⟩)]
    | false => match A.ic .gtr x0 (A.ib .quo .i64 (A.ib .sub .i64 4611686018427387904 (A.i2i .i64 (A.ib .sub .i32 x2 48))) 10) with
      | true => kk (.tup [(.cell (.int .i64 0)), (.cell (.bool false))]) [(409, ⟨[], x3, 0⟩)]
      | false => g20SJ10 A sI n kk lg20SL5 x0 (A.i2i .i64 (A.ib .sub .i32 x2 48)) x3
def g20SL5s (x0 : Int) (x1 : Nat) : St := ⟨[(4, (i6 x0))], [(409, ⟨[], x1, 0⟩)]⟩
def g20SL5 {R : Type} (A : Ar) (sI : List Nat) (n : Nat) (kk : AV → Heap → Option R)  : Nat → Int → Nat → Option R
  | 0, _, _ => none
  | m + 1, x0, x1 => match A.lt x1 sI.length with
  | true => g20SJ6 A sI n kk (g20SL5 A sI n kk  m) x0 (A.ofN x1) (A.ofN (runeN sI x1)) (stepN sI x1)
  | false => kk (.tup [(.cell (.int .i64 x0)), (.cell (.bool true))]) []
def g20S {R : Type} (A : Ar) (sI : List Nat) (n : Nat) (kk : AV → Heap → Option R) (x0 x1 : List Nat) (x2 : Int) (x3 : Nat) : Option R :=
  g20SL5 A sI n kk  n x2 x3
section
variable {R : Type} {A : Ar} {sI : List Nat} {n : Nat} {kk : AV → Heap → Option R} {tb : Nat → List Bool → St → Option R} (st : Stp (g20SN A sI kk) tb)
include st
theorem g20SJ10_go {lg20SL5 : Int → Nat → Option R} (hg20SL5 : ∀ (x0 : Int) (x1 : Nat), Prs (fun k => tb k (pth 8) (g20SL5s x0 x1)) (lg20SL5 x0 x1)) {x0 : Int} {x1 : Int} {x2 : Nat} : Prs (fun k => tb k (pth 567) (g20SJ10s x0 x1 x2)) (g20SJ10 A sI n kk lg20SL5 x0 x1 x2) := by
  unfold g20SJ10
  exact st.g (pc (hg20SL5 _ _) (by kernel_rfl))
theorem g20SJ6_go {lg20SL5 : Int → Nat → Option R} (hg20SL5 : ∀ (x0 : Int) (x1 : Nat), Prs (fun k => tb k (pth 8) (g20SL5s x0 x1)) (lg20SL5 x0 x1)) {x0 : Int} {x1 : Int} {x2 : Int} {x3 : Nat} : Prs (fun k => tb k (pth 35) (g20SJ6s x0 x1 x2 x3)) (g20SJ6 A sI n kk lg20SL5 x0 x1 x2 x3) := by
  unfold g20SJ6
  exact st.g (pc (SxP07gpi _ (pf _) (SxP07gpi _ (pf _) (SxP07gpi _ (pf _) (g20SJ10_go st hg20SL5)))) (by kernel_rfl))
theorem g20SL5_go (m : Nat) : ∀ (x0 : Int) (x1 : Nat), Prs (fun k => tb k (pth 8) (g20SL5s x0 x1)) (g20SL5 A sI n kk m x0 x1) := by
  induction m with
  | zero => intro x0 x1; exact pn0
  | succ m ih =>
    intro x0 x1; rw [g20SL5]
    exact st.g (pc (SxP07gpi _ (g20SJ6_go st ih) (pf _)) (by kernel_rfl))
theorem g20S_go {x0 : List Nat} {x1 : List Nat} {x2 : Int} {x3 : Nat} : Prs (fun k => codeN A gtys (g20P A sI) g20an g20Scut (tb k) [] g20C (finD gtys g20res kk) ⟨[(20, (tS x0)), (0, (tS x1)), (4, (i6 x2))], [(409, ⟨[], x3, 0⟩)]⟩) (g20S A sI n kk x0 x1 x2 x3) := by
  unfold g20S
  exact pc (g20SL5_go st n _ _) (by kernel_rfl)
end
def g20X (A : Ar) (sI : List Nat) (st : St) : Option AV := match st with
  | ⟨[(n0, .v (.cell (.str x0))), (n1, .v (.cell (.str x1))), (n2, .v (.cell (.int .i64 x2)))], [(n3, ⟨[], x3, n4⟩)]⟩ => match Nat.beq n0 20 && (Nat.beq n1 0 && (Nat.beq n2 4 && (Nat.beq n3 409 && (Nat.beq n4 0)))) with
    | true => g20S A sI (1000000000000000) (fun v _ => some v) x0 x1 x2 x3
    | false => none
  | _ => none
theorem g20X_sound {sI : List Nat} {st : St} {v : AV} (hx : g20X realA sI st = some v) : ∃ m, codeN realA gtys (g20P realA sI) g20an g20Scut (goD realA gtys (g20P realA sI) g20an g20Scut g20C (finD gtys Tryd.f20.results.toList fun v _ => some v) m) [] g20C (finD gtys Tryd.f20.results.toList fun v _ => some v) st = some v := by
  unfold g20X at hx
  split at hx
  · rename_i n0 x0 n1 x1 n2 x2 n3 x3 n4
    split at hx
    case h_2 => cases hx
    rename_i hc0
    simp only [Bool.and_eq_true] at hc0
    have en0 := beq_true hc0.1
    subst en0
    replace hc0 := hc0.2
    have en1 := beq_true hc0.1
    subst en1
    replace hc0 := hc0.2
    have en2 := beq_true hc0.1
    subst en2
    replace hc0 := hc0.2
    have en3 := beq_true hc0.1
    subst en3
    replace hc0 := hc0.2
    have en4 := beq_true hc0
    subst en4
    exact g20S_go goD_stp _ hx
  · cases hx
def g20 {R : Type} (A : Ar) (n : Nat) (kk : AV → Heap → Option R) (a : List Nat) : Option R :=
  match A.sc .eql a [] with
  | true => kk (.tup [(.cell (.int .i64 0)), (.cell (.bool false))]) []
  | false => match A.ic .gtr (A.ofN a.length) 1 with
    | true => match Nat.blt 0 a.length with
      | true => match A.nc .eql (a.getD 0 0) 48 with
        | true => kk (.tup [(.cell (.int .i64 0)), (.cell (.bool false))]) []
        | false => g20S A a n kk a a 0 0
      | false => none
    | false => g20S A a n kk a a 0 0
theorem g20_is (A : Ar) (a : List Nat) : funI A gtys (g20O A) g20an 3 4 g20p (bodyOf Tryd.f20) g20res [(tS a)] (fun v _ => some v) (g20X A) = g20 A (1000000000000000) (fun v _ => some v) a := by kernel_rfl
def g20is (o : Option AV) : Bool := match o with
  | some (.tup [.cell (.int .i64 _), .cell (.bool _)]) => true
  | _ => false
def g20g0 (o : Option AV) : Int := match o with
  | some (.tup [.cell (.int .i64 x), .cell (.bool _)]) => x
  | _ => 0
def g20g1 (o : Option AV) : Bool := match o with
  | some (.tup [.cell (.int .i64 _), .cell (.bool x)]) => x
  | _ => false
theorem g20is_spec {o : Option AV} (h : g20is o = true) : o = some (.tup [.cell (.int .i64 (g20g0 o)), .cell (.bool (g20g1 o))]) := by
  unfold g20is at h
  split at h
  · rfl
  · cases h
def g20v (A : Ar) (a : List Nat) : Option AV := g20 A (1000000000000000) (fun v _ => some v) a
def g20ok (A : Ar) (a : List Nat) : Bool := g20is (g20v A a)
def g20r0 (A : Ar) (a : List Nat) : Int := g20g0 (g20v A a)
def g20r1 (A : Ar) (a : List Nat) : Bool := g20g1 (g20v A a)
theorem g20ok_spec {A : Ar} {a} (h : g20ok A a = true) : g20v A a = some (.tup [.cell (.int .i64 (g20r0 A a)), .cell (.bool (g20r1 A a))]) := g20is_spec h
def g20o (A : Ar) (args : List AV) : Option (Bool × AV) := match args with
  | [.v (.cell (.str a))] => some (g20ok A a, .tup [.cell (.int .i64 (g20r0 A a)), .cell (.bool (g20r1 A a))])
  | _ => none
theorem g20o_sound : ∀ args v, g20o realA args = some (true, v) → Fn1 Tryd.prog 20 args v := by
  intro args v h
  unfold g20o at h
  split at h
  · rename_i a
    simp only [Option.some.injEq, Prod.mk.injEq] at h
    obtain ⟨hc, h⟩ := h
    subst h
    · skip
      exact fn1_ofI mixed gtysOK (O := g20O realA) (O2 := g20P realA) g20BO_sound g20BO_det rfl (fun _ _ => rfl) rfl (fun _ _ _ _ => rfl) (d := 21) (fun _ => g20BO_sound) (fun _ => g20BO_det) (fun _ => rfl) (fun _ => rfl) (fun _ _ _ => rfl) (fun _ => rfl) (an := g20an) (cut := g20Scut) Tryd.func20 (c := bodyOf Tryd.f20) (n := 3) (id := 4) (ops := g20p) (blk := tailC (headC g20q)) (rest := tailC g20q) rfl (by kernel_rfl) Tryd.call20 (by kernel_rfl) (by kernel_rfl) (by kernel_rfl) (by kernel_rfl) (by kernel_rfl) (fun _ _ _ _ _ _ _ _ _ => rng_none (fun _ _ _ _ => rfl)) (Nat.le_of_ble_eq_true rfl) (fun b => rfl) (X2 := g20X realA) (fun s st h => g20X_sound h) fun _ => (g20_is realA a).trans (show g20v realA a = _ from g20ok_spec hc)
  · cases h
attribute [local irreducible] g20ok g20r0 g20r1
end Go.Sx
namespace Go.Sx
set_option linter.unusedSectionVars false
open Go.Proofs
set_option linter.unusedVariables false
set_option maxRecDepth 100000
def g19O (A : Ar) : Orc := orcOf []
def g19an : Ann := [(0, ([0], [])), (1, ([0], [])), (2, ([], [])), (3, ([0], [])), (4, ([0, 4], [])), (5, ([0, 4], [])), (6, ([0, 4], [])), (7, ([4], []))]
def g19res : List ResultVar := [.tmp 2, .tmp 3]
def g19cut : List Nat := [3, 5]
noncomputable def g19N {R : Type} (A : Ar) (kk : AV → Heap → Option R) (t : List Bool → St → Option R) (p : List Bool) (s : St) : Option R := nodeN A gtys (g19O A) g19an g19cut t (bodyOf Tryd.f19) (finD gtys g19res kk) p s
def g19J5 {R : Type} (A : Ar) (n : Nat) (kk : AV → Heap → Option R) (lg19L4 : Int → List Nat → Option R) (x0 : Int) (x1 : List Nat) : Option R :=
  match A.le (([A.i2n .u8 (A.ib .add .i64 48 (A.ib .rem .i64 (A.ib .quo .i64 x0 10) 10))].take 1).length + x1.length) 9223372036854775807 with
  | true => lg19L4 (A.ib .quo .i64 x0 10) (([A.i2n .u8 (A.ib .add .i64 48 (A.ib .rem .i64 (A.ib .quo .i64 x0 10) 10))].take 1) ++ x1)
  | false => none
def g19L4 {R : Type} (A : Ar) (n : Nat) (kk : AV → Heap → Option R)  : Nat → Int → List Nat → Option R
  | 0, _, _ => none
  | m + 1, x0, x1 => match A.ic .gtr x0 9 with
  | true => g19J5 A n kk (g19L4 A n kk  m) x0 x1
  | false => kk (.tup [(.cell (.str x1)), (.cell (.bool true))]) []
def g19J3 {R : Type} (A : Ar) (n : Nat) (kk : AV → Heap → Option R)  (x0 : Int) : Option R :=
  g19L4 A n kk  n x0 ([A.i2n .u8 (A.ib .add .i64 48 (A.ib .rem .i64 x0 10))].take 1)
def g19 {R : Type} (A : Ar) (n : Nat) (kk : AV → Heap → Option R) (a : Int) : Option R :=
  match A.ic .lss a 0 with
  | true => kk (.tup [(.cell (.str [])), (.cell (.bool false))]) []
  | false => g19J3 A n kk  a
section
variable {R : Type} {A : Ar} {n : Nat} {kk : AV → Heap → Option R} {tb : Nat → List Bool → St → Option R} (st : Stp (g19N A kk) tb)
include st
end
def g19is (o : Option AV) : Bool := match o with
  | some (.tup [.cell (.str _), .cell (.bool _)]) => true
  | _ => false
def g19g0 (o : Option AV) : List Nat := match o with
  | some (.tup [.cell (.str x), .cell (.bool _)]) => x
  | _ => []
def g19g1 (o : Option AV) : Bool := match o with
  | some (.tup [.cell (.str _), .cell (.bool x)]) => x
  | _ => false
def g19v (A : Ar) (a : Int) : Option AV := g19 A (1000000000000000) (fun v _ => some v) a
def g19ok (A : Ar) (a : Int) : Bool := g19is (g19v A a)
def g19r0 (A : Ar) (a : Int) : List Nat := g19g0 (g19v A a)
def g19r1 (A : Ar) (a : Int) : Bool := g19g1 (g19v A a)
def g19o (A : Ar) (args : List AV) : Option (Bool × AV) := match args with
  | [.v (.cell (.int .i64 a))] => some (g19ok A a, .tup [.cell (.str (g19r0 A a)), .cell (.bool (g19r1 A a))])
  | _ => none
attribute [local irreducible] g19ok g19r0 g19r1
def g21O (A : Ar) : Orc := orcOf [(19, g19o A)]
def g21an : Ann := [(0, ([0], [])), (1, ([0], [])), (2, ([0, 4], [])), (3, ([0, 4, 5], [])), (4, ([0, 4, 5], [])), (5, ([0, 4, 5], [])), (6, ([], [])), (7, ([0, 4, 5], [])), (8, ([0, 4], [])), (9, ([0, 4, 6, 7], [])), (10, ([], [])), (11, ([4], []))]
def g21res : List ResultVar := [.tmp 2, .tmp 3]
def g21cut : List Nat := [5, 7, 8]
noncomputable def g21N {R : Type} (A : Ar) (kk : AV → Heap → Option R) (t : List Bool → St → Option R) (p : List Bool) (s : St) : Option R := nodeN A gtys (g21O A) g21an g21cut t (bodyOf Tryd.f21) (finD gtys g21res kk) p s
def g21J7 {R : Type} (A : Ar) (n : Nat) (kk : AV → Heap → Option R) (lg21L3 : List Nat → Int → Int → Option R) (x0 : List Nat) (x1 x2 : Int) : Option R :=
  match A.neg x2 with
  | true => none
  | false => match A.lt (A.toN x2) x0.length with
    | true => lg21L3 x0 (A.ib .add .i64 (A.ib .mul .i64 10 x1) (A.ofN (A.nb .sub .u8 (x0.getD (A.toN x2) 0) 48))) (A.ib .add .i64 x2 1)
    | false => none
def g21J5 {R : Type} (A : Ar) (n : Nat) (kk : AV → Heap → Option R) (lg21L3 : List Nat → Int → Int → Option R) (x0 : List Nat) (x1 x2 : Int) : Option R :=
  match A.neg x2 with
  | true => none
  | false => match A.lt (A.toN x2) x0.length with
    | true => match A.nc .lss (x0.getD (A.toN x2) 0) 48 with
      | true => kk (.tup [(.cell (.int .i64 0)), (.cell (.bool false))]) []
      | false => match A.neg x2 with
        | true => none
        | false => match A.lt (A.toN x2) x0.length with
          | true => match A.nc .gtr (x0.getD (A.toN x2) 0) 57 with
            | true => kk (.tup [(.cell (.int .i64 0)), (.cell (.bool false))]) []
            | false => match A.ic .gtr x1 461168601842738790 with
              | true => kk (.tup [(.cell (.int .i64 0)), (.cell (.bool false))]) []
              | false => g21J7 A n kk lg21L3 x0 x1 x2
          | false => none
    | false => none
def g21J8 {R : Type} (A : Ar) (n : Nat) (kk : AV → Heap → Option R)  (x0 : List Nat) (x1 : Int) : Option R :=
  match g19ok A x1 with
  | true => match !(g19r1 A x1) with
    | true => kk (.tup [(.cell (.int .i64 0)), (.cell (.bool false))]) []
    | false => match A.sc .neq (g19r0 A x1) x0 with
      | true => kk (.tup [(.cell (.int .i64 0)), (.cell (.bool false))]) []
      | false => match A.ic .gtr x1 4611686018427387904 with
        | true => kk (.tup [(.cell (.int .i64 0)), (.cell (.bool false))]) []
        | false => kk (.tup [(.cell (.int .i64 x1)), (.cell (.bool true))]) []
  | false => none
def g21L3 {R : Type} (A : Ar) (n : Nat) (kk : AV → Heap → Option R)  : Nat → List Nat → Int → Int → Option R
  | 0, _, _, _ => none
  | m + 1, x0, x1, x2 => match A.ic .lss x2 (A.ofN x0.length) with
  | true => g21J5 A n kk (g21L3 A n kk  m) x0 x1 x2
  | false => g21J8 A n kk  x0 x1
def g21 {R : Type} (A : Ar) (n : Nat) (kk : AV → Heap → Option R) (a : List Nat) : Option R :=
  g21L3 A n kk  n a 0 0
section
variable {R : Type} {A : Ar} {n : Nat} {kk : AV → Heap → Option R} {tb : Nat → List Bool → St → Option R} (st : Stp (g21N A kk) tb)
include st
end
def g21is (o : Option AV) : Bool := match o with
  | some (.tup [.cell (.int .i64 _), .cell (.bool _)]) => true
  | _ => false
def g21g0 (o : Option AV) : Int := match o with
  | some (.tup [.cell (.int .i64 x), .cell (.bool _)]) => x
  | _ => 0
def g21g1 (o : Option AV) : Bool := match o with
  | some (.tup [.cell (.int .i64 _), .cell (.bool x)]) => x
  | _ => false
def g21v (A : Ar) (a : List Nat) : Option AV := g21 A (1000000000000000) (fun v _ => some v) a
def g21ok (A : Ar) (a : List Nat) : Bool := g21is (g21v A a)
def g21r0 (A : Ar) (a : List Nat) : Int := g21g0 (g21v A a)
def g21r1 (A : Ar) (a : List Nat) : Bool := g21g1 (g21v A a)
attribute [local irreducible] g21ok g21r0 g21r1
end Go.Sx
namespace Go.Sx.B7
set_option linter.unusedSectionVars false
set_option linter.unusedVariables false
set_option maxRecDepth 100000
theorem qo {n : Nat} (h : n < 9223372036854775808) : realA.ib .quo .i64 (n : Int) 10 = ((n / 10 : Nat) : Int) := by
  rw [ar_quo (by omega) (by omega) (by omega)]; omega
theorem rm (n : Nat) : realA.ib .rem .i64 (n : Int) 10 = ((n % 10 : Nat) : Int) := by
  rw [ar_rem (by omega)]; omega
theorem dg_c (n : Nat) : realA.i2n .u8 (realA.ib .add .i64 48 ((n % 10 : Nat) : Int)) = 48 + n % 10 := by
  rw [ar_add (by omega), show (48 : Int) + ((n % 10 : Nat) : Int) = ((48 + n % 10 : Nat) : Int) by omega, ar_i2nN]
  omega
theorem drop_set {l : List Nat} {k x : Nat} (h : k < l.length) : (l.set k x).drop k = x :: l.drop (k + 1) := by
  rw [List.drop_eq_getElem_cons (by rw [List.length_set]; exact h), List.getElem_set_self, List.drop_set_of_lt (by omega)]
theorem num_run (N : Nat) : ∀ (m n at_ : Nat) (arr : List Nat), arr.length = 20 → (dec n).length ≤ at_ → at_ ≤ 20 → (dec n).length ≤ m → n < 9223372036854775808 →
    g18L5 realA N (fun v _ => some v) m (n : Int) (at_ : Int) arr = some (.tup [.cell (.str (dec n ++ arr.drop at_)), .cell (.bool true)]) := by
  intro m
  induction m with
  | zero =>
    intro n at_ arr _ _ _ h _
    exact absurd (List.eq_nil_of_length_eq_zero (by omega)) (dec_ne n)
  | succ m ih =>
    intro n at_ arr hl h1 h2 h3 h4
    have hpos : 0 < (dec n).length := List.length_pos_iff.2 (dec_ne n)
    obtain ⟨k, rfl⟩ : ∃ k, at_ = k + 1 := ⟨at_ - 1, by omega⟩
    have e1 : realA.ib .sub .i64 ((k + 1 : Nat) : Int) 1 = (k : Int) := by rw [ar_sub (by omega)]; omega
    have e2 : realA.lt k 20 = true := decide_eq_true (by omega)
    have e3 : realA.le k 20 = true := decide_eq_true (by omega)
    have hk : k < arr.length := by omega
    rw [g18L5]
    simp only [e1, ar_negN, ar_toNN, e2, e3, qo h4, rm, dg_c, drop_set hk]
    by_cases h : n < 10
    · have e4 : realA.ic .eql ((n / 10 : Nat) : Int) 0 = true := by rw [ar_eql]; exact decide_eq_true (by omega)
      simp only [e4]
      rw [dec_lt h, List.take_of_length_le (by simp; omega)]
      rw [show n % 10 = n by omega]
      rfl
    · have e4 : realA.ic .eql ((n / 10 : Nat) : Int) 0 = false := by rw [ar_eql]; exact decide_eq_false (by omega)
      have hlen : (dec n).length = (dec (n / 10)).length + 1 := by rw [dec_ge (by omega)]; simp
      simp only [e4]
      rw [ih (n / 10) k _ (by rw [List.length_set]; exact hl) (by omega) (by omega) (by omega) (by omega), dec_ge (n := n) (by omega), drop_set hk]
      simp
theorem dec_20 {n : Nat} (h : n < 9223372036854775808) : (dec n).length ≤ 20 := dec_len 19 n (by omega)
theorem num_v {n : Nat} (h : n < 9223372036854775808) : g18v realA (n : Int) = some (.tup [.cell (.str (dec n)), .cell (.bool true)]) := by
  have h0 : realA.ic .lss (n : Int) 0 = false := by rw [ar_lss]; exact decide_eq_false (by omega)
  have h20 := dec_20 h
  unfold g18v g18
  simp only [h0, g18J3]
  exact (num_run 10000000 10000000 n 20 _ rfl h20 (by omega) (by omega) h).trans (by simp)
theorem num_neg {a : Int} (h : a < 0) : g18v realA a = some (.tup [.cell (.str []), .cell (.bool false)]) := by
  have h0 : realA.ic .lss a 0 = true := by rw [ar_lss]; exact decide_eq_true h
  unfold g18v g18
  simp only [h0]
theorem num_ok {n : Nat} (h : n < 9223372036854775808) : g18ok realA (n : Int) = true ∧ g18r0 realA (n : Int) = dec n ∧ g18r1 realA (n : Int) = true := by
  unfold g18ok g18r0 g18r1; rw [num_v h]; exact ⟨rfl, rfl, rfl⟩
theorem num_no {a : Int} (h : a < 0) : g18ok realA a = true ∧ g18r0 realA a = [] ∧ g18r1 realA a = false := by
  unfold g18ok g18r0 g18r1; rw [num_neg h]; exact ⟨rfl, rfl, rfl⟩
attribute [local irreducible] g18ok g18r0 g18r1 g19ok g19r0 g19r1
def outT (o : Option Nat) : Option AV := match o with
  | some v => some (.tup [.cell (.int .i64 (v : Int)), .cell (.bool true)])
  | none => some (.tup [.cell (.int .i64 0), .cell (.bool false)])
theorem d32 {c : Int} (h : 0 ≤ c ∧ c ≤ 1114111) : realA.i2i .i64 (realA.ib .sub .i32 c 48) = c - 48 := by
  show IntKind.wrap .i64 (IntKind.wrap .i32 (c - 48)) = c - 48
  have h1 : IntKind.wrap .i32 (c - 48) = c - 48 := by
    unfold IntKind.wrap
    simp [IntKind.signed, IntKind.bits]
    omega
  rw [h1]
  exact wrap64 (by omega)
theorem take_run (N : Nat) {s : List Nat} (hs : ∀ x ∈ s, x < 256) : ∀ (r : List Nat) (m p n : Nat), s.drop p = r → r.length < m → n ≤ 4611686018427387904 →
    g20SL5 realA s N (fun v _ => some v) m (n : Int) p = outT (tk n r) := by
  intro r
  induction r with
  | nil =>
    intro m p n hd hm hn
    obtain ⟨m, rfl⟩ : ∃ k, m = k + 1 := ⟨m - 1, by simp only [List.length_nil] at hm; omega⟩
    have := drop_nil hd
    have e : realA.lt p s.length = false := decide_eq_false (by omega)
    rw [g20SL5, e]
    rfl
  | cons c r ih =>
    intro m p n hd hm hn
    simp only [List.length_cons] at hm
    obtain ⟨m, rfl⟩ : ∃ k, m = k + 1 := ⟨m - 1, by omega⟩
    obtain ⟨hg, hi, hd'⟩ := getD_drop hd
    have hc : c < 256 := hs c (by
      have : c ∈ s.drop p := by rw [hd]; simp
      exact List.mem_of_mem_drop this)
    rw [g20SL5, ltT hi]
    simp only [g20SJ6, ofn, tk]
    by_cases h128 : c < 128
    · obtain ⟨q1, q2⟩ := rune_ascii hs hg h128
      rw [q1, q2, d32 (by omega), ar_lss]
      by_cases h48 : c < 48
      · rw [decide_eq_true (show ((c : Int) - 48 < 0) by omega), if_pos (.inl h48)]; rfl
      · rw [decide_eq_false (show ¬ ((c : Int) - 48 < 0) by omega), ar_gtr]
        simp only
        by_cases h57 : 57 < c
        · rw [decide_eq_true (show (9 < (c : Int) - 48) by omega), if_pos (.inr (.inl h57))]; rfl
        · rw [decide_eq_false (show ¬ (9 < (c : Int) - 48) by omega)]
          simp only
          rw [ar_sub (by omega), ar_quo (by omega) (by omega) (by omega), ar_gtr]
          by_cases hq : (4611686018427387904 - (c - 48)) / 10 < n
          · rw [decide_eq_true (by omega), if_pos (.inr (.inr hq))]; rfl
          · rw [decide_eq_false (by omega), if_neg (by omega)]
            simp only [g20SJ10]
            rw [ar_mul (by omega), ar_add (by omega), show (n : Int) * 10 + ((c : Int) - 48) = ((n * 10 + (c - 48) : Nat) : Int) by omega]
            exact ih m (p + 1) _ hd' (by omega) (by omega)
    · obtain ⟨q1, q2⟩ := rune_big hs hg (by omega) hc
      rw [d32 (by omega), ar_lss, decide_eq_false (by omega), ar_gtr]
      simp only
      rw [decide_eq_true (by omega), if_pos (.inr (.inl (by omega)))]
      rfl
def Tn (s : List Nat) : Option Nat := if s = [] ∨ (1 < s.length ∧ s.getD 0 0 = 48) then none else tk 0 s
theorem take_v {s : List Nat} (hs : ∀ x ∈ s, x < 256) (hl : s.length < 140737488355328) : g20v realA s = outT (Tn s) := by
  have run := take_run 1000000000000000 hs s 1000000000000000 0 0 rfl (by omega) (by omega)
  unfold g20v g20 Tn
  rw [ar_sceq]
  by_cases h0 : s = []
  · rw [decide_eq_true h0, if_pos (.inl h0)]; rfl
  · rw [decide_eq_false h0]
    simp only [ofn]
    rw [ar_gtr]
    have h1 : 0 < s.length := List.length_pos_iff.2 h0
    by_cases hl1 : 1 < s.length
    · rw [decide_eq_true (by omega)]
      simp only
      rw [show Nat.blt 0 s.length = true from Nat.ble_eq_true_of_le h1]
      simp only [ar_neql]
      by_cases h48 : s.getD 0 0 = 48
      · rw [decide_eq_true h48, if_pos (.inr ⟨hl1, h48⟩)]; rfl
      · rw [decide_eq_false h48, if_neg (fun h => h.elim h0 fun h => h48 h.2)]
        exact run
    · rw [decide_eq_false (by omega), if_neg (fun h => h.elim h0 fun h => hl1 h.1)]
      exact run
theorem take_ok {s : List Nat} (hs : ∀ x ∈ s, x < 256) (hl : s.length < 140737488355328) : g20ok realA s = true ∧ g20r0 realA s = (match Tn s with | some v => (v : Int) | none => 0) ∧ g20r1 realA s = (Tn s).isSome := by
  unfold g20ok g20r0 g20r1; rw [take_v hs hl]
  cases Tn s <;> exact ⟨rfl, rfl, rfl⟩
end Go.Sx.B7
namespace Go.Sx
set_option linter.unusedSectionVars false
open Go.Proofs
set_option linter.unusedVariables false
set_option maxRecDepth 100000
theorem SxP07jpi {R : Type} (c : Bool) {f1 f2 : Nat → Option R} {a1 a2 : Option R} (h1 : Prs f1 a1) (h2 : Prs f2 a2) : Prs (fun k => match c with | true => f1 k | false => f2 k) (match c with | true => a1 | false => a2) := by cases c <;> assumption
attribute [local irreducible] g18ok g18r0 g18r1 g9ok g9r0 g20ok g20r0 g20r1
def g8O (A : Ar) : Orc := orcOf [(9, g9o A), (18, g18o A), (20, g20o A)]
theorem g8O_sound : OSound Tryd.prog (g8O realA) := orc_sound fun f g hm args v hv => by
  simp only [List.mem_cons, List.not_mem_nil, or_false, Prod.mk.injEq] at hm
  rcases hm with ⟨rfl, rfl⟩ | ⟨rfl, rfl⟩ | ⟨rfl, rfl⟩
  · exact g9o_sound _ _ hv
  · exact g18o_sound _ _ hv
  · exact g20o_sound _ _ hv
theorem g8O_det : ODet (g8O realA) := orc_det _
def g8an : Ann := [(0, ([0, 1], [])), (1, ([0, 1], [])), (2, ([0, 1, 5], [])), (3, ([], [])), (4, ([0, 1, 5], [])), (5, ([0, 1, 5, 6, 7], [])), (6, ([0, 1, 5, 6, 7, 8, 9], [])), (7, ([0, 1, 5, 6, 7, 8, 9, 10, 11], [])), (8, ([0, 5, 6, 7], [])), (9, ([0, 1, 5, 6, 8, 9, 10, 11], [])), (10, ([0, 1, 5, 6, 9, 10, 11, 12], []))]
def g8res : List ResultVar := [.tmp 4]
def g8cut : List Nat := [4, 9, 10]
noncomputable def g8N {R : Type} (A : Ar) (kk : AV → Heap → Option R) (t : List Bool → St → Option R) (p : List Bool) (s : St) : Option R := nodeN A gtys (g8O A) g8an g8cut t (bodyOf Tryd.f8) (finD gtys g8res kk) p s
def g8J10s (x0 x1 : Int) (x2 : Bool) (x3 : List Nat) (x4 : Bool) (x5 : Int) (x6 : Bool) : St := ⟨[(0, (i6 x0)), (1, (i6 x1)), (5, (bO x2)), (6, (tS x3)), (9, (bO x4)), (10, (i6 x5)), (11, (bO x6)), (12, (bO true))], []⟩
def g8J10 {R : Type} (A : Ar) (n : Nat) (kk : AV → Heap → Option R)  (x0 x1 : Int) (x2 : Bool) (x3 : List Nat) (x4 : Bool) (x5 : Int) (x6 : Bool) : Option R :=
  match x2 with
  | true => match x6 == (A.ic .leq x0 4611686018427387904) with
    | true => match !x6 with
      | true => match !x4 with
        | true => match A.neg (A.mn (A.ofN x3.length) 1) with
          | true => none
          | false => match A.le (A.toN (A.mn (A.ofN x3.length) 1)) x3.length with
            | true => match A.sc .neq ((x3.take (A.toN (A.mn (A.ofN x3.length) 1))).drop 0) [48] with
              | true => kk (bO true) []
              | false => kk (bO (A.ic .eql x0 0)) []
            | false => none
        | false => match true == (A.ic .lss x0 x1) with
          | true => match A.neg (A.mn (A.ofN x3.length) 1) with
            | true => none
            | false => match A.le (A.toN (A.mn (A.ofN x3.length) 1)) x3.length with
              | true => match A.sc .neq ((x3.take (A.toN (A.mn (A.ofN x3.length) 1))).drop 0) [48] with
                | true => kk (bO true) []
                | false => kk (bO (A.ic .eql x0 0)) []
              | false => none
          | false => kk (bO false) []
      | false => match A.ic .eql x5 x0 with
        | true => match !x4 with
          | true => match A.neg (A.mn (A.ofN x3.length) 1) with
            | true => none
            | false => match A.le (A.toN (A.mn (A.ofN x3.length) 1)) x3.length with
              | true => match A.sc .neq ((x3.take (A.toN (A.mn (A.ofN x3.length) 1))).drop 0) [48] with
                | true => kk (bO true) []
                | false => kk (bO (A.ic .eql x0 0)) []
              | false => none
          | false => match true == (A.ic .lss x0 x1) with
            | true => match A.neg (A.mn (A.ofN x3.length) 1) with
              | true => none
              | false => match A.le (A.toN (A.mn (A.ofN x3.length) 1)) x3.length with
                | true => match A.sc .neq ((x3.take (A.toN (A.mn (A.ofN x3.length) 1))).drop 0) [48] with
                  | true => kk (bO true) []
                  | false => kk (bO (A.ic .eql x0 0)) []
                | false => none
            | false => kk (bO false) []
        | false => kk (bO false) []
    | false => kk (bO false) []
  | false => kk (bO false) []
def g8J10as (x0 x1 : Int) (x2 : Bool) (x3 : List Nat) (x4 : Bool) (x5 : Int) (x6 x7 : Bool) : St := ⟨[(0, (i6 x0)), (1, (i6 x1)), (5, (bO x2)), (6, (tS x3)), (9, (bO x4)), (10, (i6 x5)), (11, (bO x6)), (12, (bO x7))], []⟩
def g8J10a {R : Type} (A : Ar) (n : Nat) (kk : AV → Heap → Option R)  (x0 x1 : Int) (x2 : Bool) (x3 : List Nat) (x4 : Bool) (x5 : Int) (x6 x7 : Bool) : Option R :=
  match x2 with
  | true => match x6 == (A.ic .leq x0 4611686018427387904) with
    | true => match !x6 with
      | true => match !x4 with
        | true => match A.neg (A.mn (A.ofN x3.length) 1) with
          | true => none
          | false => match A.le (A.toN (A.mn (A.ofN x3.length) 1)) x3.length with
            | true => match A.sc .neq ((x3.take (A.toN (A.mn (A.ofN x3.length) 1))).drop 0) [48] with
              | true => kk (bO true) []
              | false => kk (bO (A.ic .eql x0 0)) []
            | false => none
        | false => match x7 == (A.ic .lss x0 x1) with
          | true => match A.neg (A.mn (A.ofN x3.length) 1) with
            | true => none
            | false => match A.le (A.toN (A.mn (A.ofN x3.length) 1)) x3.length with
              | true => match A.sc .neq ((x3.take (A.toN (A.mn (A.ofN x3.length) 1))).drop 0) [48] with
                | true => kk (bO true) []
                | false => kk (bO (A.ic .eql x0 0)) []
              | false => none
          | false => kk (bO false) []
      | false => match A.ic .eql x5 x0 with
        | true => match !x4 with
          | true => match A.neg (A.mn (A.ofN x3.length) 1) with
            | true => none
            | false => match A.le (A.toN (A.mn (A.ofN x3.length) 1)) x3.length with
              | true => match A.sc .neq ((x3.take (A.toN (A.mn (A.ofN x3.length) 1))).drop 0) [48] with
                | true => kk (bO true) []
                | false => kk (bO (A.ic .eql x0 0)) []
              | false => none
          | false => match x7 == (A.ic .lss x0 x1) with
            | true => match A.neg (A.mn (A.ofN x3.length) 1) with
              | true => none
              | false => match A.le (A.toN (A.mn (A.ofN x3.length) 1)) x3.length with
                | true => match A.sc .neq ((x3.take (A.toN (A.mn (A.ofN x3.length) 1))).drop 0) [48] with
                  | true => kk (bO true) []
                  | false => kk (bO (A.ic .eql x0 0)) []
                | false => none
            | false => kk (bO false) []
        | false => kk (bO false) []
    | false => kk (bO false) []
  | false => kk (bO false) []
def g8J10bs (x0 x1 : Int) (x2 : Bool) (x3 : List Nat) (x4 : Bool) (x5 : Int) (x6 : Bool) : St := ⟨[(0, (i6 x0)), (1, (i6 x1)), (5, (bO x2)), (6, (tS x3)), (9, (bO x4)), (10, (i6 x5)), (11, (bO x6)), (12, (bO false))], []⟩
def g8J10b {R : Type} (A : Ar) (n : Nat) (kk : AV → Heap → Option R)  (x0 x1 : Int) (x2 : Bool) (x3 : List Nat) (x4 : Bool) (x5 : Int) (x6 : Bool) : Option R :=
  match x2 with
  | true => match x6 == (A.ic .leq x0 4611686018427387904) with
    | true => match !x6 with
      | true => match !x4 with
        | true => match A.neg (A.mn (A.ofN x3.length) 1) with
          | true => none
          | false => match A.le (A.toN (A.mn (A.ofN x3.length) 1)) x3.length with
            | true => match A.sc .neq ((x3.take (A.toN (A.mn (A.ofN x3.length) 1))).drop 0) [48] with
              | true => kk (bO true) []
              | false => kk (bO (A.ic .eql x0 0)) []
            | false => none
        | false => match false == (A.ic .lss x0 x1) with
          | true => match A.neg (A.mn (A.ofN x3.length) 1) with
            | true => none
            | false => match A.le (A.toN (A.mn (A.ofN x3.length) 1)) x3.length with
              | true => match A.sc .neq ((x3.take (A.toN (A.mn (A.ofN x3.length) 1))).drop 0) [48] with
                | true => kk (bO true) []
                | false => kk (bO (A.ic .eql x0 0)) []
              | false => none
          | false => kk (bO false) []
      | false => match A.ic .eql x5 x0 with
        | true => match !x4 with
          | true => match A.neg (A.mn (A.ofN x3.length) 1) with
            | true => none
            | false => match A.le (A.toN (A.mn (A.ofN x3.length) 1)) x3.length with
              | true => match A.sc .neq ((x3.take (A.toN (A.mn (A.ofN x3.length) 1))).drop 0) [48] with
                | true => kk (bO true) []
                | false => kk (bO (A.ic .eql x0 0)) []
              | false => none
          | false => match false == (A.ic .lss x0 x1) with
            | true => match A.neg (A.mn (A.ofN x3.length) 1) with
              | true => none
              | false => match A.le (A.toN (A.mn (A.ofN x3.length) 1)) x3.length with
                | true => match A.sc .neq ((x3.take (A.toN (A.mn (A.ofN x3.length) 1))).drop 0) [48] with
                  | true => kk (bO true) []
                  | false => kk (bO (A.ic .eql x0 0)) []
                | false => none
            | false => kk (bO false) []
        | false => kk (bO false) []
    | false => kk (bO false) []
  | false => kk (bO false) []
def g8J9s (x0 x1 : Int) (x2 : Bool) (x3 x4 : List Nat) (x5 : Bool) (x6 : Int) (x7 : Bool) : St := ⟨[(0, (i6 x0)), (1, (i6 x1)), (5, (bO x2)), (6, (tS x3)), (8, (tS x4)), (9, (bO x5)), (10, (i6 x6)), (11, (bO x7))], []⟩
def g8J9 {R : Type} (A : Ar) (n : Nat) (kk : AV → Heap → Option R)  (x0 x1 : Int) (x2 : Bool) (x3 x4 : List Nat) (x5 : Bool) (x6 : Int) (x7 : Bool) : Option R :=
  match A.ic .lss (A.ofN x3.length) (A.ofN x4.length) with
  | true => g8J10 A n kk  x0 x1 x2 x3 x5 x6 x7
  | false => match A.ic .eql (A.ofN x3.length) (A.ofN x4.length) with
    | true => g8J10a A n kk  x0 x1 x2 x3 x5 x6 x7 (A.sc .lss x3 x4)
    | false => g8J10b A n kk  x0 x1 x2 x3 x5 x6 x7
def g8J4s (x0 x1 : Int) (x2 : Bool) : St := ⟨[(0, (i6 x0)), (1, (i6 x1)), (5, (bO x2))], []⟩
def g8J4 {R : Type} (A : Ar) (n : Nat) (kk : AV → Heap → Option R)  (x0 x1 : Int) (x2 : Bool) : Option R :=
  match g18ok A x0 with
  | true => match g18ok A x1 with
    | true => match g20ok A (g18r0 A x0) with
      | true => match !((g18r1 A x0) == (A.ic .geq x0 0)) with
        | true => match x2 with
          | true => match !(g18r1 A x0) with
            | true => match A.sc .eql (g18r0 A x0) [] with
              | true => kk (bO (A.ic .lss x0 0)) []
              | false => kk (bO false) []
            | false => kk (bO false) []
          | false => kk (bO false) []
        | false => match !(g18r1 A x0) with
          | true => match x2 with
            | true => match !(g18r1 A x0) with
              | true => match A.sc .eql (g18r0 A x0) [] with
                | true => kk (bO (A.ic .lss x0 0)) []
                | false => kk (bO false) []
              | false => kk (bO false) []
            | false => kk (bO false) []
          | false => g8J9 A n kk  x0 x1 x2 (g18r0 A x0) (g18r0 A x1) (g18r1 A x1) (g20r0 A (g18r0 A x0)) (g20r1 A (g18r0 A x0))
      | false => none
    | false => none
  | false => none
def g8 {R : Type} (A : Ar) (n : Nat) (kk : AV → Heap → Option R) (a b : Int) : Option R :=
  match g9ok A with
  | true => match !(g9r0 A) with
    | true => kk (bO false) []
    | false => g8J4 A n kk  a b (g9r0 A)
  | false => none
section
variable {R : Type} {A : Ar} {n : Nat} {kk : AV → Heap → Option R} {tb : Nat → List Bool → St → Option R} (st : Stp (g8N A kk) tb)
include st
theorem g8J10_go {x0 : Int} {x1 : Int} {x2 : Bool} {x3 : List Nat} {x4 : Bool} {x5 : Int} {x6 : Bool} : Prs (fun k => tb k (pth 511) (g8J10s x0 x1 x2 x3 x4 x5 x6)) (g8J10 A n kk x0 x1 x2 x3 x4 x5 x6) := by
  unfold g8J10
  exact st.g (pc (SxP07jpi _ (SxP07jpi _ (SxP07jpi _ (SxP07jpi _ (SxP07jpi _ pn (SxP07jpi _ (SxP07jpi _ (pf _) (pf _)) pn)) (SxP07jpi _ (SxP07jpi _ pn (SxP07jpi _ (SxP07jpi _ (pf _) (pf _)) pn)) (pf _))) (SxP07jpi _ (SxP07jpi _ (SxP07jpi _ pn (SxP07jpi _ (SxP07jpi _ (pf _) (pf _)) pn)) (SxP07jpi _ (SxP07jpi _ pn (SxP07jpi _ (SxP07jpi _ (pf _) (pf _)) pn)) (pf _))) (pf _))) (pf _)) (pf _)) (by kernel_rfl))
theorem g8J10a_go {x0 : Int} {x1 : Int} {x2 : Bool} {x3 : List Nat} {x4 : Bool} {x5 : Int} {x6 : Bool} {x7 : Bool} : Prs (fun k => tb k (pth 511) (g8J10as x0 x1 x2 x3 x4 x5 x6 x7)) (g8J10a A n kk x0 x1 x2 x3 x4 x5 x6 x7) := by
  unfold g8J10a
  exact st.g (pc (SxP07jpi _ (SxP07jpi _ (SxP07jpi _ (SxP07jpi _ (SxP07jpi _ pn (SxP07jpi _ (SxP07jpi _ (pf _) (pf _)) pn)) (SxP07jpi _ (SxP07jpi _ pn (SxP07jpi _ (SxP07jpi _ (pf _) (pf _)) pn)) (pf _))) (SxP07jpi _ (SxP07jpi _ (SxP07jpi _ pn (SxP07jpi _ (SxP07jpi _ (pf _) (pf _)) pn)) (SxP07jpi _ (SxP07jpi _ pn (SxP07jpi _ (SxP07jpi _ (pf _) (pf _)) pn)) (pf _))) (pf _))) (pf _)) (pf _)) (by kernel_rfl))
theorem g8J10b_go {x0 : Int} {x1 : Int} {x2 : Bool} {x3 : List Nat} {x4 : Bool} {x5 : Int} {x6 : Bool} : Prs (fun k => tb k (pth 511) (g8J10bs x0 x1 x2 x3 x4 x5 x6)) (g8J10b A n kk x0 x1 x2 x3 x4 x5 x6) := by
  unfold g8J10b
  exact st.g (pc (SxP07jpi _ (SxP07jpi _ (SxP07jpi _ (SxP07jpi _ (SxP07jpi _ pn (SxP07jpi _ (SxP07jpi _ (pf _) (pf _)) pn)) (SxP07jpi _ (SxP07jpi _ pn (SxP07jpi _ (SxP07jpi _ (pf _) (pf _)) pn)) (pf _))) (SxP07jpi _ (SxP07jpi _ (SxP07jpi _ pn (SxP07jpi _ (SxP07jpi _ (pf _) (pf _)) pn)) (SxP07jpi _ (SxP07jpi _ pn (SxP07jpi _ (SxP07jpi _ (pf _) (pf _)) pn)) (pf _))) (pf _))) (pf _)) (pf _)) (by kernel_rfl))
theorem g8J9_go {x0 : Int} {x1 : Int} {x2 : Bool} {x3 : List Nat} {x4 : List Nat} {x5 : Bool} {x6 : Int} {x7 : Bool} : Prs (fun k => tb k (pth 255) (g8J9s x0 x1 x2 x3 x4 x5 x6 x7)) (g8J9 A n kk x0 x1 x2 x3 x4 x5 x6 x7) := by
  unfold g8J9
  exact st.g (pc (SxP07jpi _ (g8J10_go st) (SxP07jpi _ (g8J10a_go st) (g8J10b_go st))) (by kernel_rfl))
theorem g8J4_go {x0 : Int} {x1 : Int} {x2 : Bool} : Prs (fun k => tb k (pth 15) (g8J4s x0 x1 x2)) (g8J4 A n kk x0 x1 x2) := by
  unfold g8J4
  exact st.g (pc (SxP07jpi _ (SxP07jpi _ (SxP07jpi _ (SxP07jpi _ (SxP07jpi _ (SxP07jpi _ (SxP07jpi _ (pf _) (pf _)) (pf _)) (pf _)) (SxP07jpi _ (SxP07jpi _ (SxP07jpi _ (SxP07jpi _ (pf _) (pf _)) (pf _)) (pf _)) (g8J9_go st))) pn) pn) pn) (by kernel_rfl))
theorem g8_go {a : Int} {b : Int} : Prs (fun k => funN A gtys (g8O A) g8an g8cut (bodyOf Tryd.f8) g8res [(i6 a), (i6 b)] [] kk (tb k)) (g8 A n kk a b) := by
  unfold g8
  exact pc (SxP07jpi _ (SxP07jpi _ (pf _) (g8J4_go st)) pn) (by kernel_rfl)
end
def g8is (o : Option AV) : Bool := match o with
  | some (.v (.cell (.bool _))) => true
  | _ => false
def g8g0 (o : Option AV) : Bool := match o with
  | some (.v (.cell (.bool x))) => x
  | _ => false
theorem g8is_spec {o : Option AV} (h : g8is o = true) : o = some (.v (.cell (.bool (g8g0 o)))) := by
  unfold g8is at h
  split at h
  · rfl
  · cases h
def g8v (A : Ar) (a b : Int) : Option AV := g8 A (10000000) (fun v _ => some v) a b
def g8ok (A : Ar) (a b : Int) : Bool := g8is (g8v A a b)
def g8r0 (A : Ar) (a b : Int) : Bool := g8g0 (g8v A a b)
theorem g8ok_spec {A : Ar} {a b} (h : g8ok A a b = true) : g8v A a b = some (.v (.cell (.bool (g8r0 A a b)))) := g8is_spec h
def g8o (A : Ar) (args : List AV) : Option (Bool × AV) := match args with
  | [.v (.cell (.int .i64 a)), .v (.cell (.int .i64 b))] => some (g8ok A a b, .v (.cell (.bool (g8r0 A a b))))
  | _ => none
theorem g8o_sound : ∀ args v, g8o realA args = some (true, v) → Fn1 Tryd.prog 8 args v := by
  intro args v h
  unfold g8o at h
  split at h
  · rename_i a b
    simp only [Option.some.injEq, Prod.mk.injEq] at h
    obtain ⟨hc, h⟩ := h
    subst h
    · skip
      exact fn1_ofG mixed gtysOK g8O_sound g8O_det (an := g8an) (cut := g8cut) Tryd.func8 (c := bodyOf Tryd.f8) rfl (by kernel_rfl) Tryd.call8 (Nat.le_of_ble_eq_true rfl) (fun b => rfl) (fun _ => (show g8v realA a b = _ from g8ok_spec hc)) fun _ st => g8_go st
  · cases h
attribute [local irreducible] g8ok g8r0
end Go.Sx
namespace Go.Sx.B7
set_option linter.unusedSectionVars false
set_option linter.unusedVariables false
set_option maxRecDepth 100000
attribute [local irreducible] g9ok g9r0 g18ok g18r0 g18r1 g20ok g20r0 g20r1
def vl (s : List Nat) : Nat := s.foldl (fun n c => n * 10 + (c - 48)) 0
theorem vl_dec : ∀ n, vl (dec n) = n := by
  intro n
  induction n using Nat.strongRecOn with
  | _ n ih =>
    by_cases h : n < 10
    · rw [dec_lt h]; simp [vl]
    · have := ih (n / 10) (by omega)
      unfold vl at this
      rw [dec_ge (by omega)]
      unfold vl
      rw [List.foldl_append, this]
      simp
      omega
theorem dec_inj {n m : Nat} (h : dec n = dec m) : n = m := by rw [← vl_dec n, h, vl_dec]
theorem slt_app : ∀ (a b : List Nat) (c d : Nat), a.length = b.length → slt (a ++ [c]) (b ++ [d]) = (slt a b || (decide (a = b) && decide (c < d)))
  | [], [], c, d, _ => by simp [slt]
  | x :: a, y :: b, c, d, h => by
    have ih := slt_app a b c d (by simpa using h)
    simp only [List.cons_append, slt, ih]
    by_cases hxy : x = y
    · subst hxy
      simp
    · have e : (x == y) = false := by simpa using hxy
      simp [e, hxy]
  | [], y :: b, c, d, h => by simp at h
  | x :: a, [], c, d, h => by simp at h
def less (a b : List Nat) : Prop := a.length < b.length ∨ (a.length = b.length ∧ slt a b = true)
theorem less_iff : ∀ n m : Nat, less (dec n) (dec m) ↔ n < m := by
  intro n
  induction n using Nat.strongRecOn with
  | _ n ih =>
    intro m
    by_cases hn : n < 10
    · by_cases hm : m < 10
      · rw [dec_lt hn, dec_lt hm]
        simp [less, slt]
      · rw [dec_lt hn, dec_ge (n := m) (by omega)]
        have := List.length_pos_iff.2 (dec_ne (m / 10))
        simp only [less, List.length_append, List.length_cons, List.length_nil]
        constructor
        · intro _; omega
        · intro _; exact .inl (by omega)
    · by_cases hm : m < 10
      · rw [dec_ge (n := n) (by omega), dec_lt hm]
        have := List.length_pos_iff.2 (dec_ne (n / 10))
        simp only [less, List.length_append, List.length_cons, List.length_nil]
        constructor
        · rintro (h | ⟨h, _⟩) <;> omega
        · intro h; omega
      · have h := ih (n / 10) (by omega) (m / 10)
        rw [dec_ge (n := n) (by omega), dec_ge (n := m) (by omega)]
        unfold less at h ⊢
        simp only [List.length_append, List.length_cons, List.length_nil]
        constructor
        · rintro (h1 | ⟨h1, h2⟩)
          · have := h.1 (.inl (by omega)); omega
          · rw [slt_app _ _ _ _ (by omega)] at h2
            simp only [Bool.or_eq_true, Bool.and_eq_true, decide_eq_true_eq] at h2
            rcases h2 with h2 | ⟨h2, h3⟩
            · have := h.1 (.inr ⟨by omega, h2⟩); omega
            · have := dec_inj h2; omega
        · intro hlt
          by_cases h3 : n / 10 < m / 10
          · rcases h.2 h3 with h4 | ⟨h4, h5⟩
            · exact .inl (by omega)
            · refine .inr ⟨by omega, ?_⟩
              rw [slt_app _ _ _ _ h4, h5]; rfl
          · have h6 : n / 10 = m / 10 := by omega
            refine .inr ⟨by rw [h6], ?_⟩
            rw [h6, slt_app _ _ _ _ rfl]
            simp
            exact .inr (by omega)
theorem Tn_dec (n : Nat) : Tn (dec n) = if n ≤ 4611686018427387904 then some n else none := by
  unfold Tn
  rw [if_neg, tk_of_dec]
  rintro (h | ⟨h1, h2⟩)
  · exact dec_ne n h
  · by_cases hn : 1 ≤ n
    · exact dec_head n hn h2
    · obtain rfl : n = 0 := by omega
      rw [dec_lt (by decide)] at h1
      simp at h1
section
variable {N : Nat} {n : Nat} {b : Int}
theorem tail_v (h : n < 9223372036854775808) : (match realA.neg (realA.mn (realA.ofN (dec n).length) 1) with
    | true => none
    | false => match realA.le (realA.toN (realA.mn (realA.ofN (dec n).length) 1)) (dec n).length with
      | true => match realA.sc .neq (((dec n).take (realA.toN (realA.mn (realA.ofN (dec n).length) 1))).drop 0) [48] with
        | true => some (bO true)
        | false => some (bO (realA.ic .eql (n : Int) 0))
      | false => none) = some (bO true) := by
  have hp := List.length_pos_iff.2 (dec_ne n)
  have e1 : realA.mn (realA.ofN (dec n).length) 1 = ((1 : Nat) : Int) := by rw [ar_ofN, ar_mn]; omega
  have e2 : realA.le 1 (dec n).length = true := decide_eq_true (by omega)
  simp only [e1, ar_negN, ar_toNN, e2, List.drop_zero, ar_scne, ar_eql]
  by_cases h48 : (dec n).take 1 = [48]
  · rw [decide_eq_true h48]
    have hn : n = 0 := by
      apply Nat.eq_zero_of_not_pos
      intro hn
      have := dec_head n hn
      revert this h48
      cases dec n with
      | nil => intro h _; simp at h
      | cons x r => intro h1 h2; simp at h1; simp [h1] at h2
    subst hn
    rfl
  · rw [decide_eq_false h48]
    rfl
theorem J10_v (h : n < 9223372036854775808) {x4 : Bool} {x6 : Bool} {x5 : Int} (h6 : x6 = decide (n ≤ 4611686018427387904)) (h5 : x6 = true → x5 = n) (h4 : x4 = true → (true == realA.ic .lss (n : Int) b) = true) : g8J10 realA N (fun v _ => some v) (n : Int) b true (dec n) x4 x5 x6 = some (bO true) := by
  have e1 : (x6 == realA.ic .leq (n : Int) 4611686018427387904) = true := by
    rw [h6, ar_leq, show decide ((n : Int) ≤ 4611686018427387904) = decide (n ≤ 4611686018427387904) from decide_eq_decide.2 (by omega)]
    exact beq_self_eq_true _
  have tl := tail_v (n := n) h
  unfold g8J10
  rw [e1]
  cases x4 with
  | true =>
    have e4 := h4 rfl
    cases x6 with
    | true =>
      have e5 : realA.ic .eql x5 (n : Int) = true := by rw [ar_eql, h5 rfl]; exact decide_eq_true rfl
      simp only [Bool.not_true, e4, e5]
      exact tl
    | false => simp only [Bool.not_true, Bool.not_false, e4]; exact tl
  | false =>
    cases x6 with
    | true =>
      have e5 : realA.ic .eql x5 (n : Int) = true := by rw [ar_eql, h5 rfl]; exact decide_eq_true rfl
      simp only [Bool.not_true, Bool.not_false, e5]
      exact tl
    | false => simp only [Bool.not_false]; exact tl
theorem J10a_v (h : n < 9223372036854775808) {x4 : Bool} {x6 x7 : Bool} {x5 : Int} (h6 : x6 = decide (n ≤ 4611686018427387904)) (h5 : x6 = true → x5 = n) (h4 : x4 = true → (x7 == realA.ic .lss (n : Int) b) = true) : g8J10a realA N (fun v _ => some v) (n : Int) b true (dec n) x4 x5 x6 x7 = some (bO true) := by
  have e1 : (x6 == realA.ic .leq (n : Int) 4611686018427387904) = true := by
    rw [h6, ar_leq, show decide ((n : Int) ≤ 4611686018427387904) = decide (n ≤ 4611686018427387904) from decide_eq_decide.2 (by omega)]
    exact beq_self_eq_true _
  have tl := tail_v (n := n) h
  unfold g8J10a
  rw [e1]
  cases x4 with
  | true =>
    have e4 := h4 rfl
    cases x6 with
    | true =>
      have e5 : realA.ic .eql x5 (n : Int) = true := by rw [ar_eql, h5 rfl]; exact decide_eq_true rfl
      simp only [Bool.not_true, e4, e5]
      exact tl
    | false => simp only [Bool.not_true, Bool.not_false, e4]; exact tl
  | false =>
    cases x6 with
    | true =>
      have e5 : realA.ic .eql x5 (n : Int) = true := by rw [ar_eql, h5 rfl]; exact decide_eq_true rfl
      simp only [Bool.not_true, Bool.not_false, e5]
      exact tl
    | false => simp only [Bool.not_false]; exact tl
theorem J10b_v (h : n < 9223372036854775808) {x4 : Bool} {x6 : Bool} {x5 : Int} (h6 : x6 = decide (n ≤ 4611686018427387904)) (h5 : x6 = true → x5 = n) (h4 : x4 = true → (false == realA.ic .lss (n : Int) b) = true) : g8J10b realA N (fun v _ => some v) (n : Int) b true (dec n) x4 x5 x6 = some (bO true) := by
  have e1 : (x6 == realA.ic .leq (n : Int) 4611686018427387904) = true := by
    rw [h6, ar_leq, show decide ((n : Int) ≤ 4611686018427387904) = decide (n ≤ 4611686018427387904) from decide_eq_decide.2 (by omega)]
    exact beq_self_eq_true _
  have tl := tail_v (n := n) h
  unfold g8J10b
  rw [e1]
  cases x4 with
  | true =>
    have e4 := h4 rfl
    cases x6 with
    | true =>
      have e5 : realA.ic .eql x5 (n : Int) = true := by rw [ar_eql, h5 rfl]; exact decide_eq_true rfl
      simp only [Bool.not_true, e4, e5]
      exact tl
    | false => simp only [Bool.not_true, Bool.not_false, e4]; exact tl
  | false =>
    cases x6 with
    | true =>
      have e5 : realA.ic .eql x5 (n : Int) = true := by rw [ar_eql, h5 rfl]; exact decide_eq_true rfl
      simp only [Bool.not_true, Bool.not_false, e5]
      exact tl
    | false => simp only [Bool.not_false]; exact tl
end
theorem g8_v (a b : Int) (ha : (Lit.int .i64 a).wf = true) (hb : (Lit.int .i64 b).wf = true) : g8v realA a b = some (.v (.cell (.bool true))) := by
  have ha2 := wf64 ha
  have hb2 := wf64 hb
  by_cases hn : a < 0
  · obtain ⟨e1, e2, e3⟩ := num_no hn
    have okb : g18ok realA b = true := by
      by_cases hbn : b < 0
      · exact (num_no hbn).1
      · obtain ⟨m, rfl⟩ : ∃ m : Nat, b = (m : Int) := ⟨b.toNat, by omega⟩
        exact (num_ok (n := m) (by omega)).1
    obtain ⟨q1, _, _⟩ := take_ok (s := []) (by simp) (by simp)
    have e4 : realA.ic .geq a 0 = false := by rw [ar_geq]; exact decide_eq_false (by omega)
    have e5 : realA.ic .lss a 0 = true := by rw [ar_lss]; exact decide_eq_true hn
    have e6 : realA.sc .eql [] [] = true := by rw [ar_sceq]; exact decide_eq_true rfl
    unfold g8v g8
    simp only [ex_ok, ex_is, Bool.not_true, g8J4, e1, e2, e3, okb, q1, e4, beq_self_eq_true, Bool.not_false, e6, e5]
  · obtain ⟨n, rfl⟩ : ∃ n : Nat, a = (n : Int) := ⟨a.toNat, by omega⟩
    have hn64 : n < 9223372036854775808 := by omega
    obtain ⟨e1, e2, e3⟩ := num_ok hn64
    have h20 := dec_20 hn64
    obtain ⟨q1, q2, q3⟩ := take_ok (s := dec n) (fun c hc => by have := dec_digit n c hc; omega) (by omega)
    rw [Tn_dec] at q2 q3
    have e4 : realA.ic .geq (n : Int) 0 = true := by rw [ar_geq]; exact decide_eq_true (by omega)
    have h6 : g20r1 realA (dec n) = decide (n ≤ 4611686018427387904) := by rw [q3]; by_cases h : n ≤ 4611686018427387904 <;> simp [h]
    have h5 : g20r1 realA (dec n) = true → g20r0 realA (dec n) = (n : Int) := by
      intro h
      rw [h6] at h
      rw [q2, if_pos (of_decide_eq_true h)]
    have hp := List.length_pos_iff.2 (dec_ne n)
    unfold g8v g8
    by_cases hbn : b < 0
    · obtain ⟨f1, f2, f3⟩ := num_no hbn
      have l1 : realA.ic .lss ((dec n).length : Int) (([] : List Nat).length : Int) = false := by rw [ar_lss]; exact decide_eq_false (by simp only [List.length_nil]; omega)
      have l2 : realA.ic .eql ((dec n).length : Int) (([] : List Nat).length : Int) = false := by rw [ar_eql]; exact decide_eq_false (by simp only [List.length_nil]; omega)
      simp only [ex_ok, ex_is, Bool.not_true, g8J4, e1, e2, e3, f1, f2, f3, q1, e4, beq_self_eq_true, g8J9, ofn, l1, l2]
      exact J10b_v hn64 h6 h5 (fun h => by cases h)
    · obtain ⟨m, rfl⟩ : ∃ m : Nat, b = (m : Int) := ⟨b.toNat, by omega⟩
      obtain ⟨f1, f2, f3⟩ := num_ok (n := m) (by omega)
      have hless := less_iff n m
      have lt : realA.ic .lss (n : Int) (m : Int) = decide (n < m) := by rw [ar_lss]; exact decide_eq_decide.2 (by omega)
      simp only [ex_ok, ex_is, Bool.not_true, g8J4, e1, e2, e3, f1, f2, f3, q1, e4, beq_self_eq_true, g8J9, ofn]
      rw [ar_lss, ar_eql]
      by_cases hl1 : (dec n).length < (dec m).length
      · rw [decide_eq_true (by omega)]
        exact J10_v hn64 h6 h5 (fun _ => by rw [lt, decide_eq_true (hless.1 (.inl hl1))]; rfl)
      · rw [decide_eq_false (by omega)]
        simp only
        by_cases hl2 : (dec n).length = (dec m).length
        · rw [decide_eq_true (by omega)]
          refine J10a_v hn64 h6 h5 (fun _ => ?_)
          have : realA.sc .lss (dec n) (dec m) = decide (n < m) := by
            show slt (dec n) (dec m) = _
            by_cases hlt : n < m
            · rw [decide_eq_true hlt]
              rcases hless.2 hlt with h | h
              · exact absurd h hl1
              · exact h.2
            · rw [decide_eq_false hlt]
              cases hs : slt (dec n) (dec m) with
              | false => rfl
              | true => exact absurd (hless.1 (.inr ⟨hl2, hs⟩)) hlt
          rw [this, lt]
          exact beq_self_eq_true _
        · rw [decide_eq_false (by omega)]
          refine J10b_v hn64 h6 h5 (fun _ => ?_)
          rw [lt, decide_eq_false (fun h => by rcases hless.2 h with q | q; exact hl1 q; exact hl2 q.1)]
          rfl
theorem law8 (a b : Int) (ha : (Lit.int .i64 a).wf = true) (hb : (Lit.int .i64 b).wf = true) : g8ok realA a b = true ∧ g8r0 realA a b = true := by
  unfold g8ok g8r0
  rw [g8_v a b ha hb]
  exact ⟨rfl, rfl⟩
end Go.Sx.B7
