/- printed by sxgen -/
import Derived.Test.YtcgjapkajaflpaaSxP04a
namespace Go.Sx
open Go.Proofs
set_option linter.unusedVariables false
/- (engrosser/scalar.number).push -/
def g22an : Ann := [(0, ([0, 1], [])), (1, ([1, 2, 4], [1000, 1001])), (2, ([1, 2, 4, 5], [1000, 1001])), (3, ([1, 2, 4, 5], [1000, 1001])), (4, ([1, 2, 4, 5], [1000, 1001])), (5, ([1, 2, 4], [1000, 1001])), (6, ([2, 4], [1000, 1001])), (7, ([2, 4, 6], [1000, 1001])), (8, ([2, 4, 6, 7], [1000, 1001, 8001])), (9, ([2, 4, 6, 7], [1000, 1001, 8001])), (10, ([2, 4, 6, 7], [1000, 1001, 8001])), (11, ([2, 4, 7], [1000, 1001, 8001])), (12, ([2, 4, 7], [1000, 1001, 8001])), (13, ([2, 4], [1000, 1001]))]
def g22res : List ResultVar := [.cell 4 38]
noncomputable def g22D {R : Type} (A : Ar) (n : Nat) (p : List Bool) (K : Ex → St → Option R) (s : St) : Option R := codeD A gtys (orcOf [(27, g27o), (28, g28o), (29, g29o)]) g22an n (sub (bodyOf Try.f22) p) K s
noncomputable def g22V {R : Type} (A : Ar) (n : Nat) (p : List Bool) (m : Nat) (K : Ex → St → Option R) (s : St) : Option R := loopD (fun K' s'' => codeD A gtys (orcOf [(27, g27o), (28, g28o), (29, g29o)]) g22an n (sub (bodyOf Try.f22) p) K' s'') m K s
noncomputable def g22Q {R : Type} (A : Ar) (n : Nat) (p : List Bool) (K : Ex → St → Option R) : Ex → St → Option R := seqC (g22D A n p K) K
noncomputable def g22W {R : Type} (A : Ar) (n : Nat) (p : List Bool) (m : Nat) (K : Ex → St → Option R) : Ex → St → Option R := seqC (g22V A n p m K) K
noncomputable def g22T {R : Type} (kk : AV → Heap → Option R) : Ex → St → Option R := finD gtys g22res kk
theorem g22Qn {R : Type} (A : Ar) (n : Nat) (p : List Bool) (K : Ex → St → Option R) (s : St) : g22Q A n p K .normal s = g22D A n p K s := rfl
theorem g22Qe {R : Type} (A : Ar) (n : Nat) (p : List Bool) (K : Ex → St → Option R) (i : Nat) (s : St) : g22Q A n p K (.exit i) s = K (.exit i) s := rfl
theorem g22Qr {R : Type} (A : Ar) (n : Nat) (p : List Bool) (K : Ex → St → Option R) (s : St) : g22Q A n p K .ret s = K .ret s := rfl
theorem g22Wn {R : Type} (A : Ar) (n : Nat) (p : List Bool) (m : Nat) (K : Ex → St → Option R) (s : St) : g22W A n p m K .normal s = g22V A n p m K s := rfl
theorem g22We {R : Type} (A : Ar) (n : Nat) (p : List Bool) (m : Nat) (K : Ex → St → Option R) (i : Nat) (s : St) : g22W A n p m K (.exit i) s = K (.exit i) s := rfl
theorem g22Wr {R : Type} (A : Ar) (n : Nat) (p : List Bool) (m : Nat) (K : Ex → St → Option R) (s : St) : g22W A n p m K .ret s = K .ret s := rfl
theorem g22Vs {R : Type} (A : Ar) (n : Nat) (p : List Bool) (m : Nat) (K : Ex → St → Option R) (s : St) : g22V A n p (m + 1) K s = g22D A n p (g22W A n p m K) s := rfl
theorem g22p {R : Type} (A : Ar) (n : Nat) (K : Ex → St → Option R) (s : St) : g22D A n [] K s = g22D A n [false] (g22Q A n [true] K) s := by kernel_rfl
theorem g22p0 {R : Type} (A : Ar) (n : Nat) (K : Ex → St → Option R) (s s' : St) (h : keep g22an 0 s = keep g22an 0 s') : g22D A n [false] K s = g22D A n [false] K s' := codeD_first (id := 0) (by kernel_rfl) h K
theorem g22p1 {R : Type} (A : Ar) (n : Nat) (K : Ex → St → Option R) (s : St) : g22D A n [true] K s = g22D A n [true, false] (g22Q A n [true, true] K) s := by kernel_rfl
theorem g22p10 {R : Type} (A : Ar) (n : Nat) (K : Ex → St → Option R) (s : St) : g22D A n [true, false] K s = g22D A n [true, false, false] (g22Q A n [true, false, true] K) s := by kernel_rfl
theorem g22p100 {R : Type} (A : Ar) (n : Nat) (K : Ex → St → Option R) (s s' : St) (h : keep g22an 1 s = keep g22an 1 s') : g22D A n [true, false, false] K s = g22D A n [true, false, false] K s' := codeD_first (id := 1) (by kernel_rfl) h K
theorem g22p101 {R : Type} (A : Ar) (n : Nat) (K : Ex → St → Option R) (s : St) : g22D A n [true, false, true] K s = g22D A n [true, false, true, false] (blockK 0 K) s := by kernel_rfl
theorem g22p1010 {R : Type} (A : Ar) (n : Nat) (K : Ex → St → Option R) (s : St) : g22D A n [true, false, true, false] K s = g22V A n [true, false, true, false, false] n K s := by kernel_rfl
theorem g22p10100 {R : Type} (A : Ar) (n : Nat) (K : Ex → St → Option R) (s : St) : g22D A n [true, false, true, false, false] K s = g22D A n [true, false, true, false, false, false] (g22Q A n [true, false, true, false, false, true] K) s := by kernel_rfl
theorem g22p101000 {R : Type} (A : Ar) (n : Nat) (K : Ex → St → Option R) (s : St) : g22D A n [true, false, true, false, false, false] K s = g22D A n [true, false, true, false, false, false, false] (g22Q A n [true, false, true, false, false, false, true] K) s := by kernel_rfl
theorem g22p1010000 {R : Type} (A : Ar) (n : Nat) (K : Ex → St → Option R) (s s' : St) (h : keep g22an 2 s = keep g22an 2 s') : g22D A n [true, false, true, false, false, false, false] K s = g22D A n [true, false, true, false, false, false, false] K s' := codeD_first (id := 2) (by kernel_rfl) h K
theorem g22p1010001 {R : Type} (A : Ar) (n : Nat) (K : Ex → St → Option R) (s : St) (t : Bool) : ev s (.tmp 9) = some (.v (.cell (.bool t))) → g22D A n [true, false, true, false, false, false, true] K s = (match t with
    | true => g22D A n [true, false, true, false, false, false, true, false] K s
    | false => g22D A n [true, false, true, false, false, false, true, true] K s) := codeD_cond t
theorem g22p10100010 {R : Type} (A : Ar) (n : Nat) (K : Ex → St → Option R) (s : St) : g22D A n [true, false, true, false, false, false, true, false] K s = K .normal s := by kernel_rfl
theorem g22p10100011 {R : Type} (A : Ar) (n : Nat) (K : Ex → St → Option R) (s : St) : g22D A n [true, false, true, false, false, false, true, true] K s = K (.exit 0) s := by kernel_rfl
theorem g22p101001 {R : Type} (A : Ar) (n : Nat) (K : Ex → St → Option R) (s : St) : g22D A n [true, false, true, false, false, true] K s = g22D A n [true, false, true, false, false, true, false] (g22Q A n [true, false, true, false, false, true, true] K) s := by kernel_rfl
theorem g22p1010010 {R : Type} (A : Ar) (n : Nat) (K : Ex → St → Option R) (s : St) : g22D A n [true, false, true, false, false, true, false] K s = g22D A n [true, false, true, false, false, true, false, false] (blockK 1 K) s := by kernel_rfl
theorem g22p10100100 {R : Type} (A : Ar) (n : Nat) (K : Ex → St → Option R) (s s' : St) (h : keep g22an 4 s = keep g22an 4 s') : g22D A n [true, false, true, false, false, true, false, false] K s = g22D A n [true, false, true, false, false, true, false, false] K s' := codeD_first (id := 4) (by kernel_rfl) h K
theorem g22p1010011 {R : Type} (A : Ar) (n : Nat) (K : Ex → St → Option R) (s s' : St) (h : keep g22an 3 s = keep g22an 3 s') : g22D A n [true, false, true, false, false, true, true] K s = g22D A n [true, false, true, false, false, true, true] K s' := codeD_first (id := 3) (by kernel_rfl) h K
theorem g22p11 {R : Type} (A : Ar) (n : Nat) (K : Ex → St → Option R) (s : St) : g22D A n [true, true] K s = g22D A n [true, true, false] (g22Q A n [true, true, true] K) s := by kernel_rfl
theorem g22p110 {R : Type} (A : Ar) (n : Nat) (K : Ex → St → Option R) (s s' : St) (h : keep g22an 5 s = keep g22an 5 s') : g22D A n [true, true, false] K s = g22D A n [true, true, false] K s' := codeD_first (id := 5) (by kernel_rfl) h K
theorem g22p111 {R : Type} (A : Ar) (n : Nat) (K : Ex → St → Option R) (s : St) : g22D A n [true, true, true] K s = g22D A n [true, true, true, false] (g22Q A n [true, true, true, true] K) s := by kernel_rfl
theorem g22p1110 {R : Type} (A : Ar) (n : Nat) (K : Ex → St → Option R) (s s' : St) (h : keep g22an 6 s = keep g22an 6 s') : g22D A n [true, true, true, false] K s = g22D A n [true, true, true, false] K s' := codeD_first (id := 6) (by kernel_rfl) h K
theorem g22p1111 {R : Type} (A : Ar) (n : Nat) (K : Ex → St → Option R) (s : St) : g22D A n [true, true, true, true] K s = g22D A n [true, true, true, true, false] (g22Q A n [true, true, true, true, true] K) s := by kernel_rfl
theorem g22p11110 {R : Type} (A : Ar) (n : Nat) (K : Ex → St → Option R) (s s' : St) (h : keep g22an 7 s = keep g22an 7 s') : g22D A n [true, true, true, true, false] K s = g22D A n [true, true, true, true, false] K s' := codeD_first (id := 7) (by kernel_rfl) h K
theorem g22p11111 {R : Type} (A : Ar) (n : Nat) (K : Ex → St → Option R) (s : St) : g22D A n [true, true, true, true, true] K s = g22D A n [true, true, true, true, true, false] (g22Q A n [true, true, true, true, true, true] K) s := by kernel_rfl
theorem g22p111110 {R : Type} (A : Ar) (n : Nat) (K : Ex → St → Option R) (s : St) : g22D A n [true, true, true, true, true, false] K s = g22D A n [true, true, true, true, true, false, false] (g22Q A n [true, true, true, true, true, false, true] K) s := by kernel_rfl
theorem g22p1111100 {R : Type} (A : Ar) (n : Nat) (K : Ex → St → Option R) (s s' : St) (h : keep g22an 8 s = keep g22an 8 s') : g22D A n [true, true, true, true, true, false, false] K s = g22D A n [true, true, true, true, true, false, false] K s' := codeD_first (id := 8) (by kernel_rfl) h K
theorem g22p1111101 {R : Type} (A : Ar) (n : Nat) (K : Ex → St → Option R) (s : St) (t : Bool) : ev s (.tmp 40) = some (.v (.cell (.bool t))) → g22D A n [true, true, true, true, true, false, true] K s = (match t with
    | true => g22D A n [true, true, true, true, true, false, true, false] K s
    | false => g22D A n [true, true, true, true, true, false, true, true] K s) := codeD_cond t
theorem g22p11111010 {R : Type} (A : Ar) (n : Nat) (K : Ex → St → Option R) (s s' : St) (h : keep g22an 9 s = keep g22an 9 s') : g22D A n [true, true, true, true, true, false, true, false] K s = g22D A n [true, true, true, true, true, false, true, false] K s' := codeD_first (id := 9) (by kernel_rfl) h K
theorem g22p11111011 {R : Type} (A : Ar) (n : Nat) (K : Ex → St → Option R) (s : St) : g22D A n [true, true, true, true, true, false, true, true] K s = K .normal s := by kernel_rfl
theorem g22p111111 {R : Type} (A : Ar) (n : Nat) (K : Ex → St → Option R) (s : St) : g22D A n [true, true, true, true, true, true] K s = g22D A n [true, true, true, true, true, true, false] (g22Q A n [true, true, true, true, true, true, true] K) s := by kernel_rfl
theorem g22p1111110 {R : Type} (A : Ar) (n : Nat) (K : Ex → St → Option R) (s s' : St) (h : keep g22an 10 s = keep g22an 10 s') : g22D A n [true, true, true, true, true, true, false] K s = g22D A n [true, true, true, true, true, true, false] K s' := codeD_first (id := 10) (by kernel_rfl) h K
theorem g22p1111111 {R : Type} (A : Ar) (n : Nat) (K : Ex → St → Option R) (s : St) : g22D A n [true, true, true, true, true, true, true] K s = g22D A n [true, true, true, true, true, true, true, false] (g22Q A n [true, true, true, true, true, true, true, true] K) s := by kernel_rfl
theorem g22p11111110 {R : Type} (A : Ar) (n : Nat) (K : Ex → St → Option R) (s : St) : g22D A n [true, true, true, true, true, true, true, false] K s = g22D A n [true, true, true, true, true, true, true, false, false] (blockK 2 K) s := by kernel_rfl
theorem g22p111111100 {R : Type} (A : Ar) (n : Nat) (K : Ex → St → Option R) (s : St) : g22D A n [true, true, true, true, true, true, true, false, false] K s = g22V A n [true, true, true, true, true, true, true, false, false, false] n K s := by kernel_rfl
theorem g22p1111111000 {R : Type} (A : Ar) (n : Nat) (K : Ex → St → Option R) (s : St) : g22D A n [true, true, true, true, true, true, true, false, false, false] K s = g22D A n [true, true, true, true, true, true, true, false, false, false, false] (g22Q A n [true, true, true, true, true, true, true, false, false, false, true] K) s := by kernel_rfl
theorem g22p11111110000 {R : Type} (A : Ar) (n : Nat) (K : Ex → St → Option R) (s : St) : g22D A n [true, true, true, true, true, true, true, false, false, false, false] K s = g22D A n [true, true, true, true, true, true, true, false, false, false, false, false] (g22Q A n [true, true, true, true, true, true, true, false, false, false, false, true] K) s := by kernel_rfl
theorem g22p111111100000 {R : Type} (A : Ar) (n : Nat) (K : Ex → St → Option R) (s s' : St) (h : keep g22an 11 s = keep g22an 11 s') : g22D A n [true, true, true, true, true, true, true, false, false, false, false, false] K s = g22D A n [true, true, true, true, true, true, true, false, false, false, false, false] K s' := codeD_first (id := 11) (by kernel_rfl) h K
theorem g22p111111100001 {R : Type} (A : Ar) (n : Nat) (K : Ex → St → Option R) (s : St) (t : Bool) : ev s (.tmp 50) = some (.v (.cell (.bool t))) → g22D A n [true, true, true, true, true, true, true, false, false, false, false, true] K s = (match t with
    | true => g22D A n [true, true, true, true, true, true, true, false, false, false, false, true, false] K s
    | false => g22D A n [true, true, true, true, true, true, true, false, false, false, false, true, true] K s) := codeD_cond t
theorem g22p1111111000010 {R : Type} (A : Ar) (n : Nat) (K : Ex → St → Option R) (s : St) : g22D A n [true, true, true, true, true, true, true, false, false, false, false, true, false] K s = K .normal s := by kernel_rfl
theorem g22p1111111000011 {R : Type} (A : Ar) (n : Nat) (K : Ex → St → Option R) (s : St) : g22D A n [true, true, true, true, true, true, true, false, false, false, false, true, true] K s = K (.exit 2) s := by kernel_rfl
theorem g22p11111110001 {R : Type} (A : Ar) (n : Nat) (K : Ex → St → Option R) (s : St) : g22D A n [true, true, true, true, true, true, true, false, false, false, true] K s = g22D A n [true, true, true, true, true, true, true, false, false, false, true, false] (blockK 3 K) s := by kernel_rfl
theorem g22p111111100010 {R : Type} (A : Ar) (n : Nat) (K : Ex → St → Option R) (s s' : St) (h : keep g22an 12 s = keep g22an 12 s') : g22D A n [true, true, true, true, true, true, true, false, false, false, true, false] K s = g22D A n [true, true, true, true, true, true, true, false, false, false, true, false] K s' := codeD_first (id := 12) (by kernel_rfl) h K
theorem g22p11111111 {R : Type} (A : Ar) (n : Nat) (K : Ex → St → Option R) (s : St) : g22D A n [true, true, true, true, true, true, true, true] K s = g22D A n [true, true, true, true, true, true, true, true, false] (g22Q A n [true, true, true, true, true, true, true, true, true] K) s := by kernel_rfl
theorem g22p111111110 {R : Type} (A : Ar) (n : Nat) (K : Ex → St → Option R) (s s' : St) (h : keep g22an 13 s = keep g22an 13 s') : g22D A n [true, true, true, true, true, true, true, true, false] K s = g22D A n [true, true, true, true, true, true, true, true, false] K s' := codeD_first (id := 13) (by kernel_rfl) h K
theorem g22p111111111 {R : Type} (A : Ar) (n : Nat) (K : Ex → St → Option R) (s : St) : g22D A n [true, true, true, true, true, true, true, true, true] K s = K .ret s := by kernel_rfl
theorem g22R4 {R : Type} (A : Ar) (n : Nat) (K : Ex → St → Option R) (x0 : Nat) (x1 : Int) (x2 : List Nat) (x3 : List Nat) : g22D A n [true, false, true, false, false, true, false, false] K ⟨[(1, (.v (.cell (.nat .u8 x0)))), (2, (.v (.cell (.ptr 1000 0 none)))), (4, (.v (.cell (.ptr 1001 0 none)))), (5, (.v (.cell (.int .i64 x1))))], [(1000, ⟨[.nums .u64 5 x2], 38, 1⟩), (1001, ⟨[.nums .u64 5 x3], 38, 1⟩)]⟩ = match (generalizing := false) A.neg x1 with
    | true => none
    | false => match (generalizing := false) A.lt (A.toN x1) 5 with
      | true => match (generalizing := false) A.neg (A.ib .sub .i64 x1 1) with
        | true => none
        | false => match (generalizing := false) A.lt (A.toN (A.ib .sub .i64 x1 1)) 5 with
          | true => match (generalizing := false) A.neg x1 with
            | true => none
            | false => match (generalizing := false) A.lt (A.toN x1) 5 with
              | true => K .normal ⟨[(23, (.v (.cell (.ptr 1000 0 (some ⟨A.toN x1, 1, 5, 0, 0, 0⟩))))), (22, (.v (.cell (.nat .u64 (A.nb .or .u64 (A.nsh .shl .u64 (x2.getD (A.toN x1) 0) 8) (A.nsh .shr .u64 (x2.getD (A.toN (A.ib .sub .i64 x1 1)) 0) 56)))))), (21, (.v (.cell (.nat .u64 (A.nsh .shr .u64 (x2.getD (A.toN (A.ib .sub .i64 x1 1)) 0) 56))))), (20, (.v (.cell (.nat .u64 (x2.getD (A.toN (A.ib .sub .i64 x1 1)) 0))))), (19, (.v (.cell (.ptr 1000 0 (some ⟨A.toN (A.ib .sub .i64 x1 1), 1, 5, 0, 0, 0⟩))))), (18, (.v (.cell (.int .i64 (A.ib .sub .i64 x1 1))))), (17, (.v (.cell (.int .i64 x1)))), (16, (.v (.cell (.nat .u64 (A.nsh .shl .u64 (x2.getD (A.toN x1) 0) 8))))), (15, (.v (.cell (.nat .u64 (x2.getD (A.toN x1) 0))))), (14, (.v (.cell (.ptr 1000 0 (some ⟨A.toN x1, 1, 5, 0, 0, 0⟩))))), (13, (.v (.cell (.int .i64 x1)))), (12, (.v (.cell (.int .i64 x1)))), (1, (.v (.cell (.nat .u8 x0)))), (2, (.v (.cell (.ptr 1000 0 none)))), (4, (.v (.cell (.ptr 1001 0 none)))), (5, (.v (.cell (.int .i64 x1))))], [(1000, ⟨[.nums .u64 5 (x2.set (A.toN x1) (A.nb .or .u64 (A.nsh .shl .u64 (x2.getD (A.toN x1) 0) 8) (A.nsh .shr .u64 (x2.getD (A.toN (A.ib .sub .i64 x1 1)) 0) 56)))], 38, 1⟩), (1001, ⟨[.nums .u64 5 x3], 38, 1⟩)]⟩
              | false => none
          | false => none
      | false => none := by kernel_rfl
theorem g22R3 {R : Type} (A : Ar) (n : Nat) (K : Ex → St → Option R) (x0 : Nat) (x1 : Int) (x2 : List Nat) (x3 : List Nat) : g22D A n [true, false, true, false, false, true, true] K ⟨[(1, (.v (.cell (.nat .u8 x0)))), (2, (.v (.cell (.ptr 1000 0 none)))), (4, (.v (.cell (.ptr 1001 0 none)))), (5, (.v (.cell (.int .i64 x1))))], [(1000, ⟨[.nums .u64 5 x2], 38, 1⟩), (1001, ⟨[.nums .u64 5 x3], 38, 1⟩)]⟩ = K .normal ⟨[(5, (.v (.cell (.int .i64 (A.ib .sub .i64 x1 1))))), (11, (.v (.cell (.int .i64 (A.ib .sub .i64 x1 1))))), (10, (.v (.cell (.int .i64 x1)))), (1, (.v (.cell (.nat .u8 x0)))), (2, (.v (.cell (.ptr 1000 0 none)))), (4, (.v (.cell (.ptr 1001 0 none)))), (5, (.v (.cell (.int .i64 x1))))], [(1000, ⟨[.nums .u64 5 x2], 38, 1⟩), (1001, ⟨[.nums .u64 5 x3], 38, 1⟩)]⟩ := by kernel_rfl
theorem g22R11 {R : Type} (A : Ar) (n : Nat) (K : Ex → St → Option R) (x0 : List Nat) (x1 : List Nat) (x2 : List Nat) : g22D A n [true, true, true, true, true, true, true, false, false, false, false, false] K ⟨[(2, (.v (.cell (.ptr 1000 0 none)))), (4, (.v (.cell (.ptr 1001 0 none)))), (7, (.v (.cell (.ptr 8001 0 none))))], [(1000, ⟨[.nums .u64 5 x0], 38, 1⟩), (1001, ⟨[.nums .u64 5 x1], 38, 1⟩), (8001, ⟨[.nums .u64 5 x2], 38, 1⟩)]⟩ = match (generalizing := false) g29ok x0 x2 with
    | true => K .normal ⟨[(50, (.v (.cell (.bool (!(g29r0 x0 x2)))))), (49, (.v (.cell (.bool (g29r0 x0 x2))))), (48, (.v (.agg [.nums .u64 5 x2]))), (47, (.v (.agg [.nums .u64 5 x0]))), (2, (.v (.cell (.ptr 1000 0 none)))), (4, (.v (.cell (.ptr 1001 0 none)))), (7, (.v (.cell (.ptr 8001 0 none))))], [(1000, ⟨[.nums .u64 5 x0], 38, 1⟩), (1001, ⟨[.nums .u64 5 x1], 38, 1⟩), (8001, ⟨[.nums .u64 5 x2], 38, 1⟩)]⟩
    | false => none := by kernel_rfl
theorem g22R12 {R : Type} (A : Ar) (n : Nat) (K : Ex → St → Option R) (x0 : List Nat) (x1 : List Nat) (x2 : List Nat) : g22D A n [true, true, true, true, true, true, true, false, false, false, true, false] K ⟨[(2, (.v (.cell (.ptr 1000 0 none)))), (4, (.v (.cell (.ptr 1001 0 none)))), (7, (.v (.cell (.ptr 8001 0 none))))], [(1000, ⟨[.nums .u64 5 x0], 38, 1⟩), (1001, ⟨[.nums .u64 5 x1], 38, 1⟩), (8001, ⟨[.nums .u64 5 x2], 38, 1⟩)]⟩ = match (generalizing := false) g28ok x0 x2 1 with
    | true => K .normal ⟨[(53, (.v (.agg [.nums .u64 5 (g28r0 x0 x2 1)]))), (52, (.v (.agg [.nums .u64 5 x2]))), (51, (.v (.agg [.nums .u64 5 x0]))), (2, (.v (.cell (.ptr 1000 0 none)))), (4, (.v (.cell (.ptr 1001 0 none)))), (7, (.v (.cell (.ptr 8001 0 none))))], [(1000, ⟨[.nums .u64 5 (g28r0 x0 x2 1)], 38, 1⟩), (1001, ⟨[.nums .u64 5 x1], 38, 1⟩), (8001, ⟨[.nums .u64 5 x2], 38, 1⟩)]⟩
    | false => none := by kernel_rfl
theorem g22R13 {R : Type} (A : Ar) (n : Nat) (K : Ex → St → Option R) (x0 : List Nat) (x1 : List Nat) : g22D A n [true, true, true, true, true, true, true, true, false] K ⟨[(2, (.v (.cell (.ptr 1000 0 none)))), (4, (.v (.cell (.ptr 1001 0 none))))], [(1000, ⟨[.nums .u64 5 x0], 38, 1⟩), (1001, ⟨[.nums .u64 5 x1], 38, 1⟩)]⟩ = K .normal ⟨[(54, (.v (.agg [.nums .u64 5 x0]))), (2, (.v (.cell (.ptr 1000 0 none)))), (4, (.v (.cell (.ptr 1001 0 none))))], [(1000, ⟨[.nums .u64 5 x0], 38, 1⟩), (1001, ⟨[.nums .u64 5 x0], 38, 1⟩)]⟩ := by kernel_rfl
theorem g22R10 {R : Type} (A : Ar) (n : Nat) (K : Ex → St → Option R) (x0 : Nat) (x1 : List Nat) (x2 : List Nat) (x3 : List Nat) : g22D A n [true, true, true, true, true, true, false] K ⟨[(2, (.v (.cell (.ptr 1000 0 none)))), (4, (.v (.cell (.ptr 1001 0 none)))), (6, (.v (.cell (.nat .u64 x0)))), (7, (.v (.cell (.ptr 8001 0 none))))], [(1000, ⟨[.nums .u64 5 x1], 38, 1⟩), (1001, ⟨[.nums .u64 5 x2], 38, 1⟩), (8001, ⟨[.nums .u64 5 x3], 38, 1⟩)]⟩ = match (generalizing := false) g28ok x1 x3 x0 with
    | true => K .normal ⟨[(46, (.v (.agg [.nums .u64 5 (g28r0 x1 x3 x0)]))), (45, (.v (.cell (.nat .u64 x0)))), (44, (.v (.agg [.nums .u64 5 x3]))), (43, (.v (.agg [.nums .u64 5 x1]))), (2, (.v (.cell (.ptr 1000 0 none)))), (4, (.v (.cell (.ptr 1001 0 none)))), (6, (.v (.cell (.nat .u64 x0)))), (7, (.v (.cell (.ptr 8001 0 none))))], [(1000, ⟨[.nums .u64 5 (g28r0 x1 x3 x0)], 38, 1⟩), (1001, ⟨[.nums .u64 5 x2], 38, 1⟩), (8001, ⟨[.nums .u64 5 x3], 38, 1⟩)]⟩
    | false => none := by kernel_rfl
theorem g22R5 {R : Type} (A : Ar) (n : Nat) (K : Ex → St → Option R) (x0 : Nat) (x1 : List Nat) (x2 : List Nat) : g22D A n [true, true, false] K ⟨[(1, (.v (.cell (.nat .u8 x0)))), (2, (.v (.cell (.ptr 1000 0 none)))), (4, (.v (.cell (.ptr 1001 0 none))))], [(1000, ⟨[.nums .u64 5 x1], 38, 1⟩), (1001, ⟨[.nums .u64 5 x2], 38, 1⟩)]⟩ = K .normal ⟨[(30, (.v (.cell (.ptr 1000 0 none)))), (29, (.v (.cell (.nat .u64 (A.nb .or .u64 (A.nsh .shl .u64 (x1.getD 0 0) 8) x0))))), (28, (.v (.cell (.nat .u64 x0)))), (27, (.v (.cell (.nat .u8 x0)))), (26, (.v (.cell (.nat .u64 (A.nsh .shl .u64 (x1.getD 0 0) 8))))), (25, (.v (.cell (.nat .u64 (x1.getD 0 0))))), (24, (.v (.cell (.ptr 1000 0 none)))), (1, (.v (.cell (.nat .u8 x0)))), (2, (.v (.cell (.ptr 1000 0 none)))), (4, (.v (.cell (.ptr 1001 0 none))))], [(1000, ⟨[.nums .u64 5 (x1.set 0 (A.nb .or .u64 (A.nsh .shl .u64 (x1.getD 0 0) 8) x0))], 38, 1⟩), (1001, ⟨[.nums .u64 5 x2], 38, 1⟩)]⟩ := by kernel_rfl
theorem g22R6 {R : Type} (A : Ar) (n : Nat) (K : Ex → St → Option R) (x0 : List Nat) (x1 : List Nat) : g22D A n [true, true, true, false] K ⟨[(2, (.v (.cell (.ptr 1000 0 none)))), (4, (.v (.cell (.ptr 1001 0 none))))], [(1000, ⟨[.nums .u64 5 x0], 38, 1⟩), (1001, ⟨[.nums .u64 5 x1], 38, 1⟩)]⟩ = K .normal ⟨[(6, (.v (.cell (.nat .u64 (A.nb .or .u64 (A.nsh .shr .u64 (x0.getD 3 0) 60) (A.nsh .shl .u64 (x0.getD 4 0) 4)))))), (37, (.v (.cell (.nat .u64 (A.nb .or .u64 (A.nsh .shr .u64 (x0.getD 3 0) 60) (A.nsh .shl .u64 (x0.getD 4 0) 4)))))), (36, (.v (.cell (.nat .u64 (A.nsh .shl .u64 (x0.getD 4 0) 4))))), (35, (.v (.cell (.nat .u64 (x0.getD 4 0))))), (34, (.v (.cell (.ptr 1000 4 none)))), (33, (.v (.cell (.nat .u64 (A.nsh .shr .u64 (x0.getD 3 0) 60))))), (32, (.v (.cell (.nat .u64 (x0.getD 3 0))))), (31, (.v (.cell (.ptr 1000 3 none)))), (2, (.v (.cell (.ptr 1000 0 none)))), (4, (.v (.cell (.ptr 1001 0 none))))], [(1000, ⟨[.nums .u64 5 x0], 38, 1⟩), (1001, ⟨[.nums .u64 5 x1], 38, 1⟩)]⟩ := by kernel_rfl
theorem g22R7 {R : Type} (A : Ar) (n : Nat) (K : Ex → St → Option R) (x0 : Nat) (x1 : List Nat) (x2 : List Nat) : g22D A n [true, true, true, true, false] K ⟨[(2, (.v (.cell (.ptr 1000 0 none)))), (4, (.v (.cell (.ptr 1001 0 none)))), (6, (.v (.cell (.nat .u64 x0))))], [(1000, ⟨[.nums .u64 5 x1], 38, 1⟩), (1001, ⟨[.nums .u64 5 x2], 38, 1⟩)]⟩ = match (generalizing := false) g27ok with
    | true => K .normal ⟨[(7, (.v (.cell (.ptr 8001 0 none)))), (38, (.v (.agg [.nums .u64 5 g27r0]))), (2, (.v (.cell (.ptr 1000 0 none)))), (4, (.v (.cell (.ptr 1001 0 none)))), (6, (.v (.cell (.nat .u64 x0))))], [(8001, ⟨[.nums .u64 5 g27r0], 38, 1⟩), (1000, ⟨[.nums .u64 5 x1], 38, 1⟩), (1001, ⟨[.nums .u64 5 x2], 38, 1⟩)]⟩
    | false => none := by kernel_rfl
theorem g22R8 {R : Type} (A : Ar) (n : Nat) (K : Ex → St → Option R) (x0 : Nat) (x1 : List Nat) (x2 : List Nat) (x3 : List Nat) : g22D A n [true, true, true, true, true, false, false] K ⟨[(2, (.v (.cell (.ptr 1000 0 none)))), (4, (.v (.cell (.ptr 1001 0 none)))), (6, (.v (.cell (.nat .u64 x0)))), (7, (.v (.cell (.ptr 8001 0 none))))], [(1000, ⟨[.nums .u64 5 x1], 38, 1⟩), (1001, ⟨[.nums .u64 5 x2], 38, 1⟩), (8001, ⟨[.nums .u64 5 x3], 38, 1⟩)]⟩ = K .normal ⟨[(40, (.v (.cell (.bool (A.nc .gtr x0 0))))), (39, (.v (.cell (.nat .u64 x0)))), (2, (.v (.cell (.ptr 1000 0 none)))), (4, (.v (.cell (.ptr 1001 0 none)))), (6, (.v (.cell (.nat .u64 x0)))), (7, (.v (.cell (.ptr 8001 0 none))))], [(1000, ⟨[.nums .u64 5 x1], 38, 1⟩), (1001, ⟨[.nums .u64 5 x2], 38, 1⟩), (8001, ⟨[.nums .u64 5 x3], 38, 1⟩)]⟩ := by kernel_rfl
theorem g22R9 {R : Type} (A : Ar) (n : Nat) (K : Ex → St → Option R) (x0 : Nat) (x1 : List Nat) (x2 : List Nat) (x3 : List Nat) : g22D A n [true, true, true, true, true, false, true, false] K ⟨[(2, (.v (.cell (.ptr 1000 0 none)))), (4, (.v (.cell (.ptr 1001 0 none)))), (6, (.v (.cell (.nat .u64 x0)))), (7, (.v (.cell (.ptr 8001 0 none))))], [(1000, ⟨[.nums .u64 5 x1], 38, 1⟩), (1001, ⟨[.nums .u64 5 x2], 38, 1⟩), (8001, ⟨[.nums .u64 5 x3], 38, 1⟩)]⟩ = K .normal ⟨[(6, (.v (.cell (.nat .u64 (A.nb .sub .u64 x0 1))))), (42, (.v (.cell (.nat .u64 (A.nb .sub .u64 x0 1))))), (41, (.v (.cell (.nat .u64 x0)))), (2, (.v (.cell (.ptr 1000 0 none)))), (4, (.v (.cell (.ptr 1001 0 none)))), (6, (.v (.cell (.nat .u64 x0)))), (7, (.v (.cell (.ptr 8001 0 none))))], [(1000, ⟨[.nums .u64 5 x1], 38, 1⟩), (1001, ⟨[.nums .u64 5 x2], 38, 1⟩), (8001, ⟨[.nums .u64 5 x3], 38, 1⟩)]⟩ := by kernel_rfl
theorem g22R2 {R : Type} (A : Ar) (n : Nat) (K : Ex → St → Option R) (x0 : Nat) (x1 : Int) (x2 : List Nat) (x3 : List Nat) : g22D A n [true, false, true, false, false, false, false] K ⟨[(1, (.v (.cell (.nat .u8 x0)))), (2, (.v (.cell (.ptr 1000 0 none)))), (4, (.v (.cell (.ptr 1001 0 none)))), (5, (.v (.cell (.int .i64 x1))))], [(1000, ⟨[.nums .u64 5 x2], 38, 1⟩), (1001, ⟨[.nums .u64 5 x3], 38, 1⟩)]⟩ = K .normal ⟨[(9, (.v (.cell (.bool (A.ic .gtr x1 0))))), (8, (.v (.cell (.int .i64 x1)))), (1, (.v (.cell (.nat .u8 x0)))), (2, (.v (.cell (.ptr 1000 0 none)))), (4, (.v (.cell (.ptr 1001 0 none)))), (5, (.v (.cell (.int .i64 x1))))], [(1000, ⟨[.nums .u64 5 x2], 38, 1⟩), (1001, ⟨[.nums .u64 5 x3], 38, 1⟩)]⟩ := by kernel_rfl
theorem g22R0 {R : Type} (A : Ar) (n : Nat) (K : Ex → St → Option R) (x0 : List Nat) (x1 : Nat) : g22D A n [false] K ⟨[(0, (.v (.agg [.nums .u64 5 x0]))), (1, (.v (.cell (.nat .u8 x1))))], []⟩ = K .normal ⟨[(4, (.v (.cell (.ptr 1001 0 none)))), (2, (.v (.cell (.ptr 1000 0 none)))), (0, (.v (.agg [.nums .u64 5 x0]))), (1, (.v (.cell (.nat .u8 x1))))], [(1001, ⟨[.nums .u64 5 [0, 0, 0, 0, 0]], 38, 1⟩), (1000, ⟨[.nums .u64 5 x0], 38, 1⟩)]⟩ := by kernel_rfl
theorem g22R1 {R : Type} (A : Ar) (n : Nat) (K : Ex → St → Option R) (x0 : Nat) (x1 : List Nat) (x2 : List Nat) : g22D A n [true, false, false] K ⟨[(1, (.v (.cell (.nat .u8 x0)))), (2, (.v (.cell (.ptr 1000 0 none)))), (4, (.v (.cell (.ptr 1001 0 none))))], [(1000, ⟨[.nums .u64 5 x1], 38, 1⟩), (1001, ⟨[.nums .u64 5 x2], 38, 1⟩)]⟩ = K .normal ⟨[(5, (.v (.cell (.int .i64 4)))), (1, (.v (.cell (.nat .u8 x0)))), (2, (.v (.cell (.ptr 1000 0 none)))), (4, (.v (.cell (.ptr 1001 0 none))))], [(1000, ⟨[.nums .u64 5 x1], 38, 1⟩), (1001, ⟨[.nums .u64 5 x2], 38, 1⟩)]⟩ := by kernel_rfl
def g22J4 {R : Type} (A : Ar) (n : Nat) (kk : AV → Heap → Option R) (lg22L2 : Nat → Int → List Nat → List Nat → Option R) (x0 : Nat) (x1 : Int) (x2 : List Nat) (x3 : List Nat) : Option R :=
  match (generalizing := false) A.neg x1 with
  | true => none
  | false => match (generalizing := false) A.lt (A.toN x1) 5 with
    | true => match (generalizing := false) A.neg (A.ib .sub .i64 x1 1) with
      | true => none
      | false => match (generalizing := false) A.lt (A.toN (A.ib .sub .i64 x1 1)) 5 with
        | true => match (generalizing := false) A.neg x1 with
          | true => none
          | false => match (generalizing := false) A.lt (A.toN x1) 5 with
            | true => lg22L2 x0 (A.ib .sub .i64 x1 1) (x2.set (A.toN x1) (A.nb .or .u64 (A.nsh .shl .u64 (x2.getD (A.toN x1) 0) 8) (A.nsh .shr .u64 (x2.getD (A.toN (A.ib .sub .i64 x1 1)) 0) 56))) x3
            | false => none
        | false => none
    | false => none
set_option maxRecDepth 100000 in
theorem g22J4_eq {R : Type} (A : Ar) (n : Nat) (kk : AV → Heap → Option R) (m0 : Nat) (lg22L2 : Nat → Int → List Nat → List Nat → Option R) 
    (hg22L2 : ∀ (s : St) (x0 : Nat) (x1 : Int) (x2 : List Nat) (x3 : List Nat), keep g22an 2 s = ⟨[(1, (.v (.cell (.nat .u8 x0)))), (2, (.v (.cell (.ptr 1000 0 none)))), (4, (.v (.cell (.ptr 1001 0 none)))), (5, (.v (.cell (.int .i64 x1))))], [(1000, ⟨[.nums .u64 5 x2], 38, 1⟩), (1001, ⟨[.nums .u64 5 x3], 38, 1⟩)]⟩ → g22V A n [true, false, true, false, false] m0 (blockK 0 (g22Q A n [true, true] (g22T kk))) s = lg22L2 x0 x1 x2 x3) (s : St) (x0 : Nat) (x1 : Int) (x2 : List Nat) (x3 : List Nat) (h : keep g22an 4 s = ⟨[(1, (.v (.cell (.nat .u8 x0)))), (2, (.v (.cell (.ptr 1000 0 none)))), (4, (.v (.cell (.ptr 1001 0 none)))), (5, (.v (.cell (.int .i64 x1))))], [(1000, ⟨[.nums .u64 5 x2], 38, 1⟩), (1001, ⟨[.nums .u64 5 x3], 38, 1⟩)]⟩) :
    g22D A n [true, false, true, false, false, true] (g22W A n [true, false, true, false, false] m0 (blockK 0 (g22Q A n [true, true] (g22T kk)))) s = g22J4 A n kk lg22L2 x0 x1 x2 x3 := by
  have h1 := (g22Wn A n _ _ _ _).trans (hg22L2 ⟨[(5, (.v (.cell (.int .i64 (A.ib .sub .i64 x1 1))))), (11, (.v (.cell (.int .i64 (A.ib .sub .i64 x1 1))))), (10, (.v (.cell (.int .i64 x1)))), (1, (.v (.cell (.nat .u8 x0)))), (2, (.v (.cell (.ptr 1000 0 none)))), (4, (.v (.cell (.ptr 1001 0 none)))), (5, (.v (.cell (.int .i64 x1))))], [(1000, ⟨[.nums .u64 5 (x2.set (A.toN x1) (A.nb .or .u64 (A.nsh .shl .u64 (x2.getD (A.toN x1) 0) 8) (A.nsh .shr .u64 (x2.getD (A.toN (A.ib .sub .i64 x1 1)) 0) 56)))], 38, 1⟩), (1001, ⟨[.nums .u64 5 x3], 38, 1⟩)]⟩ x0 (A.ib .sub .i64 x1 1) (x2.set (A.toN x1) (A.nb .or .u64 (A.nsh .shl .u64 (x2.getD (A.toN x1) 0) 8) (A.nsh .shr .u64 (x2.getD (A.toN (A.ib .sub .i64 x1 1)) 0) 56))) x3 (by kernel_rfl))
  have h2 := (g22p1010011 A n (g22W A n [true, false, true, false, false] m0 (blockK 0 (g22Q A n [true, true] (g22T kk)))) ⟨[(23, (.v (.cell (.ptr 1000 0 (some ⟨A.toN x1, 1, 5, 0, 0, 0⟩))))), (22, (.v (.cell (.nat .u64 (A.nb .or .u64 (A.nsh .shl .u64 (x2.getD (A.toN x1) 0) 8) (A.nsh .shr .u64 (x2.getD (A.toN (A.ib .sub .i64 x1 1)) 0) 56)))))), (21, (.v (.cell (.nat .u64 (A.nsh .shr .u64 (x2.getD (A.toN (A.ib .sub .i64 x1 1)) 0) 56))))), (20, (.v (.cell (.nat .u64 (x2.getD (A.toN (A.ib .sub .i64 x1 1)) 0))))), (19, (.v (.cell (.ptr 1000 0 (some ⟨A.toN (A.ib .sub .i64 x1 1), 1, 5, 0, 0, 0⟩))))), (18, (.v (.cell (.int .i64 (A.ib .sub .i64 x1 1))))), (17, (.v (.cell (.int .i64 x1)))), (16, (.v (.cell (.nat .u64 (A.nsh .shl .u64 (x2.getD (A.toN x1) 0) 8))))), (15, (.v (.cell (.nat .u64 (x2.getD (A.toN x1) 0))))), (14, (.v (.cell (.ptr 1000 0 (some ⟨A.toN x1, 1, 5, 0, 0, 0⟩))))), (13, (.v (.cell (.int .i64 x1)))), (12, (.v (.cell (.int .i64 x1)))), (1, (.v (.cell (.nat .u8 x0)))), (2, (.v (.cell (.ptr 1000 0 none)))), (4, (.v (.cell (.ptr 1001 0 none)))), (5, (.v (.cell (.int .i64 x1))))], [(1000, ⟨[.nums .u64 5 (x2.set (A.toN x1) (A.nb .or .u64 (A.nsh .shl .u64 (x2.getD (A.toN x1) 0) 8) (A.nsh .shr .u64 (x2.getD (A.toN (A.ib .sub .i64 x1 1)) 0) 56)))], 38, 1⟩), (1001, ⟨[.nums .u64 5 x3], 38, 1⟩)]⟩ ⟨[(1, (.v (.cell (.nat .u8 x0)))), (2, (.v (.cell (.ptr 1000 0 none)))), (4, (.v (.cell (.ptr 1001 0 none)))), (5, (.v (.cell (.int .i64 x1))))], [(1000, ⟨[.nums .u64 5 (x2.set (A.toN x1) (A.nb .or .u64 (A.nsh .shl .u64 (x2.getD (A.toN x1) 0) 8) (A.nsh .shr .u64 (x2.getD (A.toN (A.ib .sub .i64 x1 1)) 0) 56)))], 38, 1⟩), (1001, ⟨[.nums .u64 5 x3], 38, 1⟩)]⟩ (by kernel_rfl)).trans (g22R3 A n (g22W A n [true, false, true, false, false] m0 (blockK 0 (g22Q A n [true, true] (g22T kk)))) x0 x1 (x2.set (A.toN x1) (A.nb .or .u64 (A.nsh .shl .u64 (x2.getD (A.toN x1) 0) 8) (A.nsh .shr .u64 (x2.getD (A.toN (A.ib .sub .i64 x1 1)) 0) 56))) x3)
  rw [h1] at h2
  have h3 := (g22Qn A n _ _ _).trans h2
  have h4 := (blockK_n 1 _ _).trans h3
  have h5 := (g22p10100100 A n (blockK 1 (g22Q A n [true, false, true, false, false, true, true] (g22W A n [true, false, true, false, false] m0 (blockK 0 (g22Q A n [true, true] (g22T kk)))))) ⟨[(1, (.v (.cell (.nat .u8 x0)))), (2, (.v (.cell (.ptr 1000 0 none)))), (4, (.v (.cell (.ptr 1001 0 none)))), (5, (.v (.cell (.int .i64 x1))))], [(1000, ⟨[.nums .u64 5 x2], 38, 1⟩), (1001, ⟨[.nums .u64 5 x3], 38, 1⟩)]⟩ ⟨[(1, (.v (.cell (.nat .u8 x0)))), (2, (.v (.cell (.ptr 1000 0 none)))), (4, (.v (.cell (.ptr 1001 0 none)))), (5, (.v (.cell (.int .i64 x1))))], [(1000, ⟨[.nums .u64 5 x2], 38, 1⟩), (1001, ⟨[.nums .u64 5 x3], 38, 1⟩)]⟩ (by kernel_rfl)).trans (g22R4 A n (blockK 1 (g22Q A n [true, false, true, false, false, true, true] (g22W A n [true, false, true, false, false] m0 (blockK 0 (g22Q A n [true, true] (g22T kk)))))) x0 x1 x2 x3)
  rw [h4] at h5
  have h6 := (g22p1010010 A n _ _).trans h5
  have h7 := (g22p101001 A n _ _).trans h6
  exact (codeD_first (s' := ⟨[(1, (.v (.cell (.nat .u8 x0)))), (2, (.v (.cell (.ptr 1000 0 none)))), (4, (.v (.cell (.ptr 1001 0 none)))), (5, (.v (.cell (.int .i64 x1))))], [(1000, ⟨[.nums .u64 5 x2], 38, 1⟩), (1001, ⟨[.nums .u64 5 x3], 38, 1⟩)]⟩) (id := 4) (by kernel_rfl) (h.trans (by kernel_rfl)) _).trans (h7.trans (by kernel_rfl))
def g22L11 {R : Type} (A : Ar) (n : Nat) (kk : AV → Heap → Option R)  : Nat → List Nat → List Nat → List Nat → Option R
  | 0, _, _, _ => none
  | m + 1, x0, x1, x2 => match (generalizing := false) g29ok x0 x2 with
  | true => match (generalizing := false) !(g29r0 x0 x2) with
    | true => match (generalizing := false) g28ok x0 x2 1 with
      | true => g22L11 A n kk  m (g28r0 x0 x2 1) x1 x2
      | false => none
    | false => kk (.v (.agg [.nums .u64 5 x0])) [(1000, ⟨[.nums .u64 5 x0], 38, 1⟩), (1001, ⟨[.nums .u64 5 x0], 38, 1⟩)]
  | false => none
set_option maxRecDepth 100000 in
theorem g22L11_eq {R : Type} (A : Ar) (n : Nat) (kk : AV → Heap → Option R)    (m : Nat) (s : St) (x0 : List Nat) (x1 : List Nat) (x2 : List Nat) (h : keep g22an 11 s = ⟨[(2, (.v (.cell (.ptr 1000 0 none)))), (4, (.v (.cell (.ptr 1001 0 none)))), (7, (.v (.cell (.ptr 8001 0 none))))], [(1000, ⟨[.nums .u64 5 x0], 38, 1⟩), (1001, ⟨[.nums .u64 5 x1], 38, 1⟩), (8001, ⟨[.nums .u64 5 x2], 38, 1⟩)]⟩) :
    g22V A n [true, true, true, true, true, true, true, false, false, false] m (blockK 2 (g22Q A n [true, true, true, true, true, true, true, true] (g22T kk))) s = g22L11 A n kk  m x0 x1 x2 := by
  induction m generalizing s x0 x1 x2 with
  | zero => rfl
  | succ m ih =>
    have h1 := (g22Wn A n _ _ _ _).trans (ih ⟨[(53, (.v (.agg [.nums .u64 5 (g28r0 x0 x2 1)]))), (52, (.v (.agg [.nums .u64 5 x2]))), (51, (.v (.agg [.nums .u64 5 x0]))), (2, (.v (.cell (.ptr 1000 0 none)))), (4, (.v (.cell (.ptr 1001 0 none)))), (7, (.v (.cell (.ptr 8001 0 none))))], [(1000, ⟨[.nums .u64 5 (g28r0 x0 x2 1)], 38, 1⟩), (1001, ⟨[.nums .u64 5 x1], 38, 1⟩), (8001, ⟨[.nums .u64 5 x2], 38, 1⟩)]⟩ (g28r0 x0 x2 1) x1 x2 (by kernel_rfl))
    have h2 := (blockK_n 3 _ _).trans h1
    have h3 := (g22p111111100010 A n (blockK 3 (g22W A n [true, true, true, true, true, true, true, false, false, false] m (blockK 2 (g22Q A n [true, true, true, true, true, true, true, true] (g22T kk))))) ⟨[(50, (.v (.cell (.bool (!(g29r0 x0 x2)))))), (49, (.v (.cell (.bool (g29r0 x0 x2))))), (48, (.v (.agg [.nums .u64 5 x2]))), (47, (.v (.agg [.nums .u64 5 x0]))), (2, (.v (.cell (.ptr 1000 0 none)))), (4, (.v (.cell (.ptr 1001 0 none)))), (7, (.v (.cell (.ptr 8001 0 none))))], [(1000, ⟨[.nums .u64 5 x0], 38, 1⟩), (1001, ⟨[.nums .u64 5 x1], 38, 1⟩), (8001, ⟨[.nums .u64 5 x2], 38, 1⟩)]⟩ ⟨[(2, (.v (.cell (.ptr 1000 0 none)))), (4, (.v (.cell (.ptr 1001 0 none)))), (7, (.v (.cell (.ptr 8001 0 none))))], [(1000, ⟨[.nums .u64 5 x0], 38, 1⟩), (1001, ⟨[.nums .u64 5 x1], 38, 1⟩), (8001, ⟨[.nums .u64 5 x2], 38, 1⟩)]⟩ (by kernel_rfl)).trans (g22R12 A n (blockK 3 (g22W A n [true, true, true, true, true, true, true, false, false, false] m (blockK 2 (g22Q A n [true, true, true, true, true, true, true, true] (g22T kk))))) x0 x1 x2)
    rw [h2] at h3
    have h4 := (g22p11111110001 A n _ _).trans h3
    have h5 := (g22Qn A n _ _ _).trans h4
    have h6 := (g22p1111111000010 A n _ _).trans h5
    have h7 : (g22T kk) .ret ⟨[(54, (.v (.agg [.nums .u64 5 x0]))), (2, (.v (.cell (.ptr 1000 0 none)))), (4, (.v (.cell (.ptr 1001 0 none))))], [(1000, ⟨[.nums .u64 5 x0], 38, 1⟩), (1001, ⟨[.nums .u64 5 x0], 38, 1⟩)]⟩ = kk (.v (.agg [.nums .u64 5 x0])) [(1000, ⟨[.nums .u64 5 x0], 38, 1⟩), (1001, ⟨[.nums .u64 5 x0], 38, 1⟩)] := by kernel_rfl
    have h8 := (g22p111111111 A n _ _).trans h7
    have h9 := (g22Qn A n _ _ _).trans h8
    have h10 := (g22p111111110 A n (g22Q A n [true, true, true, true, true, true, true, true, true] (g22T kk)) ⟨[(50, (.v (.cell (.bool (!(g29r0 x0 x2)))))), (49, (.v (.cell (.bool (g29r0 x0 x2))))), (48, (.v (.agg [.nums .u64 5 x2]))), (47, (.v (.agg [.nums .u64 5 x0]))), (2, (.v (.cell (.ptr 1000 0 none)))), (4, (.v (.cell (.ptr 1001 0 none)))), (7, (.v (.cell (.ptr 8001 0 none))))], [(1000, ⟨[.nums .u64 5 x0], 38, 1⟩), (1001, ⟨[.nums .u64 5 x1], 38, 1⟩), (8001, ⟨[.nums .u64 5 x2], 38, 1⟩)]⟩ ⟨[(2, (.v (.cell (.ptr 1000 0 none)))), (4, (.v (.cell (.ptr 1001 0 none))))], [(1000, ⟨[.nums .u64 5 x0], 38, 1⟩), (1001, ⟨[.nums .u64 5 x1], 38, 1⟩)]⟩ (by kernel_rfl)).trans (g22R13 A n (g22Q A n [true, true, true, true, true, true, true, true, true] (g22T kk)) x0 x1)
    rw [h9] at h10
    have h11 := (g22p11111111 A n _ _).trans h10
    have h12 := (g22Qn A n _ _ _).trans h11
    have h13 := (blockK_hit 2 _ _).trans h12
    have h14 := (g22We A n [true, true, true, true, true, true, true, false, false, false] m _ _ _).trans h13
    have h15 := (g22Qe A n [true, true, true, true, true, true, true, false, false, false, true] _ _ _).trans h14
    have h16 := (g22p1111111000011 A n _ _).trans h15
    have h17 := g22p111111100001 A n (g22Q A n [true, true, true, true, true, true, true, false, false, false, true] (g22W A n [true, true, true, true, true, true, true, false, false, false] m (blockK 2 (g22Q A n [true, true, true, true, true, true, true, true] (g22T kk))))) ⟨[(50, (.v (.cell (.bool (!(g29r0 x0 x2)))))), (49, (.v (.cell (.bool (g29r0 x0 x2))))), (48, (.v (.agg [.nums .u64 5 x2]))), (47, (.v (.agg [.nums .u64 5 x0]))), (2, (.v (.cell (.ptr 1000 0 none)))), (4, (.v (.cell (.ptr 1001 0 none)))), (7, (.v (.cell (.ptr 8001 0 none))))], [(1000, ⟨[.nums .u64 5 x0], 38, 1⟩), (1001, ⟨[.nums .u64 5 x1], 38, 1⟩), (8001, ⟨[.nums .u64 5 x2], 38, 1⟩)]⟩ (!(g29r0 x0 x2)) (by kernel_rfl)
    rw [h6, h16] at h17
    have h18 := (g22Qn A n _ _ _).trans h17
    have h19 := (g22p111111100000 A n (g22Q A n [true, true, true, true, true, true, true, false, false, false, false, true] (g22Q A n [true, true, true, true, true, true, true, false, false, false, true] (g22W A n [true, true, true, true, true, true, true, false, false, false] m (blockK 2 (g22Q A n [true, true, true, true, true, true, true, true] (g22T kk)))))) ⟨[(2, (.v (.cell (.ptr 1000 0 none)))), (4, (.v (.cell (.ptr 1001 0 none)))), (7, (.v (.cell (.ptr 8001 0 none))))], [(1000, ⟨[.nums .u64 5 x0], 38, 1⟩), (1001, ⟨[.nums .u64 5 x1], 38, 1⟩), (8001, ⟨[.nums .u64 5 x2], 38, 1⟩)]⟩ ⟨[(2, (.v (.cell (.ptr 1000 0 none)))), (4, (.v (.cell (.ptr 1001 0 none)))), (7, (.v (.cell (.ptr 8001 0 none))))], [(1000, ⟨[.nums .u64 5 x0], 38, 1⟩), (1001, ⟨[.nums .u64 5 x1], 38, 1⟩), (8001, ⟨[.nums .u64 5 x2], 38, 1⟩)]⟩ (by kernel_rfl)).trans (g22R11 A n (g22Q A n [true, true, true, true, true, true, true, false, false, false, false, true] (g22Q A n [true, true, true, true, true, true, true, false, false, false, true] (g22W A n [true, true, true, true, true, true, true, false, false, false] m (blockK 2 (g22Q A n [true, true, true, true, true, true, true, true] (g22T kk)))))) x0 x1 x2)
    rw [h18] at h19
    have h20 := (g22p11111110000 A n _ _).trans h19
    have h21 := (g22p1111111000 A n _ _).trans h20
    exact (loopD_first (s' := ⟨[(2, (.v (.cell (.ptr 1000 0 none)))), (4, (.v (.cell (.ptr 1001 0 none)))), (7, (.v (.cell (.ptr 8001 0 none))))], [(1000, ⟨[.nums .u64 5 x0], 38, 1⟩), (1001, ⟨[.nums .u64 5 x1], 38, 1⟩), (8001, ⟨[.nums .u64 5 x2], 38, 1⟩)]⟩) (id := 11) (by kernel_rfl) (h.trans (by kernel_rfl)) _).trans ((g22Vs A n _ m _ _).trans (h21.trans (by kernel_rfl)))
def g22J10 {R : Type} (A : Ar) (n : Nat) (kk : AV → Heap → Option R)  (x0 : Nat) (x1 : List Nat) (x2 : List Nat) (x3 : List Nat) : Option R :=
  match (generalizing := false) g28ok x1 x3 x0 with
  | true => g22L11 A n kk  n (g28r0 x1 x3 x0) x2 x3
  | false => none
set_option maxRecDepth 100000 in
theorem g22J10_eq {R : Type} (A : Ar) (n : Nat) (kk : AV → Heap → Option R)    (s : St) (x0 : Nat) (x1 : List Nat) (x2 : List Nat) (x3 : List Nat) (h : keep g22an 10 s = ⟨[(2, (.v (.cell (.ptr 1000 0 none)))), (4, (.v (.cell (.ptr 1001 0 none)))), (6, (.v (.cell (.nat .u64 x0)))), (7, (.v (.cell (.ptr 8001 0 none))))], [(1000, ⟨[.nums .u64 5 x1], 38, 1⟩), (1001, ⟨[.nums .u64 5 x2], 38, 1⟩), (8001, ⟨[.nums .u64 5 x3], 38, 1⟩)]⟩) :
    g22D A n [true, true, true, true, true, true] (g22T kk) s = g22J10 A n kk  x0 x1 x2 x3 := by
  have h1 := (g22p111111100 A n _ _).trans (g22L11_eq A n kk    n ⟨[(46, (.v (.agg [.nums .u64 5 (g28r0 x1 x3 x0)]))), (45, (.v (.cell (.nat .u64 x0)))), (44, (.v (.agg [.nums .u64 5 x3]))), (43, (.v (.agg [.nums .u64 5 x1]))), (2, (.v (.cell (.ptr 1000 0 none)))), (4, (.v (.cell (.ptr 1001 0 none)))), (6, (.v (.cell (.nat .u64 x0)))), (7, (.v (.cell (.ptr 8001 0 none))))], [(1000, ⟨[.nums .u64 5 (g28r0 x1 x3 x0)], 38, 1⟩), (1001, ⟨[.nums .u64 5 x2], 38, 1⟩), (8001, ⟨[.nums .u64 5 x3], 38, 1⟩)]⟩ (g28r0 x1 x3 x0) x2 x3 (by kernel_rfl))
  have h2 := (g22p11111110 A n _ _).trans h1
  have h3 := (g22p1111111 A n _ _).trans h2
  have h4 := (g22Qn A n _ _ _).trans h3
  have h5 := (g22p1111110 A n (g22Q A n [true, true, true, true, true, true, true] (g22T kk)) ⟨[(2, (.v (.cell (.ptr 1000 0 none)))), (4, (.v (.cell (.ptr 1001 0 none)))), (6, (.v (.cell (.nat .u64 x0)))), (7, (.v (.cell (.ptr 8001 0 none))))], [(1000, ⟨[.nums .u64 5 x1], 38, 1⟩), (1001, ⟨[.nums .u64 5 x2], 38, 1⟩), (8001, ⟨[.nums .u64 5 x3], 38, 1⟩)]⟩ ⟨[(2, (.v (.cell (.ptr 1000 0 none)))), (4, (.v (.cell (.ptr 1001 0 none)))), (6, (.v (.cell (.nat .u64 x0)))), (7, (.v (.cell (.ptr 8001 0 none))))], [(1000, ⟨[.nums .u64 5 x1], 38, 1⟩), (1001, ⟨[.nums .u64 5 x2], 38, 1⟩), (8001, ⟨[.nums .u64 5 x3], 38, 1⟩)]⟩ (by kernel_rfl)).trans (g22R10 A n (g22Q A n [true, true, true, true, true, true, true] (g22T kk)) x0 x1 x2 x3)
  rw [h4] at h5
  have h6 := (g22p111111 A n _ _).trans h5
  exact (codeD_first (s' := ⟨[(2, (.v (.cell (.ptr 1000 0 none)))), (4, (.v (.cell (.ptr 1001 0 none)))), (6, (.v (.cell (.nat .u64 x0)))), (7, (.v (.cell (.ptr 8001 0 none))))], [(1000, ⟨[.nums .u64 5 x1], 38, 1⟩), (1001, ⟨[.nums .u64 5 x2], 38, 1⟩), (8001, ⟨[.nums .u64 5 x3], 38, 1⟩)]⟩) (id := 10) (by kernel_rfl) (h.trans (by kernel_rfl)) _).trans (h6.trans (by kernel_rfl))
def g22J5 {R : Type} (A : Ar) (n : Nat) (kk : AV → Heap → Option R)  (x0 : Nat) (x1 : List Nat) (x2 : List Nat) : Option R :=
  match (generalizing := false) g27ok with
  | true => match (generalizing := false) A.nc .gtr (A.nb .or .u64 (A.nsh .shr .u64 ((x1.set 0 (A.nb .or .u64 (A.nsh .shl .u64 (x1.getD 0 0) 8) x0)).getD 3 0) 60) (A.nsh .shl .u64 ((x1.set 0 (A.nb .or .u64 (A.nsh .shl .u64 (x1.getD 0 0) 8) x0)).getD 4 0) 4)) 0 with
    | true => g22J10 A n kk  (A.nb .sub .u64 (A.nb .or .u64 (A.nsh .shr .u64 ((x1.set 0 (A.nb .or .u64 (A.nsh .shl .u64 (x1.getD 0 0) 8) x0)).getD 3 0) 60) (A.nsh .shl .u64 ((x1.set 0 (A.nb .or .u64 (A.nsh .shl .u64 (x1.getD 0 0) 8) x0)).getD 4 0) 4)) 1) (x1.set 0 (A.nb .or .u64 (A.nsh .shl .u64 (x1.getD 0 0) 8) x0)) x2 g27r0
    | false => g22J10 A n kk  (A.nb .or .u64 (A.nsh .shr .u64 ((x1.set 0 (A.nb .or .u64 (A.nsh .shl .u64 (x1.getD 0 0) 8) x0)).getD 3 0) 60) (A.nsh .shl .u64 ((x1.set 0 (A.nb .or .u64 (A.nsh .shl .u64 (x1.getD 0 0) 8) x0)).getD 4 0) 4)) (x1.set 0 (A.nb .or .u64 (A.nsh .shl .u64 (x1.getD 0 0) 8) x0)) x2 g27r0
  | false => none
set_option maxRecDepth 100000 in
theorem g22J5_eq {R : Type} (A : Ar) (n : Nat) (kk : AV → Heap → Option R)    (s : St) (x0 : Nat) (x1 : List Nat) (x2 : List Nat) (h : keep g22an 5 s = ⟨[(1, (.v (.cell (.nat .u8 x0)))), (2, (.v (.cell (.ptr 1000 0 none)))), (4, (.v (.cell (.ptr 1001 0 none))))], [(1000, ⟨[.nums .u64 5 x1], 38, 1⟩), (1001, ⟨[.nums .u64 5 x2], 38, 1⟩)]⟩) :
    g22D A n [true, true] (g22T kk) s = g22J5 A n kk  x0 x1 x2 := by
  have h1 := (g22Qn A n _ _ _).trans (g22J10_eq A n kk     ⟨[(6, (.v (.cell (.nat .u64 (A.nb .sub .u64 (A.nb .or .u64 (A.nsh .shr .u64 ((x1.set 0 (A.nb .or .u64 (A.nsh .shl .u64 (x1.getD 0 0) 8) x0)).getD 3 0) 60) (A.nsh .shl .u64 ((x1.set 0 (A.nb .or .u64 (A.nsh .shl .u64 (x1.getD 0 0) 8) x0)).getD 4 0) 4)) 1))))), (42, (.v (.cell (.nat .u64 (A.nb .sub .u64 (A.nb .or .u64 (A.nsh .shr .u64 ((x1.set 0 (A.nb .or .u64 (A.nsh .shl .u64 (x1.getD 0 0) 8) x0)).getD 3 0) 60) (A.nsh .shl .u64 ((x1.set 0 (A.nb .or .u64 (A.nsh .shl .u64 (x1.getD 0 0) 8) x0)).getD 4 0) 4)) 1))))), (41, (.v (.cell (.nat .u64 (A.nb .or .u64 (A.nsh .shr .u64 ((x1.set 0 (A.nb .or .u64 (A.nsh .shl .u64 (x1.getD 0 0) 8) x0)).getD 3 0) 60) (A.nsh .shl .u64 ((x1.set 0 (A.nb .or .u64 (A.nsh .shl .u64 (x1.getD 0 0) 8) x0)).getD 4 0) 4)))))), (2, (.v (.cell (.ptr 1000 0 none)))), (4, (.v (.cell (.ptr 1001 0 none)))), (6, (.v (.cell (.nat .u64 (A.nb .or .u64 (A.nsh .shr .u64 ((x1.set 0 (A.nb .or .u64 (A.nsh .shl .u64 (x1.getD 0 0) 8) x0)).getD 3 0) 60) (A.nsh .shl .u64 ((x1.set 0 (A.nb .or .u64 (A.nsh .shl .u64 (x1.getD 0 0) 8) x0)).getD 4 0) 4)))))), (7, (.v (.cell (.ptr 8001 0 none))))], [(1000, ⟨[.nums .u64 5 (x1.set 0 (A.nb .or .u64 (A.nsh .shl .u64 (x1.getD 0 0) 8) x0))], 38, 1⟩), (1001, ⟨[.nums .u64 5 x2], 38, 1⟩), (8001, ⟨[.nums .u64 5 g27r0], 38, 1⟩)]⟩ (A.nb .sub .u64 (A.nb .or .u64 (A.nsh .shr .u64 ((x1.set 0 (A.nb .or .u64 (A.nsh .shl .u64 (x1.getD 0 0) 8) x0)).getD 3 0) 60) (A.nsh .shl .u64 ((x1.set 0 (A.nb .or .u64 (A.nsh .shl .u64 (x1.getD 0 0) 8) x0)).getD 4 0) 4)) 1) (x1.set 0 (A.nb .or .u64 (A.nsh .shl .u64 (x1.getD 0 0) 8) x0)) x2 g27r0 (by kernel_rfl))
  have h2 := (g22p11111010 A n (g22Q A n [true, true, true, true, true, true] (g22T kk)) ⟨[(40, (.v (.cell (.bool (A.nc .gtr (A.nb .or .u64 (A.nsh .shr .u64 ((x1.set 0 (A.nb .or .u64 (A.nsh .shl .u64 (x1.getD 0 0) 8) x0)).getD 3 0) 60) (A.nsh .shl .u64 ((x1.set 0 (A.nb .or .u64 (A.nsh .shl .u64 (x1.getD 0 0) 8) x0)).getD 4 0) 4)) 0))))), (39, (.v (.cell (.nat .u64 (A.nb .or .u64 (A.nsh .shr .u64 ((x1.set 0 (A.nb .or .u64 (A.nsh .shl .u64 (x1.getD 0 0) 8) x0)).getD 3 0) 60) (A.nsh .shl .u64 ((x1.set 0 (A.nb .or .u64 (A.nsh .shl .u64 (x1.getD 0 0) 8) x0)).getD 4 0) 4)))))), (2, (.v (.cell (.ptr 1000 0 none)))), (4, (.v (.cell (.ptr 1001 0 none)))), (6, (.v (.cell (.nat .u64 (A.nb .or .u64 (A.nsh .shr .u64 ((x1.set 0 (A.nb .or .u64 (A.nsh .shl .u64 (x1.getD 0 0) 8) x0)).getD 3 0) 60) (A.nsh .shl .u64 ((x1.set 0 (A.nb .or .u64 (A.nsh .shl .u64 (x1.getD 0 0) 8) x0)).getD 4 0) 4)))))), (7, (.v (.cell (.ptr 8001 0 none))))], [(1000, ⟨[.nums .u64 5 (x1.set 0 (A.nb .or .u64 (A.nsh .shl .u64 (x1.getD 0 0) 8) x0))], 38, 1⟩), (1001, ⟨[.nums .u64 5 x2], 38, 1⟩), (8001, ⟨[.nums .u64 5 g27r0], 38, 1⟩)]⟩ ⟨[(2, (.v (.cell (.ptr 1000 0 none)))), (4, (.v (.cell (.ptr 1001 0 none)))), (6, (.v (.cell (.nat .u64 (A.nb .or .u64 (A.nsh .shr .u64 ((x1.set 0 (A.nb .or .u64 (A.nsh .shl .u64 (x1.getD 0 0) 8) x0)).getD 3 0) 60) (A.nsh .shl .u64 ((x1.set 0 (A.nb .or .u64 (A.nsh .shl .u64 (x1.getD 0 0) 8) x0)).getD 4 0) 4)))))), (7, (.v (.cell (.ptr 8001 0 none))))], [(1000, ⟨[.nums .u64 5 (x1.set 0 (A.nb .or .u64 (A.nsh .shl .u64 (x1.getD 0 0) 8) x0))], 38, 1⟩), (1001, ⟨[.nums .u64 5 x2], 38, 1⟩), (8001, ⟨[.nums .u64 5 g27r0], 38, 1⟩)]⟩ (by kernel_rfl)).trans (g22R9 A n (g22Q A n [true, true, true, true, true, true] (g22T kk)) (A.nb .or .u64 (A.nsh .shr .u64 ((x1.set 0 (A.nb .or .u64 (A.nsh .shl .u64 (x1.getD 0 0) 8) x0)).getD 3 0) 60) (A.nsh .shl .u64 ((x1.set 0 (A.nb .or .u64 (A.nsh .shl .u64 (x1.getD 0 0) 8) x0)).getD 4 0) 4)) (x1.set 0 (A.nb .or .u64 (A.nsh .shl .u64 (x1.getD 0 0) 8) x0)) x2 g27r0)
  rw [h1] at h2
  have h3 := (g22Qn A n _ _ _).trans (g22J10_eq A n kk     ⟨[(40, (.v (.cell (.bool (A.nc .gtr (A.nb .or .u64 (A.nsh .shr .u64 ((x1.set 0 (A.nb .or .u64 (A.nsh .shl .u64 (x1.getD 0 0) 8) x0)).getD 3 0) 60) (A.nsh .shl .u64 ((x1.set 0 (A.nb .or .u64 (A.nsh .shl .u64 (x1.getD 0 0) 8) x0)).getD 4 0) 4)) 0))))), (39, (.v (.cell (.nat .u64 (A.nb .or .u64 (A.nsh .shr .u64 ((x1.set 0 (A.nb .or .u64 (A.nsh .shl .u64 (x1.getD 0 0) 8) x0)).getD 3 0) 60) (A.nsh .shl .u64 ((x1.set 0 (A.nb .or .u64 (A.nsh .shl .u64 (x1.getD 0 0) 8) x0)).getD 4 0) 4)))))), (2, (.v (.cell (.ptr 1000 0 none)))), (4, (.v (.cell (.ptr 1001 0 none)))), (6, (.v (.cell (.nat .u64 (A.nb .or .u64 (A.nsh .shr .u64 ((x1.set 0 (A.nb .or .u64 (A.nsh .shl .u64 (x1.getD 0 0) 8) x0)).getD 3 0) 60) (A.nsh .shl .u64 ((x1.set 0 (A.nb .or .u64 (A.nsh .shl .u64 (x1.getD 0 0) 8) x0)).getD 4 0) 4)))))), (7, (.v (.cell (.ptr 8001 0 none))))], [(1000, ⟨[.nums .u64 5 (x1.set 0 (A.nb .or .u64 (A.nsh .shl .u64 (x1.getD 0 0) 8) x0))], 38, 1⟩), (1001, ⟨[.nums .u64 5 x2], 38, 1⟩), (8001, ⟨[.nums .u64 5 g27r0], 38, 1⟩)]⟩ (A.nb .or .u64 (A.nsh .shr .u64 ((x1.set 0 (A.nb .or .u64 (A.nsh .shl .u64 (x1.getD 0 0) 8) x0)).getD 3 0) 60) (A.nsh .shl .u64 ((x1.set 0 (A.nb .or .u64 (A.nsh .shl .u64 (x1.getD 0 0) 8) x0)).getD 4 0) 4)) (x1.set 0 (A.nb .or .u64 (A.nsh .shl .u64 (x1.getD 0 0) 8) x0)) x2 g27r0 (by kernel_rfl))
  have h4 := (g22p11111011 A n _ _).trans h3
  have h5 := g22p1111101 A n (g22Q A n [true, true, true, true, true, true] (g22T kk)) ⟨[(40, (.v (.cell (.bool (A.nc .gtr (A.nb .or .u64 (A.nsh .shr .u64 ((x1.set 0 (A.nb .or .u64 (A.nsh .shl .u64 (x1.getD 0 0) 8) x0)).getD 3 0) 60) (A.nsh .shl .u64 ((x1.set 0 (A.nb .or .u64 (A.nsh .shl .u64 (x1.getD 0 0) 8) x0)).getD 4 0) 4)) 0))))), (39, (.v (.cell (.nat .u64 (A.nb .or .u64 (A.nsh .shr .u64 ((x1.set 0 (A.nb .or .u64 (A.nsh .shl .u64 (x1.getD 0 0) 8) x0)).getD 3 0) 60) (A.nsh .shl .u64 ((x1.set 0 (A.nb .or .u64 (A.nsh .shl .u64 (x1.getD 0 0) 8) x0)).getD 4 0) 4)))))), (2, (.v (.cell (.ptr 1000 0 none)))), (4, (.v (.cell (.ptr 1001 0 none)))), (6, (.v (.cell (.nat .u64 (A.nb .or .u64 (A.nsh .shr .u64 ((x1.set 0 (A.nb .or .u64 (A.nsh .shl .u64 (x1.getD 0 0) 8) x0)).getD 3 0) 60) (A.nsh .shl .u64 ((x1.set 0 (A.nb .or .u64 (A.nsh .shl .u64 (x1.getD 0 0) 8) x0)).getD 4 0) 4)))))), (7, (.v (.cell (.ptr 8001 0 none))))], [(1000, ⟨[.nums .u64 5 (x1.set 0 (A.nb .or .u64 (A.nsh .shl .u64 (x1.getD 0 0) 8) x0))], 38, 1⟩), (1001, ⟨[.nums .u64 5 x2], 38, 1⟩), (8001, ⟨[.nums .u64 5 g27r0], 38, 1⟩)]⟩ (A.nc .gtr (A.nb .or .u64 (A.nsh .shr .u64 ((x1.set 0 (A.nb .or .u64 (A.nsh .shl .u64 (x1.getD 0 0) 8) x0)).getD 3 0) 60) (A.nsh .shl .u64 ((x1.set 0 (A.nb .or .u64 (A.nsh .shl .u64 (x1.getD 0 0) 8) x0)).getD 4 0) 4)) 0) (by kernel_rfl)
  rw [h2, h4] at h5
  have h6 := (g22Qn A n _ _ _).trans h5
  have h7 := (g22p1111100 A n (g22Q A n [true, true, true, true, true, false, true] (g22Q A n [true, true, true, true, true, true] (g22T kk))) ⟨[(7, (.v (.cell (.ptr 8001 0 none)))), (38, (.v (.agg [.nums .u64 5 g27r0]))), (2, (.v (.cell (.ptr 1000 0 none)))), (4, (.v (.cell (.ptr 1001 0 none)))), (6, (.v (.cell (.nat .u64 (A.nb .or .u64 (A.nsh .shr .u64 ((x1.set 0 (A.nb .or .u64 (A.nsh .shl .u64 (x1.getD 0 0) 8) x0)).getD 3 0) 60) (A.nsh .shl .u64 ((x1.set 0 (A.nb .or .u64 (A.nsh .shl .u64 (x1.getD 0 0) 8) x0)).getD 4 0) 4))))))], [(8001, ⟨[.nums .u64 5 g27r0], 38, 1⟩), (1000, ⟨[.nums .u64 5 (x1.set 0 (A.nb .or .u64 (A.nsh .shl .u64 (x1.getD 0 0) 8) x0))], 38, 1⟩), (1001, ⟨[.nums .u64 5 x2], 38, 1⟩)]⟩ ⟨[(2, (.v (.cell (.ptr 1000 0 none)))), (4, (.v (.cell (.ptr 1001 0 none)))), (6, (.v (.cell (.nat .u64 (A.nb .or .u64 (A.nsh .shr .u64 ((x1.set 0 (A.nb .or .u64 (A.nsh .shl .u64 (x1.getD 0 0) 8) x0)).getD 3 0) 60) (A.nsh .shl .u64 ((x1.set 0 (A.nb .or .u64 (A.nsh .shl .u64 (x1.getD 0 0) 8) x0)).getD 4 0) 4)))))), (7, (.v (.cell (.ptr 8001 0 none))))], [(1000, ⟨[.nums .u64 5 (x1.set 0 (A.nb .or .u64 (A.nsh .shl .u64 (x1.getD 0 0) 8) x0))], 38, 1⟩), (1001, ⟨[.nums .u64 5 x2], 38, 1⟩), (8001, ⟨[.nums .u64 5 g27r0], 38, 1⟩)]⟩ (by kernel_rfl)).trans (g22R8 A n (g22Q A n [true, true, true, true, true, false, true] (g22Q A n [true, true, true, true, true, true] (g22T kk))) (A.nb .or .u64 (A.nsh .shr .u64 ((x1.set 0 (A.nb .or .u64 (A.nsh .shl .u64 (x1.getD 0 0) 8) x0)).getD 3 0) 60) (A.nsh .shl .u64 ((x1.set 0 (A.nb .or .u64 (A.nsh .shl .u64 (x1.getD 0 0) 8) x0)).getD 4 0) 4)) (x1.set 0 (A.nb .or .u64 (A.nsh .shl .u64 (x1.getD 0 0) 8) x0)) x2 g27r0)
  rw [h6] at h7
  have h8 := (g22p111110 A n _ _).trans h7
  have h9 := (g22p11111 A n _ _).trans h8
  have h10 := (g22Qn A n _ _ _).trans h9
  have h11 := (g22p11110 A n (g22Q A n [true, true, true, true, true] (g22T kk)) ⟨[(6, (.v (.cell (.nat .u64 (A.nb .or .u64 (A.nsh .shr .u64 ((x1.set 0 (A.nb .or .u64 (A.nsh .shl .u64 (x1.getD 0 0) 8) x0)).getD 3 0) 60) (A.nsh .shl .u64 ((x1.set 0 (A.nb .or .u64 (A.nsh .shl .u64 (x1.getD 0 0) 8) x0)).getD 4 0) 4)))))), (37, (.v (.cell (.nat .u64 (A.nb .or .u64 (A.nsh .shr .u64 ((x1.set 0 (A.nb .or .u64 (A.nsh .shl .u64 (x1.getD 0 0) 8) x0)).getD 3 0) 60) (A.nsh .shl .u64 ((x1.set 0 (A.nb .or .u64 (A.nsh .shl .u64 (x1.getD 0 0) 8) x0)).getD 4 0) 4)))))), (36, (.v (.cell (.nat .u64 (A.nsh .shl .u64 ((x1.set 0 (A.nb .or .u64 (A.nsh .shl .u64 (x1.getD 0 0) 8) x0)).getD 4 0) 4))))), (35, (.v (.cell (.nat .u64 ((x1.set 0 (A.nb .or .u64 (A.nsh .shl .u64 (x1.getD 0 0) 8) x0)).getD 4 0))))), (34, (.v (.cell (.ptr 1000 4 none)))), (33, (.v (.cell (.nat .u64 (A.nsh .shr .u64 ((x1.set 0 (A.nb .or .u64 (A.nsh .shl .u64 (x1.getD 0 0) 8) x0)).getD 3 0) 60))))), (32, (.v (.cell (.nat .u64 ((x1.set 0 (A.nb .or .u64 (A.nsh .shl .u64 (x1.getD 0 0) 8) x0)).getD 3 0))))), (31, (.v (.cell (.ptr 1000 3 none)))), (2, (.v (.cell (.ptr 1000 0 none)))), (4, (.v (.cell (.ptr 1001 0 none))))], [(1000, ⟨[.nums .u64 5 (x1.set 0 (A.nb .or .u64 (A.nsh .shl .u64 (x1.getD 0 0) 8) x0))], 38, 1⟩), (1001, ⟨[.nums .u64 5 x2], 38, 1⟩)]⟩ ⟨[(2, (.v (.cell (.ptr 1000 0 none)))), (4, (.v (.cell (.ptr 1001 0 none)))), (6, (.v (.cell (.nat .u64 (A.nb .or .u64 (A.nsh .shr .u64 ((x1.set 0 (A.nb .or .u64 (A.nsh .shl .u64 (x1.getD 0 0) 8) x0)).getD 3 0) 60) (A.nsh .shl .u64 ((x1.set 0 (A.nb .or .u64 (A.nsh .shl .u64 (x1.getD 0 0) 8) x0)).getD 4 0) 4))))))], [(1000, ⟨[.nums .u64 5 (x1.set 0 (A.nb .or .u64 (A.nsh .shl .u64 (x1.getD 0 0) 8) x0))], 38, 1⟩), (1001, ⟨[.nums .u64 5 x2], 38, 1⟩)]⟩ (by kernel_rfl)).trans (g22R7 A n (g22Q A n [true, true, true, true, true] (g22T kk)) (A.nb .or .u64 (A.nsh .shr .u64 ((x1.set 0 (A.nb .or .u64 (A.nsh .shl .u64 (x1.getD 0 0) 8) x0)).getD 3 0) 60) (A.nsh .shl .u64 ((x1.set 0 (A.nb .or .u64 (A.nsh .shl .u64 (x1.getD 0 0) 8) x0)).getD 4 0) 4)) (x1.set 0 (A.nb .or .u64 (A.nsh .shl .u64 (x1.getD 0 0) 8) x0)) x2)
  rw [h10] at h11
  have h12 := (g22p1111 A n _ _).trans h11
  have h13 := (g22Qn A n _ _ _).trans h12
  have h14 := (g22p1110 A n (g22Q A n [true, true, true, true] (g22T kk)) ⟨[(30, (.v (.cell (.ptr 1000 0 none)))), (29, (.v (.cell (.nat .u64 (A.nb .or .u64 (A.nsh .shl .u64 (x1.getD 0 0) 8) x0))))), (28, (.v (.cell (.nat .u64 x0)))), (27, (.v (.cell (.nat .u8 x0)))), (26, (.v (.cell (.nat .u64 (A.nsh .shl .u64 (x1.getD 0 0) 8))))), (25, (.v (.cell (.nat .u64 (x1.getD 0 0))))), (24, (.v (.cell (.ptr 1000 0 none)))), (1, (.v (.cell (.nat .u8 x0)))), (2, (.v (.cell (.ptr 1000 0 none)))), (4, (.v (.cell (.ptr 1001 0 none))))], [(1000, ⟨[.nums .u64 5 (x1.set 0 (A.nb .or .u64 (A.nsh .shl .u64 (x1.getD 0 0) 8) x0))], 38, 1⟩), (1001, ⟨[.nums .u64 5 x2], 38, 1⟩)]⟩ ⟨[(2, (.v (.cell (.ptr 1000 0 none)))), (4, (.v (.cell (.ptr 1001 0 none))))], [(1000, ⟨[.nums .u64 5 (x1.set 0 (A.nb .or .u64 (A.nsh .shl .u64 (x1.getD 0 0) 8) x0))], 38, 1⟩), (1001, ⟨[.nums .u64 5 x2], 38, 1⟩)]⟩ (by kernel_rfl)).trans (g22R6 A n (g22Q A n [true, true, true, true] (g22T kk)) (x1.set 0 (A.nb .or .u64 (A.nsh .shl .u64 (x1.getD 0 0) 8) x0)) x2)
  rw [h13] at h14
  have h15 := (g22p111 A n _ _).trans h14
  have h16 := (g22Qn A n _ _ _).trans h15
  have h17 := (g22p110 A n (g22Q A n [true, true, true] (g22T kk)) ⟨[(1, (.v (.cell (.nat .u8 x0)))), (2, (.v (.cell (.ptr 1000 0 none)))), (4, (.v (.cell (.ptr 1001 0 none))))], [(1000, ⟨[.nums .u64 5 x1], 38, 1⟩), (1001, ⟨[.nums .u64 5 x2], 38, 1⟩)]⟩ ⟨[(1, (.v (.cell (.nat .u8 x0)))), (2, (.v (.cell (.ptr 1000 0 none)))), (4, (.v (.cell (.ptr 1001 0 none))))], [(1000, ⟨[.nums .u64 5 x1], 38, 1⟩), (1001, ⟨[.nums .u64 5 x2], 38, 1⟩)]⟩ (by kernel_rfl)).trans (g22R5 A n (g22Q A n [true, true, true] (g22T kk)) x0 x1 x2)
  rw [h16] at h17
  have h18 := (g22p11 A n _ _).trans h17
  exact (codeD_first (s' := ⟨[(1, (.v (.cell (.nat .u8 x0)))), (2, (.v (.cell (.ptr 1000 0 none)))), (4, (.v (.cell (.ptr 1001 0 none))))], [(1000, ⟨[.nums .u64 5 x1], 38, 1⟩), (1001, ⟨[.nums .u64 5 x2], 38, 1⟩)]⟩) (id := 5) (by kernel_rfl) (h.trans (by kernel_rfl)) _).trans (h18.trans (by kernel_rfl))
def g22L2 {R : Type} (A : Ar) (n : Nat) (kk : AV → Heap → Option R)  : Nat → Nat → Int → List Nat → List Nat → Option R
  | 0, _, _, _, _ => none
  | m + 1, x0, x1, x2, x3 => match (generalizing := false) A.ic .gtr x1 0 with
  | true => g22J4 A n kk (g22L2 A n kk  m) x0 x1 x2 x3
  | false => g22J5 A n kk  x0 x2 x3
set_option maxRecDepth 100000 in
theorem g22L2_eq {R : Type} (A : Ar) (n : Nat) (kk : AV → Heap → Option R)    (m : Nat) (s : St) (x0 : Nat) (x1 : Int) (x2 : List Nat) (x3 : List Nat) (h : keep g22an 2 s = ⟨[(1, (.v (.cell (.nat .u8 x0)))), (2, (.v (.cell (.ptr 1000 0 none)))), (4, (.v (.cell (.ptr 1001 0 none)))), (5, (.v (.cell (.int .i64 x1))))], [(1000, ⟨[.nums .u64 5 x2], 38, 1⟩), (1001, ⟨[.nums .u64 5 x3], 38, 1⟩)]⟩) :
    g22V A n [true, false, true, false, false] m (blockK 0 (g22Q A n [true, true] (g22T kk))) s = g22L2 A n kk  m x0 x1 x2 x3 := by
  induction m generalizing s x0 x1 x2 x3 with
  | zero => rfl
  | succ m ih =>
    have h1 := (g22Qn A n _ _ _).trans (g22J4_eq A n kk m (g22L2 A n kk  m) ih  ⟨[(9, (.v (.cell (.bool (A.ic .gtr x1 0))))), (8, (.v (.cell (.int .i64 x1)))), (1, (.v (.cell (.nat .u8 x0)))), (2, (.v (.cell (.ptr 1000 0 none)))), (4, (.v (.cell (.ptr 1001 0 none)))), (5, (.v (.cell (.int .i64 x1))))], [(1000, ⟨[.nums .u64 5 x2], 38, 1⟩), (1001, ⟨[.nums .u64 5 x3], 38, 1⟩)]⟩ x0 x1 x2 x3 (by kernel_rfl))
    have h2 := (g22p10100010 A n _ _).trans h1
    have h3 := (g22Qn A n _ _ _).trans (g22J5_eq A n kk     ⟨[(9, (.v (.cell (.bool (A.ic .gtr x1 0))))), (8, (.v (.cell (.int .i64 x1)))), (1, (.v (.cell (.nat .u8 x0)))), (2, (.v (.cell (.ptr 1000 0 none)))), (4, (.v (.cell (.ptr 1001 0 none)))), (5, (.v (.cell (.int .i64 x1))))], [(1000, ⟨[.nums .u64 5 x2], 38, 1⟩), (1001, ⟨[.nums .u64 5 x3], 38, 1⟩)]⟩ x0 x2 x3 (by kernel_rfl))
    have h4 := (blockK_hit 0 _ _).trans h3
    have h5 := (g22We A n [true, false, true, false, false] m _ _ _).trans h4
    have h6 := (g22Qe A n [true, false, true, false, false, true] _ _ _).trans h5
    have h7 := (g22p10100011 A n _ _).trans h6
    have h8 := g22p1010001 A n (g22Q A n [true, false, true, false, false, true] (g22W A n [true, false, true, false, false] m (blockK 0 (g22Q A n [true, true] (g22T kk))))) ⟨[(9, (.v (.cell (.bool (A.ic .gtr x1 0))))), (8, (.v (.cell (.int .i64 x1)))), (1, (.v (.cell (.nat .u8 x0)))), (2, (.v (.cell (.ptr 1000 0 none)))), (4, (.v (.cell (.ptr 1001 0 none)))), (5, (.v (.cell (.int .i64 x1))))], [(1000, ⟨[.nums .u64 5 x2], 38, 1⟩), (1001, ⟨[.nums .u64 5 x3], 38, 1⟩)]⟩ (A.ic .gtr x1 0) (by kernel_rfl)
    rw [h2, h7] at h8
    have h9 := (g22Qn A n _ _ _).trans h8
    have h10 := (g22p1010000 A n (g22Q A n [true, false, true, false, false, false, true] (g22Q A n [true, false, true, false, false, true] (g22W A n [true, false, true, false, false] m (blockK 0 (g22Q A n [true, true] (g22T kk)))))) ⟨[(1, (.v (.cell (.nat .u8 x0)))), (2, (.v (.cell (.ptr 1000 0 none)))), (4, (.v (.cell (.ptr 1001 0 none)))), (5, (.v (.cell (.int .i64 x1))))], [(1000, ⟨[.nums .u64 5 x2], 38, 1⟩), (1001, ⟨[.nums .u64 5 x3], 38, 1⟩)]⟩ ⟨[(1, (.v (.cell (.nat .u8 x0)))), (2, (.v (.cell (.ptr 1000 0 none)))), (4, (.v (.cell (.ptr 1001 0 none)))), (5, (.v (.cell (.int .i64 x1))))], [(1000, ⟨[.nums .u64 5 x2], 38, 1⟩), (1001, ⟨[.nums .u64 5 x3], 38, 1⟩)]⟩ (by kernel_rfl)).trans (g22R2 A n (g22Q A n [true, false, true, false, false, false, true] (g22Q A n [true, false, true, false, false, true] (g22W A n [true, false, true, false, false] m (blockK 0 (g22Q A n [true, true] (g22T kk)))))) x0 x1 x2 x3)
    rw [h9] at h10
    have h11 := (g22p101000 A n _ _).trans h10
    have h12 := (g22p10100 A n _ _).trans h11
    exact (loopD_first (s' := ⟨[(1, (.v (.cell (.nat .u8 x0)))), (2, (.v (.cell (.ptr 1000 0 none)))), (4, (.v (.cell (.ptr 1001 0 none)))), (5, (.v (.cell (.int .i64 x1))))], [(1000, ⟨[.nums .u64 5 x2], 38, 1⟩), (1001, ⟨[.nums .u64 5 x3], 38, 1⟩)]⟩) (id := 2) (by kernel_rfl) (h.trans (by kernel_rfl)) _).trans ((g22Vs A n _ m _ _).trans (h12.trans (by kernel_rfl)))
def g22 {R : Type} (A : Ar) (n : Nat) (kk : AV → Heap → Option R) (a : List Nat) (b : Nat) : Option R :=
  g22L2 A n kk  n b 4 a [0, 0, 0, 0, 0]
set_option maxRecDepth 100000 in
theorem g22_eq {R : Type} (A : Ar) (n : Nat) (kk : AV → Heap → Option R) (a : List Nat) (b : Nat) :
    funD A gtys (orcOf [(27, g27o), (28, g28o), (29, g29o)]) g22an n (bodyOf Try.f22) g22res [(.v (.agg [.nums .u64 5 a])), (.v (.cell (.nat .u8 b)))] [] kk = g22 A n kk a b := by
  have h1 := (g22p1010 A n _ _).trans (g22L2_eq A n kk    n ⟨[(5, (.v (.cell (.int .i64 4)))), (1, (.v (.cell (.nat .u8 b)))), (2, (.v (.cell (.ptr 1000 0 none)))), (4, (.v (.cell (.ptr 1001 0 none))))], [(1000, ⟨[.nums .u64 5 a], 38, 1⟩), (1001, ⟨[.nums .u64 5 [0, 0, 0, 0, 0]], 38, 1⟩)]⟩ b 4 a [0, 0, 0, 0, 0] (by kernel_rfl))
  have h2 := (g22p101 A n _ _).trans h1
  have h3 := (g22Qn A n _ _ _).trans h2
  have h4 := (g22p100 A n (g22Q A n [true, false, true] (g22Q A n [true, true] (g22T kk))) ⟨[(4, (.v (.cell (.ptr 1001 0 none)))), (2, (.v (.cell (.ptr 1000 0 none)))), (0, (.v (.agg [.nums .u64 5 a]))), (1, (.v (.cell (.nat .u8 b))))], [(1001, ⟨[.nums .u64 5 [0, 0, 0, 0, 0]], 38, 1⟩), (1000, ⟨[.nums .u64 5 a], 38, 1⟩)]⟩ ⟨[(1, (.v (.cell (.nat .u8 b)))), (2, (.v (.cell (.ptr 1000 0 none)))), (4, (.v (.cell (.ptr 1001 0 none))))], [(1000, ⟨[.nums .u64 5 a], 38, 1⟩), (1001, ⟨[.nums .u64 5 [0, 0, 0, 0, 0]], 38, 1⟩)]⟩ (by kernel_rfl)).trans (g22R1 A n (g22Q A n [true, false, true] (g22Q A n [true, true] (g22T kk))) b a [0, 0, 0, 0, 0])
  rw [h3] at h4
  have h5 := (g22p10 A n _ _).trans h4
  have h6 := (g22p1 A n _ _).trans h5
  have h7 := (g22Qn A n _ _ _).trans h6
  have h8 := (g22p0 A n (g22Q A n [true] (g22T kk)) ⟨[(0, (.v (.agg [.nums .u64 5 a]))), (1, (.v (.cell (.nat .u8 b))))], []⟩ ⟨[(0, (.v (.agg [.nums .u64 5 a]))), (1, (.v (.cell (.nat .u8 b))))], []⟩ (by kernel_rfl)).trans (g22R0 A n (g22Q A n [true] (g22T kk)) a b)
  rw [h7] at h8
  have h9 := (g22p A n _ _).trans h8
  exact (show funD A gtys (orcOf [(27, g27o), (28, g28o), (29, g29o)]) g22an n (bodyOf Try.f22) g22res [(.v (.agg [.nums .u64 5 a])), (.v (.cell (.nat .u8 b)))] [] kk = g22D A n [] (g22T kk) ⟨[(0, (.v (.agg [.nums .u64 5 a]))), (1, (.v (.cell (.nat .u8 b))))], []⟩ from by kernel_rfl).trans (h9.trans (by kernel_rfl))
def g22is (o : Option AV) : Bool := match o with
  | some (.v (.agg [.nums .u64 5 _])) => true
  | _ => false
def g22g0 (o : Option AV) : List Nat := match o with
  | some (.v (.agg [.nums .u64 5 x])) => x
  | _ => []
theorem g22is_spec {o : Option AV} (h : g22is o = true) : o = some (.v (.agg [.nums .u64 5 (g22g0 o)])) := by
  unfold g22is at h
  split at h
  · rfl
  · cases h
def g22v (a : List Nat) (b : Nat) : Option AV := g22 realA (100000) (fun v _ => some v) a b
def g22ok (a : List Nat) (b : Nat) : Bool := g22is (g22v a b)
def g22r0 (a : List Nat) (b : Nat) : List Nat := g22g0 (g22v a b)
theorem g22ok_spec {a b} (h : g22ok a b = true) : g22v a b = some (.v (.agg [.nums .u64 5 (g22r0 a b)])) := g22is_spec h
def g22o (args : List AV) : Option (Bool × AV) := match args with
  | [.v (.agg [.nums .u64 n0 a]), .v (.cell (.nat .u8 b))] => some (Nat.beq n0 5 && (g22ok a b), .v (.agg [.nums .u64 5 (g22r0 a b)]))
  | _ => none
theorem g22O_sound : OSound Try.prog (orcOf [(27, g27o), (28, g28o), (29, g29o)]) := orc_sound fun f g hm args v hv => by
  simp only [List.mem_cons, List.not_mem_nil, or_false, Prod.mk.injEq] at hm
  rcases hm with ⟨rfl, rfl⟩ | ⟨rfl, rfl⟩ | ⟨rfl, rfl⟩
  · exact g27o_sound _ _ hv
  · exact g28o_sound _ _ hv
  · exact g29o_sound _ _ hv
theorem g22o_sound : ∀ args v, g22o args = some (true, v) → Fn1 Try.prog 22 args v := by
  intro args v h
  unfold g22o at h
  split at h
  · rename_i n0 a b
    simp only [Option.some.injEq, Prod.mk.injEq] at h
    obtain ⟨hc, h⟩ := h
    subst h
    · skip
      simp only [Bool.and_eq_true] at hc
      have en0 := beq_true hc.1
      subst en0
      replace hc := hc.2
      exact fn1_of mixed gtysOK g22O_sound (orc_det _) (an := g22an) (n := 100000) Try.func22 (c := bodyOf Try.f22) rfl (by kernel_rfl) Try.call22 (Nat.le_of_ble_eq_true rfl) (fun b => rfl) (fun _ => (g22_eq realA (100000) (fun v _ => some v) a b).trans (show g22v a b = _ from g22ok_spec hc))
  · cases h
/- (engrosser/scalar.number).bytes -/
def g23an : Ann := [(0, ([0], [])), (1, ([1], [1000])), (2, ([1, 3], [1000, 2000])), (3, ([1, 3, 7, 8], [1000, 2000])), (4, ([1, 3, 7, 8], [1000, 2000])), (5, ([1, 3, 4, 7, 8], [1000, 2000])), (6, ([1, 3, 7, 8], [1000, 2000])), (7, ([3], [2000]))]
def g23res : List ResultVar := [.tmp 2]
noncomputable def g23D {R : Type} (A : Ar) (n : Nat) (p : List Bool) (K : Ex → St → Option R) (s : St) : Option R := codeD A gtys (orcOf []) g23an n (sub (bodyOf Try.f23) p) K s
noncomputable def g23V {R : Type} (A : Ar) (n : Nat) (p : List Bool) (m : Nat) (K : Ex → St → Option R) (s : St) : Option R := loopD (fun K' s'' => codeD A gtys (orcOf []) g23an n (sub (bodyOf Try.f23) p) K' s'') m K s
noncomputable def g23Q {R : Type} (A : Ar) (n : Nat) (p : List Bool) (K : Ex → St → Option R) : Ex → St → Option R := seqC (g23D A n p K) K
noncomputable def g23W {R : Type} (A : Ar) (n : Nat) (p : List Bool) (m : Nat) (K : Ex → St → Option R) : Ex → St → Option R := seqC (g23V A n p m K) K
noncomputable def g23T {R : Type} (kk : AV → Heap → Option R) : Ex → St → Option R := finD gtys g23res kk
theorem g23Qn {R : Type} (A : Ar) (n : Nat) (p : List Bool) (K : Ex → St → Option R) (s : St) : g23Q A n p K .normal s = g23D A n p K s := rfl
theorem g23Qe {R : Type} (A : Ar) (n : Nat) (p : List Bool) (K : Ex → St → Option R) (i : Nat) (s : St) : g23Q A n p K (.exit i) s = K (.exit i) s := rfl
theorem g23Qr {R : Type} (A : Ar) (n : Nat) (p : List Bool) (K : Ex → St → Option R) (s : St) : g23Q A n p K .ret s = K .ret s := rfl
theorem g23Wn {R : Type} (A : Ar) (n : Nat) (p : List Bool) (m : Nat) (K : Ex → St → Option R) (s : St) : g23W A n p m K .normal s = g23V A n p m K s := rfl
theorem g23We {R : Type} (A : Ar) (n : Nat) (p : List Bool) (m : Nat) (K : Ex → St → Option R) (i : Nat) (s : St) : g23W A n p m K (.exit i) s = K (.exit i) s := rfl
theorem g23Wr {R : Type} (A : Ar) (n : Nat) (p : List Bool) (m : Nat) (K : Ex → St → Option R) (s : St) : g23W A n p m K .ret s = K .ret s := rfl
theorem g23Vs {R : Type} (A : Ar) (n : Nat) (p : List Bool) (m : Nat) (K : Ex → St → Option R) (s : St) : g23V A n p (m + 1) K s = g23D A n p (g23W A n p m K) s := rfl
theorem g23p {R : Type} (A : Ar) (n : Nat) (K : Ex → St → Option R) (s : St) : g23D A n [] K s = g23D A n [false] (g23Q A n [true] K) s := by kernel_rfl
theorem g23p0 {R : Type} (A : Ar) (n : Nat) (K : Ex → St → Option R) (s s' : St) (h : keep g23an 0 s = keep g23an 0 s') : g23D A n [false] K s = g23D A n [false] K s' := codeD_first (id := 0) (by kernel_rfl) h K
theorem g23p1 {R : Type} (A : Ar) (n : Nat) (K : Ex → St → Option R) (s : St) : g23D A n [true] K s = g23D A n [true, false] (g23Q A n [true, true] K) s := by kernel_rfl
theorem g23p10 {R : Type} (A : Ar) (n : Nat) (K : Ex → St → Option R) (s s' : St) (h : keep g23an 1 s = keep g23an 1 s') : g23D A n [true, false] K s = g23D A n [true, false] K s' := codeD_first (id := 1) (by kernel_rfl) h K
theorem g23p11 {R : Type} (A : Ar) (n : Nat) (K : Ex → St → Option R) (s : St) : g23D A n [true, true] K s = g23D A n [true, true, false] (g23Q A n [true, true, true] K) s := by kernel_rfl
theorem g23p110 {R : Type} (A : Ar) (n : Nat) (K : Ex → St → Option R) (s : St) : g23D A n [true, true, false] K s = g23D A n [true, true, false, false] (g23Q A n [true, true, false, true] K) s := by kernel_rfl
theorem g23p1100 {R : Type} (A : Ar) (n : Nat) (K : Ex → St → Option R) (s s' : St) (h : keep g23an 2 s = keep g23an 2 s') : g23D A n [true, true, false, false] K s = g23D A n [true, true, false, false] K s' := codeD_first (id := 2) (by kernel_rfl) h K
theorem g23p1101 {R : Type} (A : Ar) (n : Nat) (K : Ex → St → Option R) (s : St) : g23D A n [true, true, false, true] K s = g23D A n [true, true, false, true, false] (blockK 0 K) s := by kernel_rfl
theorem g23p11010 {R : Type} (A : Ar) (n : Nat) (K : Ex → St → Option R) (s : St) : g23D A n [true, true, false, true, false] K s = g23V A n [true, true, false, true, false, false] n K s := by kernel_rfl
theorem g23p110100 {R : Type} (A : Ar) (n : Nat) (K : Ex → St → Option R) (s : St) : g23D A n [true, true, false, true, false, false] K s = g23D A n [true, true, false, true, false, false, false] (g23Q A n [true, true, false, true, false, false, true] K) s := by kernel_rfl
theorem g23p1101000 {R : Type} (A : Ar) (n : Nat) (K : Ex → St → Option R) (s s' : St) (h : keep g23an 3 s = keep g23an 3 s') : g23D A n [true, true, false, true, false, false, false] K s = g23D A n [true, true, false, true, false, false, false] K s' := codeD_first (id := 3) (by kernel_rfl) h K
theorem g23p1101001 {R : Type} (A : Ar) (n : Nat) (K : Ex → St → Option R) (s : St) : g23D A n [true, true, false, true, false, false, true] K s = g23D A n [true, true, false, true, false, false, true, false] (g23Q A n [true, true, false, true, false, false, true, true] K) s := by kernel_rfl
theorem g23p11010010 {R : Type} (A : Ar) (n : Nat) (K : Ex → St → Option R) (s : St) (t : Bool) : ev s (.tmp 9) = some (.v (.cell (.bool t))) → g23D A n [true, true, false, true, false, false, true, false] K s = (match t with
    | true => g23D A n [true, true, false, true, false, false, true, false, false] K s
    | false => g23D A n [true, true, false, true, false, false, true, false, true] K s) := codeD_cond t
theorem g23p110100100 {R : Type} (A : Ar) (n : Nat) (K : Ex → St → Option R) (s : St) : g23D A n [true, true, false, true, false, false, true, false, false] K s = K .normal s := by kernel_rfl
theorem g23p110100101 {R : Type} (A : Ar) (n : Nat) (K : Ex → St → Option R) (s : St) : g23D A n [true, true, false, true, false, false, true, false, true] K s = K (.exit 0) s := by kernel_rfl
theorem g23p11010011 {R : Type} (A : Ar) (n : Nat) (K : Ex → St → Option R) (s : St) : g23D A n [true, true, false, true, false, false, true, true] K s = g23D A n [true, true, false, true, false, false, true, true, false] (g23Q A n [true, true, false, true, false, false, true, true, true] K) s := by kernel_rfl
theorem g23p110100110 {R : Type} (A : Ar) (n : Nat) (K : Ex → St → Option R) (s : St) : g23D A n [true, true, false, true, false, false, true, true, false] K s = g23D A n [true, true, false, true, false, false, true, true, false, false] (blockK 1 K) s := by kernel_rfl
theorem g23p1101001100 {R : Type} (A : Ar) (n : Nat) (K : Ex → St → Option R) (s : St) : g23D A n [true, true, false, true, false, false, true, true, false, false] K s = g23D A n [true, true, false, true, false, false, true, true, false, false, false] (g23Q A n [true, true, false, true, false, false, true, true, false, false, true] K) s := by kernel_rfl
theorem g23p11010011000 {R : Type} (A : Ar) (n : Nat) (K : Ex → St → Option R) (s s' : St) (h : keep g23an 4 s = keep g23an 4 s') : g23D A n [true, true, false, true, false, false, true, true, false, false, false] K s = g23D A n [true, true, false, true, false, false, true, true, false, false, false] K s' := codeD_first (id := 4) (by kernel_rfl) h K
theorem g23p11010011001 {R : Type} (A : Ar) (n : Nat) (K : Ex → St → Option R) (s s' : St) (h : keep g23an 5 s = keep g23an 5 s') : g23D A n [true, true, false, true, false, false, true, true, false, false, true] K s = g23D A n [true, true, false, true, false, false, true, true, false, false, true] K s' := codeD_first (id := 5) (by kernel_rfl) h K
theorem g23p110100111 {R : Type} (A : Ar) (n : Nat) (K : Ex → St → Option R) (s s' : St) (h : keep g23an 6 s = keep g23an 6 s') : g23D A n [true, true, false, true, false, false, true, true, true] K s = g23D A n [true, true, false, true, false, false, true, true, true] K s' := codeD_first (id := 6) (by kernel_rfl) h K
theorem g23p111 {R : Type} (A : Ar) (n : Nat) (K : Ex → St → Option R) (s : St) : g23D A n [true, true, true] K s = g23D A n [true, true, true, false] (g23Q A n [true, true, true, true] K) s := by kernel_rfl
theorem g23p1110 {R : Type} (A : Ar) (n : Nat) (K : Ex → St → Option R) (s s' : St) (h : keep g23an 7 s = keep g23an 7 s') : g23D A n [true, true, true, false] K s = g23D A n [true, true, true, false] K s' := codeD_first (id := 7) (by kernel_rfl) h K
theorem g23p1111 {R : Type} (A : Ar) (n : Nat) (K : Ex → St → Option R) (s : St) : g23D A n [true, true, true, true] K s = K .ret s := by kernel_rfl
theorem g23R4 {R : Type} (A : Ar) (n : Nat) (K : Ex → St → Option R) (x0 : Nat) (x1 : Int) (x2 : Int) (x3 : List Nat) (x4 : Nat) (x5 : List Nat) : g23D A n [true, true, false, true, false, false, true, true, false, false, false] K ⟨[(1, (.v (.cell (.ptr 1000 0 none)))), (3, (.v (.cell (.sl 2000 none x0 1)))), (7, (.v (.cell (.int .i64 x1)))), (8, (.v (.cell (.int .i64 x2))))], [(1000, ⟨[.nums .u64 5 x3], 38, 1⟩), (2000, ⟨[.nums .u8 x4 x5], 5, 2⟩)]⟩ = K .normal ⟨[(4, (.v (.cell (.int .i64 x2)))), (10, (.v (.cell (.int .i64 x2)))), (1, (.v (.cell (.ptr 1000 0 none)))), (3, (.v (.cell (.sl 2000 none x0 1)))), (7, (.v (.cell (.int .i64 x1)))), (8, (.v (.cell (.int .i64 x2))))], [(1000, ⟨[.nums .u64 5 x3], 38, 1⟩), (2000, ⟨[.nums .u8 x4 x5], 5, 2⟩)]⟩ := by kernel_rfl
theorem g23R5 {R : Type} (A : Ar) (n : Nat) (K : Ex → St → Option R) (x0 : Nat) (x1 : Int) (x2 : Int) (x3 : Int) (x4 : List Nat) (x5 : Nat) (x6 : List Nat) : g23D A n [true, true, false, true, false, false, true, true, false, false, true] K ⟨[(1, (.v (.cell (.ptr 1000 0 none)))), (3, (.v (.cell (.sl 2000 none x0 1)))), (4, (.v (.cell (.int .i64 x1)))), (7, (.v (.cell (.int .i64 x2)))), (8, (.v (.cell (.int .i64 x3))))], [(1000, ⟨[.nums .u64 5 x4], 38, 1⟩), (2000, ⟨[.nums .u8 x5 x6], 5, 2⟩)]⟩ = match (generalizing := false) A.neg (A.ib .quo .i64 x1 8) with
    | true => none
    | false => match (generalizing := false) A.lt (A.toN (A.ib .quo .i64 x1 8)) 5 with
      | true => match (generalizing := false) A.neg (A.ib .mul .i64 8 (A.ib .rem .i64 x1 8)) with
        | true => none
        | false => match (generalizing := false) A.neg x1 with
          | true => none
          | false => match (generalizing := false) A.lt (A.toN x1) x0 with
            | true => K .normal ⟨[(22, (.v (.cell (.ptr 2000 0 (some ⟨A.toN x1, 1, x0, A.toN x1, 0, 1⟩))))), (21, (.v (.cell (.nat .u8 (A.n2n .u8 (A.nsh .shr .u64 (x4.getD (A.toN (A.ib .quo .i64 x1 8)) 0) (A.toN (A.ib .mul .i64 8 (A.ib .rem .i64 x1 8))))))))), (20, (.v (.cell (.nat .u64 (A.nsh .shr .u64 (x4.getD (A.toN (A.ib .quo .i64 x1 8)) 0) (A.toN (A.ib .mul .i64 8 (A.ib .rem .i64 x1 8)))))))), (19, (.v (.cell (.int .i64 (A.ib .mul .i64 8 (A.ib .rem .i64 x1 8)))))), (18, (.v (.cell (.int .i64 (A.ib .rem .i64 x1 8))))), (17, (.v (.cell (.int .i64 x1)))), (16, (.v (.cell (.nat .u64 (x4.getD (A.toN (A.ib .quo .i64 x1 8)) 0))))), (15, (.v (.cell (.ptr 1000 0 (some ⟨A.toN (A.ib .quo .i64 x1 8), 1, 5, 0, 0, 0⟩))))), (14, (.v (.cell (.int .i64 (A.ib .quo .i64 x1 8))))), (13, (.v (.cell (.int .i64 x1)))), (12, (.v (.cell (.int .i64 x1)))), (11, (.v (.cell (.sl 2000 none x0 1)))), (1, (.v (.cell (.ptr 1000 0 none)))), (3, (.v (.cell (.sl 2000 none x0 1)))), (4, (.v (.cell (.int .i64 x1)))), (7, (.v (.cell (.int .i64 x2)))), (8, (.v (.cell (.int .i64 x3))))], [(1000, ⟨[.nums .u64 5 x4], 38, 1⟩), (2000, ⟨[.nums .u8 x5 (x6.set (A.toN x1) (A.n2n .u8 (A.nsh .shr .u64 (x4.getD (A.toN (A.ib .quo .i64 x1 8)) 0) (A.toN (A.ib .mul .i64 8 (A.ib .rem .i64 x1 8))))))], 5, 2⟩)]⟩
            | false => none
      | false => none := by kernel_rfl
theorem g23R6 {R : Type} (A : Ar) (n : Nat) (K : Ex → St → Option R) (x0 : Nat) (x1 : Int) (x2 : Int) (x3 : List Nat) (x4 : Nat) (x5 : List Nat) : g23D A n [true, true, false, true, false, false, true, true, true] K ⟨[(1, (.v (.cell (.ptr 1000 0 none)))), (3, (.v (.cell (.sl 2000 none x0 1)))), (7, (.v (.cell (.int .i64 x1)))), (8, (.v (.cell (.int .i64 x2))))], [(1000, ⟨[.nums .u64 5 x3], 38, 1⟩), (2000, ⟨[.nums .u8 x4 x5], 5, 2⟩)]⟩ = K .normal ⟨[(8, (.v (.cell (.int .i64 (A.ib .add .i64 x2 1))))), (23, (.v (.cell (.int .i64 (A.ib .add .i64 x2 1))))), (1, (.v (.cell (.ptr 1000 0 none)))), (3, (.v (.cell (.sl 2000 none x0 1)))), (7, (.v (.cell (.int .i64 x1)))), (8, (.v (.cell (.int .i64 x2))))], [(1000, ⟨[.nums .u64 5 x3], 38, 1⟩), (2000, ⟨[.nums .u8 x4 x5], 5, 2⟩)]⟩ := by kernel_rfl
theorem g23R3 {R : Type} (A : Ar) (n : Nat) (K : Ex → St → Option R) (x0 : Nat) (x1 : Int) (x2 : Int) (x3 : List Nat) (x4 : Nat) (x5 : List Nat) : g23D A n [true, true, false, true, false, false, false] K ⟨[(1, (.v (.cell (.ptr 1000 0 none)))), (3, (.v (.cell (.sl 2000 none x0 1)))), (7, (.v (.cell (.int .i64 x1)))), (8, (.v (.cell (.int .i64 x2))))], [(1000, ⟨[.nums .u64 5 x3], 38, 1⟩), (2000, ⟨[.nums .u8 x4 x5], 5, 2⟩)]⟩ = K .normal ⟨[(9, (.v (.cell (.bool (A.ic .lss x2 x1))))), (1, (.v (.cell (.ptr 1000 0 none)))), (3, (.v (.cell (.sl 2000 none x0 1)))), (7, (.v (.cell (.int .i64 x1)))), (8, (.v (.cell (.int .i64 x2))))], [(1000, ⟨[.nums .u64 5 x3], 38, 1⟩), (2000, ⟨[.nums .u8 x4 x5], 5, 2⟩)]⟩ := by kernel_rfl
theorem g23R7 {R : Type} (A : Ar) (n : Nat) (K : Ex → St → Option R) (x0 : Nat) (x1 : Nat) (x2 : List Nat) : g23D A n [true, true, true, false] K ⟨[(3, (.v (.cell (.sl 2000 none x0 1))))], [(2000, ⟨[.nums .u8 x1 x2], 5, 2⟩)]⟩ = K .normal ⟨[(2, (.v (.cell (.str (x2.take x0))))), (25, (.v (.cell (.str (x2.take x0))))), (24, (.v (.cell (.sl 2000 none x0 1)))), (3, (.v (.cell (.sl 2000 none x0 1))))], [(2000, ⟨[.nums .u8 x1 x2], 5, 2⟩)]⟩ := by kernel_rfl
theorem g23R0 {R : Type} (A : Ar) (n : Nat) (K : Ex → St → Option R) (x0 : List Nat) : g23D A n [false] K ⟨[(0, (.v (.agg [.nums .u64 5 x0])))], []⟩ = K .normal ⟨[(2, (.v (.cell (.str [])))), (1, (.v (.cell (.ptr 1000 0 none)))), (0, (.v (.agg [.nums .u64 5 x0])))], [(1000, ⟨[.nums .u64 5 x0], 38, 1⟩)]⟩ := by kernel_rfl
theorem g23R1 {R : Type} (A : Ar) (n : Nat) (K : Ex → St → Option R) (x0 : List Nat) : g23D A n [true, false] K ⟨[(1, (.v (.cell (.ptr 1000 0 none))))], [(1000, ⟨[.nums .u64 5 x0], 38, 1⟩)]⟩ = match (generalizing := false) A.le 32 32 with
    | true => match (generalizing := false) A.le 32 140737488355328 with
      | true => K .normal ⟨[(3, (.v (.cell (.sl 2000 none 32 1)))), (5, (.v (.cell (.sl 2000 none 32 1)))), (1, (.v (.cell (.ptr 1000 0 none))))], [(2000, ⟨[.nums .u8 32 (List.replicate 32 0)], 5, 2⟩), (1000, ⟨[.nums .u64 5 x0], 38, 1⟩)]⟩
      | false => none
    | false => none := by kernel_rfl
theorem g23R2 {R : Type} (A : Ar) (n : Nat) (K : Ex → St → Option R) (x0 : Nat) (x1 : List Nat) (x2 : Nat) (x3 : List Nat) : g23D A n [true, true, false, false] K ⟨[(1, (.v (.cell (.ptr 1000 0 none)))), (3, (.v (.cell (.sl 2000 none x0 1))))], [(1000, ⟨[.nums .u64 5 x1], 38, 1⟩), (2000, ⟨[.nums .u8 x2 x3], 5, 2⟩)]⟩ = K .normal ⟨[(8, (.v (.cell (.int .i64 0)))), (7, (.v (.cell (.int .i64 (A.ofN x0))))), (6, (.v (.cell (.sl 2000 none x0 1)))), (1, (.v (.cell (.ptr 1000 0 none)))), (3, (.v (.cell (.sl 2000 none x0 1))))], [(1000, ⟨[.nums .u64 5 x1], 38, 1⟩), (2000, ⟨[.nums .u8 x2 x3], 5, 2⟩)]⟩ := by kernel_rfl
def g23J4 {R : Type} (A : Ar) (n : Nat) (kk : AV → Heap → Option R) (lg23L3 : Nat → Int → Int → List Nat → Nat → List Nat → Option R) (x0 : Nat) (x1 : Int) (x2 : Int) (x3 : List Nat) (x4 : Nat) (x5 : List Nat) : Option R :=
  match (generalizing := false) A.neg (A.ib .quo .i64 x2 8) with
  | true => none
  | false => match (generalizing := false) A.lt (A.toN (A.ib .quo .i64 x2 8)) 5 with
    | true => match (generalizing := false) A.neg (A.ib .mul .i64 8 (A.ib .rem .i64 x2 8)) with
      | true => none
      | false => match (generalizing := false) A.neg x2 with
        | true => none
        | false => match (generalizing := false) A.lt (A.toN x2) x0 with
          | true => lg23L3 x0 x1 (A.ib .add .i64 x2 1) x3 x4 (x5.set (A.toN x2) (A.n2n .u8 (A.nsh .shr .u64 (x3.getD (A.toN (A.ib .quo .i64 x2 8)) 0) (A.toN (A.ib .mul .i64 8 (A.ib .rem .i64 x2 8))))))
          | false => none
    | false => none
set_option maxRecDepth 100000 in
theorem g23J4_eq {R : Type} (A : Ar) (n : Nat) (kk : AV → Heap → Option R) (m0 : Nat) (lg23L3 : Nat → Int → Int → List Nat → Nat → List Nat → Option R) 
    (hg23L3 : ∀ (s : St) (x0 : Nat) (x1 : Int) (x2 : Int) (x3 : List Nat) (x4 : Nat) (x5 : List Nat), keep g23an 3 s = ⟨[(1, (.v (.cell (.ptr 1000 0 none)))), (3, (.v (.cell (.sl 2000 none x0 1)))), (7, (.v (.cell (.int .i64 x1)))), (8, (.v (.cell (.int .i64 x2))))], [(1000, ⟨[.nums .u64 5 x3], 38, 1⟩), (2000, ⟨[.nums .u8 x4 x5], 5, 2⟩)]⟩ → g23V A n [true, true, false, true, false, false] m0 (blockK 0 (g23Q A n [true, true, true] (g23T kk))) s = lg23L3 x0 x1 x2 x3 x4 x5) (s : St) (x0 : Nat) (x1 : Int) (x2 : Int) (x3 : List Nat) (x4 : Nat) (x5 : List Nat) (h : keep g23an 4 s = ⟨[(1, (.v (.cell (.ptr 1000 0 none)))), (3, (.v (.cell (.sl 2000 none x0 1)))), (7, (.v (.cell (.int .i64 x1)))), (8, (.v (.cell (.int .i64 x2))))], [(1000, ⟨[.nums .u64 5 x3], 38, 1⟩), (2000, ⟨[.nums .u8 x4 x5], 5, 2⟩)]⟩) :
    g23D A n [true, true, false, true, false, false, true, true] (g23W A n [true, true, false, true, false, false] m0 (blockK 0 (g23Q A n [true, true, true] (g23T kk)))) s = g23J4 A n kk lg23L3 x0 x1 x2 x3 x4 x5 := by
  have h1 := (g23Wn A n _ _ _ _).trans (hg23L3 ⟨[(8, (.v (.cell (.int .i64 (A.ib .add .i64 x2 1))))), (23, (.v (.cell (.int .i64 (A.ib .add .i64 x2 1))))), (1, (.v (.cell (.ptr 1000 0 none)))), (3, (.v (.cell (.sl 2000 none x0 1)))), (7, (.v (.cell (.int .i64 x1)))), (8, (.v (.cell (.int .i64 x2))))], [(1000, ⟨[.nums .u64 5 x3], 38, 1⟩), (2000, ⟨[.nums .u8 x4 (x5.set (A.toN x2) (A.n2n .u8 (A.nsh .shr .u64 (x3.getD (A.toN (A.ib .quo .i64 x2 8)) 0) (A.toN (A.ib .mul .i64 8 (A.ib .rem .i64 x2 8))))))], 5, 2⟩)]⟩ x0 x1 (A.ib .add .i64 x2 1) x3 x4 (x5.set (A.toN x2) (A.n2n .u8 (A.nsh .shr .u64 (x3.getD (A.toN (A.ib .quo .i64 x2 8)) 0) (A.toN (A.ib .mul .i64 8 (A.ib .rem .i64 x2 8)))))) (by kernel_rfl))
  have h2 := (g23p110100111 A n (g23W A n [true, true, false, true, false, false] m0 (blockK 0 (g23Q A n [true, true, true] (g23T kk)))) ⟨[(22, (.v (.cell (.ptr 2000 0 (some ⟨A.toN x2, 1, x0, A.toN x2, 0, 1⟩))))), (21, (.v (.cell (.nat .u8 (A.n2n .u8 (A.nsh .shr .u64 (x3.getD (A.toN (A.ib .quo .i64 x2 8)) 0) (A.toN (A.ib .mul .i64 8 (A.ib .rem .i64 x2 8))))))))), (20, (.v (.cell (.nat .u64 (A.nsh .shr .u64 (x3.getD (A.toN (A.ib .quo .i64 x2 8)) 0) (A.toN (A.ib .mul .i64 8 (A.ib .rem .i64 x2 8)))))))), (19, (.v (.cell (.int .i64 (A.ib .mul .i64 8 (A.ib .rem .i64 x2 8)))))), (18, (.v (.cell (.int .i64 (A.ib .rem .i64 x2 8))))), (17, (.v (.cell (.int .i64 x2)))), (16, (.v (.cell (.nat .u64 (x3.getD (A.toN (A.ib .quo .i64 x2 8)) 0))))), (15, (.v (.cell (.ptr 1000 0 (some ⟨A.toN (A.ib .quo .i64 x2 8), 1, 5, 0, 0, 0⟩))))), (14, (.v (.cell (.int .i64 (A.ib .quo .i64 x2 8))))), (13, (.v (.cell (.int .i64 x2)))), (12, (.v (.cell (.int .i64 x2)))), (11, (.v (.cell (.sl 2000 none x0 1)))), (1, (.v (.cell (.ptr 1000 0 none)))), (3, (.v (.cell (.sl 2000 none x0 1)))), (4, (.v (.cell (.int .i64 x2)))), (7, (.v (.cell (.int .i64 x1)))), (8, (.v (.cell (.int .i64 x2))))], [(1000, ⟨[.nums .u64 5 x3], 38, 1⟩), (2000, ⟨[.nums .u8 x4 (x5.set (A.toN x2) (A.n2n .u8 (A.nsh .shr .u64 (x3.getD (A.toN (A.ib .quo .i64 x2 8)) 0) (A.toN (A.ib .mul .i64 8 (A.ib .rem .i64 x2 8))))))], 5, 2⟩)]⟩ ⟨[(1, (.v (.cell (.ptr 1000 0 none)))), (3, (.v (.cell (.sl 2000 none x0 1)))), (7, (.v (.cell (.int .i64 x1)))), (8, (.v (.cell (.int .i64 x2))))], [(1000, ⟨[.nums .u64 5 x3], 38, 1⟩), (2000, ⟨[.nums .u8 x4 (x5.set (A.toN x2) (A.n2n .u8 (A.nsh .shr .u64 (x3.getD (A.toN (A.ib .quo .i64 x2 8)) 0) (A.toN (A.ib .mul .i64 8 (A.ib .rem .i64 x2 8))))))], 5, 2⟩)]⟩ (by kernel_rfl)).trans (g23R6 A n (g23W A n [true, true, false, true, false, false] m0 (blockK 0 (g23Q A n [true, true, true] (g23T kk)))) x0 x1 x2 x3 x4 (x5.set (A.toN x2) (A.n2n .u8 (A.nsh .shr .u64 (x3.getD (A.toN (A.ib .quo .i64 x2 8)) 0) (A.toN (A.ib .mul .i64 8 (A.ib .rem .i64 x2 8)))))))
  rw [h1] at h2
  have h3 := (g23Qn A n _ _ _).trans h2
  have h4 := (blockK_n 1 _ _).trans h3
  have h5 := (g23p11010011001 A n (blockK 1 (g23Q A n [true, true, false, true, false, false, true, true, true] (g23W A n [true, true, false, true, false, false] m0 (blockK 0 (g23Q A n [true, true, true] (g23T kk)))))) ⟨[(4, (.v (.cell (.int .i64 x2)))), (10, (.v (.cell (.int .i64 x2)))), (1, (.v (.cell (.ptr 1000 0 none)))), (3, (.v (.cell (.sl 2000 none x0 1)))), (7, (.v (.cell (.int .i64 x1)))), (8, (.v (.cell (.int .i64 x2))))], [(1000, ⟨[.nums .u64 5 x3], 38, 1⟩), (2000, ⟨[.nums .u8 x4 x5], 5, 2⟩)]⟩ ⟨[(1, (.v (.cell (.ptr 1000 0 none)))), (3, (.v (.cell (.sl 2000 none x0 1)))), (4, (.v (.cell (.int .i64 x2)))), (7, (.v (.cell (.int .i64 x1)))), (8, (.v (.cell (.int .i64 x2))))], [(1000, ⟨[.nums .u64 5 x3], 38, 1⟩), (2000, ⟨[.nums .u8 x4 x5], 5, 2⟩)]⟩ (by kernel_rfl)).trans (g23R5 A n (blockK 1 (g23Q A n [true, true, false, true, false, false, true, true, true] (g23W A n [true, true, false, true, false, false] m0 (blockK 0 (g23Q A n [true, true, true] (g23T kk)))))) x0 x2 x1 x2 x3 x4 x5)
  rw [h4] at h5
  have h6 := (g23Qn A n _ _ _).trans h5
  have h7 := (g23p11010011000 A n (g23Q A n [true, true, false, true, false, false, true, true, false, false, true] (blockK 1 (g23Q A n [true, true, false, true, false, false, true, true, true] (g23W A n [true, true, false, true, false, false] m0 (blockK 0 (g23Q A n [true, true, true] (g23T kk))))))) ⟨[(1, (.v (.cell (.ptr 1000 0 none)))), (3, (.v (.cell (.sl 2000 none x0 1)))), (7, (.v (.cell (.int .i64 x1)))), (8, (.v (.cell (.int .i64 x2))))], [(1000, ⟨[.nums .u64 5 x3], 38, 1⟩), (2000, ⟨[.nums .u8 x4 x5], 5, 2⟩)]⟩ ⟨[(1, (.v (.cell (.ptr 1000 0 none)))), (3, (.v (.cell (.sl 2000 none x0 1)))), (7, (.v (.cell (.int .i64 x1)))), (8, (.v (.cell (.int .i64 x2))))], [(1000, ⟨[.nums .u64 5 x3], 38, 1⟩), (2000, ⟨[.nums .u8 x4 x5], 5, 2⟩)]⟩ (by kernel_rfl)).trans (g23R4 A n (g23Q A n [true, true, false, true, false, false, true, true, false, false, true] (blockK 1 (g23Q A n [true, true, false, true, false, false, true, true, true] (g23W A n [true, true, false, true, false, false] m0 (blockK 0 (g23Q A n [true, true, true] (g23T kk))))))) x0 x1 x2 x3 x4 x5)
  rw [h6] at h7
  have h8 := (g23p1101001100 A n _ _).trans h7
  have h9 := (g23p110100110 A n _ _).trans h8
  have h10 := (g23p11010011 A n _ _).trans h9
  exact (codeD_first (s' := ⟨[(1, (.v (.cell (.ptr 1000 0 none)))), (3, (.v (.cell (.sl 2000 none x0 1)))), (7, (.v (.cell (.int .i64 x1)))), (8, (.v (.cell (.int .i64 x2))))], [(1000, ⟨[.nums .u64 5 x3], 38, 1⟩), (2000, ⟨[.nums .u8 x4 x5], 5, 2⟩)]⟩) (id := 4) (by kernel_rfl) (h.trans (by kernel_rfl)) _).trans (h10.trans (by kernel_rfl))
def g23L3 {R : Type} (A : Ar) (n : Nat) (kk : AV → Heap → Option R)  : Nat → Nat → Int → Int → List Nat → Nat → List Nat → Option R
  | 0, _, _, _, _, _, _ => none
  | m + 1, x0, x1, x2, x3, x4, x5 => match (generalizing := false) A.ic .lss x2 x1 with
  | true => g23J4 A n kk (g23L3 A n kk  m) x0 x1 x2 x3 x4 x5
  | false => kk (.v (.cell (.str (x5.take x0)))) [(2000, ⟨[.nums .u8 x4 x5], 5, 2⟩)]
set_option maxRecDepth 100000 in
theorem g23L3_eq {R : Type} (A : Ar) (n : Nat) (kk : AV → Heap → Option R)    (m : Nat) (s : St) (x0 : Nat) (x1 : Int) (x2 : Int) (x3 : List Nat) (x4 : Nat) (x5 : List Nat) (h : keep g23an 3 s = ⟨[(1, (.v (.cell (.ptr 1000 0 none)))), (3, (.v (.cell (.sl 2000 none x0 1)))), (7, (.v (.cell (.int .i64 x1)))), (8, (.v (.cell (.int .i64 x2))))], [(1000, ⟨[.nums .u64 5 x3], 38, 1⟩), (2000, ⟨[.nums .u8 x4 x5], 5, 2⟩)]⟩) :
    g23V A n [true, true, false, true, false, false] m (blockK 0 (g23Q A n [true, true, true] (g23T kk))) s = g23L3 A n kk  m x0 x1 x2 x3 x4 x5 := by
  induction m generalizing s x0 x1 x2 x3 x4 x5 with
  | zero => rfl
  | succ m ih =>
    have h1 := (g23Qn A n _ _ _).trans (g23J4_eq A n kk m (g23L3 A n kk  m) ih  ⟨[(9, (.v (.cell (.bool (A.ic .lss x2 x1))))), (1, (.v (.cell (.ptr 1000 0 none)))), (3, (.v (.cell (.sl 2000 none x0 1)))), (7, (.v (.cell (.int .i64 x1)))), (8, (.v (.cell (.int .i64 x2))))], [(1000, ⟨[.nums .u64 5 x3], 38, 1⟩), (2000, ⟨[.nums .u8 x4 x5], 5, 2⟩)]⟩ x0 x1 x2 x3 x4 x5 (by kernel_rfl))
    have h2 := (g23p110100100 A n _ _).trans h1
    have h3 : (g23T kk) .ret ⟨[(2, (.v (.cell (.str (x5.take x0))))), (25, (.v (.cell (.str (x5.take x0))))), (24, (.v (.cell (.sl 2000 none x0 1)))), (3, (.v (.cell (.sl 2000 none x0 1))))], [(2000, ⟨[.nums .u8 x4 x5], 5, 2⟩)]⟩ = kk (.v (.cell (.str (x5.take x0)))) [(2000, ⟨[.nums .u8 x4 x5], 5, 2⟩)] := by kernel_rfl
    have h4 := (g23p1111 A n _ _).trans h3
    have h5 := (g23Qn A n _ _ _).trans h4
    have h6 := (g23p1110 A n (g23Q A n [true, true, true, true] (g23T kk)) ⟨[(9, (.v (.cell (.bool (A.ic .lss x2 x1))))), (1, (.v (.cell (.ptr 1000 0 none)))), (3, (.v (.cell (.sl 2000 none x0 1)))), (7, (.v (.cell (.int .i64 x1)))), (8, (.v (.cell (.int .i64 x2))))], [(1000, ⟨[.nums .u64 5 x3], 38, 1⟩), (2000, ⟨[.nums .u8 x4 x5], 5, 2⟩)]⟩ ⟨[(3, (.v (.cell (.sl 2000 none x0 1))))], [(2000, ⟨[.nums .u8 x4 x5], 5, 2⟩)]⟩ (by kernel_rfl)).trans (g23R7 A n (g23Q A n [true, true, true, true] (g23T kk)) x0 x4 x5)
    rw [h5] at h6
    have h7 := (g23p111 A n _ _).trans h6
    have h8 := (g23Qn A n _ _ _).trans h7
    have h9 := (blockK_hit 0 _ _).trans h8
    have h10 := (g23We A n [true, true, false, true, false, false] m _ _ _).trans h9
    have h11 := (g23Qe A n [true, true, false, true, false, false, true, true] _ _ _).trans h10
    have h12 := (g23p110100101 A n _ _).trans h11
    have h13 := g23p11010010 A n (g23Q A n [true, true, false, true, false, false, true, true] (g23W A n [true, true, false, true, false, false] m (blockK 0 (g23Q A n [true, true, true] (g23T kk))))) ⟨[(9, (.v (.cell (.bool (A.ic .lss x2 x1))))), (1, (.v (.cell (.ptr 1000 0 none)))), (3, (.v (.cell (.sl 2000 none x0 1)))), (7, (.v (.cell (.int .i64 x1)))), (8, (.v (.cell (.int .i64 x2))))], [(1000, ⟨[.nums .u64 5 x3], 38, 1⟩), (2000, ⟨[.nums .u8 x4 x5], 5, 2⟩)]⟩ (A.ic .lss x2 x1) (by kernel_rfl)
    rw [h2, h12] at h13
    have h14 := (g23p1101001 A n _ _).trans h13
    have h15 := (g23Qn A n _ _ _).trans h14
    have h16 := (g23p1101000 A n (g23Q A n [true, true, false, true, false, false, true] (g23W A n [true, true, false, true, false, false] m (blockK 0 (g23Q A n [true, true, true] (g23T kk))))) ⟨[(1, (.v (.cell (.ptr 1000 0 none)))), (3, (.v (.cell (.sl 2000 none x0 1)))), (7, (.v (.cell (.int .i64 x1)))), (8, (.v (.cell (.int .i64 x2))))], [(1000, ⟨[.nums .u64 5 x3], 38, 1⟩), (2000, ⟨[.nums .u8 x4 x5], 5, 2⟩)]⟩ ⟨[(1, (.v (.cell (.ptr 1000 0 none)))), (3, (.v (.cell (.sl 2000 none x0 1)))), (7, (.v (.cell (.int .i64 x1)))), (8, (.v (.cell (.int .i64 x2))))], [(1000, ⟨[.nums .u64 5 x3], 38, 1⟩), (2000, ⟨[.nums .u8 x4 x5], 5, 2⟩)]⟩ (by kernel_rfl)).trans (g23R3 A n (g23Q A n [true, true, false, true, false, false, true] (g23W A n [true, true, false, true, false, false] m (blockK 0 (g23Q A n [true, true, true] (g23T kk))))) x0 x1 x2 x3 x4 x5)
    rw [h15] at h16
    have h17 := (g23p110100 A n _ _).trans h16
    exact (loopD_first (s' := ⟨[(1, (.v (.cell (.ptr 1000 0 none)))), (3, (.v (.cell (.sl 2000 none x0 1)))), (7, (.v (.cell (.int .i64 x1)))), (8, (.v (.cell (.int .i64 x2))))], [(1000, ⟨[.nums .u64 5 x3], 38, 1⟩), (2000, ⟨[.nums .u8 x4 x5], 5, 2⟩)]⟩) (id := 3) (by kernel_rfl) (h.trans (by kernel_rfl)) _).trans ((g23Vs A n _ m _ _).trans (h17.trans (by kernel_rfl)))
def g23 {R : Type} (A : Ar) (n : Nat) (kk : AV → Heap → Option R) (a : List Nat) : Option R :=
  match (generalizing := false) A.le 32 32 with
  | true => match (generalizing := false) A.le 32 140737488355328 with
    | true => g23L3 A n kk  n 32 (A.ofN 32) 0 a 32 (List.replicate 32 0)
    | false => none
  | false => none
set_option maxRecDepth 100000 in
theorem g23_eq {R : Type} (A : Ar) (n : Nat) (kk : AV → Heap → Option R) (a : List Nat) :
    funD A gtys (orcOf []) g23an n (bodyOf Try.f23) g23res [(.v (.agg [.nums .u64 5 a]))] [] kk = g23 A n kk a := by
  have h1 := (g23p11010 A n _ _).trans (g23L3_eq A n kk    n ⟨[(8, (.v (.cell (.int .i64 0)))), (7, (.v (.cell (.int .i64 (A.ofN 32))))), (6, (.v (.cell (.sl 2000 none 32 1)))), (1, (.v (.cell (.ptr 1000 0 none)))), (3, (.v (.cell (.sl 2000 none 32 1))))], [(1000, ⟨[.nums .u64 5 a], 38, 1⟩), (2000, ⟨[.nums .u8 32 (List.replicate 32 0)], 5, 2⟩)]⟩ 32 (A.ofN 32) 0 a 32 (List.replicate 32 0) (by kernel_rfl))
  have h2 := (g23p1101 A n _ _).trans h1
  have h3 := (g23Qn A n _ _ _).trans h2
  have h4 := (g23p1100 A n (g23Q A n [true, true, false, true] (g23Q A n [true, true, true] (g23T kk))) ⟨[(3, (.v (.cell (.sl 2000 none 32 1)))), (5, (.v (.cell (.sl 2000 none 32 1)))), (1, (.v (.cell (.ptr 1000 0 none))))], [(2000, ⟨[.nums .u8 32 (List.replicate 32 0)], 5, 2⟩), (1000, ⟨[.nums .u64 5 a], 38, 1⟩)]⟩ ⟨[(1, (.v (.cell (.ptr 1000 0 none)))), (3, (.v (.cell (.sl 2000 none 32 1))))], [(1000, ⟨[.nums .u64 5 a], 38, 1⟩), (2000, ⟨[.nums .u8 32 (List.replicate 32 0)], 5, 2⟩)]⟩ (by kernel_rfl)).trans (g23R2 A n (g23Q A n [true, true, false, true] (g23Q A n [true, true, true] (g23T kk))) 32 a 32 (List.replicate 32 0))
  rw [h3] at h4
  have h5 := (g23p110 A n _ _).trans h4
  have h6 := (g23p11 A n _ _).trans h5
  have h7 := (g23Qn A n _ _ _).trans h6
  have h8 := (g23p10 A n (g23Q A n [true, true] (g23T kk)) ⟨[(2, (.v (.cell (.str [])))), (1, (.v (.cell (.ptr 1000 0 none)))), (0, (.v (.agg [.nums .u64 5 a])))], [(1000, ⟨[.nums .u64 5 a], 38, 1⟩)]⟩ ⟨[(1, (.v (.cell (.ptr 1000 0 none))))], [(1000, ⟨[.nums .u64 5 a], 38, 1⟩)]⟩ (by kernel_rfl)).trans (g23R1 A n (g23Q A n [true, true] (g23T kk)) a)
  rw [h7] at h8
  have h9 := (g23p1 A n _ _).trans h8
  have h10 := (g23Qn A n _ _ _).trans h9
  have h11 := (g23p0 A n (g23Q A n [true] (g23T kk)) ⟨[(0, (.v (.agg [.nums .u64 5 a])))], []⟩ ⟨[(0, (.v (.agg [.nums .u64 5 a])))], []⟩ (by kernel_rfl)).trans (g23R0 A n (g23Q A n [true] (g23T kk)) a)
  rw [h10] at h11
  have h12 := (g23p A n _ _).trans h11
  exact (show funD A gtys (orcOf []) g23an n (bodyOf Try.f23) g23res [(.v (.agg [.nums .u64 5 a]))] [] kk = g23D A n [] (g23T kk) ⟨[(0, (.v (.agg [.nums .u64 5 a])))], []⟩ from by kernel_rfl).trans (h12.trans (by kernel_rfl))
def g23is (o : Option AV) : Bool := match o with
  | some (.v (.cell (.str _))) => true
  | _ => false
def g23g0 (o : Option AV) : List Nat := match o with
  | some (.v (.cell (.str x))) => x
  | _ => []
theorem g23is_spec {o : Option AV} (h : g23is o = true) : o = some (.v (.cell (.str (g23g0 o)))) := by
  unfold g23is at h
  split at h
  · rfl
  · cases h
def g23v (a : List Nat) : Option AV := g23 realA (100000) (fun v _ => some v) a
def g23ok (a : List Nat) : Bool := g23is (g23v a)
def g23r0 (a : List Nat) : List Nat := g23g0 (g23v a)
theorem g23ok_spec {a} (h : g23ok a = true) : g23v a = some (.v (.cell (.str (g23r0 a)))) := g23is_spec h
def g23o (args : List AV) : Option (Bool × AV) := match args with
  | [.v (.agg [.nums .u64 n0 a])] => some (Nat.beq n0 5 && (g23ok a), .v (.cell (.str (g23r0 a))))
  | _ => none
theorem g23O_sound : OSound Try.prog (orcOf []) := orc_sound fun f g hm args v hv => by
  cases hm
theorem g23o_sound : ∀ args v, g23o args = some (true, v) → Fn1 Try.prog 23 args v := by
  intro args v h
  unfold g23o at h
  split at h
  · rename_i n0 a
    simp only [Option.some.injEq, Prod.mk.injEq] at h
    obtain ⟨hc, h⟩ := h
    subst h
    · skip
      simp only [Bool.and_eq_true] at hc
      have en0 := beq_true hc.1
      subst en0
      replace hc := hc.2
      exact fn1_of mixed gtysOK g23O_sound (orc_det _) (an := g23an) (n := 100000) Try.func23 (c := bodyOf Try.f23) rfl (by kernel_rfl) Try.call23 (Nat.le_of_ble_eq_true rfl) (fun b => rfl) (fun _ => (g23_eq realA (100000) (fun v _ => some v) a).trans (show g23v a = _ from g23ok_spec hc))
  · cases h
/- engrosser/scalar.Reduce -/
def g10an : Ann := [(0, ([0], [])), (1, ([0], [])), (2, ([0, 3], [2000])), (3, ([0, 3, 4], [2000])), (4, ([0, 3, 4], [2000])), (5, ([0, 3, 4], [2000])), (6, ([3], [2000]))]
def g10res : List ResultVar := [.tmp 2]
noncomputable def g10D {R : Type} (A : Ar) (n : Nat) (p : List Bool) (K : Ex → St → Option R) (s : St) : Option R := codeD A gtys (orcOf [(22, g22o), (23, g23o)]) g10an n (sub (bodyOf Try.f10) p) K s
noncomputable def g10V {R : Type} (A : Ar) (n : Nat) (p : List Bool) (m : Nat) (K : Ex → St → Option R) (s : St) : Option R := loopD (fun K' s'' => codeD A gtys (orcOf [(22, g22o), (23, g23o)]) g10an n (sub (bodyOf Try.f10) p) K' s'') m K s
noncomputable def g10Q {R : Type} (A : Ar) (n : Nat) (p : List Bool) (K : Ex → St → Option R) : Ex → St → Option R := seqC (g10D A n p K) K
noncomputable def g10W {R : Type} (A : Ar) (n : Nat) (p : List Bool) (m : Nat) (K : Ex → St → Option R) : Ex → St → Option R := seqC (g10V A n p m K) K
noncomputable def g10T {R : Type} (kk : AV → Heap → Option R) : Ex → St → Option R := finD gtys g10res kk
theorem g10Qn {R : Type} (A : Ar) (n : Nat) (p : List Bool) (K : Ex → St → Option R) (s : St) : g10Q A n p K .normal s = g10D A n p K s := rfl
theorem g10Qe {R : Type} (A : Ar) (n : Nat) (p : List Bool) (K : Ex → St → Option R) (i : Nat) (s : St) : g10Q A n p K (.exit i) s = K (.exit i) s := rfl
theorem g10Qr {R : Type} (A : Ar) (n : Nat) (p : List Bool) (K : Ex → St → Option R) (s : St) : g10Q A n p K .ret s = K .ret s := rfl
theorem g10Wn {R : Type} (A : Ar) (n : Nat) (p : List Bool) (m : Nat) (K : Ex → St → Option R) (s : St) : g10W A n p m K .normal s = g10V A n p m K s := rfl
theorem g10We {R : Type} (A : Ar) (n : Nat) (p : List Bool) (m : Nat) (K : Ex → St → Option R) (i : Nat) (s : St) : g10W A n p m K (.exit i) s = K (.exit i) s := rfl
theorem g10Wr {R : Type} (A : Ar) (n : Nat) (p : List Bool) (m : Nat) (K : Ex → St → Option R) (s : St) : g10W A n p m K .ret s = K .ret s := rfl
theorem g10Vs {R : Type} (A : Ar) (n : Nat) (p : List Bool) (m : Nat) (K : Ex → St → Option R) (s : St) : g10V A n p (m + 1) K s = g10D A n p (g10W A n p m K) s := rfl
theorem g10p {R : Type} (A : Ar) (n : Nat) (K : Ex → St → Option R) (s : St) : g10D A n [] K s = g10D A n [false] (g10Q A n [true] K) s := by kernel_rfl
theorem g10p0 {R : Type} (A : Ar) (n : Nat) (K : Ex → St → Option R) (s s' : St) (h : keep g10an 0 s = keep g10an 0 s') : g10D A n [false] K s = g10D A n [false] K s' := codeD_first (id := 0) (by kernel_rfl) h K
theorem g10p1 {R : Type} (A : Ar) (n : Nat) (K : Ex → St → Option R) (s : St) : g10D A n [true] K s = g10D A n [true, false] (g10Q A n [true, true] K) s := by kernel_rfl
theorem g10p10 {R : Type} (A : Ar) (n : Nat) (K : Ex → St → Option R) (s s' : St) (h : keep g10an 1 s = keep g10an 1 s') : g10D A n [true, false] K s = g10D A n [true, false] K s' := codeD_first (id := 1) (by kernel_rfl) h K
theorem g10p11 {R : Type} (A : Ar) (n : Nat) (K : Ex → St → Option R) (s : St) : g10D A n [true, true] K s = g10D A n [true, true, false] (g10Q A n [true, true, true] K) s := by kernel_rfl
theorem g10p110 {R : Type} (A : Ar) (n : Nat) (K : Ex → St → Option R) (s : St) : g10D A n [true, true, false] K s = g10D A n [true, true, false, false] (g10Q A n [true, true, false, true] K) s := by kernel_rfl
theorem g10p1100 {R : Type} (A : Ar) (n : Nat) (K : Ex → St → Option R) (s s' : St) (h : keep g10an 2 s = keep g10an 2 s') : g10D A n [true, true, false, false] K s = g10D A n [true, true, false, false] K s' := codeD_first (id := 2) (by kernel_rfl) h K
theorem g10p1101 {R : Type} (A : Ar) (n : Nat) (K : Ex → St → Option R) (s : St) : g10D A n [true, true, false, true] K s = g10D A n [true, true, false, true, false] (blockK 0 K) s := by kernel_rfl
theorem g10p11010 {R : Type} (A : Ar) (n : Nat) (K : Ex → St → Option R) (s : St) : g10D A n [true, true, false, true, false] K s = g10V A n [true, true, false, true, false, false] n K s := by kernel_rfl
theorem g10p110100 {R : Type} (A : Ar) (n : Nat) (K : Ex → St → Option R) (s : St) : g10D A n [true, true, false, true, false, false] K s = g10D A n [true, true, false, true, false, false, false] (g10Q A n [true, true, false, true, false, false, true] K) s := by kernel_rfl
theorem g10p1101000 {R : Type} (A : Ar) (n : Nat) (K : Ex → St → Option R) (s : St) : g10D A n [true, true, false, true, false, false, false] K s = g10D A n [true, true, false, true, false, false, false, false] (g10Q A n [true, true, false, true, false, false, false, true] K) s := by kernel_rfl
theorem g10p11010000 {R : Type} (A : Ar) (n : Nat) (K : Ex → St → Option R) (s s' : St) (h : keep g10an 3 s = keep g10an 3 s') : g10D A n [true, true, false, true, false, false, false, false] K s = g10D A n [true, true, false, true, false, false, false, false] K s' := codeD_first (id := 3) (by kernel_rfl) h K
theorem g10p11010001 {R : Type} (A : Ar) (n : Nat) (K : Ex → St → Option R) (s : St) (t : Bool) : ev s (.tmp 10) = some (.v (.cell (.bool t))) → g10D A n [true, true, false, true, false, false, false, true] K s = (match t with
    | true => g10D A n [true, true, false, true, false, false, false, true, false] K s
    | false => g10D A n [true, true, false, true, false, false, false, true, true] K s) := codeD_cond t
theorem g10p110100010 {R : Type} (A : Ar) (n : Nat) (K : Ex → St → Option R) (s : St) : g10D A n [true, true, false, true, false, false, false, true, false] K s = K .normal s := by kernel_rfl
theorem g10p110100011 {R : Type} (A : Ar) (n : Nat) (K : Ex → St → Option R) (s : St) : g10D A n [true, true, false, true, false, false, false, true, true] K s = K (.exit 0) s := by kernel_rfl
theorem g10p1101001 {R : Type} (A : Ar) (n : Nat) (K : Ex → St → Option R) (s : St) : g10D A n [true, true, false, true, false, false, true] K s = g10D A n [true, true, false, true, false, false, true, false] (g10Q A n [true, true, false, true, false, false, true, true] K) s := by kernel_rfl
theorem g10p11010010 {R : Type} (A : Ar) (n : Nat) (K : Ex → St → Option R) (s : St) : g10D A n [true, true, false, true, false, false, true, false] K s = g10D A n [true, true, false, true, false, false, true, false, false] (blockK 1 K) s := by kernel_rfl
theorem g10p110100100 {R : Type} (A : Ar) (n : Nat) (K : Ex → St → Option R) (s s' : St) (h : keep g10an 5 s = keep g10an 5 s') : g10D A n [true, true, false, true, false, false, true, false, false] K s = g10D A n [true, true, false, true, false, false, true, false, false] K s' := codeD_first (id := 5) (by kernel_rfl) h K
theorem g10p11010011 {R : Type} (A : Ar) (n : Nat) (K : Ex → St → Option R) (s s' : St) (h : keep g10an 4 s = keep g10an 4 s') : g10D A n [true, true, false, true, false, false, true, true] K s = g10D A n [true, true, false, true, false, false, true, true] K s' := codeD_first (id := 4) (by kernel_rfl) h K
theorem g10p111 {R : Type} (A : Ar) (n : Nat) (K : Ex → St → Option R) (s : St) : g10D A n [true, true, true] K s = g10D A n [true, true, true, false] (g10Q A n [true, true, true, true] K) s := by kernel_rfl
theorem g10p1110 {R : Type} (A : Ar) (n : Nat) (K : Ex → St → Option R) (s s' : St) (h : keep g10an 6 s = keep g10an 6 s') : g10D A n [true, true, true, false] K s = g10D A n [true, true, true, false] K s' := codeD_first (id := 6) (by kernel_rfl) h K
theorem g10p1111 {R : Type} (A : Ar) (n : Nat) (K : Ex → St → Option R) (s : St) : g10D A n [true, true, true, true] K s = K .ret s := by kernel_rfl
theorem g10R5 {R : Type} (A : Ar) (n : Nat) (K : Ex → St → Option R) (x0 : List Nat) (x1 : Int) (x2 : List Nat) : g10D A n [true, true, false, true, false, false, true, false, false] K ⟨[(0, (.v (.cell (.str x0)))), (3, (.v (.cell (.ptr 2000 0 none)))), (4, (.v (.cell (.int .i64 x1))))], [(2000, ⟨[.nums .u64 5 x2], 38, 1⟩)]⟩ = match (generalizing := false) A.neg x1 with
    | true => none
    | false => match (generalizing := false) A.lt (A.toN x1) x0.length with
      | true => match (generalizing := false) g22ok x2 (x0.getD (A.toN x1) 0) with
        | true => K .normal ⟨[(17, (.v (.agg [.nums .u64 5 (g22r0 x2 (x0.getD (A.toN x1) 0))]))), (16, (.v (.cell (.nat .u8 (x0.getD (A.toN x1) 0))))), (15, (.v (.cell (.int .i64 x1)))), (14, (.v (.cell (.str x0)))), (13, (.v (.agg [.nums .u64 5 x2]))), (0, (.v (.cell (.str x0)))), (3, (.v (.cell (.ptr 2000 0 none)))), (4, (.v (.cell (.int .i64 x1))))], [(2000, ⟨[.nums .u64 5 (g22r0 x2 (x0.getD (A.toN x1) 0))], 38, 1⟩)]⟩
        | false => none
      | false => none := by kernel_rfl
theorem g10R4 {R : Type} (A : Ar) (n : Nat) (K : Ex → St → Option R) (x0 : List Nat) (x1 : Int) (x2 : List Nat) : g10D A n [true, true, false, true, false, false, true, true] K ⟨[(0, (.v (.cell (.str x0)))), (3, (.v (.cell (.ptr 2000 0 none)))), (4, (.v (.cell (.int .i64 x1))))], [(2000, ⟨[.nums .u64 5 x2], 38, 1⟩)]⟩ = K .normal ⟨[(4, (.v (.cell (.int .i64 (A.ib .sub .i64 x1 1))))), (12, (.v (.cell (.int .i64 (A.ib .sub .i64 x1 1))))), (11, (.v (.cell (.int .i64 x1)))), (0, (.v (.cell (.str x0)))), (3, (.v (.cell (.ptr 2000 0 none)))), (4, (.v (.cell (.int .i64 x1))))], [(2000, ⟨[.nums .u64 5 x2], 38, 1⟩)]⟩ := by kernel_rfl
theorem g10R3 {R : Type} (A : Ar) (n : Nat) (K : Ex → St → Option R) (x0 : List Nat) (x1 : Int) (x2 : List Nat) : g10D A n [true, true, false, true, false, false, false, false] K ⟨[(0, (.v (.cell (.str x0)))), (3, (.v (.cell (.ptr 2000 0 none)))), (4, (.v (.cell (.int .i64 x1))))], [(2000, ⟨[.nums .u64 5 x2], 38, 1⟩)]⟩ = K .normal ⟨[(10, (.v (.cell (.bool (A.ic .geq x1 0))))), (9, (.v (.cell (.int .i64 x1)))), (0, (.v (.cell (.str x0)))), (3, (.v (.cell (.ptr 2000 0 none)))), (4, (.v (.cell (.int .i64 x1))))], [(2000, ⟨[.nums .u64 5 x2], 38, 1⟩)]⟩ := by kernel_rfl
theorem g10R6 {R : Type} (A : Ar) (n : Nat) (K : Ex → St → Option R) (x0 : List Nat) : g10D A n [true, true, true, false] K ⟨[(3, (.v (.cell (.ptr 2000 0 none))))], [(2000, ⟨[.nums .u64 5 x0], 38, 1⟩)]⟩ = match (generalizing := false) g23ok x0 with
    | true => K .normal ⟨[(2, (.v (.cell (.str (g23r0 x0))))), (19, (.v (.cell (.str (g23r0 x0))))), (18, (.v (.agg [.nums .u64 5 x0]))), (3, (.v (.cell (.ptr 2000 0 none))))], [(2000, ⟨[.nums .u64 5 x0], 38, 1⟩)]⟩
    | false => none := by kernel_rfl
theorem g10R0 {R : Type} (A : Ar) (n : Nat) (K : Ex → St → Option R) (x0 : List Nat) : g10D A n [false] K ⟨[(0, (.v (.cell (.str x0))))], []⟩ = K .normal ⟨[(2, (.v (.cell (.str [])))), (0, (.v (.cell (.str x0))))], []⟩ := by kernel_rfl
theorem g10R1 {R : Type} (A : Ar) (n : Nat) (K : Ex → St → Option R) (x0 : List Nat) : g10D A n [true, false] K ⟨[(0, (.v (.cell (.str x0))))], []⟩ = K .normal ⟨[(3, (.v (.cell (.ptr 2000 0 none)))), (0, (.v (.cell (.str x0))))], [(2000, ⟨[.nums .u64 5 [0, 0, 0, 0, 0]], 38, 1⟩)]⟩ := by kernel_rfl
theorem g10R2 {R : Type} (A : Ar) (n : Nat) (K : Ex → St → Option R) (x0 : List Nat) (x1 : List Nat) : g10D A n [true, true, false, false] K ⟨[(0, (.v (.cell (.str x0)))), (3, (.v (.cell (.ptr 2000 0 none))))], [(2000, ⟨[.nums .u64 5 x1], 38, 1⟩)]⟩ = K .normal ⟨[(4, (.v (.cell (.int .i64 (A.ib .sub .i64 (A.mn (A.ofN x0.length) 64) 1))))), (8, (.v (.cell (.int .i64 (A.ib .sub .i64 (A.mn (A.ofN x0.length) 64) 1))))), (7, (.v (.cell (.int .i64 (A.mn (A.ofN x0.length) 64))))), (6, (.v (.cell (.int .i64 (A.ofN x0.length))))), (5, (.v (.cell (.str x0)))), (0, (.v (.cell (.str x0)))), (3, (.v (.cell (.ptr 2000 0 none))))], [(2000, ⟨[.nums .u64 5 x1], 38, 1⟩)]⟩ := by kernel_rfl
def g10J5 {R : Type} (A : Ar) (n : Nat) (kk : AV → Heap → Option R) (lg10L3 : List Nat → Int → List Nat → Option R) (x0 : List Nat) (x1 : Int) (x2 : List Nat) : Option R :=
  match (generalizing := false) A.neg x1 with
  | true => none
  | false => match (generalizing := false) A.lt (A.toN x1) x0.length with
    | true => match (generalizing := false) g22ok x2 (x0.getD (A.toN x1) 0) with
      | true => lg10L3 x0 (A.ib .sub .i64 x1 1) (g22r0 x2 (x0.getD (A.toN x1) 0))
      | false => none
    | false => none
set_option maxRecDepth 100000 in
theorem g10J5_eq {R : Type} (A : Ar) (n : Nat) (kk : AV → Heap → Option R) (m0 : Nat) (lg10L3 : List Nat → Int → List Nat → Option R) 
    (hg10L3 : ∀ (s : St) (x0 : List Nat) (x1 : Int) (x2 : List Nat), keep g10an 3 s = ⟨[(0, (.v (.cell (.str x0)))), (3, (.v (.cell (.ptr 2000 0 none)))), (4, (.v (.cell (.int .i64 x1))))], [(2000, ⟨[.nums .u64 5 x2], 38, 1⟩)]⟩ → g10V A n [true, true, false, true, false, false] m0 (blockK 0 (g10Q A n [true, true, true] (g10T kk))) s = lg10L3 x0 x1 x2) (s : St) (x0 : List Nat) (x1 : Int) (x2 : List Nat) (h : keep g10an 5 s = ⟨[(0, (.v (.cell (.str x0)))), (3, (.v (.cell (.ptr 2000 0 none)))), (4, (.v (.cell (.int .i64 x1))))], [(2000, ⟨[.nums .u64 5 x2], 38, 1⟩)]⟩) :
    g10D A n [true, true, false, true, false, false, true] (g10W A n [true, true, false, true, false, false] m0 (blockK 0 (g10Q A n [true, true, true] (g10T kk)))) s = g10J5 A n kk lg10L3 x0 x1 x2 := by
  have h1 := (g10Wn A n _ _ _ _).trans (hg10L3 ⟨[(4, (.v (.cell (.int .i64 (A.ib .sub .i64 x1 1))))), (12, (.v (.cell (.int .i64 (A.ib .sub .i64 x1 1))))), (11, (.v (.cell (.int .i64 x1)))), (0, (.v (.cell (.str x0)))), (3, (.v (.cell (.ptr 2000 0 none)))), (4, (.v (.cell (.int .i64 x1))))], [(2000, ⟨[.nums .u64 5 (g22r0 x2 (x0.getD (A.toN x1) 0))], 38, 1⟩)]⟩ x0 (A.ib .sub .i64 x1 1) (g22r0 x2 (x0.getD (A.toN x1) 0)) (by kernel_rfl))
  have h2 := (g10p11010011 A n (g10W A n [true, true, false, true, false, false] m0 (blockK 0 (g10Q A n [true, true, true] (g10T kk)))) ⟨[(17, (.v (.agg [.nums .u64 5 (g22r0 x2 (x0.getD (A.toN x1) 0))]))), (16, (.v (.cell (.nat .u8 (x0.getD (A.toN x1) 0))))), (15, (.v (.cell (.int .i64 x1)))), (14, (.v (.cell (.str x0)))), (13, (.v (.agg [.nums .u64 5 x2]))), (0, (.v (.cell (.str x0)))), (3, (.v (.cell (.ptr 2000 0 none)))), (4, (.v (.cell (.int .i64 x1))))], [(2000, ⟨[.nums .u64 5 (g22r0 x2 (x0.getD (A.toN x1) 0))], 38, 1⟩)]⟩ ⟨[(0, (.v (.cell (.str x0)))), (3, (.v (.cell (.ptr 2000 0 none)))), (4, (.v (.cell (.int .i64 x1))))], [(2000, ⟨[.nums .u64 5 (g22r0 x2 (x0.getD (A.toN x1) 0))], 38, 1⟩)]⟩ (by kernel_rfl)).trans (g10R4 A n (g10W A n [true, true, false, true, false, false] m0 (blockK 0 (g10Q A n [true, true, true] (g10T kk)))) x0 x1 (g22r0 x2 (x0.getD (A.toN x1) 0)))
  rw [h1] at h2
  have h3 := (g10Qn A n _ _ _).trans h2
  have h4 := (blockK_n 1 _ _).trans h3
  have h5 := (g10p110100100 A n (blockK 1 (g10Q A n [true, true, false, true, false, false, true, true] (g10W A n [true, true, false, true, false, false] m0 (blockK 0 (g10Q A n [true, true, true] (g10T kk)))))) ⟨[(0, (.v (.cell (.str x0)))), (3, (.v (.cell (.ptr 2000 0 none)))), (4, (.v (.cell (.int .i64 x1))))], [(2000, ⟨[.nums .u64 5 x2], 38, 1⟩)]⟩ ⟨[(0, (.v (.cell (.str x0)))), (3, (.v (.cell (.ptr 2000 0 none)))), (4, (.v (.cell (.int .i64 x1))))], [(2000, ⟨[.nums .u64 5 x2], 38, 1⟩)]⟩ (by kernel_rfl)).trans (g10R5 A n (blockK 1 (g10Q A n [true, true, false, true, false, false, true, true] (g10W A n [true, true, false, true, false, false] m0 (blockK 0 (g10Q A n [true, true, true] (g10T kk)))))) x0 x1 x2)
  rw [h4] at h5
  have h6 := (g10p11010010 A n _ _).trans h5
  have h7 := (g10p1101001 A n _ _).trans h6
  exact (codeD_first (s' := ⟨[(0, (.v (.cell (.str x0)))), (3, (.v (.cell (.ptr 2000 0 none)))), (4, (.v (.cell (.int .i64 x1))))], [(2000, ⟨[.nums .u64 5 x2], 38, 1⟩)]⟩) (id := 5) (by kernel_rfl) (h.trans (by kernel_rfl)) _).trans (h7.trans (by kernel_rfl))
def g10L3 {R : Type} (A : Ar) (n : Nat) (kk : AV → Heap → Option R)  : Nat → List Nat → Int → List Nat → Option R
  | 0, _, _, _ => none
  | m + 1, x0, x1, x2 => match (generalizing := false) A.ic .geq x1 0 with
  | true => g10J5 A n kk (g10L3 A n kk  m) x0 x1 x2
  | false => match (generalizing := false) g23ok x2 with
    | true => kk (.v (.cell (.str (g23r0 x2)))) [(2000, ⟨[.nums .u64 5 x2], 38, 1⟩)]
    | false => none
set_option maxRecDepth 100000 in
theorem g10L3_eq {R : Type} (A : Ar) (n : Nat) (kk : AV → Heap → Option R)    (m : Nat) (s : St) (x0 : List Nat) (x1 : Int) (x2 : List Nat) (h : keep g10an 3 s = ⟨[(0, (.v (.cell (.str x0)))), (3, (.v (.cell (.ptr 2000 0 none)))), (4, (.v (.cell (.int .i64 x1))))], [(2000, ⟨[.nums .u64 5 x2], 38, 1⟩)]⟩) :
    g10V A n [true, true, false, true, false, false] m (blockK 0 (g10Q A n [true, true, true] (g10T kk))) s = g10L3 A n kk  m x0 x1 x2 := by
  induction m generalizing s x0 x1 x2 with
  | zero => rfl
  | succ m ih =>
    have h1 := (g10Qn A n _ _ _).trans (g10J5_eq A n kk m (g10L3 A n kk  m) ih  ⟨[(10, (.v (.cell (.bool (A.ic .geq x1 0))))), (9, (.v (.cell (.int .i64 x1)))), (0, (.v (.cell (.str x0)))), (3, (.v (.cell (.ptr 2000 0 none)))), (4, (.v (.cell (.int .i64 x1))))], [(2000, ⟨[.nums .u64 5 x2], 38, 1⟩)]⟩ x0 x1 x2 (by kernel_rfl))
    have h2 := (g10p110100010 A n _ _).trans h1
    have h3 : (g10T kk) .ret ⟨[(2, (.v (.cell (.str (g23r0 x2))))), (19, (.v (.cell (.str (g23r0 x2))))), (18, (.v (.agg [.nums .u64 5 x2]))), (3, (.v (.cell (.ptr 2000 0 none))))], [(2000, ⟨[.nums .u64 5 x2], 38, 1⟩)]⟩ = kk (.v (.cell (.str (g23r0 x2)))) [(2000, ⟨[.nums .u64 5 x2], 38, 1⟩)] := by kernel_rfl
    have h4 := (g10p1111 A n _ _).trans h3
    have h5 := (g10Qn A n _ _ _).trans h4
    have h6 := (g10p1110 A n (g10Q A n [true, true, true, true] (g10T kk)) ⟨[(10, (.v (.cell (.bool (A.ic .geq x1 0))))), (9, (.v (.cell (.int .i64 x1)))), (0, (.v (.cell (.str x0)))), (3, (.v (.cell (.ptr 2000 0 none)))), (4, (.v (.cell (.int .i64 x1))))], [(2000, ⟨[.nums .u64 5 x2], 38, 1⟩)]⟩ ⟨[(3, (.v (.cell (.ptr 2000 0 none))))], [(2000, ⟨[.nums .u64 5 x2], 38, 1⟩)]⟩ (by kernel_rfl)).trans (g10R6 A n (g10Q A n [true, true, true, true] (g10T kk)) x2)
    rw [h5] at h6
    have h7 := (g10p111 A n _ _).trans h6
    have h8 := (g10Qn A n _ _ _).trans h7
    have h9 := (blockK_hit 0 _ _).trans h8
    have h10 := (g10We A n [true, true, false, true, false, false] m _ _ _).trans h9
    have h11 := (g10Qe A n [true, true, false, true, false, false, true] _ _ _).trans h10
    have h12 := (g10p110100011 A n _ _).trans h11
    have h13 := g10p11010001 A n (g10Q A n [true, true, false, true, false, false, true] (g10W A n [true, true, false, true, false, false] m (blockK 0 (g10Q A n [true, true, true] (g10T kk))))) ⟨[(10, (.v (.cell (.bool (A.ic .geq x1 0))))), (9, (.v (.cell (.int .i64 x1)))), (0, (.v (.cell (.str x0)))), (3, (.v (.cell (.ptr 2000 0 none)))), (4, (.v (.cell (.int .i64 x1))))], [(2000, ⟨[.nums .u64 5 x2], 38, 1⟩)]⟩ (A.ic .geq x1 0) (by kernel_rfl)
    rw [h2, h12] at h13
    have h14 := (g10Qn A n _ _ _).trans h13
    have h15 := (g10p11010000 A n (g10Q A n [true, true, false, true, false, false, false, true] (g10Q A n [true, true, false, true, false, false, true] (g10W A n [true, true, false, true, false, false] m (blockK 0 (g10Q A n [true, true, true] (g10T kk)))))) ⟨[(0, (.v (.cell (.str x0)))), (3, (.v (.cell (.ptr 2000 0 none)))), (4, (.v (.cell (.int .i64 x1))))], [(2000, ⟨[.nums .u64 5 x2], 38, 1⟩)]⟩ ⟨[(0, (.v (.cell (.str x0)))), (3, (.v (.cell (.ptr 2000 0 none)))), (4, (.v (.cell (.int .i64 x1))))], [(2000, ⟨[.nums .u64 5 x2], 38, 1⟩)]⟩ (by kernel_rfl)).trans (g10R3 A n (g10Q A n [true, true, false, true, false, false, false, true] (g10Q A n [true, true, false, true, false, false, true] (g10W A n [true, true, false, true, false, false] m (blockK 0 (g10Q A n [true, true, true] (g10T kk)))))) x0 x1 x2)
    rw [h14] at h15
    have h16 := (g10p1101000 A n _ _).trans h15
    have h17 := (g10p110100 A n _ _).trans h16
    exact (loopD_first (s' := ⟨[(0, (.v (.cell (.str x0)))), (3, (.v (.cell (.ptr 2000 0 none)))), (4, (.v (.cell (.int .i64 x1))))], [(2000, ⟨[.nums .u64 5 x2], 38, 1⟩)]⟩) (id := 3) (by kernel_rfl) (h.trans (by kernel_rfl)) _).trans ((g10Vs A n _ m _ _).trans (h17.trans (by kernel_rfl)))
def g10 {R : Type} (A : Ar) (n : Nat) (kk : AV → Heap → Option R) (a : List Nat) : Option R :=
  g10L3 A n kk  n a (A.ib .sub .i64 (A.mn (A.ofN a.length) 64) 1) [0, 0, 0, 0, 0]
set_option maxRecDepth 100000 in
theorem g10_eq {R : Type} (A : Ar) (n : Nat) (kk : AV → Heap → Option R) (a : List Nat) :
    funD A gtys (orcOf [(22, g22o), (23, g23o)]) g10an n (bodyOf Try.f10) g10res [(.v (.cell (.str a)))] [] kk = g10 A n kk a := by
  have h1 := (g10p11010 A n _ _).trans (g10L3_eq A n kk    n ⟨[(4, (.v (.cell (.int .i64 (A.ib .sub .i64 (A.mn (A.ofN a.length) 64) 1))))), (8, (.v (.cell (.int .i64 (A.ib .sub .i64 (A.mn (A.ofN a.length) 64) 1))))), (7, (.v (.cell (.int .i64 (A.mn (A.ofN a.length) 64))))), (6, (.v (.cell (.int .i64 (A.ofN a.length))))), (5, (.v (.cell (.str a)))), (0, (.v (.cell (.str a)))), (3, (.v (.cell (.ptr 2000 0 none))))], [(2000, ⟨[.nums .u64 5 [0, 0, 0, 0, 0]], 38, 1⟩)]⟩ a (A.ib .sub .i64 (A.mn (A.ofN a.length) 64) 1) [0, 0, 0, 0, 0] (by kernel_rfl))
  have h2 := (g10p1101 A n _ _).trans h1
  have h3 := (g10Qn A n _ _ _).trans h2
  have h4 := (g10p1100 A n (g10Q A n [true, true, false, true] (g10Q A n [true, true, true] (g10T kk))) ⟨[(3, (.v (.cell (.ptr 2000 0 none)))), (0, (.v (.cell (.str a))))], [(2000, ⟨[.nums .u64 5 [0, 0, 0, 0, 0]], 38, 1⟩)]⟩ ⟨[(0, (.v (.cell (.str a)))), (3, (.v (.cell (.ptr 2000 0 none))))], [(2000, ⟨[.nums .u64 5 [0, 0, 0, 0, 0]], 38, 1⟩)]⟩ (by kernel_rfl)).trans (g10R2 A n (g10Q A n [true, true, false, true] (g10Q A n [true, true, true] (g10T kk))) a [0, 0, 0, 0, 0])
  rw [h3] at h4
  have h5 := (g10p110 A n _ _).trans h4
  have h6 := (g10p11 A n _ _).trans h5
  have h7 := (g10Qn A n _ _ _).trans h6
  have h8 := (g10p10 A n (g10Q A n [true, true] (g10T kk)) ⟨[(2, (.v (.cell (.str [])))), (0, (.v (.cell (.str a))))], []⟩ ⟨[(0, (.v (.cell (.str a))))], []⟩ (by kernel_rfl)).trans (g10R1 A n (g10Q A n [true, true] (g10T kk)) a)
  rw [h7] at h8
  have h9 := (g10p1 A n _ _).trans h8
  have h10 := (g10Qn A n _ _ _).trans h9
  have h11 := (g10p0 A n (g10Q A n [true] (g10T kk)) ⟨[(0, (.v (.cell (.str a))))], []⟩ ⟨[(0, (.v (.cell (.str a))))], []⟩ (by kernel_rfl)).trans (g10R0 A n (g10Q A n [true] (g10T kk)) a)
  rw [h10] at h11
  have h12 := (g10p A n _ _).trans h11
  exact (show funD A gtys (orcOf [(22, g22o), (23, g23o)]) g10an n (bodyOf Try.f10) g10res [(.v (.cell (.str a)))] [] kk = g10D A n [] (g10T kk) ⟨[(0, (.v (.cell (.str a))))], []⟩ from by kernel_rfl).trans (h12.trans (by kernel_rfl))
def g10is (o : Option AV) : Bool := match o with
  | some (.v (.cell (.str _))) => true
  | _ => false
def g10g0 (o : Option AV) : List Nat := match o with
  | some (.v (.cell (.str x))) => x
  | _ => []
theorem g10is_spec {o : Option AV} (h : g10is o = true) : o = some (.v (.cell (.str (g10g0 o)))) := by
  unfold g10is at h
  split at h
  · rfl
  · cases h
def g10v (a : List Nat) : Option AV := g10 realA (100000) (fun v _ => some v) a
def g10ok (a : List Nat) : Bool := g10is (g10v a)
def g10r0 (a : List Nat) : List Nat := g10g0 (g10v a)
theorem g10ok_spec {a} (h : g10ok a = true) : g10v a = some (.v (.cell (.str (g10r0 a)))) := g10is_spec h
def g10o (args : List AV) : Option (Bool × AV) := match args with
  | [.v (.cell (.str a))] => some (g10ok a, .v (.cell (.str (g10r0 a))))
  | _ => none
theorem g10O_sound : OSound Try.prog (orcOf [(22, g22o), (23, g23o)]) := orc_sound fun f g hm args v hv => by
  simp only [List.mem_cons, List.not_mem_nil, or_false, Prod.mk.injEq] at hm
  rcases hm with ⟨rfl, rfl⟩ | ⟨rfl, rfl⟩
  · exact g22o_sound _ _ hv
  · exact g23o_sound _ _ hv
theorem g10o_sound : ∀ args v, g10o args = some (true, v) → Fn1 Try.prog 10 args v := by
  intro args v h
  unfold g10o at h
  split at h
  · rename_i a
    simp only [Option.some.injEq, Prod.mk.injEq] at h
    obtain ⟨hc, h⟩ := h
    subst h
    · skip
      exact fn1_of mixed gtysOK g10O_sound (orc_det _) (an := g10an) (n := 100000) Try.func10 (c := bodyOf Try.f10) rfl (by kernel_rfl) Try.call10 (Nat.le_of_ble_eq_true rfl) (fun b => rfl) (fun _ => (g10_eq realA (100000) (fun v _ => some v) a).trans (show g10v a = _ from g10ok_spec hc))
  · cases h
/- engrosser/scalar.Right -/
def g12an : Ann := [(0, ([0], [])), (1, ([0], []))]
def g12res : List ResultVar := [.tmp 2]
noncomputable def g12D {R : Type} (A : Ar) (n : Nat) (p : List Bool) (K : Ex → St → Option R) (s : St) : Option R := codeD A gtys (orcOf [(10, g10o)]) g12an n (sub (bodyOf Try.f12) p) K s
noncomputable def g12V {R : Type} (A : Ar) (n : Nat) (p : List Bool) (m : Nat) (K : Ex → St → Option R) (s : St) : Option R := loopD (fun K' s'' => codeD A gtys (orcOf [(10, g10o)]) g12an n (sub (bodyOf Try.f12) p) K' s'') m K s
noncomputable def g12Q {R : Type} (A : Ar) (n : Nat) (p : List Bool) (K : Ex → St → Option R) : Ex → St → Option R := seqC (g12D A n p K) K
noncomputable def g12W {R : Type} (A : Ar) (n : Nat) (p : List Bool) (m : Nat) (K : Ex → St → Option R) : Ex → St → Option R := seqC (g12V A n p m K) K
noncomputable def g12T {R : Type} (kk : AV → Heap → Option R) : Ex → St → Option R := finD gtys g12res kk
theorem g12Qn {R : Type} (A : Ar) (n : Nat) (p : List Bool) (K : Ex → St → Option R) (s : St) : g12Q A n p K .normal s = g12D A n p K s := rfl
theorem g12Qe {R : Type} (A : Ar) (n : Nat) (p : List Bool) (K : Ex → St → Option R) (i : Nat) (s : St) : g12Q A n p K (.exit i) s = K (.exit i) s := rfl
theorem g12Qr {R : Type} (A : Ar) (n : Nat) (p : List Bool) (K : Ex → St → Option R) (s : St) : g12Q A n p K .ret s = K .ret s := rfl
theorem g12Wn {R : Type} (A : Ar) (n : Nat) (p : List Bool) (m : Nat) (K : Ex → St → Option R) (s : St) : g12W A n p m K .normal s = g12V A n p m K s := rfl
theorem g12We {R : Type} (A : Ar) (n : Nat) (p : List Bool) (m : Nat) (K : Ex → St → Option R) (i : Nat) (s : St) : g12W A n p m K (.exit i) s = K (.exit i) s := rfl
theorem g12Wr {R : Type} (A : Ar) (n : Nat) (p : List Bool) (m : Nat) (K : Ex → St → Option R) (s : St) : g12W A n p m K .ret s = K .ret s := rfl
theorem g12Vs {R : Type} (A : Ar) (n : Nat) (p : List Bool) (m : Nat) (K : Ex → St → Option R) (s : St) : g12V A n p (m + 1) K s = g12D A n p (g12W A n p m K) s := rfl
theorem g12p {R : Type} (A : Ar) (n : Nat) (K : Ex → St → Option R) (s : St) : g12D A n [] K s = g12D A n [false] (g12Q A n [true] K) s := by kernel_rfl
theorem g12p0 {R : Type} (A : Ar) (n : Nat) (K : Ex → St → Option R) (s s' : St) (h : keep g12an 0 s = keep g12an 0 s') : g12D A n [false] K s = g12D A n [false] K s' := codeD_first (id := 0) (by kernel_rfl) h K
theorem g12p1 {R : Type} (A : Ar) (n : Nat) (K : Ex → St → Option R) (s : St) : g12D A n [true] K s = g12D A n [true, false] (g12Q A n [true, true] K) s := by kernel_rfl
theorem g12p10 {R : Type} (A : Ar) (n : Nat) (K : Ex → St → Option R) (s s' : St) (h : keep g12an 1 s = keep g12an 1 s') : g12D A n [true, false] K s = g12D A n [true, false] K s' := codeD_first (id := 1) (by kernel_rfl) h K
theorem g12p11 {R : Type} (A : Ar) (n : Nat) (K : Ex → St → Option R) (s : St) : g12D A n [true, true] K s = K .ret s := by kernel_rfl
theorem g12R0 {R : Type} (A : Ar) (n : Nat) (K : Ex → St → Option R) (x0 : List Nat) : g12D A n [false] K ⟨[(0, (.v (.cell (.str x0))))], []⟩ = K .normal ⟨[(2, (.v (.cell (.bool false)))), (0, (.v (.cell (.str x0))))], []⟩ := by kernel_rfl
theorem g12R1 {R : Type} (A : Ar) (n : Nat) (K : Ex → St → Option R) (x0 : List Nat) : g12D A n [true, false] K ⟨[(0, (.v (.cell (.str x0))))], []⟩ = match (generalizing := false) A.ic .eql (A.ofN x0.length) 32 with
    | true => match (generalizing := false) g10ok x0 with
      | true => match (generalizing := false) A.sc .eql (g10r0 x0) x0 with
        | true => K .normal ⟨[(2, (.v (.cell (.bool true)))), (11, (.v (.cell (.bool true)))), (10, (.v (.cell (.bool true)))), (9, (.v (.cell (.str x0)))), (8, (.v (.cell (.str (g10r0 x0))))), (7, (.v (.cell (.str x0)))), (6, (.v (.cell (.bool true)))), (5, (.v (.cell (.bool true)))), (4, (.v (.cell (.int .i64 (A.ofN x0.length))))), (3, (.v (.cell (.str x0)))), (0, (.v (.cell (.str x0))))], []⟩
        | false => K .normal ⟨[(2, (.v (.cell (.bool false)))), (11, (.v (.cell (.bool false)))), (10, (.v (.cell (.bool false)))), (9, (.v (.cell (.str x0)))), (8, (.v (.cell (.str (g10r0 x0))))), (7, (.v (.cell (.str x0)))), (6, (.v (.cell (.bool true)))), (5, (.v (.cell (.bool true)))), (4, (.v (.cell (.int .i64 (A.ofN x0.length))))), (3, (.v (.cell (.str x0)))), (0, (.v (.cell (.str x0))))], []⟩
      | false => none
    | false => K .normal ⟨[(2, (.v (.cell (.bool false)))), (11, (.v (.cell (.bool false)))), (10, (.v (.cell .un))), (9, (.v (.cell .un))), (8, (.v (.cell .un))), (7, (.v (.cell .un))), (6, (.v (.cell (.bool false)))), (5, (.v (.cell (.bool false)))), (4, (.v (.cell (.int .i64 (A.ofN x0.length))))), (3, (.v (.cell (.str x0)))), (0, (.v (.cell (.str x0))))], []⟩ := by kernel_rfl
def g12 {R : Type} (A : Ar) (n : Nat) (kk : AV → Heap → Option R) (a : List Nat) : Option R :=
  match (generalizing := false) A.ic .eql (A.ofN a.length) 32 with
  | true => match (generalizing := false) g10ok a with
    | true => match (generalizing := false) A.sc .eql (g10r0 a) a with
      | true => kk (.v (.cell (.bool true))) []
      | false => kk (.v (.cell (.bool false))) []
    | false => none
  | false => kk (.v (.cell (.bool false))) []
set_option maxRecDepth 100000 in
theorem g12_eq {R : Type} (A : Ar) (n : Nat) (kk : AV → Heap → Option R) (a : List Nat) :
    funD A gtys (orcOf [(10, g10o)]) g12an n (bodyOf Try.f12) g12res [(.v (.cell (.str a)))] [] kk = g12 A n kk a := by
  have h1 : (g12T kk) .ret ⟨[(2, (.v (.cell (.bool true)))), (11, (.v (.cell (.bool true)))), (10, (.v (.cell (.bool true)))), (9, (.v (.cell (.str a)))), (8, (.v (.cell (.str (g10r0 a))))), (7, (.v (.cell (.str a)))), (6, (.v (.cell (.bool true)))), (5, (.v (.cell (.bool true)))), (4, (.v (.cell (.int .i64 (A.ofN a.length))))), (3, (.v (.cell (.str a)))), (0, (.v (.cell (.str a))))], []⟩ = kk (.v (.cell (.bool true))) [] := by kernel_rfl
  have h2 := (g12p11 A n _ _).trans h1
  have h3 := (g12Qn A n _ _ _).trans h2
  have h4 : (g12T kk) .ret ⟨[(2, (.v (.cell (.bool false)))), (11, (.v (.cell (.bool false)))), (10, (.v (.cell (.bool false)))), (9, (.v (.cell (.str a)))), (8, (.v (.cell (.str (g10r0 a))))), (7, (.v (.cell (.str a)))), (6, (.v (.cell (.bool true)))), (5, (.v (.cell (.bool true)))), (4, (.v (.cell (.int .i64 (A.ofN a.length))))), (3, (.v (.cell (.str a)))), (0, (.v (.cell (.str a))))], []⟩ = kk (.v (.cell (.bool false))) [] := by kernel_rfl
  have h5 := (g12p11 A n _ _).trans h4
  have h6 := (g12Qn A n _ _ _).trans h5
  have h7 : (g12T kk) .ret ⟨[(2, (.v (.cell (.bool false)))), (11, (.v (.cell (.bool false)))), (10, (.v (.cell .un))), (9, (.v (.cell .un))), (8, (.v (.cell .un))), (7, (.v (.cell .un))), (6, (.v (.cell (.bool false)))), (5, (.v (.cell (.bool false)))), (4, (.v (.cell (.int .i64 (A.ofN a.length))))), (3, (.v (.cell (.str a)))), (0, (.v (.cell (.str a))))], []⟩ = kk (.v (.cell (.bool false))) [] := by kernel_rfl
  have h8 := (g12p11 A n _ _).trans h7
  have h9 := (g12Qn A n _ _ _).trans h8
  have h10 := (g12p10 A n (g12Q A n [true, true] (g12T kk)) ⟨[(2, (.v (.cell (.bool false)))), (0, (.v (.cell (.str a))))], []⟩ ⟨[(0, (.v (.cell (.str a))))], []⟩ (by kernel_rfl)).trans (g12R1 A n (g12Q A n [true, true] (g12T kk)) a)
  rw [h3, h6, h9] at h10
  have h11 := (g12p1 A n _ _).trans h10
  have h12 := (g12Qn A n _ _ _).trans h11
  have h13 := (g12p0 A n (g12Q A n [true] (g12T kk)) ⟨[(0, (.v (.cell (.str a))))], []⟩ ⟨[(0, (.v (.cell (.str a))))], []⟩ (by kernel_rfl)).trans (g12R0 A n (g12Q A n [true] (g12T kk)) a)
  rw [h12] at h13
  have h14 := (g12p A n _ _).trans h13
  exact (show funD A gtys (orcOf [(10, g10o)]) g12an n (bodyOf Try.f12) g12res [(.v (.cell (.str a)))] [] kk = g12D A n [] (g12T kk) ⟨[(0, (.v (.cell (.str a))))], []⟩ from by kernel_rfl).trans (h14.trans (by kernel_rfl))
def g12is (o : Option AV) : Bool := match o with
  | some (.v (.cell (.bool _))) => true
  | _ => false
def g12g0 (o : Option AV) : Bool := match o with
  | some (.v (.cell (.bool x))) => x
  | _ => false
theorem g12is_spec {o : Option AV} (h : g12is o = true) : o = some (.v (.cell (.bool (g12g0 o)))) := by
  unfold g12is at h
  split at h
  · rfl
  · cases h
def g12v (a : List Nat) : Option AV := g12 realA (100000) (fun v _ => some v) a
def g12ok (a : List Nat) : Bool := g12is (g12v a)
def g12r0 (a : List Nat) : Bool := g12g0 (g12v a)
theorem g12ok_spec {a} (h : g12ok a = true) : g12v a = some (.v (.cell (.bool (g12r0 a)))) := g12is_spec h
def g12o (args : List AV) : Option (Bool × AV) := match args with
  | [.v (.cell (.str a))] => some (g12ok a, .v (.cell (.bool (g12r0 a))))
  | _ => none
theorem g12O_sound : OSound Try.prog (orcOf [(10, g10o)]) := orc_sound fun f g hm args v hv => by
  simp only [List.mem_cons, List.not_mem_nil, or_false, Prod.mk.injEq] at hm
  rcases hm with ⟨rfl, rfl⟩
  · exact g10o_sound _ _ hv
theorem g12o_sound : ∀ args v, g12o args = some (true, v) → Fn1 Try.prog 12 args v := by
  intro args v h
  unfold g12o at h
  split at h
  · rename_i a
    simp only [Option.some.injEq, Prod.mk.injEq] at h
    obtain ⟨hc, h⟩ := h
    subst h
    · skip
      exact fn1_of mixed gtysOK g12O_sound (orc_det _) (an := g12an) (n := 100000) Try.func12 (c := bodyOf Try.f12) rfl (by kernel_rfl) Try.call12 (Nat.le_of_ble_eq_true rfl) (fun b => rfl) (fun _ => (g12_eq realA (100000) (fun v _ => some v) a).trans (show g12v a = _ from g12ok_spec hc))
  · cases h
/- engrosser/scalar.MulAdd -/
def g14an : Ann := [(0, ([0, 1, 2], [])), (1, ([0, 1, 2], [])), (2, ([0, 1, 2, 7], [2000])), (3, ([0, 1, 2, 7, 15, 16], [2000])), (4, ([0, 1, 2, 7, 15, 16], [2000])), (5, ([0, 1, 2, 7, 8, 15, 16], [2000])), (6, ([0, 1, 2, 7, 8, 15, 16, 21, 22], [2000])), (7, ([0, 1, 2, 7, 8, 15, 16, 21, 22], [2000])), (8, ([0, 1, 2, 7, 8, 9, 15, 16, 21, 22], [2000])), (9, ([0, 1, 2, 7, 8, 15, 16, 21, 22], [2000])), (10, ([0, 1, 2, 7, 15, 16], [2000])), (11, ([2, 7], [2000])), (12, ([2, 7, 45, 46], [2000])), (13, ([2, 7, 45, 46], [2000])), (14, ([2, 7, 10, 45, 46], [2000])), (15, ([2, 7, 45, 46], [2000])), (16, ([7], [2000])), (17, ([7, 11], [2000, 17000])), (18, ([7, 11, 61, 62], [2000, 17000])), (19, ([7, 11, 61, 62], [2000, 17000])), (20, ([7, 11, 12, 61, 62], [2000, 17000])), (21, ([7, 11, 12, 61, 62], [2000, 17000])), (22, ([7, 11, 61, 62], [2000, 17000])), (23, ([11], [17000]))]
def g14res : List ResultVar := [.tmp 6]
noncomputable def g14D {R : Type} (A : Ar) (n : Nat) (p : List Bool) (K : Ex → St → Option R) (s : St) : Option R := codeD A gtys (orcOf [(10, g10o)]) g14an n (sub (bodyOf Try.f14) p) K s
noncomputable def g14V {R : Type} (A : Ar) (n : Nat) (p : List Bool) (m : Nat) (K : Ex → St → Option R) (s : St) : Option R := loopD (fun K' s'' => codeD A gtys (orcOf [(10, g10o)]) g14an n (sub (bodyOf Try.f14) p) K' s'') m K s
noncomputable def g14Q {R : Type} (A : Ar) (n : Nat) (p : List Bool) (K : Ex → St → Option R) : Ex → St → Option R := seqC (g14D A n p K) K
noncomputable def g14W {R : Type} (A : Ar) (n : Nat) (p : List Bool) (m : Nat) (K : Ex → St → Option R) : Ex → St → Option R := seqC (g14V A n p m K) K
noncomputable def g14T {R : Type} (kk : AV → Heap → Option R) : Ex → St → Option R := finD gtys g14res kk
theorem g14Qn {R : Type} (A : Ar) (n : Nat) (p : List Bool) (K : Ex → St → Option R) (s : St) : g14Q A n p K .normal s = g14D A n p K s := rfl
theorem g14Qe {R : Type} (A : Ar) (n : Nat) (p : List Bool) (K : Ex → St → Option R) (i : Nat) (s : St) : g14Q A n p K (.exit i) s = K (.exit i) s := rfl
theorem g14Qr {R : Type} (A : Ar) (n : Nat) (p : List Bool) (K : Ex → St → Option R) (s : St) : g14Q A n p K .ret s = K .ret s := rfl
theorem g14Wn {R : Type} (A : Ar) (n : Nat) (p : List Bool) (m : Nat) (K : Ex → St → Option R) (s : St) : g14W A n p m K .normal s = g14V A n p m K s := rfl
theorem g14We {R : Type} (A : Ar) (n : Nat) (p : List Bool) (m : Nat) (K : Ex → St → Option R) (i : Nat) (s : St) : g14W A n p m K (.exit i) s = K (.exit i) s := rfl
theorem g14Wr {R : Type} (A : Ar) (n : Nat) (p : List Bool) (m : Nat) (K : Ex → St → Option R) (s : St) : g14W A n p m K .ret s = K .ret s := rfl
theorem g14Vs {R : Type} (A : Ar) (n : Nat) (p : List Bool) (m : Nat) (K : Ex → St → Option R) (s : St) : g14V A n p (m + 1) K s = g14D A n p (g14W A n p m K) s := rfl
theorem g14p {R : Type} (A : Ar) (n : Nat) (K : Ex → St → Option R) (s : St) : g14D A n [] K s = g14D A n [false] (g14Q A n [true] K) s := by kernel_rfl
theorem g14p0 {R : Type} (A : Ar) (n : Nat) (K : Ex → St → Option R) (s s' : St) (h : keep g14an 0 s = keep g14an 0 s') : g14D A n [false] K s = g14D A n [false] K s' := codeD_first (id := 0) (by kernel_rfl) h K
theorem g14p1 {R : Type} (A : Ar) (n : Nat) (K : Ex → St → Option R) (s : St) : g14D A n [true] K s = g14D A n [true, false] (g14Q A n [true, true] K) s := by kernel_rfl
theorem g14p10 {R : Type} (A : Ar) (n : Nat) (K : Ex → St → Option R) (s s' : St) (h : keep g14an 1 s = keep g14an 1 s') : g14D A n [true, false] K s = g14D A n [true, false] K s' := codeD_first (id := 1) (by kernel_rfl) h K
theorem g14p11 {R : Type} (A : Ar) (n : Nat) (K : Ex → St → Option R) (s : St) : g14D A n [true, true] K s = g14D A n [true, true, false] (g14Q A n [true, true, true] K) s := by kernel_rfl
theorem g14p110 {R : Type} (A : Ar) (n : Nat) (K : Ex → St → Option R) (s : St) : g14D A n [true, true, false] K s = g14D A n [true, true, false, false] (g14Q A n [true, true, false, true] K) s := by kernel_rfl
theorem g14p1100 {R : Type} (A : Ar) (n : Nat) (K : Ex → St → Option R) (s s' : St) (h : keep g14an 2 s = keep g14an 2 s') : g14D A n [true, true, false, false] K s = g14D A n [true, true, false, false] K s' := codeD_first (id := 2) (by kernel_rfl) h K
theorem g14p1101 {R : Type} (A : Ar) (n : Nat) (K : Ex → St → Option R) (s : St) : g14D A n [true, true, false, true] K s = g14D A n [true, true, false, true, false] (blockK 0 K) s := by kernel_rfl
theorem g14p11010 {R : Type} (A : Ar) (n : Nat) (K : Ex → St → Option R) (s : St) : g14D A n [true, true, false, true, false] K s = g14V A n [true, true, false, true, false, false] n K s := by kernel_rfl
theorem g14p110100 {R : Type} (A : Ar) (n : Nat) (K : Ex → St → Option R) (s : St) : g14D A n [true, true, false, true, false, false] K s = g14D A n [true, true, false, true, false, false, false] (g14Q A n [true, true, false, true, false, false, true] K) s := by kernel_rfl
theorem g14p1101000 {R : Type} (A : Ar) (n : Nat) (K : Ex → St → Option R) (s s' : St) (h : keep g14an 3 s = keep g14an 3 s') : g14D A n [true, true, false, true, false, false, false] K s = g14D A n [true, true, false, true, false, false, false] K s' := codeD_first (id := 3) (by kernel_rfl) h K
theorem g14p1101001 {R : Type} (A : Ar) (n : Nat) (K : Ex → St → Option R) (s : St) : g14D A n [true, true, false, true, false, false, true] K s = g14D A n [true, true, false, true, false, false, true, false] (g14Q A n [true, true, false, true, false, false, true, true] K) s := by kernel_rfl
theorem g14p11010010 {R : Type} (A : Ar) (n : Nat) (K : Ex → St → Option R) (s : St) (t : Bool) : ev s (.tmp 17) = some (.v (.cell (.bool t))) → g14D A n [true, true, false, true, false, false, true, false] K s = (match t with
    | true => g14D A n [true, true, false, true, false, false, true, false, false] K s
    | false => g14D A n [true, true, false, true, false, false, true, false, true] K s) := codeD_cond t
theorem g14p110100100 {R : Type} (A : Ar) (n : Nat) (K : Ex → St → Option R) (s : St) : g14D A n [true, true, false, true, false, false, true, false, false] K s = K .normal s := by kernel_rfl
theorem g14p110100101 {R : Type} (A : Ar) (n : Nat) (K : Ex → St → Option R) (s : St) : g14D A n [true, true, false, true, false, false, true, false, true] K s = K (.exit 0) s := by kernel_rfl
theorem g14p11010011 {R : Type} (A : Ar) (n : Nat) (K : Ex → St → Option R) (s : St) : g14D A n [true, true, false, true, false, false, true, true] K s = g14D A n [true, true, false, true, false, false, true, true, false] (g14Q A n [true, true, false, true, false, false, true, true, true] K) s := by kernel_rfl
theorem g14p110100110 {R : Type} (A : Ar) (n : Nat) (K : Ex → St → Option R) (s : St) : g14D A n [true, true, false, true, false, false, true, true, false] K s = g14D A n [true, true, false, true, false, false, true, true, false, false] (blockK 1 K) s := by kernel_rfl
theorem g14p1101001100 {R : Type} (A : Ar) (n : Nat) (K : Ex → St → Option R) (s : St) : g14D A n [true, true, false, true, false, false, true, true, false, false] K s = g14D A n [true, true, false, true, false, false, true, true, false, false, false] (g14Q A n [true, true, false, true, false, false, true, true, false, false, true] K) s := by kernel_rfl
theorem g14p11010011000 {R : Type} (A : Ar) (n : Nat) (K : Ex → St → Option R) (s s' : St) (h : keep g14an 4 s = keep g14an 4 s') : g14D A n [true, true, false, true, false, false, true, true, false, false, false] K s = g14D A n [true, true, false, true, false, false, true, true, false, false, false] K s' := codeD_first (id := 4) (by kernel_rfl) h K
theorem g14p11010011001 {R : Type} (A : Ar) (n : Nat) (K : Ex → St → Option R) (s : St) : g14D A n [true, true, false, true, false, false, true, true, false, false, true] K s = g14D A n [true, true, false, true, false, false, true, true, false, false, true, false] (g14Q A n [true, true, false, true, false, false, true, true, false, false, true, true] K) s := by kernel_rfl
theorem g14p110100110010 {R : Type} (A : Ar) (n : Nat) (K : Ex → St → Option R) (s s' : St) (h : keep g14an 5 s = keep g14an 5 s') : g14D A n [true, true, false, true, false, false, true, true, false, false, true, false] K s = g14D A n [true, true, false, true, false, false, true, true, false, false, true, false] K s' := codeD_first (id := 5) (by kernel_rfl) h K
theorem g14p110100110011 {R : Type} (A : Ar) (n : Nat) (K : Ex → St → Option R) (s : St) : g14D A n [true, true, false, true, false, false, true, true, false, false, true, true] K s = g14D A n [true, true, false, true, false, false, true, true, false, false, true, true, false] (blockK 2 K) s := by kernel_rfl
theorem g14p1101001100110 {R : Type} (A : Ar) (n : Nat) (K : Ex → St → Option R) (s : St) : g14D A n [true, true, false, true, false, false, true, true, false, false, true, true, false] K s = g14V A n [true, true, false, true, false, false, true, true, false, false, true, true, false, false] n K s := by kernel_rfl
theorem g14p11010011001100 {R : Type} (A : Ar) (n : Nat) (K : Ex → St → Option R) (s : St) : g14D A n [true, true, false, true, false, false, true, true, false, false, true, true, false, false] K s = g14D A n [true, true, false, true, false, false, true, true, false, false, true, true, false, false, false] (g14Q A n [true, true, false, true, false, false, true, true, false, false, true, true, false, false, true] K) s := by kernel_rfl
theorem g14p110100110011000 {R : Type} (A : Ar) (n : Nat) (K : Ex → St → Option R) (s s' : St) (h : keep g14an 6 s = keep g14an 6 s') : g14D A n [true, true, false, true, false, false, true, true, false, false, true, true, false, false, false] K s = g14D A n [true, true, false, true, false, false, true, true, false, false, true, true, false, false, false] K s' := codeD_first (id := 6) (by kernel_rfl) h K
theorem g14p110100110011001 {R : Type} (A : Ar) (n : Nat) (K : Ex → St → Option R) (s : St) : g14D A n [true, true, false, true, false, false, true, true, false, false, true, true, false, false, true] K s = g14D A n [true, true, false, true, false, false, true, true, false, false, true, true, false, false, true, false] (g14Q A n [true, true, false, true, false, false, true, true, false, false, true, true, false, false, true, true] K) s := by kernel_rfl
theorem g14p1101001100110010 {R : Type} (A : Ar) (n : Nat) (K : Ex → St → Option R) (s : St) (t : Bool) : ev s (.tmp 23) = some (.v (.cell (.bool t))) → g14D A n [true, true, false, true, false, false, true, true, false, false, true, true, false, false, true, false] K s = (match t with
    | true => g14D A n [true, true, false, true, false, false, true, true, false, false, true, true, false, false, true, false, false] K s
    | false => g14D A n [true, true, false, true, false, false, true, true, false, false, true, true, false, false, true, false, true] K s) := codeD_cond t
theorem g14p11010011001100100 {R : Type} (A : Ar) (n : Nat) (K : Ex → St → Option R) (s : St) : g14D A n [true, true, false, true, false, false, true, true, false, false, true, true, false, false, true, false, false] K s = K .normal s := by kernel_rfl
theorem g14p11010011001100101 {R : Type} (A : Ar) (n : Nat) (K : Ex → St → Option R) (s : St) : g14D A n [true, true, false, true, false, false, true, true, false, false, true, true, false, false, true, false, true] K s = K (.exit 2) s := by kernel_rfl
theorem g14p1101001100110011 {R : Type} (A : Ar) (n : Nat) (K : Ex → St → Option R) (s : St) : g14D A n [true, true, false, true, false, false, true, true, false, false, true, true, false, false, true, true] K s = g14D A n [true, true, false, true, false, false, true, true, false, false, true, true, false, false, true, true, false] (g14Q A n [true, true, false, true, false, false, true, true, false, false, true, true, false, false, true, true, true] K) s := by kernel_rfl
theorem g14p11010011001100110 {R : Type} (A : Ar) (n : Nat) (K : Ex → St → Option R) (s : St) : g14D A n [true, true, false, true, false, false, true, true, false, false, true, true, false, false, true, true, false] K s = g14D A n [true, true, false, true, false, false, true, true, false, false, true, true, false, false, true, true, false, false] (blockK 3 K) s := by kernel_rfl
theorem g14p110100110011001100 {R : Type} (A : Ar) (n : Nat) (K : Ex → St → Option R) (s : St) : g14D A n [true, true, false, true, false, false, true, true, false, false, true, true, false, false, true, true, false, false] K s = g14D A n [true, true, false, true, false, false, true, true, false, false, true, true, false, false, true, true, false, false, false] (g14Q A n [true, true, false, true, false, false, true, true, false, false, true, true, false, false, true, true, false, false, true] K) s := by kernel_rfl
theorem g14p1101001100110011000 {R : Type} (A : Ar) (n : Nat) (K : Ex → St → Option R) (s s' : St) (h : keep g14an 7 s = keep g14an 7 s') : g14D A n [true, true, false, true, false, false, true, true, false, false, true, true, false, false, true, true, false, false, false] K s = g14D A n [true, true, false, true, false, false, true, true, false, false, true, true, false, false, true, true, false, false, false] K s' := codeD_first (id := 7) (by kernel_rfl) h K
theorem g14p1101001100110011001 {R : Type} (A : Ar) (n : Nat) (K : Ex → St → Option R) (s s' : St) (h : keep g14an 8 s = keep g14an 8 s') : g14D A n [true, true, false, true, false, false, true, true, false, false, true, true, false, false, true, true, false, false, true] K s = g14D A n [true, true, false, true, false, false, true, true, false, false, true, true, false, false, true, true, false, false, true] K s' := codeD_first (id := 8) (by kernel_rfl) h K
theorem g14p11010011001100111 {R : Type} (A : Ar) (n : Nat) (K : Ex → St → Option R) (s s' : St) (h : keep g14an 9 s = keep g14an 9 s') : g14D A n [true, true, false, true, false, false, true, true, false, false, true, true, false, false, true, true, true] K s = g14D A n [true, true, false, true, false, false, true, true, false, false, true, true, false, false, true, true, true] K s' := codeD_first (id := 9) (by kernel_rfl) h K
theorem g14p110100111 {R : Type} (A : Ar) (n : Nat) (K : Ex → St → Option R) (s s' : St) (h : keep g14an 10 s = keep g14an 10 s') : g14D A n [true, true, false, true, false, false, true, true, true] K s = g14D A n [true, true, false, true, false, false, true, true, true] K s' := codeD_first (id := 10) (by kernel_rfl) h K
theorem g14p111 {R : Type} (A : Ar) (n : Nat) (K : Ex → St → Option R) (s : St) : g14D A n [true, true, true] K s = g14D A n [true, true, true, false] (g14Q A n [true, true, true, true] K) s := by kernel_rfl
theorem g14p1110 {R : Type} (A : Ar) (n : Nat) (K : Ex → St → Option R) (s : St) : g14D A n [true, true, true, false] K s = g14D A n [true, true, true, false, false] (g14Q A n [true, true, true, false, true] K) s := by kernel_rfl
theorem g14p11100 {R : Type} (A : Ar) (n : Nat) (K : Ex → St → Option R) (s s' : St) (h : keep g14an 11 s = keep g14an 11 s') : g14D A n [true, true, true, false, false] K s = g14D A n [true, true, true, false, false] K s' := codeD_first (id := 11) (by kernel_rfl) h K
theorem g14p11101 {R : Type} (A : Ar) (n : Nat) (K : Ex → St → Option R) (s : St) : g14D A n [true, true, true, false, true] K s = g14D A n [true, true, true, false, true, false] (blockK 4 K) s := by kernel_rfl
theorem g14p111010 {R : Type} (A : Ar) (n : Nat) (K : Ex → St → Option R) (s : St) : g14D A n [true, true, true, false, true, false] K s = g14V A n [true, true, true, false, true, false, false] n K s := by kernel_rfl
theorem g14p1110100 {R : Type} (A : Ar) (n : Nat) (K : Ex → St → Option R) (s : St) : g14D A n [true, true, true, false, true, false, false] K s = g14D A n [true, true, true, false, true, false, false, false] (g14Q A n [true, true, true, false, true, false, false, true] K) s := by kernel_rfl
theorem g14p11101000 {R : Type} (A : Ar) (n : Nat) (K : Ex → St → Option R) (s s' : St) (h : keep g14an 12 s = keep g14an 12 s') : g14D A n [true, true, true, false, true, false, false, false] K s = g14D A n [true, true, true, false, true, false, false, false] K s' := codeD_first (id := 12) (by kernel_rfl) h K
theorem g14p11101001 {R : Type} (A : Ar) (n : Nat) (K : Ex → St → Option R) (s : St) : g14D A n [true, true, true, false, true, false, false, true] K s = g14D A n [true, true, true, false, true, false, false, true, false] (g14Q A n [true, true, true, false, true, false, false, true, true] K) s := by kernel_rfl
theorem g14p111010010 {R : Type} (A : Ar) (n : Nat) (K : Ex → St → Option R) (s : St) (t : Bool) : ev s (.tmp 47) = some (.v (.cell (.bool t))) → g14D A n [true, true, true, false, true, false, false, true, false] K s = (match t with
    | true => g14D A n [true, true, true, false, true, false, false, true, false, false] K s
    | false => g14D A n [true, true, true, false, true, false, false, true, false, true] K s) := codeD_cond t
theorem g14p1110100100 {R : Type} (A : Ar) (n : Nat) (K : Ex → St → Option R) (s : St) : g14D A n [true, true, true, false, true, false, false, true, false, false] K s = K .normal s := by kernel_rfl
theorem g14p1110100101 {R : Type} (A : Ar) (n : Nat) (K : Ex → St → Option R) (s : St) : g14D A n [true, true, true, false, true, false, false, true, false, true] K s = K (.exit 4) s := by kernel_rfl
theorem g14p111010011 {R : Type} (A : Ar) (n : Nat) (K : Ex → St → Option R) (s : St) : g14D A n [true, true, true, false, true, false, false, true, true] K s = g14D A n [true, true, true, false, true, false, false, true, true, false] (g14Q A n [true, true, true, false, true, false, false, true, true, true] K) s := by kernel_rfl
theorem g14p1110100110 {R : Type} (A : Ar) (n : Nat) (K : Ex → St → Option R) (s : St) : g14D A n [true, true, true, false, true, false, false, true, true, false] K s = g14D A n [true, true, true, false, true, false, false, true, true, false, false] (blockK 5 K) s := by kernel_rfl
theorem g14p11101001100 {R : Type} (A : Ar) (n : Nat) (K : Ex → St → Option R) (s : St) : g14D A n [true, true, true, false, true, false, false, true, true, false, false] K s = g14D A n [true, true, true, false, true, false, false, true, true, false, false, false] (g14Q A n [true, true, true, false, true, false, false, true, true, false, false, true] K) s := by kernel_rfl
theorem g14p111010011000 {R : Type} (A : Ar) (n : Nat) (K : Ex → St → Option R) (s s' : St) (h : keep g14an 13 s = keep g14an 13 s') : g14D A n [true, true, true, false, true, false, false, true, true, false, false, false] K s = g14D A n [true, true, true, false, true, false, false, true, true, false, false, false] K s' := codeD_first (id := 13) (by kernel_rfl) h K
theorem g14p111010011001 {R : Type} (A : Ar) (n : Nat) (K : Ex → St → Option R) (s s' : St) (h : keep g14an 14 s = keep g14an 14 s') : g14D A n [true, true, true, false, true, false, false, true, true, false, false, true] K s = g14D A n [true, true, true, false, true, false, false, true, true, false, false, true] K s' := codeD_first (id := 14) (by kernel_rfl) h K
theorem g14p1110100111 {R : Type} (A : Ar) (n : Nat) (K : Ex → St → Option R) (s s' : St) (h : keep g14an 15 s = keep g14an 15 s') : g14D A n [true, true, true, false, true, false, false, true, true, true] K s = g14D A n [true, true, true, false, true, false, false, true, true, true] K s' := codeD_first (id := 15) (by kernel_rfl) h K
theorem g14p1111 {R : Type} (A : Ar) (n : Nat) (K : Ex → St → Option R) (s : St) : g14D A n [true, true, true, true] K s = g14D A n [true, true, true, true, false] (g14Q A n [true, true, true, true, true] K) s := by kernel_rfl
theorem g14p11110 {R : Type} (A : Ar) (n : Nat) (K : Ex → St → Option R) (s s' : St) (h : keep g14an 16 s = keep g14an 16 s') : g14D A n [true, true, true, true, false] K s = g14D A n [true, true, true, true, false] K s' := codeD_first (id := 16) (by kernel_rfl) h K
theorem g14p11111 {R : Type} (A : Ar) (n : Nat) (K : Ex → St → Option R) (s : St) : g14D A n [true, true, true, true, true] K s = g14D A n [true, true, true, true, true, false] (g14Q A n [true, true, true, true, true, true] K) s := by kernel_rfl
theorem g14p111110 {R : Type} (A : Ar) (n : Nat) (K : Ex → St → Option R) (s : St) : g14D A n [true, true, true, true, true, false] K s = g14D A n [true, true, true, true, true, false, false] (g14Q A n [true, true, true, true, true, false, true] K) s := by kernel_rfl
theorem g14p1111100 {R : Type} (A : Ar) (n : Nat) (K : Ex → St → Option R) (s s' : St) (h : keep g14an 17 s = keep g14an 17 s') : g14D A n [true, true, true, true, true, false, false] K s = g14D A n [true, true, true, true, true, false, false] K s' := codeD_first (id := 17) (by kernel_rfl) h K
theorem g14p1111101 {R : Type} (A : Ar) (n : Nat) (K : Ex → St → Option R) (s : St) : g14D A n [true, true, true, true, true, false, true] K s = g14D A n [true, true, true, true, true, false, true, false] (blockK 6 K) s := by kernel_rfl
theorem g14p11111010 {R : Type} (A : Ar) (n : Nat) (K : Ex → St → Option R) (s : St) : g14D A n [true, true, true, true, true, false, true, false] K s = g14V A n [true, true, true, true, true, false, true, false, false] n K s := by kernel_rfl
theorem g14p111110100 {R : Type} (A : Ar) (n : Nat) (K : Ex → St → Option R) (s : St) : g14D A n [true, true, true, true, true, false, true, false, false] K s = g14D A n [true, true, true, true, true, false, true, false, false, false] (g14Q A n [true, true, true, true, true, false, true, false, false, true] K) s := by kernel_rfl
theorem g14p1111101000 {R : Type} (A : Ar) (n : Nat) (K : Ex → St → Option R) (s s' : St) (h : keep g14an 18 s = keep g14an 18 s') : g14D A n [true, true, true, true, true, false, true, false, false, false] K s = g14D A n [true, true, true, true, true, false, true, false, false, false] K s' := codeD_first (id := 18) (by kernel_rfl) h K
theorem g14p1111101001 {R : Type} (A : Ar) (n : Nat) (K : Ex → St → Option R) (s : St) : g14D A n [true, true, true, true, true, false, true, false, false, true] K s = g14D A n [true, true, true, true, true, false, true, false, false, true, false] (g14Q A n [true, true, true, true, true, false, true, false, false, true, true] K) s := by kernel_rfl
theorem g14p11111010010 {R : Type} (A : Ar) (n : Nat) (K : Ex → St → Option R) (s : St) (t : Bool) : ev s (.tmp 63) = some (.v (.cell (.bool t))) → g14D A n [true, true, true, true, true, false, true, false, false, true, false] K s = (match t with
    | true => g14D A n [true, true, true, true, true, false, true, false, false, true, false, false] K s
    | false => g14D A n [true, true, true, true, true, false, true, false, false, true, false, true] K s) := codeD_cond t
theorem g14p111110100100 {R : Type} (A : Ar) (n : Nat) (K : Ex → St → Option R) (s : St) : g14D A n [true, true, true, true, true, false, true, false, false, true, false, false] K s = K .normal s := by kernel_rfl
theorem g14p111110100101 {R : Type} (A : Ar) (n : Nat) (K : Ex → St → Option R) (s : St) : g14D A n [true, true, true, true, true, false, true, false, false, true, false, true] K s = K (.exit 6) s := by kernel_rfl
theorem g14p11111010011 {R : Type} (A : Ar) (n : Nat) (K : Ex → St → Option R) (s : St) : g14D A n [true, true, true, true, true, false, true, false, false, true, true] K s = g14D A n [true, true, true, true, true, false, true, false, false, true, true, false] (g14Q A n [true, true, true, true, true, false, true, false, false, true, true, true] K) s := by kernel_rfl
theorem g14p111110100110 {R : Type} (A : Ar) (n : Nat) (K : Ex → St → Option R) (s : St) : g14D A n [true, true, true, true, true, false, true, false, false, true, true, false] K s = g14D A n [true, true, true, true, true, false, true, false, false, true, true, false, false] (blockK 7 K) s := by kernel_rfl
theorem g14p1111101001100 {R : Type} (A : Ar) (n : Nat) (K : Ex → St → Option R) (s : St) : g14D A n [true, true, true, true, true, false, true, false, false, true, true, false, false] K s = g14D A n [true, true, true, true, true, false, true, false, false, true, true, false, false, false] (g14Q A n [true, true, true, true, true, false, true, false, false, true, true, false, false, true] K) s := by kernel_rfl
theorem g14p11111010011000 {R : Type} (A : Ar) (n : Nat) (K : Ex → St → Option R) (s s' : St) (h : keep g14an 19 s = keep g14an 19 s') : g14D A n [true, true, true, true, true, false, true, false, false, true, true, false, false, false] K s = g14D A n [true, true, true, true, true, false, true, false, false, true, true, false, false, false] K s' := codeD_first (id := 19) (by kernel_rfl) h K
theorem g14p11111010011001 {R : Type} (A : Ar) (n : Nat) (K : Ex → St → Option R) (s : St) : g14D A n [true, true, true, true, true, false, true, false, false, true, true, false, false, true] K s = g14D A n [true, true, true, true, true, false, true, false, false, true, true, false, false, true, false] (g14Q A n [true, true, true, true, true, false, true, false, false, true, true, false, false, true, true] K) s := by kernel_rfl
theorem g14p111110100110010 {R : Type} (A : Ar) (n : Nat) (K : Ex → St → Option R) (s s' : St) (h : keep g14an 20 s = keep g14an 20 s') : g14D A n [true, true, true, true, true, false, true, false, false, true, true, false, false, true, false] K s = g14D A n [true, true, true, true, true, false, true, false, false, true, true, false, false, true, false] K s' := codeD_first (id := 20) (by kernel_rfl) h K
theorem g14p111110100110011 {R : Type} (A : Ar) (n : Nat) (K : Ex → St → Option R) (s s' : St) (h : keep g14an 21 s = keep g14an 21 s') : g14D A n [true, true, true, true, true, false, true, false, false, true, true, false, false, true, true] K s = g14D A n [true, true, true, true, true, false, true, false, false, true, true, false, false, true, true] K s' := codeD_first (id := 21) (by kernel_rfl) h K
theorem g14p111110100111 {R : Type} (A : Ar) (n : Nat) (K : Ex → St → Option R) (s s' : St) (h : keep g14an 22 s = keep g14an 22 s') : g14D A n [true, true, true, true, true, false, true, false, false, true, true, true] K s = g14D A n [true, true, true, true, true, false, true, false, false, true, true, true] K s' := codeD_first (id := 22) (by kernel_rfl) h K
theorem g14p111111 {R : Type} (A : Ar) (n : Nat) (K : Ex → St → Option R) (s : St) : g14D A n [true, true, true, true, true, true] K s = g14D A n [true, true, true, true, true, true, false] (g14Q A n [true, true, true, true, true, true, true] K) s := by kernel_rfl
theorem g14p1111110 {R : Type} (A : Ar) (n : Nat) (K : Ex → St → Option R) (s s' : St) (h : keep g14an 23 s = keep g14an 23 s') : g14D A n [true, true, true, true, true, true, false] K s = g14D A n [true, true, true, true, true, true, false] K s' := codeD_first (id := 23) (by kernel_rfl) h K
theorem g14p1111111 {R : Type} (A : Ar) (n : Nat) (K : Ex → St → Option R) (s : St) : g14D A n [true, true, true, true, true, true, true] K s = K .ret s := by kernel_rfl
theorem g14R7 {R : Type} (A : Ar) (n : Nat) (K : Ex → St → Option R) (x0 : List Nat) (x1 : List Nat) (x2 : List Nat) (x3 : Int) (x4 : Int) (x5 : Int) (x6 : Int) (x7 : Int) (x8 : List Nat) : g14D A n [true, true, false, true, false, false, true, true, false, false, true, true, false, false, true, true, false, false, false] K ⟨[(0, (.v (.cell (.str x0)))), (1, (.v (.cell (.str x1)))), (2, (.v (.cell (.str x2)))), (7, (.v (.cell (.ptr 2000 0 none)))), (8, (.v (.cell (.int .i64 x3)))), (15, (.v (.cell (.int .i64 x4)))), (16, (.v (.cell (.int .i64 x5)))), (21, (.v (.cell (.int .i64 x6)))), (22, (.v (.cell (.int .i64 x7))))], [(2000, ⟨[.nums .u32 65 x8], 43, 1⟩)]⟩ = K .normal ⟨[(9, (.v (.cell (.int .i64 x7)))), (24, (.v (.cell (.int .i64 x7)))), (0, (.v (.cell (.str x0)))), (1, (.v (.cell (.str x1)))), (2, (.v (.cell (.str x2)))), (7, (.v (.cell (.ptr 2000 0 none)))), (8, (.v (.cell (.int .i64 x3)))), (15, (.v (.cell (.int .i64 x4)))), (16, (.v (.cell (.int .i64 x5)))), (21, (.v (.cell (.int .i64 x6)))), (22, (.v (.cell (.int .i64 x7))))], [(2000, ⟨[.nums .u32 65 x8], 43, 1⟩)]⟩ := by kernel_rfl
theorem g14R8 {R : Type} (A : Ar) (n : Nat) (K : Ex → St → Option R) (x0 : List Nat) (x1 : List Nat) (x2 : List Nat) (x3 : Int) (x4 : Int) (x5 : Int) (x6 : Int) (x7 : Int) (x8 : Int) (x9 : List Nat) : g14D A n [true, true, false, true, false, false, true, true, false, false, true, true, false, false, true, true, false, false, true] K ⟨[(0, (.v (.cell (.str x0)))), (1, (.v (.cell (.str x1)))), (2, (.v (.cell (.str x2)))), (7, (.v (.cell (.ptr 2000 0 none)))), (8, (.v (.cell (.int .i64 x3)))), (9, (.v (.cell (.int .i64 x4)))), (15, (.v (.cell (.int .i64 x5)))), (16, (.v (.cell (.int .i64 x6)))), (21, (.v (.cell (.int .i64 x7)))), (22, (.v (.cell (.int .i64 x8))))], [(2000, ⟨[.nums .u32 65 x9], 43, 1⟩)]⟩ = match (generalizing := false) A.neg (A.ib .add .i64 x3 x4) with
    | true => none
    | false => match (generalizing := false) A.lt (A.toN (A.ib .add .i64 x3 x4)) 65 with
      | true => match (generalizing := false) A.neg x3 with
        | true => none
        | false => match (generalizing := false) A.lt (A.toN x3) x0.length with
          | true => match (generalizing := false) A.neg x4 with
            | true => none
            | false => match (generalizing := false) A.lt (A.toN x4) x1.length with
              | true => match (generalizing := false) A.neg (A.ib .add .i64 x3 x4) with
                | true => none
                | false => match (generalizing := false) A.lt (A.toN (A.ib .add .i64 x3 x4)) 65 with
                  | true => K .normal ⟨[(40, (.v (.cell (.ptr 2000 0 (some ⟨A.toN (A.ib .add .i64 x3 x4), 1, 65, 0, 0, 0⟩))))), (39, (.v (.cell (.nat .u32 (A.nb .add .u32 (x9.getD (A.toN (A.ib .add .i64 x3 x4)) 0) (A.nb .mul .u32 (x0.getD (A.toN x3) 0) (x1.getD (A.toN x4) 0))))))), (38, (.v (.cell (.nat .u32 (A.nb .mul .u32 (x0.getD (A.toN x3) 0) (x1.getD (A.toN x4) 0)))))), (37, (.v (.cell (.nat .u32 (x1.getD (A.toN x4) 0))))), (36, (.v (.cell (.nat .u8 (x1.getD (A.toN x4) 0))))), (35, (.v (.cell (.int .i64 x4)))), (34, (.v (.cell (.str x1)))), (33, (.v (.cell (.nat .u32 (x0.getD (A.toN x3) 0))))), (32, (.v (.cell (.nat .u8 (x0.getD (A.toN x3) 0))))), (31, (.v (.cell (.int .i64 x3)))), (30, (.v (.cell (.str x0)))), (29, (.v (.cell (.nat .u32 (x9.getD (A.toN (A.ib .add .i64 x3 x4)) 0))))), (28, (.v (.cell (.ptr 2000 0 (some ⟨A.toN (A.ib .add .i64 x3 x4), 1, 65, 0, 0, 0⟩))))), (27, (.v (.cell (.int .i64 (A.ib .add .i64 x3 x4))))), (26, (.v (.cell (.int .i64 x4)))), (25, (.v (.cell (.int .i64 x3)))), (0, (.v (.cell (.str x0)))), (1, (.v (.cell (.str x1)))), (2, (.v (.cell (.str x2)))), (7, (.v (.cell (.ptr 2000 0 none)))), (8, (.v (.cell (.int .i64 x3)))), (9, (.v (.cell (.int .i64 x4)))), (15, (.v (.cell (.int .i64 x5)))), (16, (.v (.cell (.int .i64 x6)))), (21, (.v (.cell (.int .i64 x7)))), (22, (.v (.cell (.int .i64 x8))))], [(2000, ⟨[.nums .u32 65 (x9.set (A.toN (A.ib .add .i64 x3 x4)) (A.nb .add .u32 (x9.getD (A.toN (A.ib .add .i64 x3 x4)) 0) (A.nb .mul .u32 (x0.getD (A.toN x3) 0) (x1.getD (A.toN x4) 0))))], 43, 1⟩)]⟩
                  | false => none
              | false => none
          | false => none
      | false => none := by kernel_rfl
theorem g14R9 {R : Type} (A : Ar) (n : Nat) (K : Ex → St → Option R) (x0 : List Nat) (x1 : List Nat) (x2 : List Nat) (x3 : Int) (x4 : Int) (x5 : Int) (x6 : Int) (x7 : Int) (x8 : List Nat) : g14D A n [true, true, false, true, false, false, true, true, false, false, true, true, false, false, true, true, true] K ⟨[(0, (.v (.cell (.str x0)))), (1, (.v (.cell (.str x1)))), (2, (.v (.cell (.str x2)))), (7, (.v (.cell (.ptr 2000 0 none)))), (8, (.v (.cell (.int .i64 x3)))), (15, (.v (.cell (.int .i64 x4)))), (16, (.v (.cell (.int .i64 x5)))), (21, (.v (.cell (.int .i64 x6)))), (22, (.v (.cell (.int .i64 x7))))], [(2000, ⟨[.nums .u32 65 x8], 43, 1⟩)]⟩ = K .normal ⟨[(22, (.v (.cell (.int .i64 (A.ib .add .i64 x7 1))))), (41, (.v (.cell (.int .i64 (A.ib .add .i64 x7 1))))), (0, (.v (.cell (.str x0)))), (1, (.v (.cell (.str x1)))), (2, (.v (.cell (.str x2)))), (7, (.v (.cell (.ptr 2000 0 none)))), (8, (.v (.cell (.int .i64 x3)))), (15, (.v (.cell (.int .i64 x4)))), (16, (.v (.cell (.int .i64 x5)))), (21, (.v (.cell (.int .i64 x6)))), (22, (.v (.cell (.int .i64 x7))))], [(2000, ⟨[.nums .u32 65 x8], 43, 1⟩)]⟩ := by kernel_rfl
theorem g14R6 {R : Type} (A : Ar) (n : Nat) (K : Ex → St → Option R) (x0 : List Nat) (x1 : List Nat) (x2 : List Nat) (x3 : Int) (x4 : Int) (x5 : Int) (x6 : Int) (x7 : Int) (x8 : List Nat) : g14D A n [true, true, false, true, false, false, true, true, false, false, true, true, false, false, false] K ⟨[(0, (.v (.cell (.str x0)))), (1, (.v (.cell (.str x1)))), (2, (.v (.cell (.str x2)))), (7, (.v (.cell (.ptr 2000 0 none)))), (8, (.v (.cell (.int .i64 x3)))), (15, (.v (.cell (.int .i64 x4)))), (16, (.v (.cell (.int .i64 x5)))), (21, (.v (.cell (.int .i64 x6)))), (22, (.v (.cell (.int .i64 x7))))], [(2000, ⟨[.nums .u32 65 x8], 43, 1⟩)]⟩ = K .normal ⟨[(23, (.v (.cell (.bool (A.ic .lss x7 x6))))), (0, (.v (.cell (.str x0)))), (1, (.v (.cell (.str x1)))), (2, (.v (.cell (.str x2)))), (7, (.v (.cell (.ptr 2000 0 none)))), (8, (.v (.cell (.int .i64 x3)))), (15, (.v (.cell (.int .i64 x4)))), (16, (.v (.cell (.int .i64 x5)))), (21, (.v (.cell (.int .i64 x6)))), (22, (.v (.cell (.int .i64 x7))))], [(2000, ⟨[.nums .u32 65 x8], 43, 1⟩)]⟩ := by kernel_rfl
theorem g14R10 {R : Type} (A : Ar) (n : Nat) (K : Ex → St → Option R) (x0 : List Nat) (x1 : List Nat) (x2 : List Nat) (x3 : Int) (x4 : Int) (x5 : List Nat) : g14D A n [true, true, false, true, false, false, true, true, true] K ⟨[(0, (.v (.cell (.str x0)))), (1, (.v (.cell (.str x1)))), (2, (.v (.cell (.str x2)))), (7, (.v (.cell (.ptr 2000 0 none)))), (15, (.v (.cell (.int .i64 x3)))), (16, (.v (.cell (.int .i64 x4))))], [(2000, ⟨[.nums .u32 65 x5], 43, 1⟩)]⟩ = K .normal ⟨[(16, (.v (.cell (.int .i64 (A.ib .add .i64 x4 1))))), (42, (.v (.cell (.int .i64 (A.ib .add .i64 x4 1))))), (0, (.v (.cell (.str x0)))), (1, (.v (.cell (.str x1)))), (2, (.v (.cell (.str x2)))), (7, (.v (.cell (.ptr 2000 0 none)))), (15, (.v (.cell (.int .i64 x3)))), (16, (.v (.cell (.int .i64 x4))))], [(2000, ⟨[.nums .u32 65 x5], 43, 1⟩)]⟩ := by kernel_rfl
theorem g14R4 {R : Type} (A : Ar) (n : Nat) (K : Ex → St → Option R) (x0 : List Nat) (x1 : List Nat) (x2 : List Nat) (x3 : Int) (x4 : Int) (x5 : List Nat) : g14D A n [true, true, false, true, false, false, true, true, false, false, false] K ⟨[(0, (.v (.cell (.str x0)))), (1, (.v (.cell (.str x1)))), (2, (.v (.cell (.str x2)))), (7, (.v (.cell (.ptr 2000 0 none)))), (15, (.v (.cell (.int .i64 x3)))), (16, (.v (.cell (.int .i64 x4))))], [(2000, ⟨[.nums .u32 65 x5], 43, 1⟩)]⟩ = K .normal ⟨[(8, (.v (.cell (.int .i64 x4)))), (18, (.v (.cell (.int .i64 x4)))), (0, (.v (.cell (.str x0)))), (1, (.v (.cell (.str x1)))), (2, (.v (.cell (.str x2)))), (7, (.v (.cell (.ptr 2000 0 none)))), (15, (.v (.cell (.int .i64 x3)))), (16, (.v (.cell (.int .i64 x4))))], [(2000, ⟨[.nums .u32 65 x5], 43, 1⟩)]⟩ := by kernel_rfl
theorem g14R5 {R : Type} (A : Ar) (n : Nat) (K : Ex → St → Option R) (x0 : List Nat) (x1 : List Nat) (x2 : List Nat) (x3 : Int) (x4 : Int) (x5 : Int) (x6 : List Nat) : g14D A n [true, true, false, true, false, false, true, true, false, false, true, false] K ⟨[(0, (.v (.cell (.str x0)))), (1, (.v (.cell (.str x1)))), (2, (.v (.cell (.str x2)))), (7, (.v (.cell (.ptr 2000 0 none)))), (8, (.v (.cell (.int .i64 x3)))), (15, (.v (.cell (.int .i64 x4)))), (16, (.v (.cell (.int .i64 x5))))], [(2000, ⟨[.nums .u32 65 x6], 43, 1⟩)]⟩ = K .normal ⟨[(22, (.v (.cell (.int .i64 0)))), (21, (.v (.cell (.int .i64 (A.mn (A.ofN x1.length) 32))))), (20, (.v (.cell (.int .i64 (A.ofN x1.length))))), (19, (.v (.cell (.str x1)))), (0, (.v (.cell (.str x0)))), (1, (.v (.cell (.str x1)))), (2, (.v (.cell (.str x2)))), (7, (.v (.cell (.ptr 2000 0 none)))), (8, (.v (.cell (.int .i64 x3)))), (15, (.v (.cell (.int .i64 x4)))), (16, (.v (.cell (.int .i64 x5))))], [(2000, ⟨[.nums .u32 65 x6], 43, 1⟩)]⟩ := by kernel_rfl
theorem g14R13 {R : Type} (A : Ar) (n : Nat) (K : Ex → St → Option R) (x0 : List Nat) (x1 : Int) (x2 : Int) (x3 : List Nat) : g14D A n [true, true, true, false, true, false, false, true, true, false, false, false] K ⟨[(2, (.v (.cell (.str x0)))), (7, (.v (.cell (.ptr 2000 0 none)))), (45, (.v (.cell (.int .i64 x1)))), (46, (.v (.cell (.int .i64 x2))))], [(2000, ⟨[.nums .u32 65 x3], 43, 1⟩)]⟩ = K .normal ⟨[(10, (.v (.cell (.int .i64 x2)))), (48, (.v (.cell (.int .i64 x2)))), (2, (.v (.cell (.str x0)))), (7, (.v (.cell (.ptr 2000 0 none)))), (45, (.v (.cell (.int .i64 x1)))), (46, (.v (.cell (.int .i64 x2))))], [(2000, ⟨[.nums .u32 65 x3], 43, 1⟩)]⟩ := by kernel_rfl
theorem g14R14 {R : Type} (A : Ar) (n : Nat) (K : Ex → St → Option R) (x0 : List Nat) (x1 : Int) (x2 : Int) (x3 : Int) (x4 : List Nat) : g14D A n [true, true, true, false, true, false, false, true, true, false, false, true] K ⟨[(2, (.v (.cell (.str x0)))), (7, (.v (.cell (.ptr 2000 0 none)))), (10, (.v (.cell (.int .i64 x1)))), (45, (.v (.cell (.int .i64 x2)))), (46, (.v (.cell (.int .i64 x3))))], [(2000, ⟨[.nums .u32 65 x4], 43, 1⟩)]⟩ = match (generalizing := false) A.neg x1 with
    | true => none
    | false => match (generalizing := false) A.lt (A.toN x1) 65 with
      | true => match (generalizing := false) A.neg x1 with
        | true => none
        | false => match (generalizing := false) A.lt (A.toN x1) x0.length with
          | true => match (generalizing := false) A.neg x1 with
            | true => none
            | false => match (generalizing := false) A.lt (A.toN x1) 65 with
              | true => K .normal ⟨[(57, (.v (.cell (.ptr 2000 0 (some ⟨A.toN x1, 1, 65, 0, 0, 0⟩))))), (56, (.v (.cell (.nat .u32 (A.nb .add .u32 (x4.getD (A.toN x1) 0) (x0.getD (A.toN x1) 0)))))), (55, (.v (.cell (.nat .u32 (x0.getD (A.toN x1) 0))))), (54, (.v (.cell (.nat .u8 (x0.getD (A.toN x1) 0))))), (53, (.v (.cell (.int .i64 x1)))), (52, (.v (.cell (.str x0)))), (51, (.v (.cell (.nat .u32 (x4.getD (A.toN x1) 0))))), (50, (.v (.cell (.ptr 2000 0 (some ⟨A.toN x1, 1, 65, 0, 0, 0⟩))))), (49, (.v (.cell (.int .i64 x1)))), (2, (.v (.cell (.str x0)))), (7, (.v (.cell (.ptr 2000 0 none)))), (10, (.v (.cell (.int .i64 x1)))), (45, (.v (.cell (.int .i64 x2)))), (46, (.v (.cell (.int .i64 x3))))], [(2000, ⟨[.nums .u32 65 (x4.set (A.toN x1) (A.nb .add .u32 (x4.getD (A.toN x1) 0) (x0.getD (A.toN x1) 0)))], 43, 1⟩)]⟩
              | false => none
          | false => none
      | false => none := by kernel_rfl
theorem g14R15 {R : Type} (A : Ar) (n : Nat) (K : Ex → St → Option R) (x0 : List Nat) (x1 : Int) (x2 : Int) (x3 : List Nat) : g14D A n [true, true, true, false, true, false, false, true, true, true] K ⟨[(2, (.v (.cell (.str x0)))), (7, (.v (.cell (.ptr 2000 0 none)))), (45, (.v (.cell (.int .i64 x1)))), (46, (.v (.cell (.int .i64 x2))))], [(2000, ⟨[.nums .u32 65 x3], 43, 1⟩)]⟩ = K .normal ⟨[(46, (.v (.cell (.int .i64 (A.ib .add .i64 x2 1))))), (58, (.v (.cell (.int .i64 (A.ib .add .i64 x2 1))))), (2, (.v (.cell (.str x0)))), (7, (.v (.cell (.ptr 2000 0 none)))), (45, (.v (.cell (.int .i64 x1)))), (46, (.v (.cell (.int .i64 x2))))], [(2000, ⟨[.nums .u32 65 x3], 43, 1⟩)]⟩ := by kernel_rfl
theorem g14R19 {R : Type} (A : Ar) (n : Nat) (K : Ex → St → Option R) (x0 : Nat) (x1 : Int) (x2 : Int) (x3 : List Nat) (x4 : Nat) (x5 : List Nat) : g14D A n [true, true, true, true, true, false, true, false, false, true, true, false, false, false] K ⟨[(7, (.v (.cell (.ptr 2000 0 none)))), (11, (.v (.cell (.sl 17000 none x0 1)))), (61, (.v (.cell (.int .i64 x1)))), (62, (.v (.cell (.int .i64 x2))))], [(2000, ⟨[.nums .u32 65 x3], 43, 1⟩), (17000, ⟨[.nums .u8 x4 x5], 5, 2⟩)]⟩ = K .normal ⟨[(12, (.v (.cell (.int .i64 x2)))), (64, (.v (.cell (.int .i64 x2)))), (7, (.v (.cell (.ptr 2000 0 none)))), (11, (.v (.cell (.sl 17000 none x0 1)))), (61, (.v (.cell (.int .i64 x1)))), (62, (.v (.cell (.int .i64 x2))))], [(2000, ⟨[.nums .u32 65 x3], 43, 1⟩), (17000, ⟨[.nums .u8 x4 x5], 5, 2⟩)]⟩ := by kernel_rfl
theorem g14R20 {R : Type} (A : Ar) (n : Nat) (K : Ex → St → Option R) (x0 : Nat) (x1 : Int) (x2 : Int) (x3 : Int) (x4 : List Nat) (x5 : Nat) (x6 : List Nat) : g14D A n [true, true, true, true, true, false, true, false, false, true, true, false, false, true, false] K ⟨[(7, (.v (.cell (.ptr 2000 0 none)))), (11, (.v (.cell (.sl 17000 none x0 1)))), (12, (.v (.cell (.int .i64 x1)))), (61, (.v (.cell (.int .i64 x2)))), (62, (.v (.cell (.int .i64 x3))))], [(2000, ⟨[.nums .u32 65 x4], 43, 1⟩), (17000, ⟨[.nums .u8 x5 x6], 5, 2⟩)]⟩ = match (generalizing := false) A.neg x1 with
    | true => none
    | false => match (generalizing := false) A.lt (A.toN x1) 65 with
      | true => match (generalizing := false) A.neg x1 with
        | true => none
        | false => match (generalizing := false) A.lt (A.toN x1) x0 with
          | true => K .normal ⟨[(71, (.v (.cell (.ptr 17000 0 (some ⟨A.toN x1, 1, x0, A.toN x1, 0, 1⟩))))), (70, (.v (.cell (.nat .u8 (A.n2n .u8 (x4.getD (A.toN x1) 0)))))), (69, (.v (.cell (.nat .u32 (x4.getD (A.toN x1) 0))))), (68, (.v (.cell (.ptr 2000 0 (some ⟨A.toN x1, 1, 65, 0, 0, 0⟩))))), (67, (.v (.cell (.int .i64 x1)))), (66, (.v (.cell (.int .i64 x1)))), (65, (.v (.cell (.sl 17000 none x0 1)))), (7, (.v (.cell (.ptr 2000 0 none)))), (11, (.v (.cell (.sl 17000 none x0 1)))), (12, (.v (.cell (.int .i64 x1)))), (61, (.v (.cell (.int .i64 x2)))), (62, (.v (.cell (.int .i64 x3))))], [(2000, ⟨[.nums .u32 65 x4], 43, 1⟩), (17000, ⟨[.nums .u8 x5 (x6.set (A.toN x1) (A.n2n .u8 (x4.getD (A.toN x1) 0)))], 5, 2⟩)]⟩
          | false => none
      | false => none := by kernel_rfl
theorem g14R21 {R : Type} (A : Ar) (n : Nat) (K : Ex → St → Option R) (x0 : Nat) (x1 : Int) (x2 : Int) (x3 : Int) (x4 : List Nat) (x5 : Nat) (x6 : List Nat) : g14D A n [true, true, true, true, true, false, true, false, false, true, true, false, false, true, true] K ⟨[(7, (.v (.cell (.ptr 2000 0 none)))), (11, (.v (.cell (.sl 17000 none x0 1)))), (12, (.v (.cell (.int .i64 x1)))), (61, (.v (.cell (.int .i64 x2)))), (62, (.v (.cell (.int .i64 x3))))], [(2000, ⟨[.nums .u32 65 x4], 43, 1⟩), (17000, ⟨[.nums .u8 x5 x6], 5, 2⟩)]⟩ = match (generalizing := false) A.neg (A.ib .add .i64 x1 1) with
    | true => none
    | false => match (generalizing := false) A.lt (A.toN (A.ib .add .i64 x1 1)) 65 with
      | true => match (generalizing := false) A.neg x1 with
        | true => none
        | false => match (generalizing := false) A.lt (A.toN x1) 65 with
          | true => match (generalizing := false) A.neg (A.ib .add .i64 x1 1) with
            | true => none
            | false => match (generalizing := false) A.lt (A.toN (A.ib .add .i64 x1 1)) 65 with
              | true => K .normal ⟨[(81, (.v (.cell (.ptr 2000 0 (some ⟨A.toN (A.ib .add .i64 x1 1), 1, 65, 0, 0, 0⟩))))), (80, (.v (.cell (.nat .u32 (A.nb .add .u32 (x4.getD (A.toN (A.ib .add .i64 x1 1)) 0) (A.nsh .shr .u32 (x4.getD (A.toN x1) 0) 8)))))), (79, (.v (.cell (.nat .u32 (A.nsh .shr .u32 (x4.getD (A.toN x1) 0) 8))))), (78, (.v (.cell (.nat .u32 (x4.getD (A.toN x1) 0))))), (77, (.v (.cell (.ptr 2000 0 (some ⟨A.toN x1, 1, 65, 0, 0, 0⟩))))), (76, (.v (.cell (.int .i64 x1)))), (75, (.v (.cell (.nat .u32 (x4.getD (A.toN (A.ib .add .i64 x1 1)) 0))))), (74, (.v (.cell (.ptr 2000 0 (some ⟨A.toN (A.ib .add .i64 x1 1), 1, 65, 0, 0, 0⟩))))), (73, (.v (.cell (.int .i64 (A.ib .add .i64 x1 1))))), (72, (.v (.cell (.int .i64 x1)))), (7, (.v (.cell (.ptr 2000 0 none)))), (11, (.v (.cell (.sl 17000 none x0 1)))), (12, (.v (.cell (.int .i64 x1)))), (61, (.v (.cell (.int .i64 x2)))), (62, (.v (.cell (.int .i64 x3))))], [(2000, ⟨[.nums .u32 65 (x4.set (A.toN (A.ib .add .i64 x1 1)) (A.nb .add .u32 (x4.getD (A.toN (A.ib .add .i64 x1 1)) 0) (A.nsh .shr .u32 (x4.getD (A.toN x1) 0) 8)))], 43, 1⟩), (17000, ⟨[.nums .u8 x5 x6], 5, 2⟩)]⟩
              | false => none
          | false => none
      | false => none := by kernel_rfl
theorem g14R22 {R : Type} (A : Ar) (n : Nat) (K : Ex → St → Option R) (x0 : Nat) (x1 : Int) (x2 : Int) (x3 : List Nat) (x4 : Nat) (x5 : List Nat) : g14D A n [true, true, true, true, true, false, true, false, false, true, true, true] K ⟨[(7, (.v (.cell (.ptr 2000 0 none)))), (11, (.v (.cell (.sl 17000 none x0 1)))), (61, (.v (.cell (.int .i64 x1)))), (62, (.v (.cell (.int .i64 x2))))], [(2000, ⟨[.nums .u32 65 x3], 43, 1⟩), (17000, ⟨[.nums .u8 x4 x5], 5, 2⟩)]⟩ = K .normal ⟨[(62, (.v (.cell (.int .i64 (A.ib .add .i64 x2 1))))), (82, (.v (.cell (.int .i64 (A.ib .add .i64 x2 1))))), (7, (.v (.cell (.ptr 2000 0 none)))), (11, (.v (.cell (.sl 17000 none x0 1)))), (61, (.v (.cell (.int .i64 x1)))), (62, (.v (.cell (.int .i64 x2))))], [(2000, ⟨[.nums .u32 65 x3], 43, 1⟩), (17000, ⟨[.nums .u8 x4 x5], 5, 2⟩)]⟩ := by kernel_rfl
theorem g14R18 {R : Type} (A : Ar) (n : Nat) (K : Ex → St → Option R) (x0 : Nat) (x1 : Int) (x2 : Int) (x3 : List Nat) (x4 : Nat) (x5 : List Nat) : g14D A n [true, true, true, true, true, false, true, false, false, false] K ⟨[(7, (.v (.cell (.ptr 2000 0 none)))), (11, (.v (.cell (.sl 17000 none x0 1)))), (61, (.v (.cell (.int .i64 x1)))), (62, (.v (.cell (.int .i64 x2))))], [(2000, ⟨[.nums .u32 65 x3], 43, 1⟩), (17000, ⟨[.nums .u8 x4 x5], 5, 2⟩)]⟩ = K .normal ⟨[(63, (.v (.cell (.bool (A.ic .lss x2 x1))))), (7, (.v (.cell (.ptr 2000 0 none)))), (11, (.v (.cell (.sl 17000 none x0 1)))), (61, (.v (.cell (.int .i64 x1)))), (62, (.v (.cell (.int .i64 x2))))], [(2000, ⟨[.nums .u32 65 x3], 43, 1⟩), (17000, ⟨[.nums .u8 x4 x5], 5, 2⟩)]⟩ := by kernel_rfl
theorem g14R23 {R : Type} (A : Ar) (n : Nat) (K : Ex → St → Option R) (x0 : Nat) (x1 : Nat) (x2 : List Nat) : g14D A n [true, true, true, true, true, true, false] K ⟨[(11, (.v (.cell (.sl 17000 none x0 1))))], [(17000, ⟨[.nums .u8 x1 x2], 5, 2⟩)]⟩ = match (generalizing := false) g10ok (x2.take x0) with
    | true => K .normal ⟨[(6, (.v (.cell (.str (g10r0 (x2.take x0)))))), (85, (.v (.cell (.str (g10r0 (x2.take x0)))))), (84, (.v (.cell (.str (x2.take x0))))), (83, (.v (.cell (.sl 17000 none x0 1)))), (11, (.v (.cell (.sl 17000 none x0 1))))], [(17000, ⟨[.nums .u8 x1 x2], 5, 2⟩)]⟩
    | false => none := by kernel_rfl
theorem g14R16 {R : Type} (A : Ar) (n : Nat) (K : Ex → St → Option R) (x0 : List Nat) : g14D A n [true, true, true, true, false] K ⟨[(7, (.v (.cell (.ptr 2000 0 none))))], [(2000, ⟨[.nums .u32 65 x0], 43, 1⟩)]⟩ = match (generalizing := false) A.le 64 64 with
    | true => match (generalizing := false) A.le 64 140737488355328 with
      | true => K .normal ⟨[(11, (.v (.cell (.sl 17000 none 64 1)))), (59, (.v (.cell (.sl 17000 none 64 1)))), (7, (.v (.cell (.ptr 2000 0 none))))], [(17000, ⟨[.nums .u8 64 (List.replicate 64 0)], 5, 2⟩), (2000, ⟨[.nums .u32 65 x0], 43, 1⟩)]⟩
      | false => none
    | false => none := by kernel_rfl
theorem g14R17 {R : Type} (A : Ar) (n : Nat) (K : Ex → St → Option R) (x0 : Nat) (x1 : List Nat) (x2 : Nat) (x3 : List Nat) : g14D A n [true, true, true, true, true, false, false] K ⟨[(7, (.v (.cell (.ptr 2000 0 none)))), (11, (.v (.cell (.sl 17000 none x0 1))))], [(2000, ⟨[.nums .u32 65 x1], 43, 1⟩), (17000, ⟨[.nums .u8 x2 x3], 5, 2⟩)]⟩ = K .normal ⟨[(62, (.v (.cell (.int .i64 0)))), (61, (.v (.cell (.int .i64 (A.ofN x0))))), (60, (.v (.cell (.sl 17000 none x0 1)))), (7, (.v (.cell (.ptr 2000 0 none)))), (11, (.v (.cell (.sl 17000 none x0 1))))], [(2000, ⟨[.nums .u32 65 x1], 43, 1⟩), (17000, ⟨[.nums .u8 x2 x3], 5, 2⟩)]⟩ := by kernel_rfl
theorem g14R12 {R : Type} (A : Ar) (n : Nat) (K : Ex → St → Option R) (x0 : List Nat) (x1 : Int) (x2 : Int) (x3 : List Nat) : g14D A n [true, true, true, false, true, false, false, false] K ⟨[(2, (.v (.cell (.str x0)))), (7, (.v (.cell (.ptr 2000 0 none)))), (45, (.v (.cell (.int .i64 x1)))), (46, (.v (.cell (.int .i64 x2))))], [(2000, ⟨[.nums .u32 65 x3], 43, 1⟩)]⟩ = K .normal ⟨[(47, (.v (.cell (.bool (A.ic .lss x2 x1))))), (2, (.v (.cell (.str x0)))), (7, (.v (.cell (.ptr 2000 0 none)))), (45, (.v (.cell (.int .i64 x1)))), (46, (.v (.cell (.int .i64 x2))))], [(2000, ⟨[.nums .u32 65 x3], 43, 1⟩)]⟩ := by kernel_rfl
theorem g14R11 {R : Type} (A : Ar) (n : Nat) (K : Ex → St → Option R) (x0 : List Nat) (x1 : List Nat) : g14D A n [true, true, true, false, false] K ⟨[(2, (.v (.cell (.str x0)))), (7, (.v (.cell (.ptr 2000 0 none))))], [(2000, ⟨[.nums .u32 65 x1], 43, 1⟩)]⟩ = K .normal ⟨[(46, (.v (.cell (.int .i64 0)))), (45, (.v (.cell (.int .i64 (A.mn (A.ofN x0.length) 32))))), (44, (.v (.cell (.int .i64 (A.ofN x0.length))))), (43, (.v (.cell (.str x0)))), (2, (.v (.cell (.str x0)))), (7, (.v (.cell (.ptr 2000 0 none))))], [(2000, ⟨[.nums .u32 65 x1], 43, 1⟩)]⟩ := by kernel_rfl
theorem g14R3 {R : Type} (A : Ar) (n : Nat) (K : Ex → St → Option R) (x0 : List Nat) (x1 : List Nat) (x2 : List Nat) (x3 : Int) (x4 : Int) (x5 : List Nat) : g14D A n [true, true, false, true, false, false, false] K ⟨[(0, (.v (.cell (.str x0)))), (1, (.v (.cell (.str x1)))), (2, (.v (.cell (.str x2)))), (7, (.v (.cell (.ptr 2000 0 none)))), (15, (.v (.cell (.int .i64 x3)))), (16, (.v (.cell (.int .i64 x4))))], [(2000, ⟨[.nums .u32 65 x5], 43, 1⟩)]⟩ = K .normal ⟨[(17, (.v (.cell (.bool (A.ic .lss x4 x3))))), (0, (.v (.cell (.str x0)))), (1, (.v (.cell (.str x1)))), (2, (.v (.cell (.str x2)))), (7, (.v (.cell (.ptr 2000 0 none)))), (15, (.v (.cell (.int .i64 x3)))), (16, (.v (.cell (.int .i64 x4))))], [(2000, ⟨[.nums .u32 65 x5], 43, 1⟩)]⟩ := by kernel_rfl
theorem g14R0 {R : Type} (A : Ar) (n : Nat) (K : Ex → St → Option R) (x0 : List Nat) (x1 : List Nat) (x2 : List Nat) : g14D A n [false] K ⟨[(0, (.v (.cell (.str x0)))), (1, (.v (.cell (.str x1)))), (2, (.v (.cell (.str x2))))], []⟩ = K .normal ⟨[(6, (.v (.cell (.str [])))), (0, (.v (.cell (.str x0)))), (1, (.v (.cell (.str x1)))), (2, (.v (.cell (.str x2))))], []⟩ := by kernel_rfl
theorem g14R1 {R : Type} (A : Ar) (n : Nat) (K : Ex → St → Option R) (x0 : List Nat) (x1 : List Nat) (x2 : List Nat) : g14D A n [true, false] K ⟨[(0, (.v (.cell (.str x0)))), (1, (.v (.cell (.str x1)))), (2, (.v (.cell (.str x2))))], []⟩ = K .normal ⟨[(7, (.v (.cell (.ptr 2000 0 none)))), (0, (.v (.cell (.str x0)))), (1, (.v (.cell (.str x1)))), (2, (.v (.cell (.str x2))))], [(2000, ⟨[.nums .u32 65 [0, 0, 0, 0, 0, 0, 0, 0, 0, 0, 0, 0, 0, 0, 0, 0, 0, 0, 0, 0, 0, 0, 0, 0, 0, 0, 0, 0, 0, 0, 0, 0, 0, 0, 0, 0, 0, 0, 0, 0, 0, 0, 0, 0, 0, 0, 0, 0, 0, 0, 0, 0, 0, 0, 0, 0, 0, 0, 0, 0, 0, 0, 0, 0, 0]], 43, 1⟩)]⟩ := by kernel_rfl
theorem g14R2 {R : Type} (A : Ar) (n : Nat) (K : Ex → St → Option R) (x0 : List Nat) (x1 : List Nat) (x2 : List Nat) (x3 : List Nat) : g14D A n [true, true, false, false] K ⟨[(0, (.v (.cell (.str x0)))), (1, (.v (.cell (.str x1)))), (2, (.v (.cell (.str x2)))), (7, (.v (.cell (.ptr 2000 0 none))))], [(2000, ⟨[.nums .u32 65 x3], 43, 1⟩)]⟩ = K .normal ⟨[(16, (.v (.cell (.int .i64 0)))), (15, (.v (.cell (.int .i64 (A.mn (A.ofN x0.length) 32))))), (14, (.v (.cell (.int .i64 (A.ofN x0.length))))), (13, (.v (.cell (.str x0)))), (0, (.v (.cell (.str x0)))), (1, (.v (.cell (.str x1)))), (2, (.v (.cell (.str x2)))), (7, (.v (.cell (.ptr 2000 0 none))))], [(2000, ⟨[.nums .u32 65 x3], 43, 1⟩)]⟩ := by kernel_rfl
def g14J7 {R : Type} (A : Ar) (n : Nat) (kk : AV → Heap → Option R) (lg14L3 : List Nat → List Nat → List Nat → Int → Int → List Nat → Option R) (lg14L6 : List Nat → List Nat → List Nat → Int → Int → Int → Int → Int → List Nat → Option R) (x0 : List Nat) (x1 : List Nat) (x2 : List Nat) (x3 : Int) (x4 : Int) (x5 : Int) (x6 : Int) (x7 : Int) (x8 : List Nat) : Option R :=
  match (generalizing := false) A.neg (A.ib .add .i64 x3 x7) with
  | true => none
  | false => match (generalizing := false) A.lt (A.toN (A.ib .add .i64 x3 x7)) 65 with
    | true => match (generalizing := false) A.neg x3 with
      | true => none
      | false => match (generalizing := false) A.lt (A.toN x3) x0.length with
        | true => match (generalizing := false) A.neg x7 with
          | true => none
          | false => match (generalizing := false) A.lt (A.toN x7) x1.length with
            | true => match (generalizing := false) A.neg (A.ib .add .i64 x3 x7) with
              | true => none
              | false => match (generalizing := false) A.lt (A.toN (A.ib .add .i64 x3 x7)) 65 with
                | true => lg14L6 x0 x1 x2 x3 x4 x5 x6 (A.ib .add .i64 x7 1) (x8.set (A.toN (A.ib .add .i64 x3 x7)) (A.nb .add .u32 (x8.getD (A.toN (A.ib .add .i64 x3 x7)) 0) (A.nb .mul .u32 (x0.getD (A.toN x3) 0) (x1.getD (A.toN x7) 0))))
                | false => none
            | false => none
        | false => none
    | false => none
set_option maxRecDepth 100000 in
theorem g14J7_eq {R : Type} (A : Ar) (n : Nat) (kk : AV → Heap → Option R) (m0 : Nat) (m1 : Nat) (lg14L3 : List Nat → List Nat → List Nat → Int → Int → List Nat → Option R) (lg14L6 : List Nat → List Nat → List Nat → Int → Int → Int → Int → Int → List Nat → Option R) 
    (hg14L3 : ∀ (s : St) (x0 : List Nat) (x1 : List Nat) (x2 : List Nat) (x3 : Int) (x4 : Int) (x5 : List Nat), keep g14an 3 s = ⟨[(0, (.v (.cell (.str x0)))), (1, (.v (.cell (.str x1)))), (2, (.v (.cell (.str x2)))), (7, (.v (.cell (.ptr 2000 0 none)))), (15, (.v (.cell (.int .i64 x3)))), (16, (.v (.cell (.int .i64 x4))))], [(2000, ⟨[.nums .u32 65 x5], 43, 1⟩)]⟩ → g14V A n [true, true, false, true, false, false] m0 (blockK 0 (g14Q A n [true, true, true] (g14T kk))) s = lg14L3 x0 x1 x2 x3 x4 x5)
    (hg14L6 : ∀ (s : St) (x0 : List Nat) (x1 : List Nat) (x2 : List Nat) (x3 : Int) (x4 : Int) (x5 : Int) (x6 : Int) (x7 : Int) (x8 : List Nat), keep g14an 6 s = ⟨[(0, (.v (.cell (.str x0)))), (1, (.v (.cell (.str x1)))), (2, (.v (.cell (.str x2)))), (7, (.v (.cell (.ptr 2000 0 none)))), (8, (.v (.cell (.int .i64 x3)))), (15, (.v (.cell (.int .i64 x4)))), (16, (.v (.cell (.int .i64 x5)))), (21, (.v (.cell (.int .i64 x6)))), (22, (.v (.cell (.int .i64 x7))))], [(2000, ⟨[.nums .u32 65 x8], 43, 1⟩)]⟩ → g14V A n [true, true, false, true, false, false, true, true, false, false, true, true, false, false] m1 (blockK 2 (blockK 1 (g14Q A n [true, true, false, true, false, false, true, true, true] (g14W A n [true, true, false, true, false, false] m0 (blockK 0 (g14Q A n [true, true, true] (g14T kk))))))) s = lg14L6 x0 x1 x2 x3 x4 x5 x6 x7 x8) (s : St) (x0 : List Nat) (x1 : List Nat) (x2 : List Nat) (x3 : Int) (x4 : Int) (x5 : Int) (x6 : Int) (x7 : Int) (x8 : List Nat) (h : keep g14an 7 s = ⟨[(0, (.v (.cell (.str x0)))), (1, (.v (.cell (.str x1)))), (2, (.v (.cell (.str x2)))), (7, (.v (.cell (.ptr 2000 0 none)))), (8, (.v (.cell (.int .i64 x3)))), (15, (.v (.cell (.int .i64 x4)))), (16, (.v (.cell (.int .i64 x5)))), (21, (.v (.cell (.int .i64 x6)))), (22, (.v (.cell (.int .i64 x7))))], [(2000, ⟨[.nums .u32 65 x8], 43, 1⟩)]⟩) :
    g14D A n [true, true, false, true, false, false, true, true, false, false, true, true, false, false, true, true] (g14W A n [true, true, false, true, false, false, true, true, false, false, true, true, false, false] m1 (blockK 2 (blockK 1 (g14Q A n [true, true, false, true, false, false, true, true, true] (g14W A n [true, true, false, true, false, false] m0 (blockK 0 (g14Q A n [true, true, true] (g14T kk)))))))) s = g14J7 A n kk lg14L3 lg14L6 x0 x1 x2 x3 x4 x5 x6 x7 x8 := by
  have h1 := (g14Wn A n _ _ _ _).trans (hg14L6 ⟨[(22, (.v (.cell (.int .i64 (A.ib .add .i64 x7 1))))), (41, (.v (.cell (.int .i64 (A.ib .add .i64 x7 1))))), (0, (.v (.cell (.str x0)))), (1, (.v (.cell (.str x1)))), (2, (.v (.cell (.str x2)))), (7, (.v (.cell (.ptr 2000 0 none)))), (8, (.v (.cell (.int .i64 x3)))), (15, (.v (.cell (.int .i64 x4)))), (16, (.v (.cell (.int .i64 x5)))), (21, (.v (.cell (.int .i64 x6)))), (22, (.v (.cell (.int .i64 x7))))], [(2000, ⟨[.nums .u32 65 (x8.set (A.toN (A.ib .add .i64 x3 x7)) (A.nb .add .u32 (x8.getD (A.toN (A.ib .add .i64 x3 x7)) 0) (A.nb .mul .u32 (x0.getD (A.toN x3) 0) (x1.getD (A.toN x7) 0))))], 43, 1⟩)]⟩ x0 x1 x2 x3 x4 x5 x6 (A.ib .add .i64 x7 1) (x8.set (A.toN (A.ib .add .i64 x3 x7)) (A.nb .add .u32 (x8.getD (A.toN (A.ib .add .i64 x3 x7)) 0) (A.nb .mul .u32 (x0.getD (A.toN x3) 0) (x1.getD (A.toN x7) 0)))) (by kernel_rfl))
  have h2 := (g14p11010011001100111 A n (g14W A n [true, true, false, true, false, false, true, true, false, false, true, true, false, false] m1 (blockK 2 (blockK 1 (g14Q A n [true, true, false, true, false, false, true, true, true] (g14W A n [true, true, false, true, false, false] m0 (blockK 0 (g14Q A n [true, true, true] (g14T kk)))))))) ⟨[(40, (.v (.cell (.ptr 2000 0 (some ⟨A.toN (A.ib .add .i64 x3 x7), 1, 65, 0, 0, 0⟩))))), (39, (.v (.cell (.nat .u32 (A.nb .add .u32 (x8.getD (A.toN (A.ib .add .i64 x3 x7)) 0) (A.nb .mul .u32 (x0.getD (A.toN x3) 0) (x1.getD (A.toN x7) 0))))))), (38, (.v (.cell (.nat .u32 (A.nb .mul .u32 (x0.getD (A.toN x3) 0) (x1.getD (A.toN x7) 0)))))), (37, (.v (.cell (.nat .u32 (x1.getD (A.toN x7) 0))))), (36, (.v (.cell (.nat .u8 (x1.getD (A.toN x7) 0))))), (35, (.v (.cell (.int .i64 x7)))), (34, (.v (.cell (.str x1)))), (33, (.v (.cell (.nat .u32 (x0.getD (A.toN x3) 0))))), (32, (.v (.cell (.nat .u8 (x0.getD (A.toN x3) 0))))), (31, (.v (.cell (.int .i64 x3)))), (30, (.v (.cell (.str x0)))), (29, (.v (.cell (.nat .u32 (x8.getD (A.toN (A.ib .add .i64 x3 x7)) 0))))), (28, (.v (.cell (.ptr 2000 0 (some ⟨A.toN (A.ib .add .i64 x3 x7), 1, 65, 0, 0, 0⟩))))), (27, (.v (.cell (.int .i64 (A.ib .add .i64 x3 x7))))), (26, (.v (.cell (.int .i64 x7)))), (25, (.v (.cell (.int .i64 x3)))), (0, (.v (.cell (.str x0)))), (1, (.v (.cell (.str x1)))), (2, (.v (.cell (.str x2)))), (7, (.v (.cell (.ptr 2000 0 none)))), (8, (.v (.cell (.int .i64 x3)))), (9, (.v (.cell (.int .i64 x7)))), (15, (.v (.cell (.int .i64 x4)))), (16, (.v (.cell (.int .i64 x5)))), (21, (.v (.cell (.int .i64 x6)))), (22, (.v (.cell (.int .i64 x7))))], [(2000, ⟨[.nums .u32 65 (x8.set (A.toN (A.ib .add .i64 x3 x7)) (A.nb .add .u32 (x8.getD (A.toN (A.ib .add .i64 x3 x7)) 0) (A.nb .mul .u32 (x0.getD (A.toN x3) 0) (x1.getD (A.toN x7) 0))))], 43, 1⟩)]⟩ ⟨[(0, (.v (.cell (.str x0)))), (1, (.v (.cell (.str x1)))), (2, (.v (.cell (.str x2)))), (7, (.v (.cell (.ptr 2000 0 none)))), (8, (.v (.cell (.int .i64 x3)))), (15, (.v (.cell (.int .i64 x4)))), (16, (.v (.cell (.int .i64 x5)))), (21, (.v (.cell (.int .i64 x6)))), (22, (.v (.cell (.int .i64 x7))))], [(2000, ⟨[.nums .u32 65 (x8.set (A.toN (A.ib .add .i64 x3 x7)) (A.nb .add .u32 (x8.getD (A.toN (A.ib .add .i64 x3 x7)) 0) (A.nb .mul .u32 (x0.getD (A.toN x3) 0) (x1.getD (A.toN x7) 0))))], 43, 1⟩)]⟩ (by kernel_rfl)).trans (g14R9 A n (g14W A n [true, true, false, true, false, false, true, true, false, false, true, true, false, false] m1 (blockK 2 (blockK 1 (g14Q A n [true, true, false, true, false, false, true, true, true] (g14W A n [true, true, false, true, false, false] m0 (blockK 0 (g14Q A n [true, true, true] (g14T kk)))))))) x0 x1 x2 x3 x4 x5 x6 x7 (x8.set (A.toN (A.ib .add .i64 x3 x7)) (A.nb .add .u32 (x8.getD (A.toN (A.ib .add .i64 x3 x7)) 0) (A.nb .mul .u32 (x0.getD (A.toN x3) 0) (x1.getD (A.toN x7) 0)))))
  rw [h1] at h2
  have h3 := (g14Qn A n _ _ _).trans h2
  have h4 := (blockK_n 3 _ _).trans h3
  have h5 := (g14p1101001100110011001 A n (blockK 3 (g14Q A n [true, true, false, true, false, false, true, true, false, false, true, true, false, false, true, true, true] (g14W A n [true, true, false, true, false, false, true, true, false, false, true, true, false, false] m1 (blockK 2 (blockK 1 (g14Q A n [true, true, false, true, false, false, true, true, true] (g14W A n [true, true, false, true, false, false] m0 (blockK 0 (g14Q A n [true, true, true] (g14T kk)))))))))) ⟨[(9, (.v (.cell (.int .i64 x7)))), (24, (.v (.cell (.int .i64 x7)))), (0, (.v (.cell (.str x0)))), (1, (.v (.cell (.str x1)))), (2, (.v (.cell (.str x2)))), (7, (.v (.cell (.ptr 2000 0 none)))), (8, (.v (.cell (.int .i64 x3)))), (15, (.v (.cell (.int .i64 x4)))), (16, (.v (.cell (.int .i64 x5)))), (21, (.v (.cell (.int .i64 x6)))), (22, (.v (.cell (.int .i64 x7))))], [(2000, ⟨[.nums .u32 65 x8], 43, 1⟩)]⟩ ⟨[(0, (.v (.cell (.str x0)))), (1, (.v (.cell (.str x1)))), (2, (.v (.cell (.str x2)))), (7, (.v (.cell (.ptr 2000 0 none)))), (8, (.v (.cell (.int .i64 x3)))), (9, (.v (.cell (.int .i64 x7)))), (15, (.v (.cell (.int .i64 x4)))), (16, (.v (.cell (.int .i64 x5)))), (21, (.v (.cell (.int .i64 x6)))), (22, (.v (.cell (.int .i64 x7))))], [(2000, ⟨[.nums .u32 65 x8], 43, 1⟩)]⟩ (by kernel_rfl)).trans (g14R8 A n (blockK 3 (g14Q A n [true, true, false, true, false, false, true, true, false, false, true, true, false, false, true, true, true] (g14W A n [true, true, false, true, false, false, true, true, false, false, true, true, false, false] m1 (blockK 2 (blockK 1 (g14Q A n [true, true, false, true, false, false, true, true, true] (g14W A n [true, true, false, true, false, false] m0 (blockK 0 (g14Q A n [true, true, true] (g14T kk)))))))))) x0 x1 x2 x3 x7 x4 x5 x6 x7 x8)
  rw [h4] at h5
  have h6 := (g14Qn A n _ _ _).trans h5
  have h7 := (g14p1101001100110011000 A n (g14Q A n [true, true, false, true, false, false, true, true, false, false, true, true, false, false, true, true, false, false, true] (blockK 3 (g14Q A n [true, true, false, true, false, false, true, true, false, false, true, true, false, false, true, true, true] (g14W A n [true, true, false, true, false, false, true, true, false, false, true, true, false, false] m1 (blockK 2 (blockK 1 (g14Q A n [true, true, false, true, false, false, true, true, true] (g14W A n [true, true, false, true, false, false] m0 (blockK 0 (g14Q A n [true, true, true] (g14T kk))))))))))) ⟨[(0, (.v (.cell (.str x0)))), (1, (.v (.cell (.str x1)))), (2, (.v (.cell (.str x2)))), (7, (.v (.cell (.ptr 2000 0 none)))), (8, (.v (.cell (.int .i64 x3)))), (15, (.v (.cell (.int .i64 x4)))), (16, (.v (.cell (.int .i64 x5)))), (21, (.v (.cell (.int .i64 x6)))), (22, (.v (.cell (.int .i64 x7))))], [(2000, ⟨[.nums .u32 65 x8], 43, 1⟩)]⟩ ⟨[(0, (.v (.cell (.str x0)))), (1, (.v (.cell (.str x1)))), (2, (.v (.cell (.str x2)))), (7, (.v (.cell (.ptr 2000 0 none)))), (8, (.v (.cell (.int .i64 x3)))), (15, (.v (.cell (.int .i64 x4)))), (16, (.v (.cell (.int .i64 x5)))), (21, (.v (.cell (.int .i64 x6)))), (22, (.v (.cell (.int .i64 x7))))], [(2000, ⟨[.nums .u32 65 x8], 43, 1⟩)]⟩ (by kernel_rfl)).trans (g14R7 A n (g14Q A n [true, true, false, true, false, false, true, true, false, false, true, true, false, false, true, true, false, false, true] (blockK 3 (g14Q A n [true, true, false, true, false, false, true, true, false, false, true, true, false, false, true, true, true] (g14W A n [true, true, false, true, false, false, true, true, false, false, true, true, false, false] m1 (blockK 2 (blockK 1 (g14Q A n [true, true, false, true, false, false, true, true, true] (g14W A n [true, true, false, true, false, false] m0 (blockK 0 (g14Q A n [true, true, true] (g14T kk))))))))))) x0 x1 x2 x3 x4 x5 x6 x7 x8)
  rw [h6] at h7
  have h8 := (g14p110100110011001100 A n _ _).trans h7
  have h9 := (g14p11010011001100110 A n _ _).trans h8
  have h10 := (g14p1101001100110011 A n _ _).trans h9
  exact (codeD_first (s' := ⟨[(0, (.v (.cell (.str x0)))), (1, (.v (.cell (.str x1)))), (2, (.v (.cell (.str x2)))), (7, (.v (.cell (.ptr 2000 0 none)))), (8, (.v (.cell (.int .i64 x3)))), (15, (.v (.cell (.int .i64 x4)))), (16, (.v (.cell (.int .i64 x5)))), (21, (.v (.cell (.int .i64 x6)))), (22, (.v (.cell (.int .i64 x7))))], [(2000, ⟨[.nums .u32 65 x8], 43, 1⟩)]⟩) (id := 7) (by kernel_rfl) (h.trans (by kernel_rfl)) _).trans (h10.trans (by kernel_rfl))
def g14L6 {R : Type} (A : Ar) (n : Nat) (kk : AV → Heap → Option R) (lg14L3 : List Nat → List Nat → List Nat → Int → Int → List Nat → Option R) : Nat → List Nat → List Nat → List Nat → Int → Int → Int → Int → Int → List Nat → Option R
  | 0, _, _, _, _, _, _, _, _, _ => none
  | m + 1, x0, x1, x2, x3, x4, x5, x6, x7, x8 => match (generalizing := false) A.ic .lss x7 x6 with
  | true => g14J7 A n kk lg14L3 (g14L6 A n kk lg14L3 m) x0 x1 x2 x3 x4 x5 x6 x7 x8
  | false => lg14L3 x0 x1 x2 x4 (A.ib .add .i64 x5 1) x8
set_option maxRecDepth 100000 in
theorem g14L6_eq {R : Type} (A : Ar) (n : Nat) (kk : AV → Heap → Option R) (m0 : Nat) (lg14L3 : List Nat → List Nat → List Nat → Int → Int → List Nat → Option R) 
    (hg14L3 : ∀ (s : St) (x0 : List Nat) (x1 : List Nat) (x2 : List Nat) (x3 : Int) (x4 : Int) (x5 : List Nat), keep g14an 3 s = ⟨[(0, (.v (.cell (.str x0)))), (1, (.v (.cell (.str x1)))), (2, (.v (.cell (.str x2)))), (7, (.v (.cell (.ptr 2000 0 none)))), (15, (.v (.cell (.int .i64 x3)))), (16, (.v (.cell (.int .i64 x4))))], [(2000, ⟨[.nums .u32 65 x5], 43, 1⟩)]⟩ → g14V A n [true, true, false, true, false, false] m0 (blockK 0 (g14Q A n [true, true, true] (g14T kk))) s = lg14L3 x0 x1 x2 x3 x4 x5) (m : Nat) (s : St) (x0 : List Nat) (x1 : List Nat) (x2 : List Nat) (x3 : Int) (x4 : Int) (x5 : Int) (x6 : Int) (x7 : Int) (x8 : List Nat) (h : keep g14an 6 s = ⟨[(0, (.v (.cell (.str x0)))), (1, (.v (.cell (.str x1)))), (2, (.v (.cell (.str x2)))), (7, (.v (.cell (.ptr 2000 0 none)))), (8, (.v (.cell (.int .i64 x3)))), (15, (.v (.cell (.int .i64 x4)))), (16, (.v (.cell (.int .i64 x5)))), (21, (.v (.cell (.int .i64 x6)))), (22, (.v (.cell (.int .i64 x7))))], [(2000, ⟨[.nums .u32 65 x8], 43, 1⟩)]⟩) :
    g14V A n [true, true, false, true, false, false, true, true, false, false, true, true, false, false] m (blockK 2 (blockK 1 (g14Q A n [true, true, false, true, false, false, true, true, true] (g14W A n [true, true, false, true, false, false] m0 (blockK 0 (g14Q A n [true, true, true] (g14T kk))))))) s = g14L6 A n kk lg14L3 m x0 x1 x2 x3 x4 x5 x6 x7 x8 := by
  induction m generalizing s x0 x1 x2 x3 x4 x5 x6 x7 x8 with
  | zero => rfl
  | succ m ih =>
    have h1 := (g14Qn A n _ _ _).trans (g14J7_eq A n kk m0 m lg14L3 (g14L6 A n kk lg14L3 m) hg14L3 ih  ⟨[(23, (.v (.cell (.bool (A.ic .lss x7 x6))))), (0, (.v (.cell (.str x0)))), (1, (.v (.cell (.str x1)))), (2, (.v (.cell (.str x2)))), (7, (.v (.cell (.ptr 2000 0 none)))), (8, (.v (.cell (.int .i64 x3)))), (15, (.v (.cell (.int .i64 x4)))), (16, (.v (.cell (.int .i64 x5)))), (21, (.v (.cell (.int .i64 x6)))), (22, (.v (.cell (.int .i64 x7))))], [(2000, ⟨[.nums .u32 65 x8], 43, 1⟩)]⟩ x0 x1 x2 x3 x4 x5 x6 x7 x8 (by kernel_rfl))
    have h2 := (g14p11010011001100100 A n _ _).trans h1
    have h3 := (g14Wn A n _ _ _ _).trans (hg14L3 ⟨[(16, (.v (.cell (.int .i64 (A.ib .add .i64 x5 1))))), (42, (.v (.cell (.int .i64 (A.ib .add .i64 x5 1))))), (0, (.v (.cell (.str x0)))), (1, (.v (.cell (.str x1)))), (2, (.v (.cell (.str x2)))), (7, (.v (.cell (.ptr 2000 0 none)))), (15, (.v (.cell (.int .i64 x4)))), (16, (.v (.cell (.int .i64 x5))))], [(2000, ⟨[.nums .u32 65 x8], 43, 1⟩)]⟩ x0 x1 x2 x4 (A.ib .add .i64 x5 1) x8 (by kernel_rfl))
    have h4 := (g14p110100111 A n (g14W A n [true, true, false, true, false, false] m0 (blockK 0 (g14Q A n [true, true, true] (g14T kk)))) ⟨[(23, (.v (.cell (.bool (A.ic .lss x7 x6))))), (0, (.v (.cell (.str x0)))), (1, (.v (.cell (.str x1)))), (2, (.v (.cell (.str x2)))), (7, (.v (.cell (.ptr 2000 0 none)))), (8, (.v (.cell (.int .i64 x3)))), (15, (.v (.cell (.int .i64 x4)))), (16, (.v (.cell (.int .i64 x5)))), (21, (.v (.cell (.int .i64 x6)))), (22, (.v (.cell (.int .i64 x7))))], [(2000, ⟨[.nums .u32 65 x8], 43, 1⟩)]⟩ ⟨[(0, (.v (.cell (.str x0)))), (1, (.v (.cell (.str x1)))), (2, (.v (.cell (.str x2)))), (7, (.v (.cell (.ptr 2000 0 none)))), (15, (.v (.cell (.int .i64 x4)))), (16, (.v (.cell (.int .i64 x5))))], [(2000, ⟨[.nums .u32 65 x8], 43, 1⟩)]⟩ (by kernel_rfl)).trans (g14R10 A n (g14W A n [true, true, false, true, false, false] m0 (blockK 0 (g14Q A n [true, true, true] (g14T kk)))) x0 x1 x2 x4 x5 x8)
    rw [h3] at h4
    have h5 := (g14Qn A n _ _ _).trans h4
    have h6 := (blockK_n 1 _ _).trans h5
    have h7 := (blockK_hit 2 _ _).trans h6
    have h8 := (g14We A n [true, true, false, true, false, false, true, true, false, false, true, true, false, false] m _ _ _).trans h7
    have h9 := (g14Qe A n [true, true, false, true, false, false, true, true, false, false, true, true, false, false, true, true] _ _ _).trans h8
    have h10 := (g14p11010011001100101 A n _ _).trans h9
    have h11 := g14p1101001100110010 A n (g14Q A n [true, true, false, true, false, false, true, true, false, false, true, true, false, false, true, true] (g14W A n [true, true, false, true, false, false, true, true, false, false, true, true, false, false] m (blockK 2 (blockK 1 (g14Q A n [true, true, false, true, false, false, true, true, true] (g14W A n [true, true, false, true, false, false] m0 (blockK 0 (g14Q A n [true, true, true] (g14T kk))))))))) ⟨[(23, (.v (.cell (.bool (A.ic .lss x7 x6))))), (0, (.v (.cell (.str x0)))), (1, (.v (.cell (.str x1)))), (2, (.v (.cell (.str x2)))), (7, (.v (.cell (.ptr 2000 0 none)))), (8, (.v (.cell (.int .i64 x3)))), (15, (.v (.cell (.int .i64 x4)))), (16, (.v (.cell (.int .i64 x5)))), (21, (.v (.cell (.int .i64 x6)))), (22, (.v (.cell (.int .i64 x7))))], [(2000, ⟨[.nums .u32 65 x8], 43, 1⟩)]⟩ (A.ic .lss x7 x6) (by kernel_rfl)
    rw [h2, h10] at h11
    have h12 := (g14p110100110011001 A n _ _).trans h11
    have h13 := (g14Qn A n _ _ _).trans h12
    have h14 := (g14p110100110011000 A n (g14Q A n [true, true, false, true, false, false, true, true, false, false, true, true, false, false, true] (g14W A n [true, true, false, true, false, false, true, true, false, false, true, true, false, false] m (blockK 2 (blockK 1 (g14Q A n [true, true, false, true, false, false, true, true, true] (g14W A n [true, true, false, true, false, false] m0 (blockK 0 (g14Q A n [true, true, true] (g14T kk))))))))) ⟨[(0, (.v (.cell (.str x0)))), (1, (.v (.cell (.str x1)))), (2, (.v (.cell (.str x2)))), (7, (.v (.cell (.ptr 2000 0 none)))), (8, (.v (.cell (.int .i64 x3)))), (15, (.v (.cell (.int .i64 x4)))), (16, (.v (.cell (.int .i64 x5)))), (21, (.v (.cell (.int .i64 x6)))), (22, (.v (.cell (.int .i64 x7))))], [(2000, ⟨[.nums .u32 65 x8], 43, 1⟩)]⟩ ⟨[(0, (.v (.cell (.str x0)))), (1, (.v (.cell (.str x1)))), (2, (.v (.cell (.str x2)))), (7, (.v (.cell (.ptr 2000 0 none)))), (8, (.v (.cell (.int .i64 x3)))), (15, (.v (.cell (.int .i64 x4)))), (16, (.v (.cell (.int .i64 x5)))), (21, (.v (.cell (.int .i64 x6)))), (22, (.v (.cell (.int .i64 x7))))], [(2000, ⟨[.nums .u32 65 x8], 43, 1⟩)]⟩ (by kernel_rfl)).trans (g14R6 A n (g14Q A n [true, true, false, true, false, false, true, true, false, false, true, true, false, false, true] (g14W A n [true, true, false, true, false, false, true, true, false, false, true, true, false, false] m (blockK 2 (blockK 1 (g14Q A n [true, true, false, true, false, false, true, true, true] (g14W A n [true, true, false, true, false, false] m0 (blockK 0 (g14Q A n [true, true, true] (g14T kk))))))))) x0 x1 x2 x3 x4 x5 x6 x7 x8)
    rw [h13] at h14
    have h15 := (g14p11010011001100 A n _ _).trans h14
    exact (loopD_first (s' := ⟨[(0, (.v (.cell (.str x0)))), (1, (.v (.cell (.str x1)))), (2, (.v (.cell (.str x2)))), (7, (.v (.cell (.ptr 2000 0 none)))), (8, (.v (.cell (.int .i64 x3)))), (15, (.v (.cell (.int .i64 x4)))), (16, (.v (.cell (.int .i64 x5)))), (21, (.v (.cell (.int .i64 x6)))), (22, (.v (.cell (.int .i64 x7))))], [(2000, ⟨[.nums .u32 65 x8], 43, 1⟩)]⟩) (id := 6) (by kernel_rfl) (h.trans (by kernel_rfl)) _).trans ((g14Vs A n _ m _ _).trans (h15.trans (by kernel_rfl)))
def g14J4 {R : Type} (A : Ar) (n : Nat) (kk : AV → Heap → Option R) (lg14L3 : List Nat → List Nat → List Nat → Int → Int → List Nat → Option R) (x0 : List Nat) (x1 : List Nat) (x2 : List Nat) (x3 : Int) (x4 : Int) (x5 : List Nat) : Option R :=
  g14L6 A n kk lg14L3 n x0 x1 x2 x4 x3 x4 (A.mn (A.ofN x1.length) 32) 0 x5
set_option maxRecDepth 100000 in
theorem g14J4_eq {R : Type} (A : Ar) (n : Nat) (kk : AV → Heap → Option R) (m0 : Nat) (lg14L3 : List Nat → List Nat → List Nat → Int → Int → List Nat → Option R) 
    (hg14L3 : ∀ (s : St) (x0 : List Nat) (x1 : List Nat) (x2 : List Nat) (x3 : Int) (x4 : Int) (x5 : List Nat), keep g14an 3 s = ⟨[(0, (.v (.cell (.str x0)))), (1, (.v (.cell (.str x1)))), (2, (.v (.cell (.str x2)))), (7, (.v (.cell (.ptr 2000 0 none)))), (15, (.v (.cell (.int .i64 x3)))), (16, (.v (.cell (.int .i64 x4))))], [(2000, ⟨[.nums .u32 65 x5], 43, 1⟩)]⟩ → g14V A n [true, true, false, true, false, false] m0 (blockK 0 (g14Q A n [true, true, true] (g14T kk))) s = lg14L3 x0 x1 x2 x3 x4 x5) (s : St) (x0 : List Nat) (x1 : List Nat) (x2 : List Nat) (x3 : Int) (x4 : Int) (x5 : List Nat) (h : keep g14an 4 s = ⟨[(0, (.v (.cell (.str x0)))), (1, (.v (.cell (.str x1)))), (2, (.v (.cell (.str x2)))), (7, (.v (.cell (.ptr 2000 0 none)))), (15, (.v (.cell (.int .i64 x3)))), (16, (.v (.cell (.int .i64 x4))))], [(2000, ⟨[.nums .u32 65 x5], 43, 1⟩)]⟩) :
    g14D A n [true, true, false, true, false, false, true, true] (g14W A n [true, true, false, true, false, false] m0 (blockK 0 (g14Q A n [true, true, true] (g14T kk)))) s = g14J4 A n kk lg14L3 x0 x1 x2 x3 x4 x5 := by
  have h1 := (g14p1101001100110 A n _ _).trans (g14L6_eq A n kk m0 lg14L3 hg14L3 n ⟨[(22, (.v (.cell (.int .i64 0)))), (21, (.v (.cell (.int .i64 (A.mn (A.ofN x1.length) 32))))), (20, (.v (.cell (.int .i64 (A.ofN x1.length))))), (19, (.v (.cell (.str x1)))), (0, (.v (.cell (.str x0)))), (1, (.v (.cell (.str x1)))), (2, (.v (.cell (.str x2)))), (7, (.v (.cell (.ptr 2000 0 none)))), (8, (.v (.cell (.int .i64 x4)))), (15, (.v (.cell (.int .i64 x3)))), (16, (.v (.cell (.int .i64 x4))))], [(2000, ⟨[.nums .u32 65 x5], 43, 1⟩)]⟩ x0 x1 x2 x4 x3 x4 (A.mn (A.ofN x1.length) 32) 0 x5 (by kernel_rfl))
  have h2 := (g14p110100110011 A n _ _).trans h1
  have h3 := (g14Qn A n _ _ _).trans h2
  have h4 := (g14p110100110010 A n (g14Q A n [true, true, false, true, false, false, true, true, false, false, true, true] (blockK 1 (g14Q A n [true, true, false, true, false, false, true, true, true] (g14W A n [true, true, false, true, false, false] m0 (blockK 0 (g14Q A n [true, true, true] (g14T kk))))))) ⟨[(8, (.v (.cell (.int .i64 x4)))), (18, (.v (.cell (.int .i64 x4)))), (0, (.v (.cell (.str x0)))), (1, (.v (.cell (.str x1)))), (2, (.v (.cell (.str x2)))), (7, (.v (.cell (.ptr 2000 0 none)))), (15, (.v (.cell (.int .i64 x3)))), (16, (.v (.cell (.int .i64 x4))))], [(2000, ⟨[.nums .u32 65 x5], 43, 1⟩)]⟩ ⟨[(0, (.v (.cell (.str x0)))), (1, (.v (.cell (.str x1)))), (2, (.v (.cell (.str x2)))), (7, (.v (.cell (.ptr 2000 0 none)))), (8, (.v (.cell (.int .i64 x4)))), (15, (.v (.cell (.int .i64 x3)))), (16, (.v (.cell (.int .i64 x4))))], [(2000, ⟨[.nums .u32 65 x5], 43, 1⟩)]⟩ (by kernel_rfl)).trans (g14R5 A n (g14Q A n [true, true, false, true, false, false, true, true, false, false, true, true] (blockK 1 (g14Q A n [true, true, false, true, false, false, true, true, true] (g14W A n [true, true, false, true, false, false] m0 (blockK 0 (g14Q A n [true, true, true] (g14T kk))))))) x0 x1 x2 x4 x3 x4 x5)
  rw [h3] at h4
  have h5 := (g14p11010011001 A n _ _).trans h4
  have h6 := (g14Qn A n _ _ _).trans h5
  have h7 := (g14p11010011000 A n (g14Q A n [true, true, false, true, false, false, true, true, false, false, true] (blockK 1 (g14Q A n [true, true, false, true, false, false, true, true, true] (g14W A n [true, true, false, true, false, false] m0 (blockK 0 (g14Q A n [true, true, true] (g14T kk))))))) ⟨[(0, (.v (.cell (.str x0)))), (1, (.v (.cell (.str x1)))), (2, (.v (.cell (.str x2)))), (7, (.v (.cell (.ptr 2000 0 none)))), (15, (.v (.cell (.int .i64 x3)))), (16, (.v (.cell (.int .i64 x4))))], [(2000, ⟨[.nums .u32 65 x5], 43, 1⟩)]⟩ ⟨[(0, (.v (.cell (.str x0)))), (1, (.v (.cell (.str x1)))), (2, (.v (.cell (.str x2)))), (7, (.v (.cell (.ptr 2000 0 none)))), (15, (.v (.cell (.int .i64 x3)))), (16, (.v (.cell (.int .i64 x4))))], [(2000, ⟨[.nums .u32 65 x5], 43, 1⟩)]⟩ (by kernel_rfl)).trans (g14R4 A n (g14Q A n [true, true, false, true, false, false, true, true, false, false, true] (blockK 1 (g14Q A n [true, true, false, true, false, false, true, true, true] (g14W A n [true, true, false, true, false, false] m0 (blockK 0 (g14Q A n [true, true, true] (g14T kk))))))) x0 x1 x2 x3 x4 x5)
  rw [h6] at h7
  have h8 := (g14p1101001100 A n _ _).trans h7
  have h9 := (g14p110100110 A n _ _).trans h8
  have h10 := (g14p11010011 A n _ _).trans h9
  exact (codeD_first (s' := ⟨[(0, (.v (.cell (.str x0)))), (1, (.v (.cell (.str x1)))), (2, (.v (.cell (.str x2)))), (7, (.v (.cell (.ptr 2000 0 none)))), (15, (.v (.cell (.int .i64 x3)))), (16, (.v (.cell (.int .i64 x4))))], [(2000, ⟨[.nums .u32 65 x5], 43, 1⟩)]⟩) (id := 4) (by kernel_rfl) (h.trans (by kernel_rfl)) _).trans (h10.trans (by kernel_rfl))
def g14J13 {R : Type} (A : Ar) (n : Nat) (kk : AV → Heap → Option R) (lg14L12 : List Nat → Int → Int → List Nat → Option R) (x0 : List Nat) (x1 : Int) (x2 : Int) (x3 : List Nat) : Option R :=
  match (generalizing := false) A.neg x2 with
  | true => none
  | false => match (generalizing := false) A.lt (A.toN x2) 65 with
    | true => match (generalizing := false) A.neg x2 with
      | true => none
      | false => match (generalizing := false) A.lt (A.toN x2) x0.length with
        | true => match (generalizing := false) A.neg x2 with
          | true => none
          | false => match (generalizing := false) A.lt (A.toN x2) 65 with
            | true => lg14L12 x0 x1 (A.ib .add .i64 x2 1) (x3.set (A.toN x2) (A.nb .add .u32 (x3.getD (A.toN x2) 0) (x0.getD (A.toN x2) 0)))
            | false => none
        | false => none
    | false => none
set_option maxRecDepth 100000 in
theorem g14J13_eq {R : Type} (A : Ar) (n : Nat) (kk : AV → Heap → Option R) (m0 : Nat) (lg14L12 : List Nat → Int → Int → List Nat → Option R) 
    (hg14L12 : ∀ (s : St) (x0 : List Nat) (x1 : Int) (x2 : Int) (x3 : List Nat), keep g14an 12 s = ⟨[(2, (.v (.cell (.str x0)))), (7, (.v (.cell (.ptr 2000 0 none)))), (45, (.v (.cell (.int .i64 x1)))), (46, (.v (.cell (.int .i64 x2))))], [(2000, ⟨[.nums .u32 65 x3], 43, 1⟩)]⟩ → g14V A n [true, true, true, false, true, false, false] m0 (blockK 4 (g14Q A n [true, true, true, true] (g14T kk))) s = lg14L12 x0 x1 x2 x3) (s : St) (x0 : List Nat) (x1 : Int) (x2 : Int) (x3 : List Nat) (h : keep g14an 13 s = ⟨[(2, (.v (.cell (.str x0)))), (7, (.v (.cell (.ptr 2000 0 none)))), (45, (.v (.cell (.int .i64 x1)))), (46, (.v (.cell (.int .i64 x2))))], [(2000, ⟨[.nums .u32 65 x3], 43, 1⟩)]⟩) :
    g14D A n [true, true, true, false, true, false, false, true, true] (g14W A n [true, true, true, false, true, false, false] m0 (blockK 4 (g14Q A n [true, true, true, true] (g14T kk)))) s = g14J13 A n kk lg14L12 x0 x1 x2 x3 := by
  have h1 := (g14Wn A n _ _ _ _).trans (hg14L12 ⟨[(46, (.v (.cell (.int .i64 (A.ib .add .i64 x2 1))))), (58, (.v (.cell (.int .i64 (A.ib .add .i64 x2 1))))), (2, (.v (.cell (.str x0)))), (7, (.v (.cell (.ptr 2000 0 none)))), (45, (.v (.cell (.int .i64 x1)))), (46, (.v (.cell (.int .i64 x2))))], [(2000, ⟨[.nums .u32 65 (x3.set (A.toN x2) (A.nb .add .u32 (x3.getD (A.toN x2) 0) (x0.getD (A.toN x2) 0)))], 43, 1⟩)]⟩ x0 x1 (A.ib .add .i64 x2 1) (x3.set (A.toN x2) (A.nb .add .u32 (x3.getD (A.toN x2) 0) (x0.getD (A.toN x2) 0))) (by kernel_rfl))
  have h2 := (g14p1110100111 A n (g14W A n [true, true, true, false, true, false, false] m0 (blockK 4 (g14Q A n [true, true, true, true] (g14T kk)))) ⟨[(57, (.v (.cell (.ptr 2000 0 (some ⟨A.toN x2, 1, 65, 0, 0, 0⟩))))), (56, (.v (.cell (.nat .u32 (A.nb .add .u32 (x3.getD (A.toN x2) 0) (x0.getD (A.toN x2) 0)))))), (55, (.v (.cell (.nat .u32 (x0.getD (A.toN x2) 0))))), (54, (.v (.cell (.nat .u8 (x0.getD (A.toN x2) 0))))), (53, (.v (.cell (.int .i64 x2)))), (52, (.v (.cell (.str x0)))), (51, (.v (.cell (.nat .u32 (x3.getD (A.toN x2) 0))))), (50, (.v (.cell (.ptr 2000 0 (some ⟨A.toN x2, 1, 65, 0, 0, 0⟩))))), (49, (.v (.cell (.int .i64 x2)))), (2, (.v (.cell (.str x0)))), (7, (.v (.cell (.ptr 2000 0 none)))), (10, (.v (.cell (.int .i64 x2)))), (45, (.v (.cell (.int .i64 x1)))), (46, (.v (.cell (.int .i64 x2))))], [(2000, ⟨[.nums .u32 65 (x3.set (A.toN x2) (A.nb .add .u32 (x3.getD (A.toN x2) 0) (x0.getD (A.toN x2) 0)))], 43, 1⟩)]⟩ ⟨[(2, (.v (.cell (.str x0)))), (7, (.v (.cell (.ptr 2000 0 none)))), (45, (.v (.cell (.int .i64 x1)))), (46, (.v (.cell (.int .i64 x2))))], [(2000, ⟨[.nums .u32 65 (x3.set (A.toN x2) (A.nb .add .u32 (x3.getD (A.toN x2) 0) (x0.getD (A.toN x2) 0)))], 43, 1⟩)]⟩ (by kernel_rfl)).trans (g14R15 A n (g14W A n [true, true, true, false, true, false, false] m0 (blockK 4 (g14Q A n [true, true, true, true] (g14T kk)))) x0 x1 x2 (x3.set (A.toN x2) (A.nb .add .u32 (x3.getD (A.toN x2) 0) (x0.getD (A.toN x2) 0))))
  rw [h1] at h2
  have h3 := (g14Qn A n _ _ _).trans h2
  have h4 := (blockK_n 5 _ _).trans h3
  have h5 := (g14p111010011001 A n (blockK 5 (g14Q A n [true, true, true, false, true, false, false, true, true, true] (g14W A n [true, true, true, false, true, false, false] m0 (blockK 4 (g14Q A n [true, true, true, true] (g14T kk)))))) ⟨[(10, (.v (.cell (.int .i64 x2)))), (48, (.v (.cell (.int .i64 x2)))), (2, (.v (.cell (.str x0)))), (7, (.v (.cell (.ptr 2000 0 none)))), (45, (.v (.cell (.int .i64 x1)))), (46, (.v (.cell (.int .i64 x2))))], [(2000, ⟨[.nums .u32 65 x3], 43, 1⟩)]⟩ ⟨[(2, (.v (.cell (.str x0)))), (7, (.v (.cell (.ptr 2000 0 none)))), (10, (.v (.cell (.int .i64 x2)))), (45, (.v (.cell (.int .i64 x1)))), (46, (.v (.cell (.int .i64 x2))))], [(2000, ⟨[.nums .u32 65 x3], 43, 1⟩)]⟩ (by kernel_rfl)).trans (g14R14 A n (blockK 5 (g14Q A n [true, true, true, false, true, false, false, true, true, true] (g14W A n [true, true, true, false, true, false, false] m0 (blockK 4 (g14Q A n [true, true, true, true] (g14T kk)))))) x0 x2 x1 x2 x3)
  rw [h4] at h5
  have h6 := (g14Qn A n _ _ _).trans h5
  have h7 := (g14p111010011000 A n (g14Q A n [true, true, true, false, true, false, false, true, true, false, false, true] (blockK 5 (g14Q A n [true, true, true, false, true, false, false, true, true, true] (g14W A n [true, true, true, false, true, false, false] m0 (blockK 4 (g14Q A n [true, true, true, true] (g14T kk))))))) ⟨[(2, (.v (.cell (.str x0)))), (7, (.v (.cell (.ptr 2000 0 none)))), (45, (.v (.cell (.int .i64 x1)))), (46, (.v (.cell (.int .i64 x2))))], [(2000, ⟨[.nums .u32 65 x3], 43, 1⟩)]⟩ ⟨[(2, (.v (.cell (.str x0)))), (7, (.v (.cell (.ptr 2000 0 none)))), (45, (.v (.cell (.int .i64 x1)))), (46, (.v (.cell (.int .i64 x2))))], [(2000, ⟨[.nums .u32 65 x3], 43, 1⟩)]⟩ (by kernel_rfl)).trans (g14R13 A n (g14Q A n [true, true, true, false, true, false, false, true, true, false, false, true] (blockK 5 (g14Q A n [true, true, true, false, true, false, false, true, true, true] (g14W A n [true, true, true, false, true, false, false] m0 (blockK 4 (g14Q A n [true, true, true, true] (g14T kk))))))) x0 x1 x2 x3)
  rw [h6] at h7
  have h8 := (g14p11101001100 A n _ _).trans h7
  have h9 := (g14p1110100110 A n _ _).trans h8
  have h10 := (g14p111010011 A n _ _).trans h9
  exact (codeD_first (s' := ⟨[(2, (.v (.cell (.str x0)))), (7, (.v (.cell (.ptr 2000 0 none)))), (45, (.v (.cell (.int .i64 x1)))), (46, (.v (.cell (.int .i64 x2))))], [(2000, ⟨[.nums .u32 65 x3], 43, 1⟩)]⟩) (id := 13) (by kernel_rfl) (h.trans (by kernel_rfl)) _).trans (h10.trans (by kernel_rfl))
def g14J19 {R : Type} (A : Ar) (n : Nat) (kk : AV → Heap → Option R) (lg14L18 : Nat → Int → Int → List Nat → Nat → List Nat → Option R) (x0 : Nat) (x1 : Int) (x2 : Int) (x3 : List Nat) (x4 : Nat) (x5 : List Nat) : Option R :=
  match (generalizing := false) A.neg x2 with
  | true => none
  | false => match (generalizing := false) A.lt (A.toN x2) 65 with
    | true => match (generalizing := false) A.neg x2 with
      | true => none
      | false => match (generalizing := false) A.lt (A.toN x2) x0 with
        | true => match (generalizing := false) A.neg (A.ib .add .i64 x2 1) with
          | true => none
          | false => match (generalizing := false) A.lt (A.toN (A.ib .add .i64 x2 1)) 65 with
            | true => match (generalizing := false) A.neg x2 with
              | true => none
              | false => match (generalizing := false) A.lt (A.toN x2) 65 with
                | true => match (generalizing := false) A.neg (A.ib .add .i64 x2 1) with
                  | true => none
                  | false => match (generalizing := false) A.lt (A.toN (A.ib .add .i64 x2 1)) 65 with
                    | true => lg14L18 x0 x1 (A.ib .add .i64 x2 1) (x3.set (A.toN (A.ib .add .i64 x2 1)) (A.nb .add .u32 (x3.getD (A.toN (A.ib .add .i64 x2 1)) 0) (A.nsh .shr .u32 (x3.getD (A.toN x2) 0) 8))) x4 (x5.set (A.toN x2) (A.n2n .u8 (x3.getD (A.toN x2) 0)))
                    | false => none
                | false => none
            | false => none
        | false => none
    | false => none
set_option maxRecDepth 100000 in
theorem g14J19_eq {R : Type} (A : Ar) (n : Nat) (kk : AV → Heap → Option R) (m0 : Nat) (lg14L18 : Nat → Int → Int → List Nat → Nat → List Nat → Option R) 
    (hg14L18 : ∀ (s : St) (x0 : Nat) (x1 : Int) (x2 : Int) (x3 : List Nat) (x4 : Nat) (x5 : List Nat), keep g14an 18 s = ⟨[(7, (.v (.cell (.ptr 2000 0 none)))), (11, (.v (.cell (.sl 17000 none x0 1)))), (61, (.v (.cell (.int .i64 x1)))), (62, (.v (.cell (.int .i64 x2))))], [(2000, ⟨[.nums .u32 65 x3], 43, 1⟩), (17000, ⟨[.nums .u8 x4 x5], 5, 2⟩)]⟩ → g14V A n [true, true, true, true, true, false, true, false, false] m0 (blockK 6 (g14Q A n [true, true, true, true, true, true] (g14T kk))) s = lg14L18 x0 x1 x2 x3 x4 x5) (s : St) (x0 : Nat) (x1 : Int) (x2 : Int) (x3 : List Nat) (x4 : Nat) (x5 : List Nat) (h : keep g14an 19 s = ⟨[(7, (.v (.cell (.ptr 2000 0 none)))), (11, (.v (.cell (.sl 17000 none x0 1)))), (61, (.v (.cell (.int .i64 x1)))), (62, (.v (.cell (.int .i64 x2))))], [(2000, ⟨[.nums .u32 65 x3], 43, 1⟩), (17000, ⟨[.nums .u8 x4 x5], 5, 2⟩)]⟩) :
    g14D A n [true, true, true, true, true, false, true, false, false, true, true] (g14W A n [true, true, true, true, true, false, true, false, false] m0 (blockK 6 (g14Q A n [true, true, true, true, true, true] (g14T kk)))) s = g14J19 A n kk lg14L18 x0 x1 x2 x3 x4 x5 := by
  have h1 := (g14Wn A n _ _ _ _).trans (hg14L18 ⟨[(62, (.v (.cell (.int .i64 (A.ib .add .i64 x2 1))))), (82, (.v (.cell (.int .i64 (A.ib .add .i64 x2 1))))), (7, (.v (.cell (.ptr 2000 0 none)))), (11, (.v (.cell (.sl 17000 none x0 1)))), (61, (.v (.cell (.int .i64 x1)))), (62, (.v (.cell (.int .i64 x2))))], [(2000, ⟨[.nums .u32 65 (x3.set (A.toN (A.ib .add .i64 x2 1)) (A.nb .add .u32 (x3.getD (A.toN (A.ib .add .i64 x2 1)) 0) (A.nsh .shr .u32 (x3.getD (A.toN x2) 0) 8)))], 43, 1⟩), (17000, ⟨[.nums .u8 x4 (x5.set (A.toN x2) (A.n2n .u8 (x3.getD (A.toN x2) 0)))], 5, 2⟩)]⟩ x0 x1 (A.ib .add .i64 x2 1) (x3.set (A.toN (A.ib .add .i64 x2 1)) (A.nb .add .u32 (x3.getD (A.toN (A.ib .add .i64 x2 1)) 0) (A.nsh .shr .u32 (x3.getD (A.toN x2) 0) 8))) x4 (x5.set (A.toN x2) (A.n2n .u8 (x3.getD (A.toN x2) 0))) (by kernel_rfl))
  have h2 := (g14p111110100111 A n (g14W A n [true, true, true, true, true, false, true, false, false] m0 (blockK 6 (g14Q A n [true, true, true, true, true, true] (g14T kk)))) ⟨[(81, (.v (.cell (.ptr 2000 0 (some ⟨A.toN (A.ib .add .i64 x2 1), 1, 65, 0, 0, 0⟩))))), (80, (.v (.cell (.nat .u32 (A.nb .add .u32 (x3.getD (A.toN (A.ib .add .i64 x2 1)) 0) (A.nsh .shr .u32 (x3.getD (A.toN x2) 0) 8)))))), (79, (.v (.cell (.nat .u32 (A.nsh .shr .u32 (x3.getD (A.toN x2) 0) 8))))), (78, (.v (.cell (.nat .u32 (x3.getD (A.toN x2) 0))))), (77, (.v (.cell (.ptr 2000 0 (some ⟨A.toN x2, 1, 65, 0, 0, 0⟩))))), (76, (.v (.cell (.int .i64 x2)))), (75, (.v (.cell (.nat .u32 (x3.getD (A.toN (A.ib .add .i64 x2 1)) 0))))), (74, (.v (.cell (.ptr 2000 0 (some ⟨A.toN (A.ib .add .i64 x2 1), 1, 65, 0, 0, 0⟩))))), (73, (.v (.cell (.int .i64 (A.ib .add .i64 x2 1))))), (72, (.v (.cell (.int .i64 x2)))), (7, (.v (.cell (.ptr 2000 0 none)))), (11, (.v (.cell (.sl 17000 none x0 1)))), (12, (.v (.cell (.int .i64 x2)))), (61, (.v (.cell (.int .i64 x1)))), (62, (.v (.cell (.int .i64 x2))))], [(2000, ⟨[.nums .u32 65 (x3.set (A.toN (A.ib .add .i64 x2 1)) (A.nb .add .u32 (x3.getD (A.toN (A.ib .add .i64 x2 1)) 0) (A.nsh .shr .u32 (x3.getD (A.toN x2) 0) 8)))], 43, 1⟩), (17000, ⟨[.nums .u8 x4 (x5.set (A.toN x2) (A.n2n .u8 (x3.getD (A.toN x2) 0)))], 5, 2⟩)]⟩ ⟨[(7, (.v (.cell (.ptr 2000 0 none)))), (11, (.v (.cell (.sl 17000 none x0 1)))), (61, (.v (.cell (.int .i64 x1)))), (62, (.v (.cell (.int .i64 x2))))], [(2000, ⟨[.nums .u32 65 (x3.set (A.toN (A.ib .add .i64 x2 1)) (A.nb .add .u32 (x3.getD (A.toN (A.ib .add .i64 x2 1)) 0) (A.nsh .shr .u32 (x3.getD (A.toN x2) 0) 8)))], 43, 1⟩), (17000, ⟨[.nums .u8 x4 (x5.set (A.toN x2) (A.n2n .u8 (x3.getD (A.toN x2) 0)))], 5, 2⟩)]⟩ (by kernel_rfl)).trans (g14R22 A n (g14W A n [true, true, true, true, true, false, true, false, false] m0 (blockK 6 (g14Q A n [true, true, true, true, true, true] (g14T kk)))) x0 x1 x2 (x3.set (A.toN (A.ib .add .i64 x2 1)) (A.nb .add .u32 (x3.getD (A.toN (A.ib .add .i64 x2 1)) 0) (A.nsh .shr .u32 (x3.getD (A.toN x2) 0) 8))) x4 (x5.set (A.toN x2) (A.n2n .u8 (x3.getD (A.toN x2) 0))))
  rw [h1] at h2
  have h3 := (g14Qn A n _ _ _).trans h2
  have h4 := (blockK_n 7 _ _).trans h3
  have h5 := (g14p111110100110011 A n (blockK 7 (g14Q A n [true, true, true, true, true, false, true, false, false, true, true, true] (g14W A n [true, true, true, true, true, false, true, false, false] m0 (blockK 6 (g14Q A n [true, true, true, true, true, true] (g14T kk)))))) ⟨[(71, (.v (.cell (.ptr 17000 0 (some ⟨A.toN x2, 1, x0, A.toN x2, 0, 1⟩))))), (70, (.v (.cell (.nat .u8 (A.n2n .u8 (x3.getD (A.toN x2) 0)))))), (69, (.v (.cell (.nat .u32 (x3.getD (A.toN x2) 0))))), (68, (.v (.cell (.ptr 2000 0 (some ⟨A.toN x2, 1, 65, 0, 0, 0⟩))))), (67, (.v (.cell (.int .i64 x2)))), (66, (.v (.cell (.int .i64 x2)))), (65, (.v (.cell (.sl 17000 none x0 1)))), (7, (.v (.cell (.ptr 2000 0 none)))), (11, (.v (.cell (.sl 17000 none x0 1)))), (12, (.v (.cell (.int .i64 x2)))), (61, (.v (.cell (.int .i64 x1)))), (62, (.v (.cell (.int .i64 x2))))], [(2000, ⟨[.nums .u32 65 x3], 43, 1⟩), (17000, ⟨[.nums .u8 x4 (x5.set (A.toN x2) (A.n2n .u8 (x3.getD (A.toN x2) 0)))], 5, 2⟩)]⟩ ⟨[(7, (.v (.cell (.ptr 2000 0 none)))), (11, (.v (.cell (.sl 17000 none x0 1)))), (12, (.v (.cell (.int .i64 x2)))), (61, (.v (.cell (.int .i64 x1)))), (62, (.v (.cell (.int .i64 x2))))], [(2000, ⟨[.nums .u32 65 x3], 43, 1⟩), (17000, ⟨[.nums .u8 x4 (x5.set (A.toN x2) (A.n2n .u8 (x3.getD (A.toN x2) 0)))], 5, 2⟩)]⟩ (by kernel_rfl)).trans (g14R21 A n (blockK 7 (g14Q A n [true, true, true, true, true, false, true, false, false, true, true, true] (g14W A n [true, true, true, true, true, false, true, false, false] m0 (blockK 6 (g14Q A n [true, true, true, true, true, true] (g14T kk)))))) x0 x2 x1 x2 x3 x4 (x5.set (A.toN x2) (A.n2n .u8 (x3.getD (A.toN x2) 0))))
  rw [h4] at h5
  have h6 := (g14Qn A n _ _ _).trans h5
  have h7 := (g14p111110100110010 A n (g14Q A n [true, true, true, true, true, false, true, false, false, true, true, false, false, true, true] (blockK 7 (g14Q A n [true, true, true, true, true, false, true, false, false, true, true, true] (g14W A n [true, true, true, true, true, false, true, false, false] m0 (blockK 6 (g14Q A n [true, true, true, true, true, true] (g14T kk))))))) ⟨[(12, (.v (.cell (.int .i64 x2)))), (64, (.v (.cell (.int .i64 x2)))), (7, (.v (.cell (.ptr 2000 0 none)))), (11, (.v (.cell (.sl 17000 none x0 1)))), (61, (.v (.cell (.int .i64 x1)))), (62, (.v (.cell (.int .i64 x2))))], [(2000, ⟨[.nums .u32 65 x3], 43, 1⟩), (17000, ⟨[.nums .u8 x4 x5], 5, 2⟩)]⟩ ⟨[(7, (.v (.cell (.ptr 2000 0 none)))), (11, (.v (.cell (.sl 17000 none x0 1)))), (12, (.v (.cell (.int .i64 x2)))), (61, (.v (.cell (.int .i64 x1)))), (62, (.v (.cell (.int .i64 x2))))], [(2000, ⟨[.nums .u32 65 x3], 43, 1⟩), (17000, ⟨[.nums .u8 x4 x5], 5, 2⟩)]⟩ (by kernel_rfl)).trans (g14R20 A n (g14Q A n [true, true, true, true, true, false, true, false, false, true, true, false, false, true, true] (blockK 7 (g14Q A n [true, true, true, true, true, false, true, false, false, true, true, true] (g14W A n [true, true, true, true, true, false, true, false, false] m0 (blockK 6 (g14Q A n [true, true, true, true, true, true] (g14T kk))))))) x0 x2 x1 x2 x3 x4 x5)
  rw [h6] at h7
  have h8 := (g14p11111010011001 A n _ _).trans h7
  have h9 := (g14Qn A n _ _ _).trans h8
  have h10 := (g14p11111010011000 A n (g14Q A n [true, true, true, true, true, false, true, false, false, true, true, false, false, true] (blockK 7 (g14Q A n [true, true, true, true, true, false, true, false, false, true, true, true] (g14W A n [true, true, true, true, true, false, true, false, false] m0 (blockK 6 (g14Q A n [true, true, true, true, true, true] (g14T kk))))))) ⟨[(7, (.v (.cell (.ptr 2000 0 none)))), (11, (.v (.cell (.sl 17000 none x0 1)))), (61, (.v (.cell (.int .i64 x1)))), (62, (.v (.cell (.int .i64 x2))))], [(2000, ⟨[.nums .u32 65 x3], 43, 1⟩), (17000, ⟨[.nums .u8 x4 x5], 5, 2⟩)]⟩ ⟨[(7, (.v (.cell (.ptr 2000 0 none)))), (11, (.v (.cell (.sl 17000 none x0 1)))), (61, (.v (.cell (.int .i64 x1)))), (62, (.v (.cell (.int .i64 x2))))], [(2000, ⟨[.nums .u32 65 x3], 43, 1⟩), (17000, ⟨[.nums .u8 x4 x5], 5, 2⟩)]⟩ (by kernel_rfl)).trans (g14R19 A n (g14Q A n [true, true, true, true, true, false, true, false, false, true, true, false, false, true] (blockK 7 (g14Q A n [true, true, true, true, true, false, true, false, false, true, true, true] (g14W A n [true, true, true, true, true, false, true, false, false] m0 (blockK 6 (g14Q A n [true, true, true, true, true, true] (g14T kk))))))) x0 x1 x2 x3 x4 x5)
  rw [h9] at h10
  have h11 := (g14p1111101001100 A n _ _).trans h10
  have h12 := (g14p111110100110 A n _ _).trans h11
  have h13 := (g14p11111010011 A n _ _).trans h12
  exact (codeD_first (s' := ⟨[(7, (.v (.cell (.ptr 2000 0 none)))), (11, (.v (.cell (.sl 17000 none x0 1)))), (61, (.v (.cell (.int .i64 x1)))), (62, (.v (.cell (.int .i64 x2))))], [(2000, ⟨[.nums .u32 65 x3], 43, 1⟩), (17000, ⟨[.nums .u8 x4 x5], 5, 2⟩)]⟩) (id := 19) (by kernel_rfl) (h.trans (by kernel_rfl)) _).trans (h13.trans (by kernel_rfl))
def g14L18 {R : Type} (A : Ar) (n : Nat) (kk : AV → Heap → Option R)  : Nat → Nat → Int → Int → List Nat → Nat → List Nat → Option R
  | 0, _, _, _, _, _, _ => none
  | m + 1, x0, x1, x2, x3, x4, x5 => match (generalizing := false) A.ic .lss x2 x1 with
  | true => g14J19 A n kk (g14L18 A n kk  m) x0 x1 x2 x3 x4 x5
  | false => match (generalizing := false) g10ok (x5.take x0) with
    | true => kk (.v (.cell (.str (g10r0 (x5.take x0))))) [(17000, ⟨[.nums .u8 x4 x5], 5, 2⟩)]
    | false => none
set_option maxRecDepth 100000 in
theorem g14L18_eq {R : Type} (A : Ar) (n : Nat) (kk : AV → Heap → Option R)    (m : Nat) (s : St) (x0 : Nat) (x1 : Int) (x2 : Int) (x3 : List Nat) (x4 : Nat) (x5 : List Nat) (h : keep g14an 18 s = ⟨[(7, (.v (.cell (.ptr 2000 0 none)))), (11, (.v (.cell (.sl 17000 none x0 1)))), (61, (.v (.cell (.int .i64 x1)))), (62, (.v (.cell (.int .i64 x2))))], [(2000, ⟨[.nums .u32 65 x3], 43, 1⟩), (17000, ⟨[.nums .u8 x4 x5], 5, 2⟩)]⟩) :
    g14V A n [true, true, true, true, true, false, true, false, false] m (blockK 6 (g14Q A n [true, true, true, true, true, true] (g14T kk))) s = g14L18 A n kk  m x0 x1 x2 x3 x4 x5 := by
  induction m generalizing s x0 x1 x2 x3 x4 x5 with
  | zero => rfl
  | succ m ih =>
    have h1 := (g14Qn A n _ _ _).trans (g14J19_eq A n kk m (g14L18 A n kk  m) ih  ⟨[(63, (.v (.cell (.bool (A.ic .lss x2 x1))))), (7, (.v (.cell (.ptr 2000 0 none)))), (11, (.v (.cell (.sl 17000 none x0 1)))), (61, (.v (.cell (.int .i64 x1)))), (62, (.v (.cell (.int .i64 x2))))], [(2000, ⟨[.nums .u32 65 x3], 43, 1⟩), (17000, ⟨[.nums .u8 x4 x5], 5, 2⟩)]⟩ x0 x1 x2 x3 x4 x5 (by kernel_rfl))
    have h2 := (g14p111110100100 A n _ _).trans h1
    have h3 : (g14T kk) .ret ⟨[(6, (.v (.cell (.str (g10r0 (x5.take x0)))))), (85, (.v (.cell (.str (g10r0 (x5.take x0)))))), (84, (.v (.cell (.str (x5.take x0))))), (83, (.v (.cell (.sl 17000 none x0 1)))), (11, (.v (.cell (.sl 17000 none x0 1))))], [(17000, ⟨[.nums .u8 x4 x5], 5, 2⟩)]⟩ = kk (.v (.cell (.str (g10r0 (x5.take x0))))) [(17000, ⟨[.nums .u8 x4 x5], 5, 2⟩)] := by kernel_rfl
    have h4 := (g14p1111111 A n _ _).trans h3
    have h5 := (g14Qn A n _ _ _).trans h4
    have h6 := (g14p1111110 A n (g14Q A n [true, true, true, true, true, true, true] (g14T kk)) ⟨[(63, (.v (.cell (.bool (A.ic .lss x2 x1))))), (7, (.v (.cell (.ptr 2000 0 none)))), (11, (.v (.cell (.sl 17000 none x0 1)))), (61, (.v (.cell (.int .i64 x1)))), (62, (.v (.cell (.int .i64 x2))))], [(2000, ⟨[.nums .u32 65 x3], 43, 1⟩), (17000, ⟨[.nums .u8 x4 x5], 5, 2⟩)]⟩ ⟨[(11, (.v (.cell (.sl 17000 none x0 1))))], [(17000, ⟨[.nums .u8 x4 x5], 5, 2⟩)]⟩ (by kernel_rfl)).trans (g14R23 A n (g14Q A n [true, true, true, true, true, true, true] (g14T kk)) x0 x4 x5)
    rw [h5] at h6
    have h7 := (g14p111111 A n _ _).trans h6
    have h8 := (g14Qn A n _ _ _).trans h7
    have h9 := (blockK_hit 6 _ _).trans h8
    have h10 := (g14We A n [true, true, true, true, true, false, true, false, false] m _ _ _).trans h9
    have h11 := (g14Qe A n [true, true, true, true, true, false, true, false, false, true, true] _ _ _).trans h10
    have h12 := (g14p111110100101 A n _ _).trans h11
    have h13 := g14p11111010010 A n (g14Q A n [true, true, true, true, true, false, true, false, false, true, true] (g14W A n [true, true, true, true, true, false, true, false, false] m (blockK 6 (g14Q A n [true, true, true, true, true, true] (g14T kk))))) ⟨[(63, (.v (.cell (.bool (A.ic .lss x2 x1))))), (7, (.v (.cell (.ptr 2000 0 none)))), (11, (.v (.cell (.sl 17000 none x0 1)))), (61, (.v (.cell (.int .i64 x1)))), (62, (.v (.cell (.int .i64 x2))))], [(2000, ⟨[.nums .u32 65 x3], 43, 1⟩), (17000, ⟨[.nums .u8 x4 x5], 5, 2⟩)]⟩ (A.ic .lss x2 x1) (by kernel_rfl)
    rw [h2, h12] at h13
    have h14 := (g14p1111101001 A n _ _).trans h13
    have h15 := (g14Qn A n _ _ _).trans h14
    have h16 := (g14p1111101000 A n (g14Q A n [true, true, true, true, true, false, true, false, false, true] (g14W A n [true, true, true, true, true, false, true, false, false] m (blockK 6 (g14Q A n [true, true, true, true, true, true] (g14T kk))))) ⟨[(7, (.v (.cell (.ptr 2000 0 none)))), (11, (.v (.cell (.sl 17000 none x0 1)))), (61, (.v (.cell (.int .i64 x1)))), (62, (.v (.cell (.int .i64 x2))))], [(2000, ⟨[.nums .u32 65 x3], 43, 1⟩), (17000, ⟨[.nums .u8 x4 x5], 5, 2⟩)]⟩ ⟨[(7, (.v (.cell (.ptr 2000 0 none)))), (11, (.v (.cell (.sl 17000 none x0 1)))), (61, (.v (.cell (.int .i64 x1)))), (62, (.v (.cell (.int .i64 x2))))], [(2000, ⟨[.nums .u32 65 x3], 43, 1⟩), (17000, ⟨[.nums .u8 x4 x5], 5, 2⟩)]⟩ (by kernel_rfl)).trans (g14R18 A n (g14Q A n [true, true, true, true, true, false, true, false, false, true] (g14W A n [true, true, true, true, true, false, true, false, false] m (blockK 6 (g14Q A n [true, true, true, true, true, true] (g14T kk))))) x0 x1 x2 x3 x4 x5)
    rw [h15] at h16
    have h17 := (g14p111110100 A n _ _).trans h16
    exact (loopD_first (s' := ⟨[(7, (.v (.cell (.ptr 2000 0 none)))), (11, (.v (.cell (.sl 17000 none x0 1)))), (61, (.v (.cell (.int .i64 x1)))), (62, (.v (.cell (.int .i64 x2))))], [(2000, ⟨[.nums .u32 65 x3], 43, 1⟩), (17000, ⟨[.nums .u8 x4 x5], 5, 2⟩)]⟩) (id := 18) (by kernel_rfl) (h.trans (by kernel_rfl)) _).trans ((g14Vs A n _ m _ _).trans (h17.trans (by kernel_rfl)))
def g14J16 {R : Type} (A : Ar) (n : Nat) (kk : AV → Heap → Option R)  (x0 : List Nat) : Option R :=
  match (generalizing := false) A.le 64 64 with
  | true => match (generalizing := false) A.le 64 140737488355328 with
    | true => g14L18 A n kk  n 64 (A.ofN 64) 0 x0 64 (List.replicate 64 0)
    | false => none
  | false => none
set_option maxRecDepth 100000 in
theorem g14J16_eq {R : Type} (A : Ar) (n : Nat) (kk : AV → Heap → Option R)    (s : St) (x0 : List Nat) (h : keep g14an 16 s = ⟨[(7, (.v (.cell (.ptr 2000 0 none))))], [(2000, ⟨[.nums .u32 65 x0], 43, 1⟩)]⟩) :
    g14D A n [true, true, true, true] (g14T kk) s = g14J16 A n kk  x0 := by
  have h1 := (g14p11111010 A n _ _).trans (g14L18_eq A n kk    n ⟨[(62, (.v (.cell (.int .i64 0)))), (61, (.v (.cell (.int .i64 (A.ofN 64))))), (60, (.v (.cell (.sl 17000 none 64 1)))), (7, (.v (.cell (.ptr 2000 0 none)))), (11, (.v (.cell (.sl 17000 none 64 1))))], [(2000, ⟨[.nums .u32 65 x0], 43, 1⟩), (17000, ⟨[.nums .u8 64 (List.replicate 64 0)], 5, 2⟩)]⟩ 64 (A.ofN 64) 0 x0 64 (List.replicate 64 0) (by kernel_rfl))
  have h2 := (g14p1111101 A n _ _).trans h1
  have h3 := (g14Qn A n _ _ _).trans h2
  have h4 := (g14p1111100 A n (g14Q A n [true, true, true, true, true, false, true] (g14Q A n [true, true, true, true, true, true] (g14T kk))) ⟨[(11, (.v (.cell (.sl 17000 none 64 1)))), (59, (.v (.cell (.sl 17000 none 64 1)))), (7, (.v (.cell (.ptr 2000 0 none))))], [(17000, ⟨[.nums .u8 64 (List.replicate 64 0)], 5, 2⟩), (2000, ⟨[.nums .u32 65 x0], 43, 1⟩)]⟩ ⟨[(7, (.v (.cell (.ptr 2000 0 none)))), (11, (.v (.cell (.sl 17000 none 64 1))))], [(2000, ⟨[.nums .u32 65 x0], 43, 1⟩), (17000, ⟨[.nums .u8 64 (List.replicate 64 0)], 5, 2⟩)]⟩ (by kernel_rfl)).trans (g14R17 A n (g14Q A n [true, true, true, true, true, false, true] (g14Q A n [true, true, true, true, true, true] (g14T kk))) 64 x0 64 (List.replicate 64 0))
  rw [h3] at h4
  have h5 := (g14p111110 A n _ _).trans h4
  have h6 := (g14p11111 A n _ _).trans h5
  have h7 := (g14Qn A n _ _ _).trans h6
  have h8 := (g14p11110 A n (g14Q A n [true, true, true, true, true] (g14T kk)) ⟨[(7, (.v (.cell (.ptr 2000 0 none))))], [(2000, ⟨[.nums .u32 65 x0], 43, 1⟩)]⟩ ⟨[(7, (.v (.cell (.ptr 2000 0 none))))], [(2000, ⟨[.nums .u32 65 x0], 43, 1⟩)]⟩ (by kernel_rfl)).trans (g14R16 A n (g14Q A n [true, true, true, true, true] (g14T kk)) x0)
  rw [h7] at h8
  have h9 := (g14p1111 A n _ _).trans h8
  exact (codeD_first (s' := ⟨[(7, (.v (.cell (.ptr 2000 0 none))))], [(2000, ⟨[.nums .u32 65 x0], 43, 1⟩)]⟩) (id := 16) (by kernel_rfl) (h.trans (by kernel_rfl)) _).trans (h9.trans (by kernel_rfl))
def g14L12 {R : Type} (A : Ar) (n : Nat) (kk : AV → Heap → Option R)  : Nat → List Nat → Int → Int → List Nat → Option R
  | 0, _, _, _, _ => none
  | m + 1, x0, x1, x2, x3 => match (generalizing := false) A.ic .lss x2 x1 with
  | true => g14J13 A n kk (g14L12 A n kk  m) x0 x1 x2 x3
  | false => g14J16 A n kk  x3
set_option maxRecDepth 100000 in
theorem g14L12_eq {R : Type} (A : Ar) (n : Nat) (kk : AV → Heap → Option R)    (m : Nat) (s : St) (x0 : List Nat) (x1 : Int) (x2 : Int) (x3 : List Nat) (h : keep g14an 12 s = ⟨[(2, (.v (.cell (.str x0)))), (7, (.v (.cell (.ptr 2000 0 none)))), (45, (.v (.cell (.int .i64 x1)))), (46, (.v (.cell (.int .i64 x2))))], [(2000, ⟨[.nums .u32 65 x3], 43, 1⟩)]⟩) :
    g14V A n [true, true, true, false, true, false, false] m (blockK 4 (g14Q A n [true, true, true, true] (g14T kk))) s = g14L12 A n kk  m x0 x1 x2 x3 := by
  induction m generalizing s x0 x1 x2 x3 with
  | zero => rfl
  | succ m ih =>
    have h1 := (g14Qn A n _ _ _).trans (g14J13_eq A n kk m (g14L12 A n kk  m) ih  ⟨[(47, (.v (.cell (.bool (A.ic .lss x2 x1))))), (2, (.v (.cell (.str x0)))), (7, (.v (.cell (.ptr 2000 0 none)))), (45, (.v (.cell (.int .i64 x1)))), (46, (.v (.cell (.int .i64 x2))))], [(2000, ⟨[.nums .u32 65 x3], 43, 1⟩)]⟩ x0 x1 x2 x3 (by kernel_rfl))
    have h2 := (g14p1110100100 A n _ _).trans h1
    have h3 := (g14Qn A n _ _ _).trans (g14J16_eq A n kk     ⟨[(47, (.v (.cell (.bool (A.ic .lss x2 x1))))), (2, (.v (.cell (.str x0)))), (7, (.v (.cell (.ptr 2000 0 none)))), (45, (.v (.cell (.int .i64 x1)))), (46, (.v (.cell (.int .i64 x2))))], [(2000, ⟨[.nums .u32 65 x3], 43, 1⟩)]⟩ x3 (by kernel_rfl))
    have h4 := (blockK_hit 4 _ _).trans h3
    have h5 := (g14We A n [true, true, true, false, true, false, false] m _ _ _).trans h4
    have h6 := (g14Qe A n [true, true, true, false, true, false, false, true, true] _ _ _).trans h5
    have h7 := (g14p1110100101 A n _ _).trans h6
    have h8 := g14p111010010 A n (g14Q A n [true, true, true, false, true, false, false, true, true] (g14W A n [true, true, true, false, true, false, false] m (blockK 4 (g14Q A n [true, true, true, true] (g14T kk))))) ⟨[(47, (.v (.cell (.bool (A.ic .lss x2 x1))))), (2, (.v (.cell (.str x0)))), (7, (.v (.cell (.ptr 2000 0 none)))), (45, (.v (.cell (.int .i64 x1)))), (46, (.v (.cell (.int .i64 x2))))], [(2000, ⟨[.nums .u32 65 x3], 43, 1⟩)]⟩ (A.ic .lss x2 x1) (by kernel_rfl)
    rw [h2, h7] at h8
    have h9 := (g14p11101001 A n _ _).trans h8
    have h10 := (g14Qn A n _ _ _).trans h9
    have h11 := (g14p11101000 A n (g14Q A n [true, true, true, false, true, false, false, true] (g14W A n [true, true, true, false, true, false, false] m (blockK 4 (g14Q A n [true, true, true, true] (g14T kk))))) ⟨[(2, (.v (.cell (.str x0)))), (7, (.v (.cell (.ptr 2000 0 none)))), (45, (.v (.cell (.int .i64 x1)))), (46, (.v (.cell (.int .i64 x2))))], [(2000, ⟨[.nums .u32 65 x3], 43, 1⟩)]⟩ ⟨[(2, (.v (.cell (.str x0)))), (7, (.v (.cell (.ptr 2000 0 none)))), (45, (.v (.cell (.int .i64 x1)))), (46, (.v (.cell (.int .i64 x2))))], [(2000, ⟨[.nums .u32 65 x3], 43, 1⟩)]⟩ (by kernel_rfl)).trans (g14R12 A n (g14Q A n [true, true, true, false, true, false, false, true] (g14W A n [true, true, true, false, true, false, false] m (blockK 4 (g14Q A n [true, true, true, true] (g14T kk))))) x0 x1 x2 x3)
    rw [h10] at h11
    have h12 := (g14p1110100 A n _ _).trans h11
    exact (loopD_first (s' := ⟨[(2, (.v (.cell (.str x0)))), (7, (.v (.cell (.ptr 2000 0 none)))), (45, (.v (.cell (.int .i64 x1)))), (46, (.v (.cell (.int .i64 x2))))], [(2000, ⟨[.nums .u32 65 x3], 43, 1⟩)]⟩) (id := 12) (by kernel_rfl) (h.trans (by kernel_rfl)) _).trans ((g14Vs A n _ m _ _).trans (h12.trans (by kernel_rfl)))
def g14J11 {R : Type} (A : Ar) (n : Nat) (kk : AV → Heap → Option R)  (x0 : List Nat) (x1 : List Nat) : Option R :=
  g14L12 A n kk  n x0 (A.mn (A.ofN x0.length) 32) 0 x1
set_option maxRecDepth 100000 in
theorem g14J11_eq {R : Type} (A : Ar) (n : Nat) (kk : AV → Heap → Option R)    (s : St) (x0 : List Nat) (x1 : List Nat) (h : keep g14an 11 s = ⟨[(2, (.v (.cell (.str x0)))), (7, (.v (.cell (.ptr 2000 0 none))))], [(2000, ⟨[.nums .u32 65 x1], 43, 1⟩)]⟩) :
    g14D A n [true, true, true] (g14T kk) s = g14J11 A n kk  x0 x1 := by
  have h1 := (g14p111010 A n _ _).trans (g14L12_eq A n kk    n ⟨[(46, (.v (.cell (.int .i64 0)))), (45, (.v (.cell (.int .i64 (A.mn (A.ofN x0.length) 32))))), (44, (.v (.cell (.int .i64 (A.ofN x0.length))))), (43, (.v (.cell (.str x0)))), (2, (.v (.cell (.str x0)))), (7, (.v (.cell (.ptr 2000 0 none))))], [(2000, ⟨[.nums .u32 65 x1], 43, 1⟩)]⟩ x0 (A.mn (A.ofN x0.length) 32) 0 x1 (by kernel_rfl))
  have h2 := (g14p11101 A n _ _).trans h1
  have h3 := (g14Qn A n _ _ _).trans h2
  have h4 := (g14p11100 A n (g14Q A n [true, true, true, false, true] (g14Q A n [true, true, true, true] (g14T kk))) ⟨[(2, (.v (.cell (.str x0)))), (7, (.v (.cell (.ptr 2000 0 none))))], [(2000, ⟨[.nums .u32 65 x1], 43, 1⟩)]⟩ ⟨[(2, (.v (.cell (.str x0)))), (7, (.v (.cell (.ptr 2000 0 none))))], [(2000, ⟨[.nums .u32 65 x1], 43, 1⟩)]⟩ (by kernel_rfl)).trans (g14R11 A n (g14Q A n [true, true, true, false, true] (g14Q A n [true, true, true, true] (g14T kk))) x0 x1)
  rw [h3] at h4
  have h5 := (g14p1110 A n _ _).trans h4
  have h6 := (g14p111 A n _ _).trans h5
  exact (codeD_first (s' := ⟨[(2, (.v (.cell (.str x0)))), (7, (.v (.cell (.ptr 2000 0 none))))], [(2000, ⟨[.nums .u32 65 x1], 43, 1⟩)]⟩) (id := 11) (by kernel_rfl) (h.trans (by kernel_rfl)) _).trans (h6.trans (by kernel_rfl))
def g14L3 {R : Type} (A : Ar) (n : Nat) (kk : AV → Heap → Option R)  : Nat → List Nat → List Nat → List Nat → Int → Int → List Nat → Option R
  | 0, _, _, _, _, _, _ => none
  | m + 1, x0, x1, x2, x3, x4, x5 => match (generalizing := false) A.ic .lss x4 x3 with
  | true => g14J4 A n kk (g14L3 A n kk  m) x0 x1 x2 x3 x4 x5
  | false => g14J11 A n kk  x2 x5
set_option maxRecDepth 100000 in
theorem g14L3_eq {R : Type} (A : Ar) (n : Nat) (kk : AV → Heap → Option R)    (m : Nat) (s : St) (x0 : List Nat) (x1 : List Nat) (x2 : List Nat) (x3 : Int) (x4 : Int) (x5 : List Nat) (h : keep g14an 3 s = ⟨[(0, (.v (.cell (.str x0)))), (1, (.v (.cell (.str x1)))), (2, (.v (.cell (.str x2)))), (7, (.v (.cell (.ptr 2000 0 none)))), (15, (.v (.cell (.int .i64 x3)))), (16, (.v (.cell (.int .i64 x4))))], [(2000, ⟨[.nums .u32 65 x5], 43, 1⟩)]⟩) :
    g14V A n [true, true, false, true, false, false] m (blockK 0 (g14Q A n [true, true, true] (g14T kk))) s = g14L3 A n kk  m x0 x1 x2 x3 x4 x5 := by
  induction m generalizing s x0 x1 x2 x3 x4 x5 with
  | zero => rfl
  | succ m ih =>
    have h1 := (g14Qn A n _ _ _).trans (g14J4_eq A n kk m (g14L3 A n kk  m) ih  ⟨[(17, (.v (.cell (.bool (A.ic .lss x4 x3))))), (0, (.v (.cell (.str x0)))), (1, (.v (.cell (.str x1)))), (2, (.v (.cell (.str x2)))), (7, (.v (.cell (.ptr 2000 0 none)))), (15, (.v (.cell (.int .i64 x3)))), (16, (.v (.cell (.int .i64 x4))))], [(2000, ⟨[.nums .u32 65 x5], 43, 1⟩)]⟩ x0 x1 x2 x3 x4 x5 (by kernel_rfl))
    have h2 := (g14p110100100 A n _ _).trans h1
    have h3 := (g14Qn A n _ _ _).trans (g14J11_eq A n kk     ⟨[(17, (.v (.cell (.bool (A.ic .lss x4 x3))))), (0, (.v (.cell (.str x0)))), (1, (.v (.cell (.str x1)))), (2, (.v (.cell (.str x2)))), (7, (.v (.cell (.ptr 2000 0 none)))), (15, (.v (.cell (.int .i64 x3)))), (16, (.v (.cell (.int .i64 x4))))], [(2000, ⟨[.nums .u32 65 x5], 43, 1⟩)]⟩ x2 x5 (by kernel_rfl))
    have h4 := (blockK_hit 0 _ _).trans h3
    have h5 := (g14We A n [true, true, false, true, false, false] m _ _ _).trans h4
    have h6 := (g14Qe A n [true, true, false, true, false, false, true, true] _ _ _).trans h5
    have h7 := (g14p110100101 A n _ _).trans h6
    have h8 := g14p11010010 A n (g14Q A n [true, true, false, true, false, false, true, true] (g14W A n [true, true, false, true, false, false] m (blockK 0 (g14Q A n [true, true, true] (g14T kk))))) ⟨[(17, (.v (.cell (.bool (A.ic .lss x4 x3))))), (0, (.v (.cell (.str x0)))), (1, (.v (.cell (.str x1)))), (2, (.v (.cell (.str x2)))), (7, (.v (.cell (.ptr 2000 0 none)))), (15, (.v (.cell (.int .i64 x3)))), (16, (.v (.cell (.int .i64 x4))))], [(2000, ⟨[.nums .u32 65 x5], 43, 1⟩)]⟩ (A.ic .lss x4 x3) (by kernel_rfl)
    rw [h2, h7] at h8
    have h9 := (g14p1101001 A n _ _).trans h8
    have h10 := (g14Qn A n _ _ _).trans h9
    have h11 := (g14p1101000 A n (g14Q A n [true, true, false, true, false, false, true] (g14W A n [true, true, false, true, false, false] m (blockK 0 (g14Q A n [true, true, true] (g14T kk))))) ⟨[(0, (.v (.cell (.str x0)))), (1, (.v (.cell (.str x1)))), (2, (.v (.cell (.str x2)))), (7, (.v (.cell (.ptr 2000 0 none)))), (15, (.v (.cell (.int .i64 x3)))), (16, (.v (.cell (.int .i64 x4))))], [(2000, ⟨[.nums .u32 65 x5], 43, 1⟩)]⟩ ⟨[(0, (.v (.cell (.str x0)))), (1, (.v (.cell (.str x1)))), (2, (.v (.cell (.str x2)))), (7, (.v (.cell (.ptr 2000 0 none)))), (15, (.v (.cell (.int .i64 x3)))), (16, (.v (.cell (.int .i64 x4))))], [(2000, ⟨[.nums .u32 65 x5], 43, 1⟩)]⟩ (by kernel_rfl)).trans (g14R3 A n (g14Q A n [true, true, false, true, false, false, true] (g14W A n [true, true, false, true, false, false] m (blockK 0 (g14Q A n [true, true, true] (g14T kk))))) x0 x1 x2 x3 x4 x5)
    rw [h10] at h11
    have h12 := (g14p110100 A n _ _).trans h11
    exact (loopD_first (s' := ⟨[(0, (.v (.cell (.str x0)))), (1, (.v (.cell (.str x1)))), (2, (.v (.cell (.str x2)))), (7, (.v (.cell (.ptr 2000 0 none)))), (15, (.v (.cell (.int .i64 x3)))), (16, (.v (.cell (.int .i64 x4))))], [(2000, ⟨[.nums .u32 65 x5], 43, 1⟩)]⟩) (id := 3) (by kernel_rfl) (h.trans (by kernel_rfl)) _).trans ((g14Vs A n _ m _ _).trans (h12.trans (by kernel_rfl)))
def g14 {R : Type} (A : Ar) (n : Nat) (kk : AV → Heap → Option R) (a : List Nat) (b : List Nat) (c : List Nat) : Option R :=
  g14L3 A n kk  n a b c (A.mn (A.ofN a.length) 32) 0 [0, 0, 0, 0, 0, 0, 0, 0, 0, 0, 0, 0, 0, 0, 0, 0, 0, 0, 0, 0, 0, 0, 0, 0, 0, 0, 0, 0, 0, 0, 0, 0, 0, 0, 0, 0, 0, 0, 0, 0, 0, 0, 0, 0, 0, 0, 0, 0, 0, 0, 0, 0, 0, 0, 0, 0, 0, 0, 0, 0, 0, 0, 0, 0, 0]
set_option maxRecDepth 100000 in
theorem g14_eq {R : Type} (A : Ar) (n : Nat) (kk : AV → Heap → Option R) (a : List Nat) (b : List Nat) (c : List Nat) :
    funD A gtys (orcOf [(10, g10o)]) g14an n (bodyOf Try.f14) g14res [(.v (.cell (.str a))), (.v (.cell (.str b))), (.v (.cell (.str c)))] [] kk = g14 A n kk a b c := by
  have h1 := (g14p11010 A n _ _).trans (g14L3_eq A n kk    n ⟨[(16, (.v (.cell (.int .i64 0)))), (15, (.v (.cell (.int .i64 (A.mn (A.ofN a.length) 32))))), (14, (.v (.cell (.int .i64 (A.ofN a.length))))), (13, (.v (.cell (.str a)))), (0, (.v (.cell (.str a)))), (1, (.v (.cell (.str b)))), (2, (.v (.cell (.str c)))), (7, (.v (.cell (.ptr 2000 0 none))))], [(2000, ⟨[.nums .u32 65 [0, 0, 0, 0, 0, 0, 0, 0, 0, 0, 0, 0, 0, 0, 0, 0, 0, 0, 0, 0, 0, 0, 0, 0, 0, 0, 0, 0, 0, 0, 0, 0, 0, 0, 0, 0, 0, 0, 0, 0, 0, 0, 0, 0, 0, 0, 0, 0, 0, 0, 0, 0, 0, 0, 0, 0, 0, 0, 0, 0, 0, 0, 0, 0, 0]], 43, 1⟩)]⟩ a b c (A.mn (A.ofN a.length) 32) 0 [0, 0, 0, 0, 0, 0, 0, 0, 0, 0, 0, 0, 0, 0, 0, 0, 0, 0, 0, 0, 0, 0, 0, 0, 0, 0, 0, 0, 0, 0, 0, 0, 0, 0, 0, 0, 0, 0, 0, 0, 0, 0, 0, 0, 0, 0, 0, 0, 0, 0, 0, 0, 0, 0, 0, 0, 0, 0, 0, 0, 0, 0, 0, 0, 0] (by kernel_rfl))
  have h2 := (g14p1101 A n _ _).trans h1
  have h3 := (g14Qn A n _ _ _).trans h2
  have h4 := (g14p1100 A n (g14Q A n [true, true, false, true] (g14Q A n [true, true, true] (g14T kk))) ⟨[(7, (.v (.cell (.ptr 2000 0 none)))), (0, (.v (.cell (.str a)))), (1, (.v (.cell (.str b)))), (2, (.v (.cell (.str c))))], [(2000, ⟨[.nums .u32 65 [0, 0, 0, 0, 0, 0, 0, 0, 0, 0, 0, 0, 0, 0, 0, 0, 0, 0, 0, 0, 0, 0, 0, 0, 0, 0, 0, 0, 0, 0, 0, 0, 0, 0, 0, 0, 0, 0, 0, 0, 0, 0, 0, 0, 0, 0, 0, 0, 0, 0, 0, 0, 0, 0, 0, 0, 0, 0, 0, 0, 0, 0, 0, 0, 0]], 43, 1⟩)]⟩ ⟨[(0, (.v (.cell (.str a)))), (1, (.v (.cell (.str b)))), (2, (.v (.cell (.str c)))), (7, (.v (.cell (.ptr 2000 0 none))))], [(2000, ⟨[.nums .u32 65 [0, 0, 0, 0, 0, 0, 0, 0, 0, 0, 0, 0, 0, 0, 0, 0, 0, 0, 0, 0, 0, 0, 0, 0, 0, 0, 0, 0, 0, 0, 0, 0, 0, 0, 0, 0, 0, 0, 0, 0, 0, 0, 0, 0, 0, 0, 0, 0, 0, 0, 0, 0, 0, 0, 0, 0, 0, 0, 0, 0, 0, 0, 0, 0, 0]], 43, 1⟩)]⟩ (by kernel_rfl)).trans (g14R2 A n (g14Q A n [true, true, false, true] (g14Q A n [true, true, true] (g14T kk))) a b c [0, 0, 0, 0, 0, 0, 0, 0, 0, 0, 0, 0, 0, 0, 0, 0, 0, 0, 0, 0, 0, 0, 0, 0, 0, 0, 0, 0, 0, 0, 0, 0, 0, 0, 0, 0, 0, 0, 0, 0, 0, 0, 0, 0, 0, 0, 0, 0, 0, 0, 0, 0, 0, 0, 0, 0, 0, 0, 0, 0, 0, 0, 0, 0, 0])
  rw [h3] at h4
  have h5 := (g14p110 A n _ _).trans h4
  have h6 := (g14p11 A n _ _).trans h5
  have h7 := (g14Qn A n _ _ _).trans h6
  have h8 := (g14p10 A n (g14Q A n [true, true] (g14T kk)) ⟨[(6, (.v (.cell (.str [])))), (0, (.v (.cell (.str a)))), (1, (.v (.cell (.str b)))), (2, (.v (.cell (.str c))))], []⟩ ⟨[(0, (.v (.cell (.str a)))), (1, (.v (.cell (.str b)))), (2, (.v (.cell (.str c))))], []⟩ (by kernel_rfl)).trans (g14R1 A n (g14Q A n [true, true] (g14T kk)) a b c)
  rw [h7] at h8
  have h9 := (g14p1 A n _ _).trans h8
  have h10 := (g14Qn A n _ _ _).trans h9
  have h11 := (g14p0 A n (g14Q A n [true] (g14T kk)) ⟨[(0, (.v (.cell (.str a)))), (1, (.v (.cell (.str b)))), (2, (.v (.cell (.str c))))], []⟩ ⟨[(0, (.v (.cell (.str a)))), (1, (.v (.cell (.str b)))), (2, (.v (.cell (.str c))))], []⟩ (by kernel_rfl)).trans (g14R0 A n (g14Q A n [true] (g14T kk)) a b c)
  rw [h10] at h11
  have h12 := (g14p A n _ _).trans h11
  exact (show funD A gtys (orcOf [(10, g10o)]) g14an n (bodyOf Try.f14) g14res [(.v (.cell (.str a))), (.v (.cell (.str b))), (.v (.cell (.str c)))] [] kk = g14D A n [] (g14T kk) ⟨[(0, (.v (.cell (.str a)))), (1, (.v (.cell (.str b)))), (2, (.v (.cell (.str c))))], []⟩ from by kernel_rfl).trans (h12.trans (by kernel_rfl))
def g14is (o : Option AV) : Bool := match o with
  | some (.v (.cell (.str _))) => true
  | _ => false
def g14g0 (o : Option AV) : List Nat := match o with
  | some (.v (.cell (.str x))) => x
  | _ => []
theorem g14is_spec {o : Option AV} (h : g14is o = true) : o = some (.v (.cell (.str (g14g0 o)))) := by
  unfold g14is at h
  split at h
  · rfl
  · cases h
def g14v (a : List Nat) (b : List Nat) (c : List Nat) : Option AV := g14 realA (100000) (fun v _ => some v) a b c
def g14ok (a : List Nat) (b : List Nat) (c : List Nat) : Bool := g14is (g14v a b c)
def g14r0 (a : List Nat) (b : List Nat) (c : List Nat) : List Nat := g14g0 (g14v a b c)
theorem g14ok_spec {a b c} (h : g14ok a b c = true) : g14v a b c = some (.v (.cell (.str (g14r0 a b c)))) := g14is_spec h
def g14o (args : List AV) : Option (Bool × AV) := match args with
  | [.v (.cell (.str a)), .v (.cell (.str b)), .v (.cell (.str c))] => some (g14ok a b c, .v (.cell (.str (g14r0 a b c))))
  | _ => none
theorem g14O_sound : OSound Try.prog (orcOf [(10, g10o)]) := orc_sound fun f g hm args v hv => by
  simp only [List.mem_cons, List.not_mem_nil, or_false, Prod.mk.injEq] at hm
  rcases hm with ⟨rfl, rfl⟩
  · exact g10o_sound _ _ hv
theorem g14o_sound : ∀ args v, g14o args = some (true, v) → Fn1 Try.prog 14 args v := by
  intro args v h
  unfold g14o at h
  split at h
  · rename_i a b c
    simp only [Option.some.injEq, Prod.mk.injEq] at h
    obtain ⟨hc, h⟩ := h
    subst h
    · skip
      exact fn1_of mixed gtysOK g14O_sound (orc_det _) (an := g14an) (n := 100000) Try.func14 (c := bodyOf Try.f14) rfl (by kernel_rfl) Try.call14 (Nat.le_of_ble_eq_true rfl) (fun b => rfl) (fun _ => (g14_eq realA (100000) (fun v _ => some v) a b c).trans (show g14v a b c = _ from g14ok_spec hc))
  · cases h
end Go.Sx
