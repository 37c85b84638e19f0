import Derived.Test.YtcgjapkajaflpaaChecked
import Derived.Test.YtcgjapkajaflpaaSxK3
import Derived.Test.YtcgjapkajaflpaaSxHr
namespace Go.Sx
open Go.Proofs
set_option linter.unusedVariables false
theorem mixed : Try.prog.follows .mixedOrders = true := Try.checked.mixed
def gtyList : List (Nat × Ty) := [(3, ⟨.int .i64, 1, 8, (.cell (.int .i64 0)), [], 0, 0, false⟩),
  (4, ⟨.bool, 1, 1, (.cell (.bool false)), [], 0, 0, false⟩),
  (5, ⟨.int .u8, 1, 1, (.cell (.nat .u8 0)), [], 0, 0, false⟩),
  (9, ⟨.string, 1, 16, (.cell (.str [])), [], 0, 0, false⟩),
  (28, ⟨.int .u32, 1, 4, (.cell (.nat .u32 0)), [], 0, 0, false⟩),
  (29, ⟨.int .u64, 1, 8, (.cell (.nat .u64 0)), [], 0, 0, false⟩),
  (30, ⟨.slice, 1, 24, (.cell .nils), [], 0, 5, false⟩),
  (38, ⟨.array, 5, 40, (.agg [.nums .u64 5 [0, 0, 0, 0, 0]]), [], 5, 29, true⟩),
  (40, ⟨.slice, 1, 24, (.cell .nils), [], 0, 3, false⟩),
  (43, ⟨.array, 65, 260, (.agg [.nums .u32 65 [0, 0, 0, 0, 0, 0, 0, 0, 0, 0, 0, 0, 0, 0, 0, 0, 0, 0, 0, 0, 0, 0, 0, 0, 0, 0, 0, 0, 0, 0, 0, 0, 0, 0, 0, 0, 0, 0, 0, 0, 0, 0, 0, 0, 0, 0, 0, 0, 0, 0, 0, 0, 0, 0, 0, 0, 0, 0, 0, 0, 0, 0, 0, 0, 0]]), [], 65, 28, true⟩)]
def gtys : Tys := fun t => lk t gtyList
theorem gtysOK0 : allL (fun p => tyB Try.prog p.1 p.2) gtyList = true := by kernel_rfl
theorem gtysOK : TyOK Try.prog gtys := tyOK_of gtysOK0 (eqB_spec gtysOK0 (by kernel_rfl))
def g26O (A : Ar) : Orc := orcOf []
theorem g26O_sound : OSound Try.prog (g26O realA) := orc_sound fun f g hm args v hv => by
  cases hm
theorem g26O_det : ODet (g26O realA) := orc_det _
def g26an : Ann := [(0, ([0], [])), (1, ([0], [])), (2, ([0, 3], [2000])), (3, ([0, 3, 4], [2000])), (4, ([0, 3, 4], [2000])), (5, ([0, 3, 4], [2000])), (6, ([0, 3, 4, 5], [2000])), (7, ([0, 3, 4, 5, 6], [2000])), (8, ([0, 3, 4, 5, 6], [2000])), (9, ([0, 3, 4, 5, 6], [2000])), (10, ([0, 3, 4, 5, 6, 7], [2000])), (11, ([0, 3, 4, 5, 6, 7], [2000])), (12, ([0, 3, 4, 5, 6, 7], [2000])), (13, ([0, 3, 4, 5], [2000])), (14, ([3], [2000]))]
def g26res : List ResultVar := [.tmp 2]
noncomputable def g26D {R : Type} (A : Ar) (n : Nat) (p : List Bool) (K : Ex → St → Option R) (s : St) : Option R := codeD A gtys (g26O A) g26an n (sub (bodyOf Try.f26) p) K s
noncomputable def g26V {R : Type} (A : Ar) (n : Nat) (p : List Bool) (m : Nat) (K : Ex → St → Option R) (s : St) : Option R := loopD (fun K' s'' => codeD A gtys (g26O A) g26an n (sub (bodyOf Try.f26) p) K' s'') m K s
noncomputable def g26Q {R : Type} (A : Ar) (n : Nat) (p : List Bool) (K : Ex → St → Option R) : Ex → St → Option R := seqC (g26D A n p K) K
noncomputable def g26W {R : Type} (A : Ar) (n : Nat) (p : List Bool) (m : Nat) (K : Ex → St → Option R) : Ex → St → Option R := seqC (g26V A n p m K) K
noncomputable def g26T {R : Type} (kk : AV → Heap → Option R) : Ex → St → Option R := finD gtys g26res kk
theorem g26Qn {R : Type} (A : Ar) (n : Nat) (p : List Bool) (K : Ex → St → Option R) (s : St) : g26Q A n p K .normal s = g26D A n p K s := rfl
theorem g26Qe {R : Type} (A : Ar) (n : Nat) (p : List Bool) (K : Ex → St → Option R) (i : Nat) (s : St) : g26Q A n p K (.exit i) s = K (.exit i) s := rfl
theorem g26Wn {R : Type} (A : Ar) (n : Nat) (p : List Bool) (m : Nat) (K : Ex → St → Option R) (s : St) : g26W A n p m K .normal s = g26V A n p m K s := rfl
theorem g26We {R : Type} (A : Ar) (n : Nat) (p : List Bool) (m : Nat) (K : Ex → St → Option R) (i : Nat) (s : St) : g26W A n p m K (.exit i) s = K (.exit i) s := rfl
theorem g26Vs {R : Type} (A : Ar) (n : Nat) (p : List Bool) (m : Nat) (K : Ex → St → Option R) (s : St) : g26V A n p (m + 1) K s = g26D A n p (g26W A n p m K) s := rfl
theorem g26F {R : Type} (A : Ar) (n : Nat) (p : List Bool) (i : Nat) (K : Ex → St → Option R) (s s' : St) (hf : firstReg (sub (bodyOf Try.f26) p) = some i) (h : keep g26an i s = keep g26an i s') : g26D A n p K s = g26D A n p K s' := codeD_first hf h K
section
variable {R : Type} (A : Ar) (n : Nat) (K : Ex → St → Option R) (s : St)
theorem g26p1 : g26D A n (pth 1) K s = g26D A n (pth 2) (g26Q A n (pth 3) K) s := by kernel_rfl
theorem g26p3 : g26D A n (pth 3) K s = g26D A n (pth 5) (g26Q A n (pth 7) K) s := by kernel_rfl
theorem g26p7 : g26D A n (pth 7) K s = g26D A n (pth 11) (g26Q A n (pth 15) K) s := by kernel_rfl
theorem g26p11 : g26D A n (pth 11) K s = g26D A n (pth 19) (g26Q A n (pth 27) K) s := by kernel_rfl
theorem g26p27 : g26D A n (pth 27) K s = g26D A n (pth 43) (blockK 0 K) s := by kernel_rfl
theorem g26p43 : g26D A n (pth 43) K s = g26V A n (pth 75) n K s := by kernel_rfl
theorem g26p75 : g26D A n (pth 75) K s = g26D A n (pth 139) (g26Q A n (pth 203) K) s := by kernel_rfl
theorem g26p139 : g26D A n (pth 139) K s = g26D A n (pth 267) (g26Q A n (pth 395) K) s := by kernel_rfl
theorem g26p395 (t : Bool) : ev s (.tmp 12) = some (.v (.cell (.bool t))) → g26D A n (pth 395) K s = (match t with
    | true => g26D A n (pth 651) K s
    | false => g26D A n (pth 907) K s) := codeD_cond t
theorem g26p651 : g26D A n (pth 651) K s = K .normal s := by kernel_rfl
theorem g26p907 : g26D A n (pth 907) K s = K (.exit 0) s := by kernel_rfl
theorem g26p203 : g26D A n (pth 203) K s = g26D A n (pth 331) (g26Q A n (pth 459) K) s := by kernel_rfl
theorem g26p331 : g26D A n (pth 331) K s = g26D A n (pth 587) (blockK 1 K) s := by kernel_rfl
theorem g26p587 : g26D A n (pth 587) K s = g26D A n (pth 1099) (g26Q A n (pth 1611) K) s := by kernel_rfl
theorem g26p1611 : g26D A n (pth 1611) K s = g26D A n (pth 2635) (g26Q A n (pth 3659) K) s := by kernel_rfl
theorem g26p2635 : g26D A n (pth 2635) K s = g26D A n (pth 4683) (g26Q A n (pth 6731) K) s := by kernel_rfl
theorem g26p6731 : g26D A n (pth 6731) K s = g26D A n (pth 10827) (blockK 2 K) s := by kernel_rfl
theorem g26p10827 : g26D A n (pth 10827) K s = g26V A n (pth 19019) n K s := by kernel_rfl
theorem g26p19019 : g26D A n (pth 19019) K s = g26D A n (pth 35403) (g26Q A n (pth 51787) K) s := by kernel_rfl
theorem g26p35403 : g26D A n (pth 35403) K s = g26D A n (pth 68171) (g26Q A n (pth 100939) K) s := by kernel_rfl
theorem g26p100939 (t : Bool) : ev s (.tmp 16) = some (.v (.cell (.bool t))) → g26D A n (pth 100939) K s = (match t with
    | true => g26D A n (pth 166475) K s
    | false => g26D A n (pth 232011) K s) := codeD_cond t
theorem g26p166475 : g26D A n (pth 166475) K s = K .normal s := by kernel_rfl
theorem g26p232011 : g26D A n (pth 232011) K s = K (.exit 2) s := by kernel_rfl
theorem g26p51787 : g26D A n (pth 51787) K s = g26D A n (pth 84555) (g26Q A n (pth 117323) K) s := by kernel_rfl
theorem g26p84555 : g26D A n (pth 84555) K s = g26D A n (pth 150091) (blockK 3 K) s := by kernel_rfl
theorem g26p150091 : g26D A n (pth 150091) K s = g26D A n (pth 281163) (g26Q A n (pth 412235) K) s := by kernel_rfl
theorem g26p412235 : g26D A n (pth 412235) K s = g26D A n (pth 674379) (g26Q A n (pth 936523) K) s := by kernel_rfl
theorem g26p674379 : g26D A n (pth 674379) K s = g26D A n (pth 1198667) (g26Q A n (pth 1722955) K) s := by kernel_rfl
theorem g26p1722955 (t : Bool) : ev s (.tmp 26) = some (.v (.cell (.bool t))) → g26D A n (pth 1722955) K s = (match t with
    | true => g26D A n (pth 2771531) K s
    | false => g26D A n (pth 3820107) K s) := codeD_cond t
theorem g26p3820107 : g26D A n (pth 3820107) K s = K .normal s := by kernel_rfl
theorem g26p15 : g26D A n (pth 15) K s = g26D A n (pth 23) (g26Q A n (pth 31) K) s := by kernel_rfl
theorem g26p31 : g26D A n (pth 31) K s = K .ret s := by kernel_rfl
def g26R12s0 (A : Ar) (x0 : List Nat) (x1 : Nat) (x2 x3 : Int) (x4 x5 : Int) (x6 : Nat) (x7 : List Nat) : St := ⟨[(5, (i6 (A.ib .sub .i64 (A.ib .add .i64 (A.ib .mul .i64 16 x3) x5) 48))), (35, (i6 (A.ib .sub .i64 (A.ib .add .i64 (A.ib .mul .i64 16 x3) x5) 48))), (34, (i6 (A.ib .add .i64 (A.ib .mul .i64 16 x3) x5))), (33, (i6 x5)), (32, (i6 (A.ib .mul .i64 16 x3))), (31, (i6 x3)), (0, (tS x0)), (3, (sL 2000 none x1 1)), (4, (i6 x2)), (5, (i6 x3)), (6, (i6 x4)), (7, (i6 x5))], [(2000, ⟨[.nums .u8 x6 x7], 5, 2⟩)]⟩
theorem g26R12 (x0 : List Nat) (x1 : Nat) (x2 x3 : Int) (x4 x5 : Int) (x6 : Nat) (x7 : List Nat) : g26D A n (pth 936523) K ⟨[(0, (tS x0)), (3, (sL 2000 none x1 1)), (4, (i6 x2)), (5, (i6 x3)), (6, (i6 x4)), (7, (i6 x5))], [(2000, ⟨[.nums .u8 x6 x7], 5, 2⟩)]⟩ = K .normal (g26R12s0 A x0 x1 x2 x3 x4 x5 x6 x7) := by kernel_rfl
def g26R8s0 (A : Ar) (x0 : List Nat) (x1 : Nat) (x2 x3 x4 : Int) (x5 : Nat) (x6 : List Nat) : St := ⟨[(6, (i6 (A.ib .add .i64 x4 1))), (18, (i6 (A.ib .add .i64 x4 1))), (17, (i6 x4)), (0, (tS x0)), (3, (sL 2000 none x1 1)), (4, (i6 x2)), (5, (i6 x3)), (6, (i6 x4))], [(2000, ⟨[.nums .u8 x5 x6], 5, 2⟩)]⟩
theorem g26R8 (x0 : List Nat) (x1 : Nat) (x2 x3 x4 : Int) (x5 : Nat) (x6 : List Nat) : g26D A n (pth 117323) K ⟨[(0, (tS x0)), (3, (sL 2000 none x1 1)), (4, (i6 x2)), (5, (i6 x3)), (6, (i6 x4))], [(2000, ⟨[.nums .u8 x5 x6], 5, 2⟩)]⟩ = K .normal (g26R8s0 A x0 x1 x2 x3 x4 x5 x6) := by kernel_rfl
def g26R9s0 (A : Ar) (x0 : List Nat) (x1 : Nat) (x2 x3 x4 : Int) (x5 : Nat) (x6 : List Nat) : St := ⟨[(7, (i6 (A.ofN (x0.getD (A.toN (A.ib .add .i64 x2 x4)) 0)))), (24, (i6 (A.ofN (x0.getD (A.toN (A.ib .add .i64 x2 x4)) 0)))), (23, (u8v (x0.getD (A.toN (A.ib .add .i64 x2 x4)) 0))), (22, (i6 (A.ib .add .i64 x2 x4))), (21, (i6 x4)), (20, (i6 x2)), (19, (tS x0)), (0, (tS x0)), (3, (sL 2000 none x1 1)), (4, (i6 x2)), (5, (i6 x3)), (6, (i6 x4))], [(2000, ⟨[.nums .u8 x5 x6], 5, 2⟩)]⟩
theorem g26R9 (x0 : List Nat) (x1 : Nat) (x2 x3 x4 : Int) (x5 : Nat) (x6 : List Nat) : g26D A n (pth 281163) K ⟨[(0, (tS x0)), (3, (sL 2000 none x1 1)), (4, (i6 x2)), (5, (i6 x3)), (6, (i6 x4))], [(2000, ⟨[.nums .u8 x5 x6], 5, 2⟩)]⟩ = match (generalizing := false) A.neg (A.ib .add .i64 x2 x4) with
    | true => none
    | false => match (generalizing := false) A.lt (A.toN (A.ib .add .i64 x2 x4)) x0.length with
      | true => K .normal (g26R9s0 A x0 x1 x2 x3 x4 x5 x6)
      | false => none := by kernel_rfl
def g26R10s0 (A : Ar) (x0 : List Nat) (x1 : Nat) (x2 x3 : Int) (x4 x5 : Int) (x6 : Nat) (x7 : List Nat) : St := ⟨[(26, (bO (A.ic .geq x5 97))), (25, (i6 x5)), (0, (tS x0)), (3, (sL 2000 none x1 1)), (4, (i6 x2)), (5, (i6 x3)), (6, (i6 x4)), (7, (i6 x5))], [(2000, ⟨[.nums .u8 x6 x7], 5, 2⟩)]⟩
theorem g26R10 (x0 : List Nat) (x1 : Nat) (x2 x3 : Int) (x4 x5 : Int) (x6 : Nat) (x7 : List Nat) : g26D A n (pth 1198667) K ⟨[(0, (tS x0)), (3, (sL 2000 none x1 1)), (4, (i6 x2)), (5, (i6 x3)), (6, (i6 x4)), (7, (i6 x5))], [(2000, ⟨[.nums .u8 x6 x7], 5, 2⟩)]⟩ = K .normal (g26R10s0 A x0 x1 x2 x3 x4 x5 x6 x7) := by kernel_rfl
def g26R11s0 (A : Ar) (x0 : List Nat) (x1 : Nat) (x2 x3 : Int) (x4 x5 : Int) (x6 : Nat) (x7 : List Nat) : St := ⟨[(7, (i6 (A.ib .add .i64 (A.ib .add .i64 (A.ib .sub .i64 x5 97) 10) 48))), (30, (i6 (A.ib .add .i64 (A.ib .add .i64 (A.ib .sub .i64 x5 97) 10) 48))), (29, (i6 (A.ib .add .i64 (A.ib .sub .i64 x5 97) 10))), (28, (i6 (A.ib .sub .i64 x5 97))), (27, (i6 x5)), (0, (tS x0)), (3, (sL 2000 none x1 1)), (4, (i6 x2)), (5, (i6 x3)), (6, (i6 x4)), (7, (i6 x5))], [(2000, ⟨[.nums .u8 x6 x7], 5, 2⟩)]⟩
theorem g26R11 (x0 : List Nat) (x1 : Nat) (x2 x3 : Int) (x4 x5 : Int) (x6 : Nat) (x7 : List Nat) : g26D A n (pth 2771531) K ⟨[(0, (tS x0)), (3, (sL 2000 none x1 1)), (4, (i6 x2)), (5, (i6 x3)), (6, (i6 x4)), (7, (i6 x5))], [(2000, ⟨[.nums .u8 x6 x7], 5, 2⟩)]⟩ = K .normal (g26R11s0 A x0 x1 x2 x3 x4 x5 x6 x7) := by kernel_rfl
def g26R13s0 (A : Ar) (x0 : List Nat) (x1 : Nat) (x2 x3 : Int) (x4 : Nat) (x5 : List Nat) : St := ⟨[(3, (sL 2000 none ((x5 ++ ([A.i2n .u8 x3].take 1)).length) 1)), (40, (sL 2000 none ((x5 ++ ([A.i2n .u8 x3].take 1)).length) 1)), (39, (sL 14003 none 1 1)), (38, (u8v (A.i2n .u8 x3))), (37, (i6 x3)), (36, (.v (.cell .top))), (0, (tS x0)), (3, (.v (.cell .top))), (4, (i6 x2)), (5, (i6 x3))], [(2000, ⟨[.nums .u8 ((x5 ++ ([A.i2n .u8 x3].take 1)).length) (x5 ++ ([A.i2n .u8 x3].take 1))], 5, 2⟩), (14003, ⟨[.nums .u8 1 [A.i2n .u8 x3]], 5, 2⟩)]⟩
theorem g26R13 (x0 : List Nat) (x1 : Nat) (x2 x3 : Int) (x4 : Nat) (x5 : List Nat) : g26D A n (pth 3659) K ⟨[(0, (tS x0)), (3, (sL 2000 none x1 1)), (4, (i6 x2)), (5, (i6 x3))], [(2000, ⟨[.nums .u8 x4 x5], 5, 2⟩)]⟩ = match (generalizing := false) A.eq x1 (x4 + 0) with
    | true => match (generalizing := false) A.le ((x5 ++ ([A.i2n .u8 x3].take 1)).length) 140737488355328 with
      | true => K .normal (g26R13s0 A x0 x1 x2 x3 x4 x5)
      | false => none
    | false => none := by kernel_rfl
def g26R4s0 (A : Ar) (x0 : List Nat) (x1 : Nat) (x2 : Int) (x3 : Nat) (x4 : List Nat) : St := ⟨[(4, (i6 (A.ib .add .i64 x2 2))), (14, (i6 (A.ib .add .i64 x2 2))), (13, (i6 x2)), (0, (tS x0)), (3, (sL 2000 none x1 1)), (4, (i6 x2))], [(2000, ⟨[.nums .u8 x3 x4], 5, 2⟩)]⟩
theorem g26R4 (x0 : List Nat) (x1 : Nat) (x2 : Int) (x3 : Nat) (x4 : List Nat) : g26D A n (pth 459) K ⟨[(0, (tS x0)), (3, (sL 2000 none x1 1)), (4, (i6 x2))], [(2000, ⟨[.nums .u8 x3 x4], 5, 2⟩)]⟩ = K .normal (g26R4s0 A x0 x1 x2 x3 x4) := by kernel_rfl
def g26R7s0 (A : Ar) (x0 : List Nat) (x1 : Nat) (x2 x3 x4 : Int) (x5 : Nat) (x6 : List Nat) : St := ⟨[(16, (bO (A.ic .lss x4 2))), (15, (i6 x4)), (0, (tS x0)), (3, (sL 2000 none x1 1)), (4, (i6 x2)), (5, (i6 x3)), (6, (i6 x4))], [(2000, ⟨[.nums .u8 x5 x6], 5, 2⟩)]⟩
theorem g26R7 (x0 : List Nat) (x1 : Nat) (x2 x3 x4 : Int) (x5 : Nat) (x6 : List Nat) : g26D A n (pth 68171) K ⟨[(0, (tS x0)), (3, (sL 2000 none x1 1)), (4, (i6 x2)), (5, (i6 x3)), (6, (i6 x4))], [(2000, ⟨[.nums .u8 x5 x6], 5, 2⟩)]⟩ = K .normal (g26R7s0 A x0 x1 x2 x3 x4 x5 x6) := by kernel_rfl
def g26R5s0 (A : Ar) (x0 : List Nat) (x1 : Nat) (x2 : Int) (x3 : Nat) (x4 : List Nat) : St := ⟨[(5, (i6 0)), (0, (tS x0)), (3, (sL 2000 none x1 1)), (4, (i6 x2))], [(2000, ⟨[.nums .u8 x3 x4], 5, 2⟩)]⟩
theorem g26R5 (x0 : List Nat) (x1 : Nat) (x2 : Int) (x3 : Nat) (x4 : List Nat) : g26D A n (pth 1099) K ⟨[(0, (tS x0)), (3, (sL 2000 none x1 1)), (4, (i6 x2))], [(2000, ⟨[.nums .u8 x3 x4], 5, 2⟩)]⟩ = K .normal (g26R5s0 A x0 x1 x2 x3 x4) := by kernel_rfl
def g26R6s0 (A : Ar) (x0 : List Nat) (x1 : Nat) (x2 x3 : Int) (x4 : Nat) (x5 : List Nat) : St := ⟨[(6, (i6 0)), (0, (tS x0)), (3, (sL 2000 none x1 1)), (4, (i6 x2)), (5, (i6 x3))], [(2000, ⟨[.nums .u8 x4 x5], 5, 2⟩)]⟩
theorem g26R6 (x0 : List Nat) (x1 : Nat) (x2 x3 : Int) (x4 : Nat) (x5 : List Nat) : g26D A n (pth 4683) K ⟨[(0, (tS x0)), (3, (sL 2000 none x1 1)), (4, (i6 x2)), (5, (i6 x3))], [(2000, ⟨[.nums .u8 x4 x5], 5, 2⟩)]⟩ = K .normal (g26R6s0 A x0 x1 x2 x3 x4 x5) := by kernel_rfl
def g26R3s0 (A : Ar) (x0 : List Nat) (x1 : Nat) (x2 : Int) (x3 : Nat) (x4 : List Nat) : St := ⟨[(12, (bO (A.ic .lss (A.ib .add .i64 x2 1) (A.ofN x0.length)))), (11, (i6 (A.ofN x0.length))), (10, (tS x0)), (9, (i6 (A.ib .add .i64 x2 1))), (8, (i6 x2)), (0, (tS x0)), (3, (sL 2000 none x1 1)), (4, (i6 x2))], [(2000, ⟨[.nums .u8 x3 x4], 5, 2⟩)]⟩
theorem g26R3 (x0 : List Nat) (x1 : Nat) (x2 : Int) (x3 : Nat) (x4 : List Nat) : g26D A n (pth 267) K ⟨[(0, (tS x0)), (3, (sL 2000 none x1 1)), (4, (i6 x2))], [(2000, ⟨[.nums .u8 x3 x4], 5, 2⟩)]⟩ = K .normal (g26R3s0 A x0 x1 x2 x3 x4) := by kernel_rfl
def g26R14s0 (A : Ar) (x0 x1 : Nat) (x2 : List Nat) : St := ⟨[(2, (tS (x2.take x0))), (42, (tS (x2.take x0))), (41, (sL 2000 none x0 1)), (3, (sL 2000 none x0 1))], [(2000, ⟨[.nums .u8 x1 x2], 5, 2⟩)]⟩
theorem g26R14 (x0 x1 : Nat) (x2 : List Nat) : g26D A n (pth 23) K ⟨[(3, (sL 2000 none x0 1))], [(2000, ⟨[.nums .u8 x1 x2], 5, 2⟩)]⟩ = K .normal (g26R14s0 A x0 x1 x2) := by kernel_rfl
def g26R0s0 (A : Ar) (x0 : List Nat) : St := ⟨[(2, (tS [])), (0, (tS x0))], []⟩
theorem g26R0 (x0 : List Nat) : g26D A n (pth 2) K ⟨[(0, (tS x0))], []⟩ = K .normal (g26R0s0 A x0) := by kernel_rfl
def g26R1s0 (A : Ar) (x0 : List Nat) : St := ⟨[(3, (sL 2000 none 0 1)), (0, (tS x0))], [(2000, ⟨[.nums .u8 0 []], 5, 2⟩)]⟩
theorem g26R1 (x0 : List Nat) : g26D A n (pth 5) K ⟨[(0, (tS x0))], []⟩ = K .normal (g26R1s0 A x0) := by kernel_rfl
def g26R2s0 (A : Ar) (x0 : List Nat) (x1 x2 : Nat) (x3 : List Nat) : St := ⟨[(4, (i6 0)), (0, (tS x0)), (3, (sL 2000 none x1 1))], [(2000, ⟨[.nums .u8 x2 x3], 5, 2⟩)]⟩
theorem g26R2 (x0 : List Nat) (x1 x2 : Nat) (x3 : List Nat) : g26D A n (pth 19) K ⟨[(0, (tS x0)), (3, (sL 2000 none x1 1))], [(2000, ⟨[.nums .u8 x2 x3], 5, 2⟩)]⟩ = K .normal (g26R2s0 A x0 x1 x2 x3) := by kernel_rfl
end
def g26J12 {R : Type} (A : Ar) (n : Nat) (kk : AV → Heap → Option R) (lg26L7 : List Nat → Nat → Int → Int → Int → Nat → List Nat → Option R) (x0 : List Nat) (x1 : Nat) (x2 x3 : Int) (x4 x5 : Int) (x6 : Nat) (x7 : List Nat) : Option R :=
  lg26L7 x0 x1 x2 (A.ib .sub .i64 (A.ib .add .i64 (A.ib .mul .i64 16 x3) x5) 48) (A.ib .add .i64 x4 1) x6 x7
set_option maxRecDepth 100000 in
theorem g26J12_eq {R : Type} (A : Ar) (n : Nat) (kk : AV → Heap → Option R) (m0 m1 : Nat) (lg26L7 : List Nat → Nat → Int → Int → Int → Nat → List Nat → Option R) 
    (hg26L7 : ∀ (s : St) (x0 : List Nat) (x1 : Nat) (x2 x3 x4 : Int) (x5 : Nat) (x6 : List Nat), keep g26an 7 s = ⟨[(0, (tS x0)), (3, (sL 2000 none x1 1)), (4, (i6 x2)), (5, (i6 x3)), (6, (i6 x4))], [(2000, ⟨[.nums .u8 x5 x6], 5, 2⟩)]⟩ → g26V A n (pth 19019) m1 (blockK 2 (g26Q A n (pth 3659) (blockK 1 (g26Q A n (pth 459) (g26W A n (pth 75) m0 (blockK 0 (g26Q A n (pth 15) (g26T kk)))))))) s = lg26L7 x0 x1 x2 x3 x4 x5 x6) (s : St) (x0 : List Nat) (x1 : Nat) (x2 x3 : Int) (x4 x5 : Int) (x6 : Nat) (x7 : List Nat) (h : keep g26an 12 s = ⟨[(0, (tS x0)), (3, (sL 2000 none x1 1)), (4, (i6 x2)), (5, (i6 x3)), (6, (i6 x4)), (7, (i6 x5))], [(2000, ⟨[.nums .u8 x6 x7], 5, 2⟩)]⟩) :
    g26D A n (pth 936523) (blockK 3 (g26Q A n (pth 117323) (g26W A n (pth 19019) m1 (blockK 2 (g26Q A n (pth 3659) (blockK 1 (g26Q A n (pth 459) (g26W A n (pth 75) m0 (blockK 0 (g26Q A n (pth 15) (g26T kk))))))))))) s = g26J12 A n kk lg26L7 x0 x1 x2 x3 x4 x5 x6 x7 := by
  have h1 := (g26Wn A n _ _ _ _).trans (hg26L7 (g26R8s0 A x0 x1 x2 (A.ib .sub .i64 (A.ib .add .i64 (A.ib .mul .i64 16 x3) x5) 48) x4 x6 x7) x0 x1 x2 (A.ib .sub .i64 (A.ib .add .i64 (A.ib .mul .i64 16 x3) x5) 48) (A.ib .add .i64 x4 1) x6 x7 (by kernel_rfl))
  have h2 := (g26F A n _ 8 _ (g26R12s0 A x0 x1 x2 x3 x4 x5 x6 x7) _ (by kernel_rfl) (by kernel_rfl)).trans (g26R8 A n (g26W A n (pth 19019) m1 (blockK 2 (g26Q A n (pth 3659) (blockK 1 (g26Q A n (pth 459) (g26W A n (pth 75) m0 (blockK 0 (g26Q A n (pth 15) (g26T kk))))))))) x0 x1 x2 (A.ib .sub .i64 (A.ib .add .i64 (A.ib .mul .i64 16 x3) x5) 48) x4 x6 x7)
  rw [h1] at h2
  have h3 := (g26Qn A n _ _ _).trans h2
  have h4 := (blockK_n 3 _ _).trans h3
  have h5 := (g26F A n _ 12 _ ⟨[(0, (tS x0)), (3, (sL 2000 none x1 1)), (4, (i6 x2)), (5, (i6 x3)), (6, (i6 x4)), (7, (i6 x5))], [(2000, ⟨[.nums .u8 x6 x7], 5, 2⟩)]⟩ _ (by kernel_rfl) (by kernel_rfl)).trans (g26R12 A n (blockK 3 (g26Q A n (pth 117323) (g26W A n (pth 19019) m1 (blockK 2 (g26Q A n (pth 3659) (blockK 1 (g26Q A n (pth 459) (g26W A n (pth 75) m0 (blockK 0 (g26Q A n (pth 15) (g26T kk))))))))))) x0 x1 x2 x3 x4 x5 x6 x7)
  rw [h4] at h5
  exact (g26F A n _ 12 _ _ ⟨[(0, (tS x0)), (3, (sL 2000 none x1 1)), (4, (i6 x2)), (5, (i6 x3)), (6, (i6 x4)), (7, (i6 x5))], [(2000, ⟨[.nums .u8 x6 x7], 5, 2⟩)]⟩ (by kernel_rfl) (h.trans (by kernel_rfl))).trans (h5.trans (by kernel_rfl))
def g26J9 {R : Type} (A : Ar) (n : Nat) (kk : AV → Heap → Option R) (lg26L7 : List Nat → Nat → Int → Int → Int → Nat → List Nat → Option R) (x0 : List Nat) (x1 : Nat) (x2 x3 x4 : Int) (x5 : Nat) (x6 : List Nat) : Option R :=
  match (generalizing := false) A.neg (A.ib .add .i64 x2 x4) with
  | true => none
  | false => match (generalizing := false) A.lt (A.toN (A.ib .add .i64 x2 x4)) x0.length with
    | true => match (generalizing := false) A.ic .geq (A.ofN (x0.getD (A.toN (A.ib .add .i64 x2 x4)) 0)) 97 with
      | true => g26J12 A n kk lg26L7 x0 x1 x2 x3 x4 (A.ib .add .i64 (A.ib .add .i64 (A.ib .sub .i64 (A.ofN (x0.getD (A.toN (A.ib .add .i64 x2 x4)) 0)) 97) 10) 48) x5 x6
      | false => g26J12 A n kk lg26L7 x0 x1 x2 x3 x4 (A.ofN (x0.getD (A.toN (A.ib .add .i64 x2 x4)) 0)) x5 x6
    | false => none
set_option maxRecDepth 100000 in
theorem g26J9_eq {R : Type} (A : Ar) (n : Nat) (kk : AV → Heap → Option R) (m0 m1 : Nat) (lg26L7 : List Nat → Nat → Int → Int → Int → Nat → List Nat → Option R) 
    (hg26L7 : ∀ (s : St) (x0 : List Nat) (x1 : Nat) (x2 x3 x4 : Int) (x5 : Nat) (x6 : List Nat), keep g26an 7 s = ⟨[(0, (tS x0)), (3, (sL 2000 none x1 1)), (4, (i6 x2)), (5, (i6 x3)), (6, (i6 x4))], [(2000, ⟨[.nums .u8 x5 x6], 5, 2⟩)]⟩ → g26V A n (pth 19019) m1 (blockK 2 (g26Q A n (pth 3659) (blockK 1 (g26Q A n (pth 459) (g26W A n (pth 75) m0 (blockK 0 (g26Q A n (pth 15) (g26T kk)))))))) s = lg26L7 x0 x1 x2 x3 x4 x5 x6) (s : St) (x0 : List Nat) (x1 : Nat) (x2 x3 x4 : Int) (x5 : Nat) (x6 : List Nat) (h : keep g26an 9 s = ⟨[(0, (tS x0)), (3, (sL 2000 none x1 1)), (4, (i6 x2)), (5, (i6 x3)), (6, (i6 x4))], [(2000, ⟨[.nums .u8 x5 x6], 5, 2⟩)]⟩) :
    g26D A n (pth 51787) (g26W A n (pth 19019) m1 (blockK 2 (g26Q A n (pth 3659) (blockK 1 (g26Q A n (pth 459) (g26W A n (pth 75) m0 (blockK 0 (g26Q A n (pth 15) (g26T kk))))))))) s = g26J9 A n kk lg26L7 x0 x1 x2 x3 x4 x5 x6 := by
  have h1 := (g26Qn A n _ _ _).trans (g26J12_eq A n kk m0 m1 lg26L7 hg26L7  (g26R11s0 A x0 x1 x2 x3 x4 (A.ofN (x0.getD (A.toN (A.ib .add .i64 x2 x4)) 0)) x5 x6) x0 x1 x2 x3 x4 (A.ib .add .i64 (A.ib .add .i64 (A.ib .sub .i64 (A.ofN (x0.getD (A.toN (A.ib .add .i64 x2 x4)) 0)) 97) 10) 48) x5 x6 (by kernel_rfl))
  have h2 := (g26F A n _ 11 _ (g26R10s0 A x0 x1 x2 x3 x4 (A.ofN (x0.getD (A.toN (A.ib .add .i64 x2 x4)) 0)) x5 x6) _ (by kernel_rfl) (by kernel_rfl)).trans (g26R11 A n (g26Q A n (pth 936523) (blockK 3 (g26Q A n (pth 117323) (g26W A n (pth 19019) m1 (blockK 2 (g26Q A n (pth 3659) (blockK 1 (g26Q A n (pth 459) (g26W A n (pth 75) m0 (blockK 0 (g26Q A n (pth 15) (g26T kk)))))))))))) x0 x1 x2 x3 x4 (A.ofN (x0.getD (A.toN (A.ib .add .i64 x2 x4)) 0)) x5 x6)
  rw [h1] at h2
  have h3 := (g26Qn A n _ _ _).trans (g26J12_eq A n kk m0 m1 lg26L7 hg26L7  (g26R10s0 A x0 x1 x2 x3 x4 (A.ofN (x0.getD (A.toN (A.ib .add .i64 x2 x4)) 0)) x5 x6) x0 x1 x2 x3 x4 (A.ofN (x0.getD (A.toN (A.ib .add .i64 x2 x4)) 0)) x5 x6 (by kernel_rfl))
  have h4 := (g26p3820107 A n _ _).trans h3
  have h5 := g26p1722955 A n (g26Q A n (pth 936523) (blockK 3 (g26Q A n (pth 117323) (g26W A n (pth 19019) m1 (blockK 2 (g26Q A n (pth 3659) (blockK 1 (g26Q A n (pth 459) (g26W A n (pth 75) m0 (blockK 0 (g26Q A n (pth 15) (g26T kk)))))))))))) (g26R10s0 A x0 x1 x2 x3 x4 (A.ofN (x0.getD (A.toN (A.ib .add .i64 x2 x4)) 0)) x5 x6) (A.ic .geq (A.ofN (x0.getD (A.toN (A.ib .add .i64 x2 x4)) 0)) 97) (by kernel_rfl)
  rw [h2, h4] at h5
  have h6 := (g26Qn A n _ _ _).trans h5
  have h7 := (g26F A n _ 10 _ (g26R9s0 A x0 x1 x2 x3 x4 x5 x6) _ (by kernel_rfl) (by kernel_rfl)).trans (g26R10 A n (g26Q A n (pth 1722955) (g26Q A n (pth 936523) (blockK 3 (g26Q A n (pth 117323) (g26W A n (pth 19019) m1 (blockK 2 (g26Q A n (pth 3659) (blockK 1 (g26Q A n (pth 459) (g26W A n (pth 75) m0 (blockK 0 (g26Q A n (pth 15) (g26T kk))))))))))))) x0 x1 x2 x3 x4 (A.ofN (x0.getD (A.toN (A.ib .add .i64 x2 x4)) 0)) x5 x6)
  rw [h6] at h7
  have h8 := (g26p674379 A n _ _).trans h7
  have h9 := (g26p412235 A n _ _).trans h8
  have h10 := (g26Qn A n _ _ _).trans h9
  have h11 := (g26F A n _ 9 _ ⟨[(0, (tS x0)), (3, (sL 2000 none x1 1)), (4, (i6 x2)), (5, (i6 x3)), (6, (i6 x4))], [(2000, ⟨[.nums .u8 x5 x6], 5, 2⟩)]⟩ _ (by kernel_rfl) (by kernel_rfl)).trans (g26R9 A n (g26Q A n (pth 412235) (blockK 3 (g26Q A n (pth 117323) (g26W A n (pth 19019) m1 (blockK 2 (g26Q A n (pth 3659) (blockK 1 (g26Q A n (pth 459) (g26W A n (pth 75) m0 (blockK 0 (g26Q A n (pth 15) (g26T kk)))))))))))) x0 x1 x2 x3 x4 x5 x6)
  rw [h10] at h11
  have h12 := (g26p150091 A n _ _).trans h11
  have h13 := (g26p84555 A n _ _).trans h12
  have h14 := (g26p51787 A n _ _).trans h13
  exact (g26F A n _ 9 _ _ ⟨[(0, (tS x0)), (3, (sL 2000 none x1 1)), (4, (i6 x2)), (5, (i6 x3)), (6, (i6 x4))], [(2000, ⟨[.nums .u8 x5 x6], 5, 2⟩)]⟩ (by kernel_rfl) (h.trans (by kernel_rfl))).trans (h14.trans (by kernel_rfl))
def g26J13 {R : Type} (A : Ar) (n : Nat) (kk : AV → Heap → Option R) (lg26L3 : List Nat → Nat → Int → Nat → List Nat → Option R) (x0 : List Nat) (x1 : Nat) (x2 x3 : Int) (x4 : Nat) (x5 : List Nat) : Option R :=
  match (generalizing := false) A.eq x1 (x4 + 0) with
  | true => match (generalizing := false) A.le ((x5 ++ ([A.i2n .u8 x3].take 1)).length) 140737488355328 with
    | true => lg26L3 x0 ((x5 ++ ([A.i2n .u8 x3].take 1)).length) (A.ib .add .i64 x2 2) ((x5 ++ ([A.i2n .u8 x3].take 1)).length) (x5 ++ ([A.i2n .u8 x3].take 1))
    | false => none
  | false => none
set_option maxRecDepth 100000 in
theorem g26J13_eq {R : Type} (A : Ar) (n : Nat) (kk : AV → Heap → Option R) (m0 : Nat) (lg26L3 : List Nat → Nat → Int → Nat → List Nat → Option R) 
    (hg26L3 : ∀ (s : St) (x0 : List Nat) (x1 : Nat) (x2 : Int) (x3 : Nat) (x4 : List Nat), keep g26an 3 s = ⟨[(0, (tS x0)), (3, (sL 2000 none x1 1)), (4, (i6 x2))], [(2000, ⟨[.nums .u8 x3 x4], 5, 2⟩)]⟩ → g26V A n (pth 75) m0 (blockK 0 (g26Q A n (pth 15) (g26T kk))) s = lg26L3 x0 x1 x2 x3 x4) (s : St) (x0 : List Nat) (x1 : Nat) (x2 x3 : Int) (x4 : Nat) (x5 : List Nat) (h : keep g26an 13 s = ⟨[(0, (tS x0)), (3, (sL 2000 none x1 1)), (4, (i6 x2)), (5, (i6 x3))], [(2000, ⟨[.nums .u8 x4 x5], 5, 2⟩)]⟩) :
    g26D A n (pth 3659) (blockK 1 (g26Q A n (pth 459) (g26W A n (pth 75) m0 (blockK 0 (g26Q A n (pth 15) (g26T kk)))))) s = g26J13 A n kk lg26L3 x0 x1 x2 x3 x4 x5 := by
  have h1 := (g26Wn A n _ _ _ _).trans (hg26L3 (g26R4s0 A x0 ((x5 ++ ([A.i2n .u8 x3].take 1)).length) x2 ((x5 ++ ([A.i2n .u8 x3].take 1)).length) (x5 ++ ([A.i2n .u8 x3].take 1))) x0 ((x5 ++ ([A.i2n .u8 x3].take 1)).length) (A.ib .add .i64 x2 2) ((x5 ++ ([A.i2n .u8 x3].take 1)).length) (x5 ++ ([A.i2n .u8 x3].take 1)) (by kernel_rfl))
  have h2 := (g26F A n _ 4 _ (g26R13s0 A x0 x1 x2 x3 x4 x5) _ (by kernel_rfl) (by kernel_rfl)).trans (g26R4 A n (g26W A n (pth 75) m0 (blockK 0 (g26Q A n (pth 15) (g26T kk)))) x0 ((x5 ++ ([A.i2n .u8 x3].take 1)).length) x2 ((x5 ++ ([A.i2n .u8 x3].take 1)).length) (x5 ++ ([A.i2n .u8 x3].take 1)))
  rw [h1] at h2
  have h3 := (g26Qn A n _ _ _).trans h2
  have h4 := (blockK_n 1 _ _).trans h3
  have h5 := (g26F A n _ 13 _ ⟨[(0, (tS x0)), (3, (sL 2000 none x1 1)), (4, (i6 x2)), (5, (i6 x3))], [(2000, ⟨[.nums .u8 x4 x5], 5, 2⟩)]⟩ _ (by kernel_rfl) (by kernel_rfl)).trans (g26R13 A n (blockK 1 (g26Q A n (pth 459) (g26W A n (pth 75) m0 (blockK 0 (g26Q A n (pth 15) (g26T kk)))))) x0 x1 x2 x3 x4 x5)
  rw [h4] at h5
  exact (g26F A n _ 13 _ _ ⟨[(0, (tS x0)), (3, (sL 2000 none x1 1)), (4, (i6 x2)), (5, (i6 x3))], [(2000, ⟨[.nums .u8 x4 x5], 5, 2⟩)]⟩ (by kernel_rfl) (h.trans (by kernel_rfl))).trans (h5.trans (by kernel_rfl))
def g26L7 {R : Type} (A : Ar) (n : Nat) (kk : AV → Heap → Option R) (lg26L3 : List Nat → Nat → Int → Nat → List Nat → Option R) : Nat → List Nat → Nat → Int → Int → Int → Nat → List Nat → Option R
  | 0, _, _, _, _, _, _, _ => none
  | m + 1, x0, x1, x2, x3, x4, x5, x6 => match (generalizing := false) A.ic .lss x4 2 with
  | true => g26J9 A n kk (g26L7 A n kk lg26L3 m) x0 x1 x2 x3 x4 x5 x6
  | false => g26J13 A n kk lg26L3 x0 x1 x2 x3 x5 x6
set_option maxRecDepth 100000 in
theorem g26L7_eq {R : Type} (A : Ar) (n : Nat) (kk : AV → Heap → Option R) (m0 : Nat) (lg26L3 : List Nat → Nat → Int → Nat → List Nat → Option R) 
    (hg26L3 : ∀ (s : St) (x0 : List Nat) (x1 : Nat) (x2 : Int) (x3 : Nat) (x4 : List Nat), keep g26an 3 s = ⟨[(0, (tS x0)), (3, (sL 2000 none x1 1)), (4, (i6 x2))], [(2000, ⟨[.nums .u8 x3 x4], 5, 2⟩)]⟩ → g26V A n (pth 75) m0 (blockK 0 (g26Q A n (pth 15) (g26T kk))) s = lg26L3 x0 x1 x2 x3 x4) (m : Nat) (s : St) (x0 : List Nat) (x1 : Nat) (x2 x3 x4 : Int) (x5 : Nat) (x6 : List Nat) (h : keep g26an 7 s = ⟨[(0, (tS x0)), (3, (sL 2000 none x1 1)), (4, (i6 x2)), (5, (i6 x3)), (6, (i6 x4))], [(2000, ⟨[.nums .u8 x5 x6], 5, 2⟩)]⟩) :
    g26V A n (pth 19019) m (blockK 2 (g26Q A n (pth 3659) (blockK 1 (g26Q A n (pth 459) (g26W A n (pth 75) m0 (blockK 0 (g26Q A n (pth 15) (g26T kk)))))))) s = g26L7 A n kk lg26L3 m x0 x1 x2 x3 x4 x5 x6 := by
  induction m generalizing s x0 x1 x2 x3 x4 x5 x6 with
  | zero => rfl
  | succ m ih =>
    have h1 := (g26Qn A n _ _ _).trans (g26J9_eq A n kk m0 m (g26L7 A n kk lg26L3 m) ih  (g26R7s0 A x0 x1 x2 x3 x4 x5 x6) x0 x1 x2 x3 x4 x5 x6 (by kernel_rfl))
    have h2 := (g26p166475 A n _ _).trans h1
    have h3 := (g26Qn A n _ _ _).trans (g26J13_eq A n kk m0 lg26L3 hg26L3  (g26R7s0 A x0 x1 x2 x3 x4 x5 x6) x0 x1 x2 x3 x5 x6 (by kernel_rfl))
    have h4 := (blockK_hit 2 _ _).trans h3
    have h5 := (g26We A n (pth 19019) m _ _ _).trans h4
    have h6 := (g26Qe A n (pth 51787) _ _ _).trans h5
    have h7 := (g26p232011 A n _ _).trans h6
    have h8 := g26p100939 A n (g26Q A n (pth 51787) (g26W A n (pth 19019) m (blockK 2 (g26Q A n (pth 3659) (blockK 1 (g26Q A n (pth 459) (g26W A n (pth 75) m0 (blockK 0 (g26Q A n (pth 15) (g26T kk)))))))))) (g26R7s0 A x0 x1 x2 x3 x4 x5 x6) (A.ic .lss x4 2) (by kernel_rfl)
    rw [h2, h7] at h8
    have h9 := (g26Qn A n _ _ _).trans h8
    have h10 := (g26F A n _ 7 _ ⟨[(0, (tS x0)), (3, (sL 2000 none x1 1)), (4, (i6 x2)), (5, (i6 x3)), (6, (i6 x4))], [(2000, ⟨[.nums .u8 x5 x6], 5, 2⟩)]⟩ _ (by kernel_rfl) (by kernel_rfl)).trans (g26R7 A n (g26Q A n (pth 100939) (g26Q A n (pth 51787) (g26W A n (pth 19019) m (blockK 2 (g26Q A n (pth 3659) (blockK 1 (g26Q A n (pth 459) (g26W A n (pth 75) m0 (blockK 0 (g26Q A n (pth 15) (g26T kk))))))))))) x0 x1 x2 x3 x4 x5 x6)
    rw [h9] at h10
    have h11 := (g26p35403 A n _ _).trans h10
    have h12 := (g26p19019 A n _ _).trans h11
    exact (loopD_first (s' := ⟨[(0, (tS x0)), (3, (sL 2000 none x1 1)), (4, (i6 x2)), (5, (i6 x3)), (6, (i6 x4))], [(2000, ⟨[.nums .u8 x5 x6], 5, 2⟩)]⟩) (id := 7) (by kernel_rfl) (h.trans (by kernel_rfl)) _).trans ((g26Vs A n _ m _ _).trans (h12.trans (by kernel_rfl)))
def g26J5 {R : Type} (A : Ar) (n : Nat) (kk : AV → Heap → Option R) (lg26L3 : List Nat → Nat → Int → Nat → List Nat → Option R) (x0 : List Nat) (x1 : Nat) (x2 : Int) (x3 : Nat) (x4 : List Nat) : Option R :=
  g26L7 A n kk lg26L3 n x0 x1 x2 0 0 x3 x4
set_option maxRecDepth 100000 in
theorem g26J5_eq {R : Type} (A : Ar) (n : Nat) (kk : AV → Heap → Option R) (m0 : Nat) (lg26L3 : List Nat → Nat → Int → Nat → List Nat → Option R) 
    (hg26L3 : ∀ (s : St) (x0 : List Nat) (x1 : Nat) (x2 : Int) (x3 : Nat) (x4 : List Nat), keep g26an 3 s = ⟨[(0, (tS x0)), (3, (sL 2000 none x1 1)), (4, (i6 x2))], [(2000, ⟨[.nums .u8 x3 x4], 5, 2⟩)]⟩ → g26V A n (pth 75) m0 (blockK 0 (g26Q A n (pth 15) (g26T kk))) s = lg26L3 x0 x1 x2 x3 x4) (s : St) (x0 : List Nat) (x1 : Nat) (x2 : Int) (x3 : Nat) (x4 : List Nat) (h : keep g26an 5 s = ⟨[(0, (tS x0)), (3, (sL 2000 none x1 1)), (4, (i6 x2))], [(2000, ⟨[.nums .u8 x3 x4], 5, 2⟩)]⟩) :
    g26D A n (pth 203) (g26W A n (pth 75) m0 (blockK 0 (g26Q A n (pth 15) (g26T kk)))) s = g26J5 A n kk lg26L3 x0 x1 x2 x3 x4 := by
  have h1 := (g26p10827 A n _ _).trans (g26L7_eq A n kk m0 lg26L3 hg26L3 n (g26R6s0 A x0 x1 x2 0 x3 x4) x0 x1 x2 0 0 x3 x4 (by kernel_rfl))
  have h2 := (g26p6731 A n _ _).trans h1
  have h3 := (g26Qn A n _ _ _).trans h2
  have h4 := (g26F A n _ 6 _ (g26R5s0 A x0 x1 x2 x3 x4) _ (by kernel_rfl) (by kernel_rfl)).trans (g26R6 A n (g26Q A n (pth 6731) (g26Q A n (pth 3659) (blockK 1 (g26Q A n (pth 459) (g26W A n (pth 75) m0 (blockK 0 (g26Q A n (pth 15) (g26T kk)))))))) x0 x1 x2 0 x3 x4)
  rw [h3] at h4
  have h5 := (g26p2635 A n _ _).trans h4
  have h6 := (g26p1611 A n _ _).trans h5
  have h7 := (g26Qn A n _ _ _).trans h6
  have h8 := (g26F A n _ 5 _ ⟨[(0, (tS x0)), (3, (sL 2000 none x1 1)), (4, (i6 x2))], [(2000, ⟨[.nums .u8 x3 x4], 5, 2⟩)]⟩ _ (by kernel_rfl) (by kernel_rfl)).trans (g26R5 A n (g26Q A n (pth 1611) (blockK 1 (g26Q A n (pth 459) (g26W A n (pth 75) m0 (blockK 0 (g26Q A n (pth 15) (g26T kk))))))) x0 x1 x2 x3 x4)
  rw [h7] at h8
  have h9 := (g26p587 A n _ _).trans h8
  have h10 := (g26p331 A n _ _).trans h9
  have h11 := (g26p203 A n _ _).trans h10
  exact (g26F A n _ 5 _ _ ⟨[(0, (tS x0)), (3, (sL 2000 none x1 1)), (4, (i6 x2))], [(2000, ⟨[.nums .u8 x3 x4], 5, 2⟩)]⟩ (by kernel_rfl) (h.trans (by kernel_rfl))).trans (h11.trans (by kernel_rfl))
def g26L3 {R : Type} (A : Ar) (n : Nat) (kk : AV → Heap → Option R)  : Nat → List Nat → Nat → Int → Nat → List Nat → Option R
  | 0, _, _, _, _, _ => none
  | m + 1, x0, x1, x2, x3, x4 => match (generalizing := false) A.ic .lss (A.ib .add .i64 x2 1) (A.ofN x0.length) with
  | true => g26J5 A n kk (g26L3 A n kk  m) x0 x1 x2 x3 x4
  | false => kk (tS (x4.take x1)) [(2000, ⟨[.nums .u8 x3 x4], 5, 2⟩)]
set_option maxRecDepth 100000 in
theorem g26L3_eq {R : Type} (A : Ar) (n : Nat) (kk : AV → Heap → Option R)    (m : Nat) (s : St) (x0 : List Nat) (x1 : Nat) (x2 : Int) (x3 : Nat) (x4 : List Nat) (h : keep g26an 3 s = ⟨[(0, (tS x0)), (3, (sL 2000 none x1 1)), (4, (i6 x2))], [(2000, ⟨[.nums .u8 x3 x4], 5, 2⟩)]⟩) :
    g26V A n (pth 75) m (blockK 0 (g26Q A n (pth 15) (g26T kk))) s = g26L3 A n kk  m x0 x1 x2 x3 x4 := by
  induction m generalizing s x0 x1 x2 x3 x4 with
  | zero => rfl
  | succ m ih =>
    have h1 := (g26Qn A n _ _ _).trans (g26J5_eq A n kk m (g26L3 A n kk  m) ih  (g26R3s0 A x0 x1 x2 x3 x4) x0 x1 x2 x3 x4 (by kernel_rfl))
    have h2 := (g26p651 A n _ _).trans h1
    have h3 : (g26T kk) .ret (g26R14s0 A x1 x3 x4) = kk (tS (x4.take x1)) [(2000, ⟨[.nums .u8 x3 x4], 5, 2⟩)] := by kernel_rfl
    have h4 := (g26p31 A n _ _).trans h3
    have h5 := (g26Qn A n _ _ _).trans h4
    have h6 := (g26F A n _ 14 _ (g26R3s0 A x0 x1 x2 x3 x4) _ (by kernel_rfl) (by kernel_rfl)).trans (g26R14 A n (g26Q A n (pth 31) (g26T kk)) x1 x3 x4)
    rw [h5] at h6
    have h7 := (g26p15 A n _ _).trans h6
    have h8 := (g26Qn A n _ _ _).trans h7
    have h9 := (blockK_hit 0 _ _).trans h8
    have h10 := (g26We A n (pth 75) m _ _ _).trans h9
    have h11 := (g26Qe A n (pth 203) _ _ _).trans h10
    have h12 := (g26p907 A n _ _).trans h11
    have h13 := g26p395 A n (g26Q A n (pth 203) (g26W A n (pth 75) m (blockK 0 (g26Q A n (pth 15) (g26T kk))))) (g26R3s0 A x0 x1 x2 x3 x4) (A.ic .lss (A.ib .add .i64 x2 1) (A.ofN x0.length)) (by kernel_rfl)
    rw [h2, h12] at h13
    have h14 := (g26Qn A n _ _ _).trans h13
    have h15 := (g26F A n _ 3 _ ⟨[(0, (tS x0)), (3, (sL 2000 none x1 1)), (4, (i6 x2))], [(2000, ⟨[.nums .u8 x3 x4], 5, 2⟩)]⟩ _ (by kernel_rfl) (by kernel_rfl)).trans (g26R3 A n (g26Q A n (pth 395) (g26Q A n (pth 203) (g26W A n (pth 75) m (blockK 0 (g26Q A n (pth 15) (g26T kk)))))) x0 x1 x2 x3 x4)
    rw [h14] at h15
    have h16 := (g26p139 A n _ _).trans h15
    have h17 := (g26p75 A n _ _).trans h16
    exact (loopD_first (s' := ⟨[(0, (tS x0)), (3, (sL 2000 none x1 1)), (4, (i6 x2))], [(2000, ⟨[.nums .u8 x3 x4], 5, 2⟩)]⟩) (id := 3) (by kernel_rfl) (h.trans (by kernel_rfl)) _).trans ((g26Vs A n _ m _ _).trans (h17.trans (by kernel_rfl)))
def g26 {R : Type} (A : Ar) (n : Nat) (kk : AV → Heap → Option R) (a : List Nat) : Option R :=
  g26L3 A n kk  n a 0 0 0 []
set_option maxRecDepth 100000 in
theorem g26_eq {R : Type} (A : Ar) (n : Nat) (kk : AV → Heap → Option R) (a : List Nat) :
    funD A gtys (g26O A) g26an n (bodyOf Try.f26) g26res [(tS a)] [] kk = g26 A n kk a := by
  have h1 := (g26p43 A n _ _).trans (g26L3_eq A n kk    n (g26R2s0 A a 0 0 []) a 0 0 0 [] (by kernel_rfl))
  have h2 := (g26p27 A n _ _).trans h1
  have h3 := (g26Qn A n _ _ _).trans h2
  have h4 := (g26F A n _ 2 _ (g26R1s0 A a) _ (by kernel_rfl) (by kernel_rfl)).trans (g26R2 A n (g26Q A n (pth 27) (g26Q A n (pth 15) (g26T kk))) a 0 0 [])
  rw [h3] at h4
  have h5 := (g26p11 A n _ _).trans h4
  have h6 := (g26p7 A n _ _).trans h5
  have h7 := (g26Qn A n _ _ _).trans h6
  have h8 := (g26F A n _ 1 _ (g26R0s0 A a) _ (by kernel_rfl) (by kernel_rfl)).trans (g26R1 A n (g26Q A n (pth 7) (g26T kk)) a)
  rw [h7] at h8
  have h9 := (g26p3 A n _ _).trans h8
  have h10 := (g26Qn A n _ _ _).trans h9
  have h11 := (g26F A n _ 0 _ ⟨[(0, (tS a))], []⟩ _ (by kernel_rfl) (by kernel_rfl)).trans (g26R0 A n (g26Q A n (pth 3) (g26T kk)) a)
  rw [h10] at h11
  have h12 := (g26p1 A n _ _).trans h11
  exact (show funD A gtys (g26O A) g26an n (bodyOf Try.f26) g26res [(tS a)] [] kk = g26D A n (pth 1) (g26T kk) ⟨[(0, (tS a))], []⟩ from by kernel_rfl).trans (h12.trans (by kernel_rfl))
def g26is (o : Option AV) : Bool := match o with
  | some (.v (.cell (.str _))) => true
  | _ => false
def g26g0 (o : Option AV) : List Nat := match o with
  | some (.v (.cell (.str x))) => x
  | _ => []
theorem g26is_spec {o : Option AV} (h : g26is o = true) : o = some (.v (.cell (.str (g26g0 o)))) := by
  unfold g26is at h
  split at h
  · rfl
  · cases h
def g26v (A : Ar) (a : List Nat) : Option AV := g26 A (100000) (fun v _ => some v) a
def g26ok (A : Ar) (a : List Nat) : Bool := g26is (g26v A a)
def g26r0 (A : Ar) (a : List Nat) : List Nat := g26g0 (g26v A a)
theorem g26ok_spec {A : Ar} {a} (h : g26ok A a = true) : g26v A a = some (.v (.cell (.str (g26r0 A a)))) := g26is_spec h
def g26o (A : Ar) (args : List AV) : Option (Bool × AV) := match args with
  | [.v (.cell (.str a))] => some (g26ok A a, .v (.cell (.str (g26r0 A a))))
  | _ => none
theorem g26o_sound : ∀ args v, g26o realA args = some (true, v) → Fn1 Try.prog 26 args v := by
  intro args v h
  unfold g26o at h
  split at h
  · rename_i a
    simp only [Option.some.injEq, Prod.mk.injEq] at h
    obtain ⟨hc, h⟩ := h
    subst h
    · skip
      exact fn1_of mixed gtysOK g26O_sound g26O_det (an := g26an) (n := 100000) Try.func26 (c := bodyOf Try.f26) rfl (by kernel_rfl) Try.call26 (Nat.le_of_ble_eq_true rfl) (fun b => rfl) (fun _ => (g26_eq realA (100000) (fun v _ => some v) a).trans (show g26v realA a = _ from g26ok_spec hc))
  · cases h
def g16O (A : Ar) : Orc := orcOf [(26, g26o A)]
theorem g16O_sound : OSound Try.prog (g16O realA) := orc_sound fun f g hm args v hv => by
  simp only [List.mem_cons, List.not_mem_nil, or_false, Prod.mk.injEq] at hm
  rcases hm with ⟨rfl, rfl⟩
  · exact g26o_sound _ _ hv
theorem g16O_det : ODet (g16O realA) := orc_det _
def g16an : Ann := [(0, ([], [])), (1, ([], []))]
def g16res : List ResultVar := [.tmp 0]
abbrev g16t0 (A : Ar)  : List Nat := g26r0 A [101, 100, 100, 51, 102, 53, 53, 99, 49, 97, 54, 51, 49, 50, 53, 56, 100, 54, 57, 99, 102, 55, 97, 50, 100, 101, 102, 57, 100, 101, 49, 52, 48, 48, 48, 48, 48, 48, 48, 48, 48, 48, 48, 48, 48, 48, 48, 48, 48, 48, 48, 48, 48, 48, 48, 48, 48, 48, 48, 48, 48, 48, 49, 48]
noncomputable def g16D {R : Type} (A : Ar) (n : Nat) (p : List Bool) (K : Ex → St → Option R) (s : St) : Option R := codeD A gtys (g16O A) g16an n (sub (bodyOf Try.f16) p) K s
noncomputable def g16Q {R : Type} (A : Ar) (n : Nat) (p : List Bool) (K : Ex → St → Option R) : Ex → St → Option R := seqC (g16D A n p K) K
noncomputable def g16T {R : Type} (kk : AV → Heap → Option R) : Ex → St → Option R := finD gtys g16res kk
theorem g16Qn {R : Type} (A : Ar) (n : Nat) (p : List Bool) (K : Ex → St → Option R) (s : St) : g16Q A n p K .normal s = g16D A n p K s := rfl
theorem g16F {R : Type} (A : Ar) (n : Nat) (p : List Bool) (i : Nat) (K : Ex → St → Option R) (s s' : St) (hf : firstReg (sub (bodyOf Try.f16) p) = some i) (h : keep g16an i s = keep g16an i s') : g16D A n p K s = g16D A n p K s' := codeD_first hf h K
section
variable {R : Type} (A : Ar) (n : Nat) (K : Ex → St → Option R) (s : St)
theorem g16p1 : g16D A n (pth 1) K s = g16D A n (pth 2) (g16Q A n (pth 3) K) s := by kernel_rfl
theorem g16p3 : g16D A n (pth 3) K s = g16D A n (pth 5) (g16Q A n (pth 7) K) s := by kernel_rfl
theorem g16p7 : g16D A n (pth 7) K s = K .ret s := by kernel_rfl
def g16R0s0 (A : Ar)  : St := ⟨[(0, (tS []))], []⟩
theorem g16R0 : g16D A n (pth 2) K ⟨[], []⟩ = K .normal (g16R0s0 A) := by kernel_rfl
def g16R1s0 (A : Ar)  : St := ⟨[(0, (tS (g16t0 A))), (1, (tS (g16t0 A)))], []⟩
theorem g16R1 : g16D A n (pth 5) K ⟨[], []⟩ = match (generalizing := false) g26ok A [101, 100, 100, 51, 102, 53, 53, 99, 49, 97, 54, 51, 49, 50, 53, 56, 100, 54, 57, 99, 102, 55, 97, 50, 100, 101, 102, 57, 100, 101, 49, 52, 48, 48, 48, 48, 48, 48, 48, 48, 48, 48, 48, 48, 48, 48, 48, 48, 48, 48, 48, 48, 48, 48, 48, 48, 48, 48, 48, 48, 48, 48, 49, 48] with
    | true => K .normal (g16R1s0 A)
    | false => none := by kernel_rfl
end
def g16 {R : Type} (A : Ar) (n : Nat) (kk : AV → Heap → Option R)  : Option R :=
  match (generalizing := false) g26ok A [101, 100, 100, 51, 102, 53, 53, 99, 49, 97, 54, 51, 49, 50, 53, 56, 100, 54, 57, 99, 102, 55, 97, 50, 100, 101, 102, 57, 100, 101, 49, 52, 48, 48, 48, 48, 48, 48, 48, 48, 48, 48, 48, 48, 48, 48, 48, 48, 48, 48, 48, 48, 48, 48, 48, 48, 48, 48, 48, 48, 48, 48, 49, 48] with
  | true => kk (tS (g16t0 A)) []
  | false => none
set_option maxRecDepth 100000 in
theorem g16_eq {R : Type} (A : Ar) (n : Nat) (kk : AV → Heap → Option R)  :
    funD A gtys (g16O A) g16an n (bodyOf Try.f16) g16res [] [] kk = g16 A n kk  := by
  have h1 : (g16T kk) .ret (g16R1s0 A) = kk (tS (g16t0 A)) [] := by kernel_rfl
  have h2 := (g16p7 A n _ _).trans h1
  have h3 := (g16Qn A n _ _ _).trans h2
  have h4 := (g16F A n _ 1 _ (g16R0s0 A) _ (by kernel_rfl) (by kernel_rfl)).trans (g16R1 A n (g16Q A n (pth 7) (g16T kk)) )
  rw [h3] at h4
  have h5 := (g16p3 A n _ _).trans h4
  have h6 := (g16Qn A n _ _ _).trans h5
  have h7 := (g16F A n _ 0 _ ⟨[], []⟩ _ (by kernel_rfl) (by kernel_rfl)).trans (g16R0 A n (g16Q A n (pth 3) (g16T kk)) )
  rw [h6] at h7
  have h8 := (g16p1 A n _ _).trans h7
  exact (show funD A gtys (g16O A) g16an n (bodyOf Try.f16) g16res [] [] kk = g16D A n (pth 1) (g16T kk) ⟨[], []⟩ from by kernel_rfl).trans (h8.trans (by kernel_rfl))
def g16is (o : Option AV) : Bool := match o with
  | some (.v (.cell (.str _))) => true
  | _ => false
def g16g0 (o : Option AV) : List Nat := match o with
  | some (.v (.cell (.str x))) => x
  | _ => []
theorem g16is_spec {o : Option AV} (h : g16is o = true) : o = some (.v (.cell (.str (g16g0 o)))) := by
  unfold g16is at h
  split at h
  · rfl
  · cases h
def g16v (A : Ar)  : Option AV := g16 A (100000) (fun v _ => some v) 
def g16ok (A : Ar)  : Bool := g16is (g16v A )
def g16r0 (A : Ar)  : List Nat := g16g0 (g16v A )
theorem g16ok_spec {A : Ar} (h : g16ok A = true) : g16v A = some (.v (.cell (.str (g16r0 A)))) := g16is_spec h
def g16o (A : Ar) (args : List AV) : Option (Bool × AV) := match args with
  | [] => some (g16ok A , .v (.cell (.str (g16r0 A))))
  | _ => none
theorem g16o_sound : ∀ args v, g16o realA args = some (true, v) → Fn1 Try.prog 16 args v := by
  intro args v h
  unfold g16o at h
  split at h
  · simp only [Option.some.injEq, Prod.mk.injEq] at h
    obtain ⟨hc, h⟩ := h
    subst h
    · skip
      exact fn1_of mixed gtysOK g16O_sound g16O_det (an := g16an) (n := 100000) Try.func16 (c := bodyOf Try.f16) rfl (by kernel_rfl) Try.call16 (Nat.le_of_ble_eq_true rfl) (fun b => rfl) (fun _ => (g16_eq realA (100000) (fun v _ => some v) ).trans (show g16v realA  = _ from g16ok_spec hc))
  · cases h
def g27O (A : Ar) : Orc := orcOf []
theorem g27O_sound : OSound Try.prog (g27O realA) := orc_sound fun f g hm args v hv => by
  cases hm
theorem g27O_det : ODet (g27O realA) := orc_det _
def g27an : Ann := [(0, ([], [])), (1, ([0], [1000]))]
def g27res : List ResultVar := [.cell 0 38]
noncomputable def g27D {R : Type} (A : Ar) (n : Nat) (p : List Bool) (K : Ex → St → Option R) (s : St) : Option R := codeD A gtys (g27O A) g27an n (sub (bodyOf Try.f27) p) K s
noncomputable def g27Q {R : Type} (A : Ar) (n : Nat) (p : List Bool) (K : Ex → St → Option R) : Ex → St → Option R := seqC (g27D A n p K) K
noncomputable def g27T {R : Type} (kk : AV → Heap → Option R) : Ex → St → Option R := finD gtys g27res kk
theorem g27Qn {R : Type} (A : Ar) (n : Nat) (p : List Bool) (K : Ex → St → Option R) (s : St) : g27Q A n p K .normal s = g27D A n p K s := rfl
theorem g27F {R : Type} (A : Ar) (n : Nat) (p : List Bool) (i : Nat) (K : Ex → St → Option R) (s s' : St) (hf : firstReg (sub (bodyOf Try.f27) p) = some i) (h : keep g27an i s = keep g27an i s') : g27D A n p K s = g27D A n p K s' := codeD_first hf h K
section
variable {R : Type} (A : Ar) (n : Nat) (K : Ex → St → Option R) (s : St)
theorem g27p1 : g27D A n (pth 1) K s = g27D A n (pth 2) (g27Q A n (pth 3) K) s := by kernel_rfl
theorem g27p3 : g27D A n (pth 3) K s = g27D A n (pth 5) (g27Q A n (pth 7) K) s := by kernel_rfl
theorem g27p7 : g27D A n (pth 7) K s = K .ret s := by kernel_rfl
def g27R0s0 (A : Ar)  : St := ⟨[(0, (pT 1000 0))], [(1000, (bU 5 [0, 0, 0, 0, 0] 38))]⟩
theorem g27R0 : g27D A n (pth 2) K ⟨[], []⟩ = K .normal (g27R0s0 A) := by kernel_rfl
def g27R1s0 (A : Ar) (x0 : List Nat) : St := ⟨[(1, (aN .u64 5 (((([0, 0, 0, 0, 0].set 0 6346243789798364141).set 1 1503914060200516822).set 2 0).set 3 1152921504606846976))), (0, (pT 1000 0))], [(1000, (bU 5 (((([0, 0, 0, 0, 0].set 0 6346243789798364141).set 1 1503914060200516822).set 2 0).set 3 1152921504606846976) 38))]⟩
theorem g27R1 (x0 : List Nat) : g27D A n (pth 5) K ⟨[(0, (pT 1000 0))], [(1000, (bU 5 x0 38))]⟩ = K .normal (g27R1s0 A x0) := by kernel_rfl
end
def g27 {R : Type} (A : Ar) (n : Nat) (kk : AV → Heap → Option R)  : Option R :=
  kk (aN .u64 5 (((([0, 0, 0, 0, 0].set 0 6346243789798364141).set 1 1503914060200516822).set 2 0).set 3 1152921504606846976)) [(1000, (bU 5 (((([0, 0, 0, 0, 0].set 0 6346243789798364141).set 1 1503914060200516822).set 2 0).set 3 1152921504606846976) 38))]
set_option maxRecDepth 100000 in
theorem g27_eq {R : Type} (A : Ar) (n : Nat) (kk : AV → Heap → Option R)  :
    funD A gtys (g27O A) g27an n (bodyOf Try.f27) g27res [] [] kk = g27 A n kk  := by
  have h1 : (g27T kk) .ret (g27R1s0 A [0, 0, 0, 0, 0]) = kk (aN .u64 5 (((([0, 0, 0, 0, 0].set 0 6346243789798364141).set 1 1503914060200516822).set 2 0).set 3 1152921504606846976)) [(1000, (bU 5 (((([0, 0, 0, 0, 0].set 0 6346243789798364141).set 1 1503914060200516822).set 2 0).set 3 1152921504606846976) 38))] := by kernel_rfl
  have h2 := (g27p7 A n _ _).trans h1
  have h3 := (g27Qn A n _ _ _).trans h2
  have h4 := (g27F A n _ 1 _ (g27R0s0 A) _ (by kernel_rfl) (by kernel_rfl)).trans (g27R1 A n (g27Q A n (pth 7) (g27T kk)) [0, 0, 0, 0, 0])
  rw [h3] at h4
  have h5 := (g27p3 A n _ _).trans h4
  have h6 := (g27Qn A n _ _ _).trans h5
  have h7 := (g27F A n _ 0 _ ⟨[], []⟩ _ (by kernel_rfl) (by kernel_rfl)).trans (g27R0 A n (g27Q A n (pth 3) (g27T kk)) )
  rw [h6] at h7
  have h8 := (g27p1 A n _ _).trans h7
  exact (show funD A gtys (g27O A) g27an n (bodyOf Try.f27) g27res [] [] kk = g27D A n (pth 1) (g27T kk) ⟨[], []⟩ from by kernel_rfl).trans (h8.trans (by kernel_rfl))
def g27is (o : Option AV) : Bool := match o with
  | some (aN .u64 5 _) => true
  | _ => false
def g27g0 (o : Option AV) : List Nat := match o with
  | some (aN .u64 5 x) => x
  | _ => []
theorem g27is_spec {o : Option AV} (h : g27is o = true) : o = some (aN .u64 5 (g27g0 o)) := by
  unfold g27is at h
  split at h
  · rfl
  · cases h
def g27v (A : Ar)  : Option AV := g27 A (100000) (fun v _ => some v) 
def g27ok (A : Ar)  : Bool := g27is (g27v A )
def g27r0 (A : Ar)  : List Nat := g27g0 (g27v A )
theorem g27ok_spec {A : Ar} (h : g27ok A = true) : g27v A = some (aN .u64 5 (g27r0 A)) := g27is_spec h
def g27o (A : Ar) (args : List AV) : Option (Bool × AV) := match args with
  | [] => some (g27ok A , .v (.agg [.nums .u64 5 (g27r0 A)]))
  | _ => none
theorem g27o_sound : ∀ args v, g27o realA args = some (true, v) → Fn1 Try.prog 27 args v := by
  intro args v h
  unfold g27o at h
  split at h
  · simp only [Option.some.injEq, Prod.mk.injEq] at h
    obtain ⟨hc, h⟩ := h
    subst h
    · skip
      exact fn1_of mixed gtysOK g27O_sound g27O_det (an := g27an) (n := 100000) Try.func27 (c := bodyOf Try.f27) rfl (by kernel_rfl) Try.call27 (Nat.le_of_ble_eq_true rfl) (fun b => rfl) (fun _ => (g27_eq realA (100000) (fun v _ => some v) ).trans (show g27v realA  = _ from g27ok_spec hc))
  · cases h
def g30O (A : Ar) : Orc := orcOf []
theorem g30O_sound : OSound Try.prog (g30O realA) := orc_sound fun f g hm args v hv => by
  cases hm
theorem g30O_det : ODet (g30O realA) := orc_det _
def g30an : Ann := [(0, ([0, 1], [])), (1, ([0, 1], [])), (2, ([0, 1, 6], [])), (3, ([0, 1, 6, 7], [])), (4, ([0, 1, 6, 7, 8], [])), (5, ([0, 1, 6, 7, 8, 9], [])), (6, ([0, 1, 6, 7, 8, 9, 10], [])), (7, ([0, 1, 6, 7, 9, 11], [])), (8, ([0, 1, 6, 7, 9, 11, 12], [])), (9, ([0, 1, 6, 7, 9, 12, 13], [])), (10, ([0, 1, 7, 9, 12, 13], [])), (11, ([0, 1, 4], []))]
def g30res : List ResultVar := [.tmp 4, .tmp 5]
noncomputable def g30D {R : Type} (A : Ar) (n : Nat) (p : List Bool) (K : Ex → St → Option R) (s : St) : Option R := codeD A gtys (g30O A) g30an n (sub (bodyOf Try.f30) p) K s
noncomputable def g30Q {R : Type} (A : Ar) (n : Nat) (p : List Bool) (K : Ex → St → Option R) : Ex → St → Option R := seqC (g30D A n p K) K
noncomputable def g30T {R : Type} (kk : AV → Heap → Option R) : Ex → St → Option R := finD gtys g30res kk
theorem g30Qn {R : Type} (A : Ar) (n : Nat) (p : List Bool) (K : Ex → St → Option R) (s : St) : g30Q A n p K .normal s = g30D A n p K s := rfl
theorem g30F {R : Type} (A : Ar) (n : Nat) (p : List Bool) (i : Nat) (K : Ex → St → Option R) (s s' : St) (hf : firstReg (sub (bodyOf Try.f30) p) = some i) (h : keep g30an i s = keep g30an i s') : g30D A n p K s = g30D A n p K s' := codeD_first hf h K
section
variable {R : Type} (A : Ar) (n : Nat) (K : Ex → St → Option R) (s : St)
theorem g30p1 : g30D A n (pth 1) K s = g30D A n (pth 2) (g30Q A n (pth 3) K) s := by kernel_rfl
theorem g30p3 : g30D A n (pth 3) K s = g30D A n (pth 5) (g30Q A n (pth 7) K) s := by kernel_rfl
theorem g30p7 : g30D A n (pth 7) K s = g30D A n (pth 11) (g30Q A n (pth 15) K) s := by kernel_rfl
theorem g30p15 : g30D A n (pth 15) K s = g30D A n (pth 23) (g30Q A n (pth 31) K) s := by kernel_rfl
theorem g30p31 : g30D A n (pth 31) K s = g30D A n (pth 47) (g30Q A n (pth 63) K) s := by kernel_rfl
theorem g30p63 : g30D A n (pth 63) K s = g30D A n (pth 95) (g30Q A n (pth 127) K) s := by kernel_rfl
theorem g30p127 : g30D A n (pth 127) K s = g30D A n (pth 191) (g30Q A n (pth 255) K) s := by kernel_rfl
theorem g30p255 : g30D A n (pth 255) K s = g30D A n (pth 383) (g30Q A n (pth 511) K) s := by kernel_rfl
theorem g30p511 : g30D A n (pth 511) K s = g30D A n (pth 767) (g30Q A n (pth 1023) K) s := by kernel_rfl
theorem g30p1023 : g30D A n (pth 1023) K s = g30D A n (pth 1535) (g30Q A n (pth 2047) K) s := by kernel_rfl
theorem g30p2047 : g30D A n (pth 2047) K s = g30D A n (pth 3071) (g30Q A n (pth 4095) K) s := by kernel_rfl
theorem g30p4095 : g30D A n (pth 4095) K s = g30D A n (pth 6143) (g30Q A n (pth 8191) K) s := by kernel_rfl
theorem g30p8191 : g30D A n (pth 8191) K s = K .ret s := by kernel_rfl
def g30R0s0 (A : Ar) (x0 x1 : Nat) : St := ⟨[(5, (u64v 0)), (4, (u64v 0)), (0, (u64v x0)), (1, (u64v x1))], []⟩
theorem g30R0 (x0 x1 : Nat) : g30D A n (pth 2) K ⟨[(0, (u64v x0)), (1, (u64v x1))], []⟩ = K .normal (g30R0s0 A x0 x1) := by kernel_rfl
def g30R1s0 (A : Ar) (x0 x1 : Nat) : St := ⟨[(6, (u64v (A.nb .and .u64 x0 4294967295))), (15, (u64v (A.nb .and .u64 x0 4294967295))), (14, (u64v x0)), (0, (u64v x0)), (1, (u64v x1))], []⟩
theorem g30R1 (x0 x1 : Nat) : g30D A n (pth 5) K ⟨[(0, (u64v x0)), (1, (u64v x1))], []⟩ = K .normal (g30R1s0 A x0 x1) := by kernel_rfl
def g30R2s0 (A : Ar) (x0 x1 x2 : Nat) : St := ⟨[(7, (u64v (A.nsh .shr .u64 x0 32))), (17, (u64v (A.nsh .shr .u64 x0 32))), (16, (u64v x0)), (0, (u64v x0)), (1, (u64v x1)), (6, (u64v x2))], []⟩
theorem g30R2 (x0 x1 x2 : Nat) : g30D A n (pth 11) K ⟨[(0, (u64v x0)), (1, (u64v x1)), (6, (u64v x2))], []⟩ = K .normal (g30R2s0 A x0 x1 x2) := by kernel_rfl
def g30R3s0 (A : Ar) (x0 x1 : Nat) (x2 x3 : Nat) : St := ⟨[(8, (u64v (A.nb .and .u64 x1 4294967295))), (19, (u64v (A.nb .and .u64 x1 4294967295))), (18, (u64v x1)), (0, (u64v x0)), (1, (u64v x1)), (6, (u64v x2)), (7, (u64v x3))], []⟩
theorem g30R3 (x0 x1 : Nat) (x2 x3 : Nat) : g30D A n (pth 23) K ⟨[(0, (u64v x0)), (1, (u64v x1)), (6, (u64v x2)), (7, (u64v x3))], []⟩ = K .normal (g30R3s0 A x0 x1 x2 x3) := by kernel_rfl
def g30R4s0 (A : Ar) (x0 x1 : Nat) (x2 x3 x4 : Nat) : St := ⟨[(9, (u64v (A.nsh .shr .u64 x1 32))), (21, (u64v (A.nsh .shr .u64 x1 32))), (20, (u64v x1)), (0, (u64v x0)), (1, (u64v x1)), (6, (u64v x2)), (7, (u64v x3)), (8, (u64v x4))], []⟩
theorem g30R4 (x0 x1 : Nat) (x2 x3 x4 : Nat) : g30D A n (pth 47) K ⟨[(0, (u64v x0)), (1, (u64v x1)), (6, (u64v x2)), (7, (u64v x3)), (8, (u64v x4))], []⟩ = K .normal (g30R4s0 A x0 x1 x2 x3 x4) := by kernel_rfl
def g30R5s0 (A : Ar) (x0 x1 : Nat) (x2 x3 : Nat) (x4 x5 : Nat) : St := ⟨[(10, (u64v (A.nb .mul .u64 x2 x4))), (24, (u64v (A.nb .mul .u64 x2 x4))), (23, (u64v x4)), (22, (u64v x2)), (0, (u64v x0)), (1, (u64v x1)), (6, (u64v x2)), (7, (u64v x3)), (8, (u64v x4)), (9, (u64v x5))], []⟩
theorem g30R5 (x0 x1 : Nat) (x2 x3 : Nat) (x4 x5 : Nat) : g30D A n (pth 95) K ⟨[(0, (u64v x0)), (1, (u64v x1)), (6, (u64v x2)), (7, (u64v x3)), (8, (u64v x4)), (9, (u64v x5))], []⟩ = K .normal (g30R5s0 A x0 x1 x2 x3 x4 x5) := by kernel_rfl
def g30R6s0 (A : Ar) (x0 x1 : Nat) (x2 x3 : Nat) (x4 x5 x6 : Nat) : St := ⟨[(11, (u64v (A.nb .add .u64 (A.nb .mul .u64 x3 x4) (A.nsh .shr .u64 x6 32)))), (30, (u64v (A.nb .add .u64 (A.nb .mul .u64 x3 x4) (A.nsh .shr .u64 x6 32)))), (29, (u64v (A.nsh .shr .u64 x6 32))), (28, (u64v x6)), (27, (u64v (A.nb .mul .u64 x3 x4))), (26, (u64v x4)), (25, (u64v x3)), (0, (u64v x0)), (1, (u64v x1)), (6, (u64v x2)), (7, (u64v x3)), (8, (u64v x4)), (9, (u64v x5)), (10, (u64v x6))], []⟩
theorem g30R6 (x0 x1 : Nat) (x2 x3 : Nat) (x4 x5 x6 : Nat) : g30D A n (pth 191) K ⟨[(0, (u64v x0)), (1, (u64v x1)), (6, (u64v x2)), (7, (u64v x3)), (8, (u64v x4)), (9, (u64v x5)), (10, (u64v x6))], []⟩ = K .normal (g30R6s0 A x0 x1 x2 x3 x4 x5 x6) := by kernel_rfl
def g30R7s0 (A : Ar) (x0 x1 : Nat) (x2 x3 : Nat) (x4 x5 : Nat) : St := ⟨[(12, (u64v (A.nb .and .u64 x5 4294967295))), (32, (u64v (A.nb .and .u64 x5 4294967295))), (31, (u64v x5)), (0, (u64v x0)), (1, (u64v x1)), (6, (u64v x2)), (7, (u64v x3)), (9, (u64v x4)), (11, (u64v x5))], []⟩
theorem g30R7 (x0 x1 : Nat) (x2 x3 : Nat) (x4 x5 : Nat) : g30D A n (pth 383) K ⟨[(0, (u64v x0)), (1, (u64v x1)), (6, (u64v x2)), (7, (u64v x3)), (9, (u64v x4)), (11, (u64v x5))], []⟩ = K .normal (g30R7s0 A x0 x1 x2 x3 x4 x5) := by kernel_rfl
def g30R8s0 (A : Ar) (x0 x1 : Nat) (x2 x3 : Nat) (x4 x5 x6 : Nat) : St := ⟨[(13, (u64v (A.nsh .shr .u64 x5 32))), (34, (u64v (A.nsh .shr .u64 x5 32))), (33, (u64v x5)), (0, (u64v x0)), (1, (u64v x1)), (6, (u64v x2)), (7, (u64v x3)), (9, (u64v x4)), (11, (u64v x5)), (12, (u64v x6))], []⟩
theorem g30R8 (x0 x1 : Nat) (x2 x3 : Nat) (x4 x5 x6 : Nat) : g30D A n (pth 767) K ⟨[(0, (u64v x0)), (1, (u64v x1)), (6, (u64v x2)), (7, (u64v x3)), (9, (u64v x4)), (11, (u64v x5)), (12, (u64v x6))], []⟩ = K .normal (g30R8s0 A x0 x1 x2 x3 x4 x5 x6) := by kernel_rfl
def g30R9s0 (A : Ar) (x0 x1 : Nat) (x2 x3 : Nat) (x4 x5 x6 : Nat) : St := ⟨[(12, (u64v (A.nb .add .u64 x5 (A.nb .mul .u64 x2 x4)))), (39, (u64v (A.nb .add .u64 x5 (A.nb .mul .u64 x2 x4)))), (38, (u64v (A.nb .mul .u64 x2 x4))), (37, (u64v x4)), (36, (u64v x2)), (35, (u64v x5)), (0, (u64v x0)), (1, (u64v x1)), (6, (u64v x2)), (7, (u64v x3)), (9, (u64v x4)), (12, (u64v x5)), (13, (u64v x6))], []⟩
theorem g30R9 (x0 x1 : Nat) (x2 x3 : Nat) (x4 x5 x6 : Nat) : g30D A n (pth 1535) K ⟨[(0, (u64v x0)), (1, (u64v x1)), (6, (u64v x2)), (7, (u64v x3)), (9, (u64v x4)), (12, (u64v x5)), (13, (u64v x6))], []⟩ = K .normal (g30R9s0 A x0 x1 x2 x3 x4 x5 x6) := by kernel_rfl
def g30R10s0 (A : Ar) (x0 x1 : Nat) (x2 x3 : Nat) (x4 x5 : Nat) : St := ⟨[(4, (u64v (A.nb .add .u64 (A.nb .add .u64 (A.nb .mul .u64 x2 x3) x5) (A.nsh .shr .u64 x4 32)))), (47, (u64v (A.nb .add .u64 (A.nb .add .u64 (A.nb .mul .u64 x2 x3) x5) (A.nsh .shr .u64 x4 32)))), (46, (u64v (A.nsh .shr .u64 x4 32))), (45, (u64v x4)), (44, (u64v (A.nb .add .u64 (A.nb .mul .u64 x2 x3) x5))), (43, (u64v x5)), (42, (u64v (A.nb .mul .u64 x2 x3))), (41, (u64v x3)), (40, (u64v x2)), (0, (u64v x0)), (1, (u64v x1)), (7, (u64v x2)), (9, (u64v x3)), (12, (u64v x4)), (13, (u64v x5))], []⟩
theorem g30R10 (x0 x1 : Nat) (x2 x3 : Nat) (x4 x5 : Nat) : g30D A n (pth 3071) K ⟨[(0, (u64v x0)), (1, (u64v x1)), (7, (u64v x2)), (9, (u64v x3)), (12, (u64v x4)), (13, (u64v x5))], []⟩ = K .normal (g30R10s0 A x0 x1 x2 x3 x4 x5) := by kernel_rfl
def g30R11s0 (A : Ar) (x0 x1 x2 : Nat) : St := ⟨[(5, (u64v (A.nb .mul .u64 x0 x1))), (50, (u64v (A.nb .mul .u64 x0 x1))), (49, (u64v x1)), (48, (u64v x0)), (0, (u64v x0)), (1, (u64v x1)), (4, (u64v x2))], []⟩
theorem g30R11 (x0 x1 x2 : Nat) : g30D A n (pth 6143) K ⟨[(0, (u64v x0)), (1, (u64v x1)), (4, (u64v x2))], []⟩ = K .normal (g30R11s0 A x0 x1 x2) := by kernel_rfl
end
def g30 {R : Type} (A : Ar) (n : Nat) (kk : AV → Heap → Option R) (a b : Nat) : Option R :=
  kk (.tup [(.cell (.nat .u64 (A.nb .add .u64 (A.nb .add .u64 (A.nb .mul .u64 (A.nsh .shr .u64 a 32) (A.nsh .shr .u64 b 32)) (A.nsh .shr .u64 (A.nb .add .u64 (A.nb .mul .u64 (A.nsh .shr .u64 a 32) (A.nb .and .u64 b 4294967295)) (A.nsh .shr .u64 (A.nb .mul .u64 (A.nb .and .u64 a 4294967295) (A.nb .and .u64 b 4294967295)) 32)) 32)) (A.nsh .shr .u64 (A.nb .add .u64 (A.nb .and .u64 (A.nb .add .u64 (A.nb .mul .u64 (A.nsh .shr .u64 a 32) (A.nb .and .u64 b 4294967295)) (A.nsh .shr .u64 (A.nb .mul .u64 (A.nb .and .u64 a 4294967295) (A.nb .and .u64 b 4294967295)) 32)) 4294967295) (A.nb .mul .u64 (A.nb .and .u64 a 4294967295) (A.nsh .shr .u64 b 32))) 32)))), (.cell (.nat .u64 (A.nb .mul .u64 a b)))]) []
set_option maxRecDepth 100000 in
theorem g30_eq {R : Type} (A : Ar) (n : Nat) (kk : AV → Heap → Option R) (a b : Nat) :
    funD A gtys (g30O A) g30an n (bodyOf Try.f30) g30res [(u64v a), (u64v b)] [] kk = g30 A n kk a b := by
  have h1 : (g30T kk) .ret (g30R11s0 A a b (A.nb .add .u64 (A.nb .add .u64 (A.nb .mul .u64 (A.nsh .shr .u64 a 32) (A.nsh .shr .u64 b 32)) (A.nsh .shr .u64 (A.nb .add .u64 (A.nb .mul .u64 (A.nsh .shr .u64 a 32) (A.nb .and .u64 b 4294967295)) (A.nsh .shr .u64 (A.nb .mul .u64 (A.nb .and .u64 a 4294967295) (A.nb .and .u64 b 4294967295)) 32)) 32)) (A.nsh .shr .u64 (A.nb .add .u64 (A.nb .and .u64 (A.nb .add .u64 (A.nb .mul .u64 (A.nsh .shr .u64 a 32) (A.nb .and .u64 b 4294967295)) (A.nsh .shr .u64 (A.nb .mul .u64 (A.nb .and .u64 a 4294967295) (A.nb .and .u64 b 4294967295)) 32)) 4294967295) (A.nb .mul .u64 (A.nb .and .u64 a 4294967295) (A.nsh .shr .u64 b 32))) 32))) = kk (.tup [(.cell (.nat .u64 (A.nb .add .u64 (A.nb .add .u64 (A.nb .mul .u64 (A.nsh .shr .u64 a 32) (A.nsh .shr .u64 b 32)) (A.nsh .shr .u64 (A.nb .add .u64 (A.nb .mul .u64 (A.nsh .shr .u64 a 32) (A.nb .and .u64 b 4294967295)) (A.nsh .shr .u64 (A.nb .mul .u64 (A.nb .and .u64 a 4294967295) (A.nb .and .u64 b 4294967295)) 32)) 32)) (A.nsh .shr .u64 (A.nb .add .u64 (A.nb .and .u64 (A.nb .add .u64 (A.nb .mul .u64 (A.nsh .shr .u64 a 32) (A.nb .and .u64 b 4294967295)) (A.nsh .shr .u64 (A.nb .mul .u64 (A.nb .and .u64 a 4294967295) (A.nb .and .u64 b 4294967295)) 32)) 4294967295) (A.nb .mul .u64 (A.nb .and .u64 a 4294967295) (A.nsh .shr .u64 b 32))) 32)))), (.cell (.nat .u64 (A.nb .mul .u64 a b)))]) [] := by kernel_rfl
  have h2 := (g30p8191 A n _ _).trans h1
  have h3 := (g30Qn A n _ _ _).trans h2
  have h4 := (g30F A n _ 11 _ (g30R10s0 A a b (A.nsh .shr .u64 a 32) (A.nsh .shr .u64 b 32) (A.nb .add .u64 (A.nb .and .u64 (A.nb .add .u64 (A.nb .mul .u64 (A.nsh .shr .u64 a 32) (A.nb .and .u64 b 4294967295)) (A.nsh .shr .u64 (A.nb .mul .u64 (A.nb .and .u64 a 4294967295) (A.nb .and .u64 b 4294967295)) 32)) 4294967295) (A.nb .mul .u64 (A.nb .and .u64 a 4294967295) (A.nsh .shr .u64 b 32))) (A.nsh .shr .u64 (A.nb .add .u64 (A.nb .mul .u64 (A.nsh .shr .u64 a 32) (A.nb .and .u64 b 4294967295)) (A.nsh .shr .u64 (A.nb .mul .u64 (A.nb .and .u64 a 4294967295) (A.nb .and .u64 b 4294967295)) 32)) 32)) _ (by kernel_rfl) (by kernel_rfl)).trans (g30R11 A n (g30Q A n (pth 8191) (g30T kk)) a b (A.nb .add .u64 (A.nb .add .u64 (A.nb .mul .u64 (A.nsh .shr .u64 a 32) (A.nsh .shr .u64 b 32)) (A.nsh .shr .u64 (A.nb .add .u64 (A.nb .mul .u64 (A.nsh .shr .u64 a 32) (A.nb .and .u64 b 4294967295)) (A.nsh .shr .u64 (A.nb .mul .u64 (A.nb .and .u64 a 4294967295) (A.nb .and .u64 b 4294967295)) 32)) 32)) (A.nsh .shr .u64 (A.nb .add .u64 (A.nb .and .u64 (A.nb .add .u64 (A.nb .mul .u64 (A.nsh .shr .u64 a 32) (A.nb .and .u64 b 4294967295)) (A.nsh .shr .u64 (A.nb .mul .u64 (A.nb .and .u64 a 4294967295) (A.nb .and .u64 b 4294967295)) 32)) 4294967295) (A.nb .mul .u64 (A.nb .and .u64 a 4294967295) (A.nsh .shr .u64 b 32))) 32)))
  rw [h3] at h4
  have h5 := (g30p4095 A n _ _).trans h4
  have h6 := (g30Qn A n _ _ _).trans h5
  have h7 := (g30F A n _ 10 _ (g30R9s0 A a b (A.nb .and .u64 a 4294967295) (A.nsh .shr .u64 a 32) (A.nsh .shr .u64 b 32) (A.nb .and .u64 (A.nb .add .u64 (A.nb .mul .u64 (A.nsh .shr .u64 a 32) (A.nb .and .u64 b 4294967295)) (A.nsh .shr .u64 (A.nb .mul .u64 (A.nb .and .u64 a 4294967295) (A.nb .and .u64 b 4294967295)) 32)) 4294967295) (A.nsh .shr .u64 (A.nb .add .u64 (A.nb .mul .u64 (A.nsh .shr .u64 a 32) (A.nb .and .u64 b 4294967295)) (A.nsh .shr .u64 (A.nb .mul .u64 (A.nb .and .u64 a 4294967295) (A.nb .and .u64 b 4294967295)) 32)) 32)) _ (by kernel_rfl) (by kernel_rfl)).trans (g30R10 A n (g30Q A n (pth 4095) (g30T kk)) a b (A.nsh .shr .u64 a 32) (A.nsh .shr .u64 b 32) (A.nb .add .u64 (A.nb .and .u64 (A.nb .add .u64 (A.nb .mul .u64 (A.nsh .shr .u64 a 32) (A.nb .and .u64 b 4294967295)) (A.nsh .shr .u64 (A.nb .mul .u64 (A.nb .and .u64 a 4294967295) (A.nb .and .u64 b 4294967295)) 32)) 4294967295) (A.nb .mul .u64 (A.nb .and .u64 a 4294967295) (A.nsh .shr .u64 b 32))) (A.nsh .shr .u64 (A.nb .add .u64 (A.nb .mul .u64 (A.nsh .shr .u64 a 32) (A.nb .and .u64 b 4294967295)) (A.nsh .shr .u64 (A.nb .mul .u64 (A.nb .and .u64 a 4294967295) (A.nb .and .u64 b 4294967295)) 32)) 32))
  rw [h6] at h7
  have h8 := (g30p2047 A n _ _).trans h7
  have h9 := (g30Qn A n _ _ _).trans h8
  have h10 := (g30F A n _ 9 _ (g30R8s0 A a b (A.nb .and .u64 a 4294967295) (A.nsh .shr .u64 a 32) (A.nsh .shr .u64 b 32) (A.nb .add .u64 (A.nb .mul .u64 (A.nsh .shr .u64 a 32) (A.nb .and .u64 b 4294967295)) (A.nsh .shr .u64 (A.nb .mul .u64 (A.nb .and .u64 a 4294967295) (A.nb .and .u64 b 4294967295)) 32)) (A.nb .and .u64 (A.nb .add .u64 (A.nb .mul .u64 (A.nsh .shr .u64 a 32) (A.nb .and .u64 b 4294967295)) (A.nsh .shr .u64 (A.nb .mul .u64 (A.nb .and .u64 a 4294967295) (A.nb .and .u64 b 4294967295)) 32)) 4294967295)) _ (by kernel_rfl) (by kernel_rfl)).trans (g30R9 A n (g30Q A n (pth 2047) (g30T kk)) a b (A.nb .and .u64 a 4294967295) (A.nsh .shr .u64 a 32) (A.nsh .shr .u64 b 32) (A.nb .and .u64 (A.nb .add .u64 (A.nb .mul .u64 (A.nsh .shr .u64 a 32) (A.nb .and .u64 b 4294967295)) (A.nsh .shr .u64 (A.nb .mul .u64 (A.nb .and .u64 a 4294967295) (A.nb .and .u64 b 4294967295)) 32)) 4294967295) (A.nsh .shr .u64 (A.nb .add .u64 (A.nb .mul .u64 (A.nsh .shr .u64 a 32) (A.nb .and .u64 b 4294967295)) (A.nsh .shr .u64 (A.nb .mul .u64 (A.nb .and .u64 a 4294967295) (A.nb .and .u64 b 4294967295)) 32)) 32))
  rw [h9] at h10
  have h11 := (g30p1023 A n _ _).trans h10
  have h12 := (g30Qn A n _ _ _).trans h11
  have h13 := (g30F A n _ 8 _ (g30R7s0 A a b (A.nb .and .u64 a 4294967295) (A.nsh .shr .u64 a 32) (A.nsh .shr .u64 b 32) (A.nb .add .u64 (A.nb .mul .u64 (A.nsh .shr .u64 a 32) (A.nb .and .u64 b 4294967295)) (A.nsh .shr .u64 (A.nb .mul .u64 (A.nb .and .u64 a 4294967295) (A.nb .and .u64 b 4294967295)) 32))) _ (by kernel_rfl) (by kernel_rfl)).trans (g30R8 A n (g30Q A n (pth 1023) (g30T kk)) a b (A.nb .and .u64 a 4294967295) (A.nsh .shr .u64 a 32) (A.nsh .shr .u64 b 32) (A.nb .add .u64 (A.nb .mul .u64 (A.nsh .shr .u64 a 32) (A.nb .and .u64 b 4294967295)) (A.nsh .shr .u64 (A.nb .mul .u64 (A.nb .and .u64 a 4294967295) (A.nb .and .u64 b 4294967295)) 32)) (A.nb .and .u64 (A.nb .add .u64 (A.nb .mul .u64 (A.nsh .shr .u64 a 32) (A.nb .and .u64 b 4294967295)) (A.nsh .shr .u64 (A.nb .mul .u64 (A.nb .and .u64 a 4294967295) (A.nb .and .u64 b 4294967295)) 32)) 4294967295))
  rw [h12] at h13
  have h14 := (g30p511 A n _ _).trans h13
  have h15 := (g30Qn A n _ _ _).trans h14
  have h16 := (g30F A n _ 7 _ (g30R6s0 A a b (A.nb .and .u64 a 4294967295) (A.nsh .shr .u64 a 32) (A.nb .and .u64 b 4294967295) (A.nsh .shr .u64 b 32) (A.nb .mul .u64 (A.nb .and .u64 a 4294967295) (A.nb .and .u64 b 4294967295))) _ (by kernel_rfl) (by kernel_rfl)).trans (g30R7 A n (g30Q A n (pth 511) (g30T kk)) a b (A.nb .and .u64 a 4294967295) (A.nsh .shr .u64 a 32) (A.nsh .shr .u64 b 32) (A.nb .add .u64 (A.nb .mul .u64 (A.nsh .shr .u64 a 32) (A.nb .and .u64 b 4294967295)) (A.nsh .shr .u64 (A.nb .mul .u64 (A.nb .and .u64 a 4294967295) (A.nb .and .u64 b 4294967295)) 32)))
  rw [h15] at h16
  have h17 := (g30p255 A n _ _).trans h16
  have h18 := (g30Qn A n _ _ _).trans h17
  have h19 := (g30F A n _ 6 _ (g30R5s0 A a b (A.nb .and .u64 a 4294967295) (A.nsh .shr .u64 a 32) (A.nb .and .u64 b 4294967295) (A.nsh .shr .u64 b 32)) _ (by kernel_rfl) (by kernel_rfl)).trans (g30R6 A n (g30Q A n (pth 255) (g30T kk)) a b (A.nb .and .u64 a 4294967295) (A.nsh .shr .u64 a 32) (A.nb .and .u64 b 4294967295) (A.nsh .shr .u64 b 32) (A.nb .mul .u64 (A.nb .and .u64 a 4294967295) (A.nb .and .u64 b 4294967295)))
  rw [h18] at h19
  have h20 := (g30p127 A n _ _).trans h19
  have h21 := (g30Qn A n _ _ _).trans h20
  have h22 := (g30F A n _ 5 _ (g30R4s0 A a b (A.nb .and .u64 a 4294967295) (A.nsh .shr .u64 a 32) (A.nb .and .u64 b 4294967295)) _ (by kernel_rfl) (by kernel_rfl)).trans (g30R5 A n (g30Q A n (pth 127) (g30T kk)) a b (A.nb .and .u64 a 4294967295) (A.nsh .shr .u64 a 32) (A.nb .and .u64 b 4294967295) (A.nsh .shr .u64 b 32))
  rw [h21] at h22
  have h23 := (g30p63 A n _ _).trans h22
  have h24 := (g30Qn A n _ _ _).trans h23
  have h25 := (g30F A n _ 4 _ (g30R3s0 A a b (A.nb .and .u64 a 4294967295) (A.nsh .shr .u64 a 32)) _ (by kernel_rfl) (by kernel_rfl)).trans (g30R4 A n (g30Q A n (pth 63) (g30T kk)) a b (A.nb .and .u64 a 4294967295) (A.nsh .shr .u64 a 32) (A.nb .and .u64 b 4294967295))
  rw [h24] at h25
  have h26 := (g30p31 A n _ _).trans h25
  have h27 := (g30Qn A n _ _ _).trans h26
  have h28 := (g30F A n _ 3 _ (g30R2s0 A a b (A.nb .and .u64 a 4294967295)) _ (by kernel_rfl) (by kernel_rfl)).trans (g30R3 A n (g30Q A n (pth 31) (g30T kk)) a b (A.nb .and .u64 a 4294967295) (A.nsh .shr .u64 a 32))
  rw [h27] at h28
  have h29 := (g30p15 A n _ _).trans h28
  have h30 := (g30Qn A n _ _ _).trans h29
  have h31 := (g30F A n _ 2 _ (g30R1s0 A a b) _ (by kernel_rfl) (by kernel_rfl)).trans (g30R2 A n (g30Q A n (pth 15) (g30T kk)) a b (A.nb .and .u64 a 4294967295))
  rw [h30] at h31
  have h32 := (g30p7 A n _ _).trans h31
  have h33 := (g30Qn A n _ _ _).trans h32
  have h34 := (g30F A n _ 1 _ (g30R0s0 A a b) _ (by kernel_rfl) (by kernel_rfl)).trans (g30R1 A n (g30Q A n (pth 7) (g30T kk)) a b)
  rw [h33] at h34
  have h35 := (g30p3 A n _ _).trans h34
  have h36 := (g30Qn A n _ _ _).trans h35
  have h37 := (g30F A n _ 0 _ ⟨[(0, (u64v a)), (1, (u64v b))], []⟩ _ (by kernel_rfl) (by kernel_rfl)).trans (g30R0 A n (g30Q A n (pth 3) (g30T kk)) a b)
  rw [h36] at h37
  have h38 := (g30p1 A n _ _).trans h37
  exact (show funD A gtys (g30O A) g30an n (bodyOf Try.f30) g30res [(u64v a), (u64v b)] [] kk = g30D A n (pth 1) (g30T kk) ⟨[(0, (u64v a)), (1, (u64v b))], []⟩ from by kernel_rfl).trans (h38.trans (by kernel_rfl))
def g30is (o : Option AV) : Bool := match o with
  | some (.tup [.cell (.nat .u64 _), .cell (.nat .u64 _)]) => true
  | _ => false
def g30g0 (o : Option AV) : Nat := match o with
  | some (.tup [.cell (.nat .u64 x), .cell (.nat .u64 _)]) => x
  | _ => 0
def g30g1 (o : Option AV) : Nat := match o with
  | some (.tup [.cell (.nat .u64 _), .cell (.nat .u64 x)]) => x
  | _ => 0
theorem g30is_spec {o : Option AV} (h : g30is o = true) : o = some (.tup [.cell (.nat .u64 (g30g0 o)), .cell (.nat .u64 (g30g1 o))]) := by
  unfold g30is at h
  split at h
  · rfl
  · cases h
def g30v (A : Ar) (a b : Nat) : Option AV := g30 A (100000) (fun v _ => some v) a b
def g30ok (A : Ar) (a b : Nat) : Bool := g30is (g30v A a b)
def g30r0 (A : Ar) (a b : Nat) : Nat := g30g0 (g30v A a b)
def g30r1 (A : Ar) (a b : Nat) : Nat := g30g1 (g30v A a b)
theorem g30ok_spec {A : Ar} {a b} (h : g30ok A a b = true) : g30v A a b = some (.tup [.cell (.nat .u64 (g30r0 A a b)), .cell (.nat .u64 (g30r1 A a b))]) := g30is_spec h
def g30o (A : Ar) (args : List AV) : Option (Bool × AV) := match args with
  | [.v (.cell (.nat .u64 a)), .v (.cell (.nat .u64 b))] => some (g30ok A a b, .tup [.cell (.nat .u64 (g30r0 A a b)), .cell (.nat .u64 (g30r1 A a b))])
  | _ => none
theorem g30o_sound : ∀ args v, g30o realA args = some (true, v) → Fn1 Try.prog 30 args v := by
  intro args v h
  unfold g30o at h
  split at h
  · rename_i a b
    simp only [Option.some.injEq, Prod.mk.injEq] at h
    obtain ⟨hc, h⟩ := h
    subst h
    · skip
      exact fn1_of mixed gtysOK g30O_sound g30O_det (an := g30an) (n := 100000) Try.func30 (c := bodyOf Try.f30) rfl (by kernel_rfl) Try.call30 (Nat.le_of_ble_eq_true rfl) (fun b => rfl) (fun _ => (g30_eq realA (100000) (fun v _ => some v) a b).trans (show g30v realA a b = _ from g30ok_spec hc))
  · cases h
def g31o (A : Ar) := add64o
theorem g31o_sound : ∀ args v, g31o realA args = some (true, v) → Fn1 Try.prog 31 args v := add64o_sound Try.func31 (by kernel_rfl) (by kernel_rfl) (by kernel_rfl) (by kernel_rfl)
def g32o (A : Ar) := sub64o
theorem g32o_sound : ∀ args v, g32o realA args = some (true, v) → Fn1 Try.prog 32 args v := sub64o_sound Try.func32 (by kernel_rfl) (by kernel_rfl) (by kernel_rfl) (by kernel_rfl)
def g28O (A : Ar) : Orc := orcOf [(30, g30o A), (31, g31o A), (32, g32o A)]
theorem g28O_sound : OSound Try.prog (g28O realA) := orc_sound fun f g hm args v hv => by
  simp only [List.mem_cons, List.not_mem_nil, or_false, Prod.mk.injEq] at hm
  rcases hm with ⟨rfl, rfl⟩ | ⟨rfl, rfl⟩ | ⟨rfl, rfl⟩
  · exact g30o_sound _ _ hv
  · exact g31o_sound _ _ hv
  · exact g32o_sound _ _ hv
theorem g28O_det : ODet (g28O realA) := orc_det _
def g28an : Ann := [(0, ([0, 1, 2], [])), (1, ([2, 3, 4, 6], [1000, 1001, 1002])), (2, ([2, 3, 4, 6, 7, 8], [1000, 1001, 1002])), (3, ([2, 3, 4, 6, 7, 8, 13], [1000, 1001, 1002])), (4, ([2, 3, 4, 6, 7, 8, 13], [1000, 1001, 1002])), (5, ([2, 3, 4, 6, 7, 8, 9, 13], [1000, 1001, 1002])), (6, ([2, 3, 4, 6, 7, 8, 9, 10, 11, 13], [1000, 1001, 1002])), (7, ([2, 3, 4, 6, 7, 8, 9, 10, 11, 13], [1000, 1001, 1002])), (8, ([2, 3, 4, 6, 8, 9, 10, 11, 12, 13], [1000, 1001, 1002])), (9, ([2, 3, 4, 6, 7, 8, 9, 11, 13], [1000, 1001, 1002])), (10, ([2, 3, 4, 6, 7, 8, 13], [1000, 1001, 1002])), (11, ([3, 6], [1000, 1002]))]
def g28res : List ResultVar := [.cell 6 38]
noncomputable def g28D {R : Type} (A : Ar) (n : Nat) (p : List Bool) (K : Ex → St → Option R) (s : St) : Option R := codeD A gtys (g28O A) g28an n (sub (bodyOf Try.f28) p) K s
noncomputable def g28V {R : Type} (A : Ar) (n : Nat) (p : List Bool) (m : Nat) (K : Ex → St → Option R) (s : St) : Option R := loopD (fun K' s'' => codeD A gtys (g28O A) g28an n (sub (bodyOf Try.f28) p) K' s'') m K s
noncomputable def g28Q {R : Type} (A : Ar) (n : Nat) (p : List Bool) (K : Ex → St → Option R) : Ex → St → Option R := seqC (g28D A n p K) K
noncomputable def g28W {R : Type} (A : Ar) (n : Nat) (p : List Bool) (m : Nat) (K : Ex → St → Option R) : Ex → St → Option R := seqC (g28V A n p m K) K
noncomputable def g28T {R : Type} (kk : AV → Heap → Option R) : Ex → St → Option R := finD gtys g28res kk
theorem g28Qn {R : Type} (A : Ar) (n : Nat) (p : List Bool) (K : Ex → St → Option R) (s : St) : g28Q A n p K .normal s = g28D A n p K s := rfl
theorem g28Qe {R : Type} (A : Ar) (n : Nat) (p : List Bool) (K : Ex → St → Option R) (i : Nat) (s : St) : g28Q A n p K (.exit i) s = K (.exit i) s := rfl
theorem g28Wn {R : Type} (A : Ar) (n : Nat) (p : List Bool) (m : Nat) (K : Ex → St → Option R) (s : St) : g28W A n p m K .normal s = g28V A n p m K s := rfl
theorem g28We {R : Type} (A : Ar) (n : Nat) (p : List Bool) (m : Nat) (K : Ex → St → Option R) (i : Nat) (s : St) : g28W A n p m K (.exit i) s = K (.exit i) s := rfl
theorem g28Vs {R : Type} (A : Ar) (n : Nat) (p : List Bool) (m : Nat) (K : Ex → St → Option R) (s : St) : g28V A n p (m + 1) K s = g28D A n p (g28W A n p m K) s := rfl
theorem g28F {R : Type} (A : Ar) (n : Nat) (p : List Bool) (i : Nat) (K : Ex → St → Option R) (s s' : St) (hf : firstReg (sub (bodyOf Try.f28) p) = some i) (h : keep g28an i s = keep g28an i s') : g28D A n p K s = g28D A n p K s' := codeD_first hf h K
section
variable {R : Type} (A : Ar) (n : Nat) (K : Ex → St → Option R) (s : St)
theorem g28p1 : g28D A n (pth 1) K s = g28D A n (pth 2) (g28Q A n (pth 3) K) s := by kernel_rfl
theorem g28p3 : g28D A n (pth 3) K s = g28D A n (pth 5) (g28Q A n (pth 7) K) s := by kernel_rfl
theorem g28p7 : g28D A n (pth 7) K s = g28D A n (pth 11) (g28Q A n (pth 15) K) s := by kernel_rfl
theorem g28p11 : g28D A n (pth 11) K s = g28D A n (pth 19) (g28Q A n (pth 27) K) s := by kernel_rfl
theorem g28p27 : g28D A n (pth 27) K s = g28D A n (pth 43) (blockK 0 K) s := by kernel_rfl
theorem g28p43 : g28D A n (pth 43) K s = g28V A n (pth 75) n K s := by kernel_rfl
theorem g28p75 : g28D A n (pth 75) K s = g28D A n (pth 139) (g28Q A n (pth 203) K) s := by kernel_rfl
theorem g28p203 : g28D A n (pth 203) K s = g28D A n (pth 331) (g28Q A n (pth 459) K) s := by kernel_rfl
theorem g28p331 (t : Bool) : ev s (.tmp 14) = some (.v (.cell (.bool t))) → g28D A n (pth 331) K s = (match t with
    | true => g28D A n (pth 587) K s
    | false => g28D A n (pth 843) K s) := codeD_cond t
theorem g28p587 : g28D A n (pth 587) K s = K .normal s := by kernel_rfl
theorem g28p843 : g28D A n (pth 843) K s = K (.exit 0) s := by kernel_rfl
theorem g28p459 : g28D A n (pth 459) K s = g28D A n (pth 715) (g28Q A n (pth 971) K) s := by kernel_rfl
theorem g28p715 : g28D A n (pth 715) K s = g28D A n (pth 1227) (blockK 1 K) s := by kernel_rfl
theorem g28p1227 : g28D A n (pth 1227) K s = g28D A n (pth 2251) (g28Q A n (pth 3275) K) s := by kernel_rfl
theorem g28p3275 : g28D A n (pth 3275) K s = g28D A n (pth 5323) (g28Q A n (pth 7371) K) s := by kernel_rfl
theorem g28p7371 : g28D A n (pth 7371) K s = g28D A n (pth 11467) (g28Q A n (pth 15563) K) s := by kernel_rfl
theorem g28p15563 : g28D A n (pth 15563) K s = g28D A n (pth 23755) (g28Q A n (pth 31947) K) s := by kernel_rfl
theorem g28p31947 : g28D A n (pth 31947) K s = g28D A n (pth 48331) (g28Q A n (pth 64715) K) s := by kernel_rfl
theorem g28p15 : g28D A n (pth 15) K s = g28D A n (pth 23) (g28Q A n (pth 31) K) s := by kernel_rfl
theorem g28p31 : g28D A n (pth 31) K s = K .ret s := by kernel_rfl
def g28R4s0 (A : Ar) (x0 x1 x2 : Nat) (x3 : Int) (x4 x5 x6 : List Nat) : St := ⟨[(9, (i6 x3)), (15, (i6 x3)), (2, (u64v x0)), (3, (pT 1000 0)), (4, (pT 1001 0)), (6, (pT 1002 0)), (7, (u64v x1)), (8, (u64v x2)), (13, (i6 x3))], [(1000, (bU 5 x4 38)), (1001, (bU 5 x5 38)), (1002, (bU 5 x6 38))]⟩
theorem g28R4 (x0 x1 x2 : Nat) (x3 : Int) (x4 x5 x6 : List Nat) : g28D A n (pth 2251) K ⟨[(2, (u64v x0)), (3, (pT 1000 0)), (4, (pT 1001 0)), (6, (pT 1002 0)), (7, (u64v x1)), (8, (u64v x2)), (13, (i6 x3))], [(1000, (bU 5 x4 38)), (1001, (bU 5 x5 38)), (1002, (bU 5 x6 38))]⟩ = K .normal (g28R4s0 A x0 x1 x2 x3 x4 x5 x6) := by kernel_rfl
def g28R5s0 (A : Ar) (x0 x1 x2 : Nat) (x3 x4 : Int) (x5 x6 x7 : List Nat) : St := ⟨[(11, (u64v (g30r1 A (x6.getD (A.toN x3) 0) x0))), (10, (u64v (g30r0 A (x6.getD (A.toN x3) 0) x0))), (23, (u64v (g30r1 A (x6.getD (A.toN x3) 0) x0))), (22, (u64v (g30r0 A (x6.getD (A.toN x3) 0) x0))), (16, (.tup [(.cell (.nat .u64 (g30r0 A (x6.getD (A.toN x3) 0) x0))), (.cell (.nat .u64 (g30r1 A (x6.getD (A.toN x3) 0) x0)))])), (21, (.tup [(.cell (.nat .u64 (g30r0 A (x6.getD (A.toN x3) 0) x0))), (.cell (.nat .u64 (g30r1 A (x6.getD (A.toN x3) 0) x0)))])), (20, (u64v x0)), (19, (u64v (x6.getD (A.toN x3) 0))), (18, (.v (.cell (.ptr 1001 0 (some ⟨A.toN x3, 1, 5, 0, 0, 0⟩))))), (17, (i6 x3)), (2, (u64v x0)), (3, (pT 1000 0)), (4, (pT 1001 0)), (6, (pT 1002 0)), (7, (u64v x1)), (8, (u64v x2)), (9, (i6 x3)), (13, (i6 x4))], [(1000, (bU 5 x5 38)), (1001, (bU 5 x6 38)), (1002, (bU 5 x7 38))]⟩
theorem g28R5 (x0 x1 x2 : Nat) (x3 x4 : Int) (x5 x6 x7 : List Nat) : g28D A n (pth 5323) K ⟨[(2, (u64v x0)), (3, (pT 1000 0)), (4, (pT 1001 0)), (6, (pT 1002 0)), (7, (u64v x1)), (8, (u64v x2)), (9, (i6 x3)), (13, (i6 x4))], [(1000, (bU 5 x5 38)), (1001, (bU 5 x6 38)), (1002, (bU 5 x7 38))]⟩ = match (generalizing := false) A.neg x3 with
    | true => none
    | false => match (generalizing := false) A.lt (A.toN x3) 5 with
      | true => match (generalizing := false) g30ok A (x6.getD (A.toN x3) 0) x0 with
        | true => K .normal (g28R5s0 A x0 x1 x2 x3 x4 x5 x6 x7)
        | false => none
      | false => none := by kernel_rfl
def g28R6s0 (A : Ar) (x0 x1 x2 : Nat) (x3 : Int) (x4 x5 : Nat) (x6 : Int) (x7 x8 x9 : List Nat) : St := ⟨[(12, (u64v 0)), (2, (u64v x0)), (3, (pT 1000 0)), (4, (pT 1001 0)), (6, (pT 1002 0)), (7, (u64v x1)), (8, (u64v x2)), (9, (i6 x3)), (10, (u64v x4)), (11, (u64v x5)), (13, (i6 x6))], [(1000, (bU 5 x7 38)), (1001, (bU 5 x8 38)), (1002, (bU 5 x9 38))]⟩
theorem g28R6 (x0 x1 x2 : Nat) (x3 : Int) (x4 x5 : Nat) (x6 : Int) (x7 x8 x9 : List Nat) : g28D A n (pth 11467) K ⟨[(2, (u64v x0)), (3, (pT 1000 0)), (4, (pT 1001 0)), (6, (pT 1002 0)), (7, (u64v x1)), (8, (u64v x2)), (9, (i6 x3)), (10, (u64v x4)), (11, (u64v x5)), (13, (i6 x6))], [(1000, (bU 5 x7 38)), (1001, (bU 5 x8 38)), (1002, (bU 5 x9 38))]⟩ = K .normal (g28R6s0 A x0 x1 x2 x3 x4 x5 x6 x7 x8 x9) := by kernel_rfl
def g28R7s0 (A : Ar) (x0 x1 x2 : Nat) (x3 : Int) (x4 x5 : Nat) (x6 : Int) (x7 x8 x9 : List Nat) : St := ⟨[(12, (u64v (add64b x5 x1 0))), (11, (u64v (add64a x5 x1 0))), (29, (u64v (add64b x5 x1 0))), (28, (u64v (add64a x5 x1 0))), (24, (.tup [(.cell (.nat .u64 (add64a x5 x1 0))), (.cell (.nat .u64 (add64b x5 x1 0)))])), (27, (.tup [(.cell (.nat .u64 (add64a x5 x1 0))), (.cell (.nat .u64 (add64b x5 x1 0)))])), (26, (u64v x1)), (25, (u64v x5)), (2, (u64v x0)), (3, (pT 1000 0)), (4, (pT 1001 0)), (6, (pT 1002 0)), (7, (u64v x1)), (8, (u64v x2)), (9, (i6 x3)), (10, (u64v x4)), (11, (u64v x5)), (13, (i6 x6))], [(1000, (bU 5 x7 38)), (1001, (bU 5 x8 38)), (1002, (bU 5 x9 38))]⟩
theorem g28R7 (x0 x1 x2 : Nat) (x3 : Int) (x4 x5 : Nat) (x6 : Int) (x7 x8 x9 : List Nat) : g28D A n (pth 23755) K ⟨[(2, (u64v x0)), (3, (pT 1000 0)), (4, (pT 1001 0)), (6, (pT 1002 0)), (7, (u64v x1)), (8, (u64v x2)), (9, (i6 x3)), (10, (u64v x4)), (11, (u64v x5)), (13, (i6 x6))], [(1000, (bU 5 x7 38)), (1001, (bU 5 x8 38)), (1002, (bU 5 x9 38))]⟩ = match (generalizing := false) carryok x5 x1 0 with
    | true => K .normal (g28R7s0 A x0 x1 x2 x3 x4 x5 x6 x7 x8 x9)
    | false => none := by kernel_rfl
def g28R8s0 (A : Ar) (x0 x1 : Nat) (x2 : Int) (x3 x4 x5 : Nat) (x6 : Int) (x7 x8 x9 : List Nat) : St := ⟨[(7, (u64v (A.nb .add .u64 x3 x5))), (32, (u64v (A.nb .add .u64 x3 x5))), (31, (u64v x5)), (30, (u64v x3)), (2, (u64v x0)), (3, (pT 1000 0)), (4, (pT 1001 0)), (6, (pT 1002 0)), (8, (u64v x1)), (9, (i6 x2)), (10, (u64v x3)), (11, (u64v x4)), (12, (u64v x5)), (13, (i6 x6))], [(1000, (bU 5 x7 38)), (1001, (bU 5 x8 38)), (1002, (bU 5 x9 38))]⟩
theorem g28R8 (x0 x1 : Nat) (x2 : Int) (x3 x4 x5 : Nat) (x6 : Int) (x7 x8 x9 : List Nat) : g28D A n (pth 48331) K ⟨[(2, (u64v x0)), (3, (pT 1000 0)), (4, (pT 1001 0)), (6, (pT 1002 0)), (8, (u64v x1)), (9, (i6 x2)), (10, (u64v x3)), (11, (u64v x4)), (12, (u64v x5)), (13, (i6 x6))], [(1000, (bU 5 x7 38)), (1001, (bU 5 x8 38)), (1002, (bU 5 x9 38))]⟩ = K .normal (g28R8s0 A x0 x1 x2 x3 x4 x5 x6 x7 x8 x9) := by kernel_rfl
def g28R9s0 (A : Ar) (x0 x1 x2 : Nat) (x3 : Int) (x4 : Nat) (x5 : Int) (x6 x7 x8 : List Nat) : St := ⟨[(8, (u64v (sub64b (x6.getD (A.toN x3) 0) x4 x2))), (43, (.v (.cell (.ptr 1000 0 (some ⟨A.toN x3, 1, 5, 0, 0, 0⟩))))), (42, (u64v (sub64b (x6.getD (A.toN x3) 0) x4 x2))), (41, (u64v (sub64a (x6.getD (A.toN x3) 0) x4 x2))), (33, (.tup [(.cell (.nat .u64 (sub64a (x6.getD (A.toN x3) 0) x4 x2))), (.cell (.nat .u64 (sub64b (x6.getD (A.toN x3) 0) x4 x2)))])), (40, (.tup [(.cell (.nat .u64 (sub64a (x6.getD (A.toN x3) 0) x4 x2))), (.cell (.nat .u64 (sub64b (x6.getD (A.toN x3) 0) x4 x2)))])), (39, (u64v x2)), (38, (u64v x4)), (37, (u64v (x6.getD (A.toN x3) 0))), (36, (.v (.cell (.ptr 1000 0 (some ⟨A.toN x3, 1, 5, 0, 0, 0⟩))))), (35, (i6 x3)), (34, (i6 x3)), (2, (u64v x0)), (3, (pT 1000 0)), (4, (pT 1001 0)), (6, (pT 1002 0)), (7, (u64v x1)), (8, (u64v x2)), (9, (i6 x3)), (11, (u64v x4)), (13, (i6 x5))], [(1000, (bU 5 (x6.set (A.toN x3) (sub64a (x6.getD (A.toN x3) 0) x4 x2)) 38)), (1001, (bU 5 x7 38)), (1002, (bU 5 x8 38))]⟩
theorem g28R9 (x0 x1 x2 : Nat) (x3 : Int) (x4 : Nat) (x5 : Int) (x6 x7 x8 : List Nat) : g28D A n (pth 64715) K ⟨[(2, (u64v x0)), (3, (pT 1000 0)), (4, (pT 1001 0)), (6, (pT 1002 0)), (7, (u64v x1)), (8, (u64v x2)), (9, (i6 x3)), (11, (u64v x4)), (13, (i6 x5))], [(1000, (bU 5 x6 38)), (1001, (bU 5 x7 38)), (1002, (bU 5 x8 38))]⟩ = match (generalizing := false) A.neg x3 with
    | true => none
    | false => match (generalizing := false) A.lt (A.toN x3) 5 with
      | true => match (generalizing := false) carryok (x6.getD (A.toN x3) 0) x4 x2 with
        | true => match (generalizing := false) A.neg x3 with
          | true => none
          | false => match (generalizing := false) A.lt (A.toN x3) 5 with
            | true => K .normal (g28R9s0 A x0 x1 x2 x3 x4 x5 x6 x7 x8)
            | false => none
        | false => none
      | false => none := by kernel_rfl
def g28R10s0 (A : Ar) (x0 x1 x2 : Nat) (x3 : Int) (x4 x5 x6 : List Nat) : St := ⟨[(13, (i6 (A.ib .add .i64 x3 1))), (44, (i6 (A.ib .add .i64 x3 1))), (2, (u64v x0)), (3, (pT 1000 0)), (4, (pT 1001 0)), (6, (pT 1002 0)), (7, (u64v x1)), (8, (u64v x2)), (13, (i6 x3))], [(1000, (bU 5 x4 38)), (1001, (bU 5 x5 38)), (1002, (bU 5 x6 38))]⟩
theorem g28R10 (x0 x1 x2 : Nat) (x3 : Int) (x4 x5 x6 : List Nat) : g28D A n (pth 971) K ⟨[(2, (u64v x0)), (3, (pT 1000 0)), (4, (pT 1001 0)), (6, (pT 1002 0)), (7, (u64v x1)), (8, (u64v x2)), (13, (i6 x3))], [(1000, (bU 5 x4 38)), (1001, (bU 5 x5 38)), (1002, (bU 5 x6 38))]⟩ = K .normal (g28R10s0 A x0 x1 x2 x3 x4 x5 x6) := by kernel_rfl
def g28R3s0 (A : Ar) (x0 x1 x2 : Nat) (x3 : Int) (x4 x5 x6 : List Nat) : St := ⟨[(14, (bO (A.ic .lss x3 5))), (2, (u64v x0)), (3, (pT 1000 0)), (4, (pT 1001 0)), (6, (pT 1002 0)), (7, (u64v x1)), (8, (u64v x2)), (13, (i6 x3))], [(1000, (bU 5 x4 38)), (1001, (bU 5 x5 38)), (1002, (bU 5 x6 38))]⟩
theorem g28R3 (x0 x1 x2 : Nat) (x3 : Int) (x4 x5 x6 : List Nat) : g28D A n (pth 139) K ⟨[(2, (u64v x0)), (3, (pT 1000 0)), (4, (pT 1001 0)), (6, (pT 1002 0)), (7, (u64v x1)), (8, (u64v x2)), (13, (i6 x3))], [(1000, (bU 5 x4 38)), (1001, (bU 5 x5 38)), (1002, (bU 5 x6 38))]⟩ = K .normal (g28R3s0 A x0 x1 x2 x3 x4 x5 x6) := by kernel_rfl
def g28R11s0 (A : Ar) (x0 x1 : List Nat) : St := ⟨[(45, (aN .u64 5 x0)), (3, (pT 1000 0)), (6, (pT 1002 0))], [(1000, (bU 5 x0 38)), (1002, (bU 5 x0 38))]⟩
theorem g28R11 (x0 x1 : List Nat) : g28D A n (pth 23) K ⟨[(3, (pT 1000 0)), (6, (pT 1002 0))], [(1000, (bU 5 x0 38)), (1002, (bU 5 x1 38))]⟩ = K .normal (g28R11s0 A x0 x1) := by kernel_rfl
def g28R0s0 (A : Ar) (x0 x1 : List Nat) (x2 : Nat) : St := ⟨[(6, (pT 1002 0)), (4, (pT 1001 0)), (3, (pT 1000 0)), (0, (aN .u64 5 x0)), (1, (aN .u64 5 x1)), (2, (u64v x2))], [(1002, (bU 5 [0, 0, 0, 0, 0] 38)), (1001, (bU 5 x1 38)), (1000, (bU 5 x0 38))]⟩
theorem g28R0 (x0 x1 : List Nat) (x2 : Nat) : g28D A n (pth 2) K ⟨[(0, (aN .u64 5 x0)), (1, (aN .u64 5 x1)), (2, (u64v x2))], []⟩ = K .normal (g28R0s0 A x0 x1 x2) := by kernel_rfl
def g28R1s0 (A : Ar) (x0 : Nat) (x1 x2 x3 : List Nat) : St := ⟨[(8, (u64v 0)), (7, (u64v 0)), (2, (u64v x0)), (3, (pT 1000 0)), (4, (pT 1001 0)), (6, (pT 1002 0))], [(1000, (bU 5 x1 38)), (1001, (bU 5 x2 38)), (1002, (bU 5 x3 38))]⟩
theorem g28R1 (x0 : Nat) (x1 x2 x3 : List Nat) : g28D A n (pth 5) K ⟨[(2, (u64v x0)), (3, (pT 1000 0)), (4, (pT 1001 0)), (6, (pT 1002 0))], [(1000, (bU 5 x1 38)), (1001, (bU 5 x2 38)), (1002, (bU 5 x3 38))]⟩ = K .normal (g28R1s0 A x0 x1 x2 x3) := by kernel_rfl
def g28R2s0 (A : Ar) (x0 x1 x2 : Nat) (x3 x4 x5 : List Nat) : St := ⟨[(13, (i6 0)), (2, (u64v x0)), (3, (pT 1000 0)), (4, (pT 1001 0)), (6, (pT 1002 0)), (7, (u64v x1)), (8, (u64v x2))], [(1000, (bU 5 x3 38)), (1001, (bU 5 x4 38)), (1002, (bU 5 x5 38))]⟩
theorem g28R2 (x0 x1 x2 : Nat) (x3 x4 x5 : List Nat) : g28D A n (pth 19) K ⟨[(2, (u64v x0)), (3, (pT 1000 0)), (4, (pT 1001 0)), (6, (pT 1002 0)), (7, (u64v x1)), (8, (u64v x2))], [(1000, (bU 5 x3 38)), (1001, (bU 5 x4 38)), (1002, (bU 5 x5 38))]⟩ = K .normal (g28R2s0 A x0 x1 x2 x3 x4 x5) := by kernel_rfl
end
def g28J4 {R : Type} (A : Ar) (n : Nat) (kk : AV → Heap → Option R) (lg28L3 : Nat → Nat → Nat → Int → List Nat → List Nat → List Nat → Option R) (x0 x1 x2 : Nat) (x3 : Int) (x4 x5 x6 : List Nat) : Option R :=
  match (generalizing := false) A.neg x3 with
  | true => none
  | false => match (generalizing := false) A.lt (A.toN x3) 5 with
    | true => match (generalizing := false) g30ok A (x5.getD (A.toN x3) 0) x0 with
      | true => match (generalizing := false) carryok (g30r1 A (x5.getD (A.toN x3) 0) x0) x1 0 with
        | true => match (generalizing := false) A.neg x3 with
          | true => none
          | false => match (generalizing := false) A.lt (A.toN x3) 5 with
            | true => match (generalizing := false) carryok (x4.getD (A.toN x3) 0) (add64a (g30r1 A (x5.getD (A.toN x3) 0) x0) x1 0) x2 with
              | true => match (generalizing := false) A.neg x3 with
                | true => none
                | false => match (generalizing := false) A.lt (A.toN x3) 5 with
                  | true => lg28L3 x0 (A.nb .add .u64 (g30r0 A (x5.getD (A.toN x3) 0) x0) (add64b (g30r1 A (x5.getD (A.toN x3) 0) x0) x1 0)) (sub64b (x4.getD (A.toN x3) 0) (add64a (g30r1 A (x5.getD (A.toN x3) 0) x0) x1 0) x2) (A.ib .add .i64 x3 1) (x4.set (A.toN x3) (sub64a (x4.getD (A.toN x3) 0) (add64a (g30r1 A (x5.getD (A.toN x3) 0) x0) x1 0) x2)) x5 x6
                  | false => none
              | false => none
            | false => none
        | false => none
      | false => none
    | false => none
set_option maxRecDepth 100000 in
theorem g28J4_eq {R : Type} (A : Ar) (n : Nat) (kk : AV → Heap → Option R) (m0 : Nat) (lg28L3 : Nat → Nat → Nat → Int → List Nat → List Nat → List Nat → Option R) 
    (hg28L3 : ∀ (s : St) (x0 x1 x2 : Nat) (x3 : Int) (x4 x5 x6 : List Nat), keep g28an 3 s = ⟨[(2, (u64v x0)), (3, (pT 1000 0)), (4, (pT 1001 0)), (6, (pT 1002 0)), (7, (u64v x1)), (8, (u64v x2)), (13, (i6 x3))], [(1000, (bU 5 x4 38)), (1001, (bU 5 x5 38)), (1002, (bU 5 x6 38))]⟩ → g28V A n (pth 75) m0 (blockK 0 (g28Q A n (pth 15) (g28T kk))) s = lg28L3 x0 x1 x2 x3 x4 x5 x6) (s : St) (x0 x1 x2 : Nat) (x3 : Int) (x4 x5 x6 : List Nat) (h : keep g28an 4 s = ⟨[(2, (u64v x0)), (3, (pT 1000 0)), (4, (pT 1001 0)), (6, (pT 1002 0)), (7, (u64v x1)), (8, (u64v x2)), (13, (i6 x3))], [(1000, (bU 5 x4 38)), (1001, (bU 5 x5 38)), (1002, (bU 5 x6 38))]⟩) :
    g28D A n (pth 459) (g28W A n (pth 75) m0 (blockK 0 (g28Q A n (pth 15) (g28T kk)))) s = g28J4 A n kk lg28L3 x0 x1 x2 x3 x4 x5 x6 := by
  have h1 := (g28Wn A n _ _ _ _).trans (hg28L3 (g28R10s0 A x0 (A.nb .add .u64 (g30r0 A (x5.getD (A.toN x3) 0) x0) (add64b (g30r1 A (x5.getD (A.toN x3) 0) x0) x1 0)) (sub64b (x4.getD (A.toN x3) 0) (add64a (g30r1 A (x5.getD (A.toN x3) 0) x0) x1 0) x2) x3 (x4.set (A.toN x3) (sub64a (x4.getD (A.toN x3) 0) (add64a (g30r1 A (x5.getD (A.toN x3) 0) x0) x1 0) x2)) x5 x6) x0 (A.nb .add .u64 (g30r0 A (x5.getD (A.toN x3) 0) x0) (add64b (g30r1 A (x5.getD (A.toN x3) 0) x0) x1 0)) (sub64b (x4.getD (A.toN x3) 0) (add64a (g30r1 A (x5.getD (A.toN x3) 0) x0) x1 0) x2) (A.ib .add .i64 x3 1) (x4.set (A.toN x3) (sub64a (x4.getD (A.toN x3) 0) (add64a (g30r1 A (x5.getD (A.toN x3) 0) x0) x1 0) x2)) x5 x6 (by kernel_rfl))
  have h2 := (g28F A n _ 10 _ (g28R9s0 A x0 (A.nb .add .u64 (g30r0 A (x5.getD (A.toN x3) 0) x0) (add64b (g30r1 A (x5.getD (A.toN x3) 0) x0) x1 0)) x2 x3 (add64a (g30r1 A (x5.getD (A.toN x3) 0) x0) x1 0) x3 x4 x5 x6) _ (by kernel_rfl) (by kernel_rfl)).trans (g28R10 A n (g28W A n (pth 75) m0 (blockK 0 (g28Q A n (pth 15) (g28T kk)))) x0 (A.nb .add .u64 (g30r0 A (x5.getD (A.toN x3) 0) x0) (add64b (g30r1 A (x5.getD (A.toN x3) 0) x0) x1 0)) (sub64b (x4.getD (A.toN x3) 0) (add64a (g30r1 A (x5.getD (A.toN x3) 0) x0) x1 0) x2) x3 (x4.set (A.toN x3) (sub64a (x4.getD (A.toN x3) 0) (add64a (g30r1 A (x5.getD (A.toN x3) 0) x0) x1 0) x2)) x5 x6)
  rw [h1] at h2
  have h3 := (g28Qn A n _ _ _).trans h2
  have h4 := (blockK_n 1 _ _).trans h3
  have h5 := (g28F A n _ 9 _ (g28R8s0 A x0 x2 x3 (g30r0 A (x5.getD (A.toN x3) 0) x0) (add64a (g30r1 A (x5.getD (A.toN x3) 0) x0) x1 0) (add64b (g30r1 A (x5.getD (A.toN x3) 0) x0) x1 0) x3 x4 x5 x6) _ (by kernel_rfl) (by kernel_rfl)).trans (g28R9 A n (blockK 1 (g28Q A n (pth 971) (g28W A n (pth 75) m0 (blockK 0 (g28Q A n (pth 15) (g28T kk)))))) x0 (A.nb .add .u64 (g30r0 A (x5.getD (A.toN x3) 0) x0) (add64b (g30r1 A (x5.getD (A.toN x3) 0) x0) x1 0)) x2 x3 (add64a (g30r1 A (x5.getD (A.toN x3) 0) x0) x1 0) x3 x4 x5 x6)
  rw [h4] at h5
  have h6 := (g28Qn A n _ _ _).trans h5
  have h7 := (g28F A n _ 8 _ (g28R7s0 A x0 x1 x2 x3 (g30r0 A (x5.getD (A.toN x3) 0) x0) (g30r1 A (x5.getD (A.toN x3) 0) x0) x3 x4 x5 x6) _ (by kernel_rfl) (by kernel_rfl)).trans (g28R8 A n (g28Q A n (pth 64715) (blockK 1 (g28Q A n (pth 971) (g28W A n (pth 75) m0 (blockK 0 (g28Q A n (pth 15) (g28T kk))))))) x0 x2 x3 (g30r0 A (x5.getD (A.toN x3) 0) x0) (add64a (g30r1 A (x5.getD (A.toN x3) 0) x0) x1 0) (add64b (g30r1 A (x5.getD (A.toN x3) 0) x0) x1 0) x3 x4 x5 x6)
  rw [h6] at h7
  have h8 := (g28p31947 A n _ _).trans h7
  have h9 := (g28Qn A n _ _ _).trans h8
  have h10 := (g28F A n _ 7 _ (g28R6s0 A x0 x1 x2 x3 (g30r0 A (x5.getD (A.toN x3) 0) x0) (g30r1 A (x5.getD (A.toN x3) 0) x0) x3 x4 x5 x6) _ (by kernel_rfl) (by kernel_rfl)).trans (g28R7 A n (g28Q A n (pth 31947) (blockK 1 (g28Q A n (pth 971) (g28W A n (pth 75) m0 (blockK 0 (g28Q A n (pth 15) (g28T kk))))))) x0 x1 x2 x3 (g30r0 A (x5.getD (A.toN x3) 0) x0) (g30r1 A (x5.getD (A.toN x3) 0) x0) x3 x4 x5 x6)
  rw [h9] at h10
  have h11 := (g28p15563 A n _ _).trans h10
  have h12 := (g28Qn A n _ _ _).trans h11
  have h13 := (g28F A n _ 6 _ (g28R5s0 A x0 x1 x2 x3 x3 x4 x5 x6) _ (by kernel_rfl) (by kernel_rfl)).trans (g28R6 A n (g28Q A n (pth 15563) (blockK 1 (g28Q A n (pth 971) (g28W A n (pth 75) m0 (blockK 0 (g28Q A n (pth 15) (g28T kk))))))) x0 x1 x2 x3 (g30r0 A (x5.getD (A.toN x3) 0) x0) (g30r1 A (x5.getD (A.toN x3) 0) x0) x3 x4 x5 x6)
  rw [h12] at h13
  have h14 := (g28p7371 A n _ _).trans h13
  have h15 := (g28Qn A n _ _ _).trans h14
  have h16 := (g28F A n _ 5 _ (g28R4s0 A x0 x1 x2 x3 x4 x5 x6) _ (by kernel_rfl) (by kernel_rfl)).trans (g28R5 A n (g28Q A n (pth 7371) (blockK 1 (g28Q A n (pth 971) (g28W A n (pth 75) m0 (blockK 0 (g28Q A n (pth 15) (g28T kk))))))) x0 x1 x2 x3 x3 x4 x5 x6)
  rw [h15] at h16
  have h17 := (g28p3275 A n _ _).trans h16
  have h18 := (g28Qn A n _ _ _).trans h17
  have h19 := (g28F A n _ 4 _ ⟨[(2, (u64v x0)), (3, (pT 1000 0)), (4, (pT 1001 0)), (6, (pT 1002 0)), (7, (u64v x1)), (8, (u64v x2)), (13, (i6 x3))], [(1000, (bU 5 x4 38)), (1001, (bU 5 x5 38)), (1002, (bU 5 x6 38))]⟩ _ (by kernel_rfl) (by kernel_rfl)).trans (g28R4 A n (g28Q A n (pth 3275) (blockK 1 (g28Q A n (pth 971) (g28W A n (pth 75) m0 (blockK 0 (g28Q A n (pth 15) (g28T kk))))))) x0 x1 x2 x3 x4 x5 x6)
  rw [h18] at h19
  have h20 := (g28p1227 A n _ _).trans h19
  have h21 := (g28p715 A n _ _).trans h20
  have h22 := (g28p459 A n _ _).trans h21
  exact (g28F A n _ 4 _ _ ⟨[(2, (u64v x0)), (3, (pT 1000 0)), (4, (pT 1001 0)), (6, (pT 1002 0)), (7, (u64v x1)), (8, (u64v x2)), (13, (i6 x3))], [(1000, (bU 5 x4 38)), (1001, (bU 5 x5 38)), (1002, (bU 5 x6 38))]⟩ (by kernel_rfl) (h.trans (by kernel_rfl))).trans (h22.trans (by kernel_rfl))
def g28L3 {R : Type} (A : Ar) (n : Nat) (kk : AV → Heap → Option R)  : Nat → Nat → Nat → Nat → Int → List Nat → List Nat → List Nat → Option R
  | 0, _, _, _, _, _, _, _ => none
  | m + 1, x0, x1, x2, x3, x4, x5, x6 => match (generalizing := false) A.ic .lss x3 5 with
  | true => g28J4 A n kk (g28L3 A n kk  m) x0 x1 x2 x3 x4 x5 x6
  | false => kk (aN .u64 5 x4) [(1000, (bU 5 x4 38)), (1002, (bU 5 x4 38))]
set_option maxRecDepth 100000 in
theorem g28L3_eq {R : Type} (A : Ar) (n : Nat) (kk : AV → Heap → Option R)    (m : Nat) (s : St) (x0 x1 x2 : Nat) (x3 : Int) (x4 x5 x6 : List Nat) (h : keep g28an 3 s = ⟨[(2, (u64v x0)), (3, (pT 1000 0)), (4, (pT 1001 0)), (6, (pT 1002 0)), (7, (u64v x1)), (8, (u64v x2)), (13, (i6 x3))], [(1000, (bU 5 x4 38)), (1001, (bU 5 x5 38)), (1002, (bU 5 x6 38))]⟩) :
    g28V A n (pth 75) m (blockK 0 (g28Q A n (pth 15) (g28T kk))) s = g28L3 A n kk  m x0 x1 x2 x3 x4 x5 x6 := by
  induction m generalizing s x0 x1 x2 x3 x4 x5 x6 with
  | zero => rfl
  | succ m ih =>
    have h1 := (g28Qn A n _ _ _).trans (g28J4_eq A n kk m (g28L3 A n kk  m) ih  (g28R3s0 A x0 x1 x2 x3 x4 x5 x6) x0 x1 x2 x3 x4 x5 x6 (by kernel_rfl))
    have h2 := (g28p587 A n _ _).trans h1
    have h3 : (g28T kk) .ret (g28R11s0 A x4 x6) = kk (aN .u64 5 x4) [(1000, (bU 5 x4 38)), (1002, (bU 5 x4 38))] := by kernel_rfl
    have h4 := (g28p31 A n _ _).trans h3
    have h5 := (g28Qn A n _ _ _).trans h4
    have h6 := (g28F A n _ 11 _ (g28R3s0 A x0 x1 x2 x3 x4 x5 x6) _ (by kernel_rfl) (by kernel_rfl)).trans (g28R11 A n (g28Q A n (pth 31) (g28T kk)) x4 x6)
    rw [h5] at h6
    have h7 := (g28p15 A n _ _).trans h6
    have h8 := (g28Qn A n _ _ _).trans h7
    have h9 := (blockK_hit 0 _ _).trans h8
    have h10 := (g28We A n (pth 75) m _ _ _).trans h9
    have h11 := (g28Qe A n (pth 459) _ _ _).trans h10
    have h12 := (g28p843 A n _ _).trans h11
    have h13 := g28p331 A n (g28Q A n (pth 459) (g28W A n (pth 75) m (blockK 0 (g28Q A n (pth 15) (g28T kk))))) (g28R3s0 A x0 x1 x2 x3 x4 x5 x6) (A.ic .lss x3 5) (by kernel_rfl)
    rw [h2, h12] at h13
    have h14 := (g28p203 A n _ _).trans h13
    have h15 := (g28Qn A n _ _ _).trans h14
    have h16 := (g28F A n _ 3 _ ⟨[(2, (u64v x0)), (3, (pT 1000 0)), (4, (pT 1001 0)), (6, (pT 1002 0)), (7, (u64v x1)), (8, (u64v x2)), (13, (i6 x3))], [(1000, (bU 5 x4 38)), (1001, (bU 5 x5 38)), (1002, (bU 5 x6 38))]⟩ _ (by kernel_rfl) (by kernel_rfl)).trans (g28R3 A n (g28Q A n (pth 203) (g28W A n (pth 75) m (blockK 0 (g28Q A n (pth 15) (g28T kk))))) x0 x1 x2 x3 x4 x5 x6)
    rw [h15] at h16
    have h17 := (g28p75 A n _ _).trans h16
    exact (loopD_first (s' := ⟨[(2, (u64v x0)), (3, (pT 1000 0)), (4, (pT 1001 0)), (6, (pT 1002 0)), (7, (u64v x1)), (8, (u64v x2)), (13, (i6 x3))], [(1000, (bU 5 x4 38)), (1001, (bU 5 x5 38)), (1002, (bU 5 x6 38))]⟩) (id := 3) (by kernel_rfl) (h.trans (by kernel_rfl)) _).trans ((g28Vs A n _ m _ _).trans (h17.trans (by kernel_rfl)))
def g28 {R : Type} (A : Ar) (n : Nat) (kk : AV → Heap → Option R) (a b : List Nat) (c : Nat) : Option R :=
  g28L3 A n kk  n c 0 0 0 a b [0, 0, 0, 0, 0]
set_option maxRecDepth 100000 in
theorem g28_eq {R : Type} (A : Ar) (n : Nat) (kk : AV → Heap → Option R) (a b : List Nat) (c : Nat) :
    funD A gtys (g28O A) g28an n (bodyOf Try.f28) g28res [(aN .u64 5 a), (aN .u64 5 b), (u64v c)] [] kk = g28 A n kk a b c := by
  have h1 := (g28p43 A n _ _).trans (g28L3_eq A n kk    n (g28R2s0 A c 0 0 a b [0, 0, 0, 0, 0]) c 0 0 0 a b [0, 0, 0, 0, 0] (by kernel_rfl))
  have h2 := (g28p27 A n _ _).trans h1
  have h3 := (g28Qn A n _ _ _).trans h2
  have h4 := (g28F A n _ 2 _ (g28R1s0 A c a b [0, 0, 0, 0, 0]) _ (by kernel_rfl) (by kernel_rfl)).trans (g28R2 A n (g28Q A n (pth 27) (g28Q A n (pth 15) (g28T kk))) c 0 0 a b [0, 0, 0, 0, 0])
  rw [h3] at h4
  have h5 := (g28p11 A n _ _).trans h4
  have h6 := (g28p7 A n _ _).trans h5
  have h7 := (g28Qn A n _ _ _).trans h6
  have h8 := (g28F A n _ 1 _ (g28R0s0 A a b c) _ (by kernel_rfl) (by kernel_rfl)).trans (g28R1 A n (g28Q A n (pth 7) (g28T kk)) c a b [0, 0, 0, 0, 0])
  rw [h7] at h8
  have h9 := (g28p3 A n _ _).trans h8
  have h10 := (g28Qn A n _ _ _).trans h9
  have h11 := (g28F A n _ 0 _ ⟨[(0, (aN .u64 5 a)), (1, (aN .u64 5 b)), (2, (u64v c))], []⟩ _ (by kernel_rfl) (by kernel_rfl)).trans (g28R0 A n (g28Q A n (pth 3) (g28T kk)) a b c)
  rw [h10] at h11
  have h12 := (g28p1 A n _ _).trans h11
  exact (show funD A gtys (g28O A) g28an n (bodyOf Try.f28) g28res [(aN .u64 5 a), (aN .u64 5 b), (u64v c)] [] kk = g28D A n (pth 1) (g28T kk) ⟨[(0, (aN .u64 5 a)), (1, (aN .u64 5 b)), (2, (u64v c))], []⟩ from by kernel_rfl).trans (h12.trans (by kernel_rfl))
def g28is (o : Option AV) : Bool := match o with
  | some (aN .u64 5 _) => true
  | _ => false
def g28g0 (o : Option AV) : List Nat := match o with
  | some (aN .u64 5 x) => x
  | _ => []
theorem g28is_spec {o : Option AV} (h : g28is o = true) : o = some (aN .u64 5 (g28g0 o)) := by
  unfold g28is at h
  split at h
  · rfl
  · cases h
def g28v (A : Ar) (a b : List Nat) (c : Nat) : Option AV := g28 A (100000) (fun v _ => some v) a b c
def g28ok (A : Ar) (a b : List Nat) (c : Nat) : Bool := g28is (g28v A a b c)
def g28r0 (A : Ar) (a b : List Nat) (c : Nat) : List Nat := g28g0 (g28v A a b c)
theorem g28ok_spec {A : Ar} {a b c} (h : g28ok A a b c = true) : g28v A a b c = some (aN .u64 5 (g28r0 A a b c)) := g28is_spec h
def g28o (A : Ar) (args : List AV) : Option (Bool × AV) := match args with
  | [.v (.agg [.nums .u64 n0 a]), .v (.agg [.nums .u64 n1 b]), .v (.cell (.nat .u64 c))] => some (Nat.beq n0 5 && (Nat.beq n1 5 && (g28ok A a b c)), .v (.agg [.nums .u64 5 (g28r0 A a b c)]))
  | _ => none
theorem g28o_sound : ∀ args v, g28o realA args = some (true, v) → Fn1 Try.prog 28 args v := by
  intro args v h
  unfold g28o at h
  split at h
  · rename_i n0 a n1 b c
    simp only [Option.some.injEq, Prod.mk.injEq] at h
    obtain ⟨hc, h⟩ := h
    subst h
    · skip
      simp only [Bool.and_eq_true] at hc
      have en0 := beq_true hc.1
      subst en0
      replace hc := hc.2
      have en1 := beq_true hc.1
      subst en1
      replace hc := hc.2
      exact fn1_of mixed gtysOK g28O_sound g28O_det (an := g28an) (n := 100000) Try.func28 (c := bodyOf Try.f28) rfl (by kernel_rfl) Try.call28 (Nat.le_of_ble_eq_true rfl) (fun b => rfl) (fun _ => (g28_eq realA (100000) (fun v _ => some v) a b c).trans (show g28v realA a b c = _ from g28ok_spec hc))
  · cases h
def g29O (A : Ar) : Orc := orcOf []
theorem g29O_sound : OSound Try.prog (g29O realA) := orc_sound fun f g hm args v hv => by
  cases hm
theorem g29O_det : ODet (g29O realA) := orc_det _
def g29an : Ann := [(0, ([0, 1], [])), (1, ([2, 3], [1000, 1001])), (2, ([2, 3, 5], [1000, 1001])), (3, ([2, 3, 5], [1000, 1001])), (4, ([2, 3, 5], [1000, 1001])), (5, ([2, 3, 5], [1000, 1001])), (6, ([], []))]
def g29res : List ResultVar := [.tmp 4]
noncomputable def g29D {R : Type} (A : Ar) (n : Nat) (p : List Bool) (K : Ex → St → Option R) (s : St) : Option R := codeD A gtys (g29O A) g29an n (sub (bodyOf Try.f29) p) K s
noncomputable def g29V {R : Type} (A : Ar) (n : Nat) (p : List Bool) (m : Nat) (K : Ex → St → Option R) (s : St) : Option R := loopD (fun K' s'' => codeD A gtys (g29O A) g29an n (sub (bodyOf Try.f29) p) K' s'') m K s
noncomputable def g29Q {R : Type} (A : Ar) (n : Nat) (p : List Bool) (K : Ex → St → Option R) : Ex → St → Option R := seqC (g29D A n p K) K
noncomputable def g29W {R : Type} (A : Ar) (n : Nat) (p : List Bool) (m : Nat) (K : Ex → St → Option R) : Ex → St → Option R := seqC (g29V A n p m K) K
noncomputable def g29T {R : Type} (kk : AV → Heap → Option R) : Ex → St → Option R := finD gtys g29res kk
theorem g29Qn {R : Type} (A : Ar) (n : Nat) (p : List Bool) (K : Ex → St → Option R) (s : St) : g29Q A n p K .normal s = g29D A n p K s := rfl
theorem g29Qe {R : Type} (A : Ar) (n : Nat) (p : List Bool) (K : Ex → St → Option R) (i : Nat) (s : St) : g29Q A n p K (.exit i) s = K (.exit i) s := rfl
theorem g29Qr {R : Type} (A : Ar) (n : Nat) (p : List Bool) (K : Ex → St → Option R) (s : St) : g29Q A n p K .ret s = K .ret s := rfl
theorem g29Wn {R : Type} (A : Ar) (n : Nat) (p : List Bool) (m : Nat) (K : Ex → St → Option R) (s : St) : g29W A n p m K .normal s = g29V A n p m K s := rfl
theorem g29We {R : Type} (A : Ar) (n : Nat) (p : List Bool) (m : Nat) (K : Ex → St → Option R) (i : Nat) (s : St) : g29W A n p m K (.exit i) s = K (.exit i) s := rfl
theorem g29Wr {R : Type} (A : Ar) (n : Nat) (p : List Bool) (m : Nat) (K : Ex → St → Option R) (s : St) : g29W A n p m K .ret s = K .ret s := rfl
theorem g29Vs {R : Type} (A : Ar) (n : Nat) (p : List Bool) (m : Nat) (K : Ex → St → Option R) (s : St) : g29V A n p (m + 1) K s = g29D A n p (g29W A n p m K) s := rfl
theorem g29F {R : Type} (A : Ar) (n : Nat) (p : List Bool) (i : Nat) (K : Ex → St → Option R) (s s' : St) (hf : firstReg (sub (bodyOf Try.f29) p) = some i) (h : keep g29an i s = keep g29an i s') : g29D A n p K s = g29D A n p K s' := codeD_first hf h K
section
variable {R : Type} (A : Ar) (n : Nat) (K : Ex → St → Option R) (s : St)
theorem g29p1 : g29D A n (pth 1) K s = g29D A n (pth 2) (g29Q A n (pth 3) K) s := by kernel_rfl
theorem g29p3 : g29D A n (pth 3) K s = g29D A n (pth 5) (g29Q A n (pth 7) K) s := by kernel_rfl
theorem g29p5 : g29D A n (pth 5) K s = g29D A n (pth 9) (g29Q A n (pth 13) K) s := by kernel_rfl
theorem g29p13 : g29D A n (pth 13) K s = g29D A n (pth 21) (blockK 0 K) s := by kernel_rfl
theorem g29p21 : g29D A n (pth 21) K s = g29V A n (pth 37) n K s := by kernel_rfl
theorem g29p37 : g29D A n (pth 37) K s = g29D A n (pth 69) (g29Q A n (pth 101) K) s := by kernel_rfl
theorem g29p69 : g29D A n (pth 69) K s = g29D A n (pth 133) (g29Q A n (pth 197) K) s := by kernel_rfl
theorem g29p197 (t : Bool) : ev s (.tmp 7) = some (.v (.cell (.bool t))) → g29D A n (pth 197) K s = (match t with
    | true => g29D A n (pth 325) K s
    | false => g29D A n (pth 453) K s) := codeD_cond t
theorem g29p325 : g29D A n (pth 325) K s = K .normal s := by kernel_rfl
theorem g29p453 : g29D A n (pth 453) K s = K (.exit 0) s := by kernel_rfl
theorem g29p101 : g29D A n (pth 101) K s = g29D A n (pth 165) (g29Q A n (pth 229) K) s := by kernel_rfl
theorem g29p165 : g29D A n (pth 165) K s = g29D A n (pth 293) (blockK 1 K) s := by kernel_rfl
theorem g29p293 : g29D A n (pth 293) K s = g29D A n (pth 549) (g29Q A n (pth 805) K) s := by kernel_rfl
theorem g29p805 (t : Bool) : ev s (.tmp 16) = some (.v (.cell (.bool t))) → g29D A n (pth 805) K s = (match t with
    | true => g29D A n (pth 1317) K s
    | false => g29D A n (pth 1829) K s) := codeD_cond t
theorem g29p1317 : g29D A n (pth 1317) K s = g29D A n (pth 2341) (g29Q A n (pth 3365) K) s := by kernel_rfl
theorem g29p3365 : g29D A n (pth 3365) K s = K .ret s := by kernel_rfl
theorem g29p1829 : g29D A n (pth 1829) K s = K .normal s := by kernel_rfl
theorem g29p7 : g29D A n (pth 7) K s = g29D A n (pth 11) (g29Q A n (pth 15) K) s := by kernel_rfl
theorem g29p15 : g29D A n (pth 15) K s = K .ret s := by kernel_rfl
def g29R4s0 (A : Ar) (x0 : Int) (x1 x2 : List Nat) : St := ⟨[(16, (bO (A.nc .neq (x1.getD (A.toN x0) 0) (x2.getD (A.toN x0) 0)))), (15, (u64v (x2.getD (A.toN x0) 0))), (14, (.v (.cell (.ptr 1001 0 (some ⟨A.toN x0, 1, 5, 0, 0, 0⟩))))), (13, (i6 x0)), (12, (u64v (x1.getD (A.toN x0) 0))), (11, (.v (.cell (.ptr 1000 0 (some ⟨A.toN x0, 1, 5, 0, 0, 0⟩))))), (10, (i6 x0)), (2, (pT 1000 0)), (3, (pT 1001 0)), (5, (i6 x0))], [(1000, (bU 5 x1 38)), (1001, (bU 5 x2 38))]⟩
theorem g29R4 (x0 : Int) (x1 x2 : List Nat) : g29D A n (pth 549) K ⟨[(2, (pT 1000 0)), (3, (pT 1001 0)), (5, (i6 x0))], [(1000, (bU 5 x1 38)), (1001, (bU 5 x2 38))]⟩ = match (generalizing := false) A.neg x0 with
    | true => none
    | false => match (generalizing := false) A.lt (A.toN x0) 5 with
      | true => match (generalizing := false) A.neg x0 with
        | true => none
        | false => match (generalizing := false) A.lt (A.toN x0) 5 with
          | true => K .normal (g29R4s0 A x0 x1 x2)
          | false => none
      | false => none := by kernel_rfl
def g29R5s0 (A : Ar) (x0 : Int) (x1 x2 : List Nat) : St := ⟨[(4, (bO (A.nc .lss (x1.getD (A.toN x0) 0) (x2.getD (A.toN x0) 0)))), (23, (bO (A.nc .lss (x1.getD (A.toN x0) 0) (x2.getD (A.toN x0) 0)))), (22, (u64v (x2.getD (A.toN x0) 0))), (21, (.v (.cell (.ptr 1001 0 (some ⟨A.toN x0, 1, 5, 0, 0, 0⟩))))), (20, (i6 x0)), (19, (u64v (x1.getD (A.toN x0) 0))), (18, (.v (.cell (.ptr 1000 0 (some ⟨A.toN x0, 1, 5, 0, 0, 0⟩))))), (17, (i6 x0)), (2, (pT 1000 0)), (3, (pT 1001 0)), (5, (i6 x0))], [(1000, (bU 5 x1 38)), (1001, (bU 5 x2 38))]⟩
theorem g29R5 (x0 : Int) (x1 x2 : List Nat) : g29D A n (pth 2341) K ⟨[(2, (pT 1000 0)), (3, (pT 1001 0)), (5, (i6 x0))], [(1000, (bU 5 x1 38)), (1001, (bU 5 x2 38))]⟩ = match (generalizing := false) A.neg x0 with
    | true => none
    | false => match (generalizing := false) A.lt (A.toN x0) 5 with
      | true => match (generalizing := false) A.neg x0 with
        | true => none
        | false => match (generalizing := false) A.lt (A.toN x0) 5 with
          | true => K .normal (g29R5s0 A x0 x1 x2)
          | false => none
      | false => none := by kernel_rfl
def g29R3s0 (A : Ar) (x0 : Int) (x1 x2 : List Nat) : St := ⟨[(5, (i6 (A.ib .sub .i64 x0 1))), (9, (i6 (A.ib .sub .i64 x0 1))), (8, (i6 x0)), (2, (pT 1000 0)), (3, (pT 1001 0)), (5, (i6 x0))], [(1000, (bU 5 x1 38)), (1001, (bU 5 x2 38))]⟩
theorem g29R3 (x0 : Int) (x1 x2 : List Nat) : g29D A n (pth 229) K ⟨[(2, (pT 1000 0)), (3, (pT 1001 0)), (5, (i6 x0))], [(1000, (bU 5 x1 38)), (1001, (bU 5 x2 38))]⟩ = K .normal (g29R3s0 A x0 x1 x2) := by kernel_rfl
def g29R2s0 (A : Ar) (x0 : Int) (x1 x2 : List Nat) : St := ⟨[(7, (bO (A.ic .geq x0 0))), (6, (i6 x0)), (2, (pT 1000 0)), (3, (pT 1001 0)), (5, (i6 x0))], [(1000, (bU 5 x1 38)), (1001, (bU 5 x2 38))]⟩
theorem g29R2 (x0 : Int) (x1 x2 : List Nat) : g29D A n (pth 133) K ⟨[(2, (pT 1000 0)), (3, (pT 1001 0)), (5, (i6 x0))], [(1000, (bU 5 x1 38)), (1001, (bU 5 x2 38))]⟩ = K .normal (g29R2s0 A x0 x1 x2) := by kernel_rfl
def g29R6s0 (A : Ar)  : St := ⟨[(4, (bO false))], []⟩
theorem g29R6 : g29D A n (pth 11) K ⟨[], []⟩ = K .normal (g29R6s0 A) := by kernel_rfl
def g29R0s0 (A : Ar) (x0 x1 : List Nat) : St := ⟨[(4, (bO false)), (3, (pT 1001 0)), (2, (pT 1000 0)), (0, (aN .u64 5 x0)), (1, (aN .u64 5 x1))], [(1001, (bU 5 x1 38)), (1000, (bU 5 x0 38))]⟩
theorem g29R0 (x0 x1 : List Nat) : g29D A n (pth 2) K ⟨[(0, (aN .u64 5 x0)), (1, (aN .u64 5 x1))], []⟩ = K .normal (g29R0s0 A x0 x1) := by kernel_rfl
def g29R1s0 (A : Ar) (x0 x1 : List Nat) : St := ⟨[(5, (i6 4)), (2, (pT 1000 0)), (3, (pT 1001 0))], [(1000, (bU 5 x0 38)), (1001, (bU 5 x1 38))]⟩
theorem g29R1 (x0 x1 : List Nat) : g29D A n (pth 9) K ⟨[(2, (pT 1000 0)), (3, (pT 1001 0))], [(1000, (bU 5 x0 38)), (1001, (bU 5 x1 38))]⟩ = K .normal (g29R1s0 A x0 x1) := by kernel_rfl
end
def g29J4 {R : Type} (A : Ar) (n : Nat) (kk : AV → Heap → Option R) (lg29L2 : Int → List Nat → List Nat → Option R) (x0 : Int) (x1 x2 : List Nat) : Option R :=
  match (generalizing := false) A.neg x0 with
  | true => none
  | false => match (generalizing := false) A.lt (A.toN x0) 5 with
    | true => match (generalizing := false) A.neg x0 with
      | true => none
      | false => match (generalizing := false) A.lt (A.toN x0) 5 with
        | true => match (generalizing := false) A.nc .neq (x1.getD (A.toN x0) 0) (x2.getD (A.toN x0) 0) with
          | true => match (generalizing := false) A.neg x0 with
            | true => none
            | false => match (generalizing := false) A.lt (A.toN x0) 5 with
              | true => match (generalizing := false) A.neg x0 with
                | true => none
                | false => match (generalizing := false) A.lt (A.toN x0) 5 with
                  | true => kk (bO (A.nc .lss (x1.getD (A.toN x0) 0) (x2.getD (A.toN x0) 0))) [(1000, (bU 5 x1 38)), (1001, (bU 5 x2 38))]
                  | false => none
              | false => none
          | false => lg29L2 (A.ib .sub .i64 x0 1) x1 x2
        | false => none
    | false => none
set_option maxRecDepth 100000 in
theorem g29J4_eq {R : Type} (A : Ar) (n : Nat) (kk : AV → Heap → Option R) (m0 : Nat) (lg29L2 : Int → List Nat → List Nat → Option R) 
    (hg29L2 : ∀ (s : St) (x0 : Int) (x1 x2 : List Nat), keep g29an 2 s = ⟨[(2, (pT 1000 0)), (3, (pT 1001 0)), (5, (i6 x0))], [(1000, (bU 5 x1 38)), (1001, (bU 5 x2 38))]⟩ → g29V A n (pth 37) m0 (blockK 0 (g29Q A n (pth 7) (g29T kk))) s = lg29L2 x0 x1 x2) (s : St) (x0 : Int) (x1 x2 : List Nat) (h : keep g29an 4 s = ⟨[(2, (pT 1000 0)), (3, (pT 1001 0)), (5, (i6 x0))], [(1000, (bU 5 x1 38)), (1001, (bU 5 x2 38))]⟩) :
    g29D A n (pth 101) (g29W A n (pth 37) m0 (blockK 0 (g29Q A n (pth 7) (g29T kk)))) s = g29J4 A n kk lg29L2 x0 x1 x2 := by
  have h1 : (g29T kk) .ret (g29R5s0 A x0 x1 x2) = kk (bO (A.nc .lss (x1.getD (A.toN x0) 0) (x2.getD (A.toN x0) 0))) [(1000, (bU 5 x1 38)), (1001, (bU 5 x2 38))] := by kernel_rfl
  have h2 := (g29Qr A n (pth 7) _ _).trans h1
  have h3 := (blockK_r 0 _ _).trans h2
  have h4 := (g29Wr A n (pth 37) m0 _ _).trans h3
  have h5 := (g29Qr A n (pth 229) _ _).trans h4
  have h6 := (blockK_r 1 _ _).trans h5
  have h7 := (g29p3365 A n _ _).trans h6
  have h8 := (g29Qn A n _ _ _).trans h7
  have h9 := (g29F A n _ 5 _ (g29R4s0 A x0 x1 x2) _ (by kernel_rfl) (by kernel_rfl)).trans (g29R5 A n (g29Q A n (pth 3365) (blockK 1 (g29Q A n (pth 229) (g29W A n (pth 37) m0 (blockK 0 (g29Q A n (pth 7) (g29T kk))))))) x0 x1 x2)
  rw [h8] at h9
  have h10 := (g29p1317 A n _ _).trans h9
  have h11 := (g29Wn A n _ _ _ _).trans (hg29L2 (g29R3s0 A x0 x1 x2) (A.ib .sub .i64 x0 1) x1 x2 (by kernel_rfl))
  have h12 := (g29F A n _ 3 _ (g29R4s0 A x0 x1 x2) _ (by kernel_rfl) (by kernel_rfl)).trans (g29R3 A n (g29W A n (pth 37) m0 (blockK 0 (g29Q A n (pth 7) (g29T kk)))) x0 x1 x2)
  rw [h11] at h12
  have h13 := (g29Qn A n _ _ _).trans h12
  have h14 := (blockK_n 1 _ _).trans h13
  have h15 := (g29p1829 A n _ _).trans h14
  have h16 := g29p805 A n (blockK 1 (g29Q A n (pth 229) (g29W A n (pth 37) m0 (blockK 0 (g29Q A n (pth 7) (g29T kk)))))) (g29R4s0 A x0 x1 x2) (A.nc .neq (x1.getD (A.toN x0) 0) (x2.getD (A.toN x0) 0)) (by kernel_rfl)
  rw [h10, h15] at h16
  have h17 := (g29Qn A n _ _ _).trans h16
  have h18 := (g29F A n _ 4 _ ⟨[(2, (pT 1000 0)), (3, (pT 1001 0)), (5, (i6 x0))], [(1000, (bU 5 x1 38)), (1001, (bU 5 x2 38))]⟩ _ (by kernel_rfl) (by kernel_rfl)).trans (g29R4 A n (g29Q A n (pth 805) (blockK 1 (g29Q A n (pth 229) (g29W A n (pth 37) m0 (blockK 0 (g29Q A n (pth 7) (g29T kk))))))) x0 x1 x2)
  rw [h17] at h18
  have h19 := (g29p293 A n _ _).trans h18
  have h20 := (g29p165 A n _ _).trans h19
  have h21 := (g29p101 A n _ _).trans h20
  exact (g29F A n _ 4 _ _ ⟨[(2, (pT 1000 0)), (3, (pT 1001 0)), (5, (i6 x0))], [(1000, (bU 5 x1 38)), (1001, (bU 5 x2 38))]⟩ (by kernel_rfl) (h.trans (by kernel_rfl))).trans (h21.trans (by kernel_rfl))
def g29L2 {R : Type} (A : Ar) (n : Nat) (kk : AV → Heap → Option R)  : Nat → Int → List Nat → List Nat → Option R
  | 0, _, _, _ => none
  | m + 1, x0, x1, x2 => match (generalizing := false) A.ic .geq x0 0 with
  | true => g29J4 A n kk (g29L2 A n kk  m) x0 x1 x2
  | false => kk (bO false) []
set_option maxRecDepth 100000 in
theorem g29L2_eq {R : Type} (A : Ar) (n : Nat) (kk : AV → Heap → Option R)    (m : Nat) (s : St) (x0 : Int) (x1 x2 : List Nat) (h : keep g29an 2 s = ⟨[(2, (pT 1000 0)), (3, (pT 1001 0)), (5, (i6 x0))], [(1000, (bU 5 x1 38)), (1001, (bU 5 x2 38))]⟩) :
    g29V A n (pth 37) m (blockK 0 (g29Q A n (pth 7) (g29T kk))) s = g29L2 A n kk  m x0 x1 x2 := by
  induction m generalizing s x0 x1 x2 with
  | zero => rfl
  | succ m ih =>
    have h1 := (g29Qn A n _ _ _).trans (g29J4_eq A n kk m (g29L2 A n kk  m) ih  (g29R2s0 A x0 x1 x2) x0 x1 x2 (by kernel_rfl))
    have h2 := (g29p325 A n _ _).trans h1
    have h3 : (g29T kk) .ret (g29R6s0 A) = kk (bO false) [] := by kernel_rfl
    have h4 := (g29p15 A n _ _).trans h3
    have h5 := (g29Qn A n _ _ _).trans h4
    have h6 := (g29F A n _ 6 _ (g29R2s0 A x0 x1 x2) _ (by kernel_rfl) (by kernel_rfl)).trans (g29R6 A n (g29Q A n (pth 15) (g29T kk)) )
    rw [h5] at h6
    have h7 := (g29p7 A n _ _).trans h6
    have h8 := (g29Qn A n _ _ _).trans h7
    have h9 := (blockK_hit 0 _ _).trans h8
    have h10 := (g29We A n (pth 37) m _ _ _).trans h9
    have h11 := (g29Qe A n (pth 101) _ _ _).trans h10
    have h12 := (g29p453 A n _ _).trans h11
    have h13 := g29p197 A n (g29Q A n (pth 101) (g29W A n (pth 37) m (blockK 0 (g29Q A n (pth 7) (g29T kk))))) (g29R2s0 A x0 x1 x2) (A.ic .geq x0 0) (by kernel_rfl)
    rw [h2, h12] at h13
    have h14 := (g29Qn A n _ _ _).trans h13
    have h15 := (g29F A n _ 2 _ ⟨[(2, (pT 1000 0)), (3, (pT 1001 0)), (5, (i6 x0))], [(1000, (bU 5 x1 38)), (1001, (bU 5 x2 38))]⟩ _ (by kernel_rfl) (by kernel_rfl)).trans (g29R2 A n (g29Q A n (pth 197) (g29Q A n (pth 101) (g29W A n (pth 37) m (blockK 0 (g29Q A n (pth 7) (g29T kk)))))) x0 x1 x2)
    rw [h14] at h15
    have h16 := (g29p69 A n _ _).trans h15
    have h17 := (g29p37 A n _ _).trans h16
    exact (loopD_first (s' := ⟨[(2, (pT 1000 0)), (3, (pT 1001 0)), (5, (i6 x0))], [(1000, (bU 5 x1 38)), (1001, (bU 5 x2 38))]⟩) (id := 2) (by kernel_rfl) (h.trans (by kernel_rfl)) _).trans ((g29Vs A n _ m _ _).trans (h17.trans (by kernel_rfl)))
def g29 {R : Type} (A : Ar) (n : Nat) (kk : AV → Heap → Option R) (a b : List Nat) : Option R :=
  g29L2 A n kk  n 4 a b
set_option maxRecDepth 100000 in
theorem g29_eq {R : Type} (A : Ar) (n : Nat) (kk : AV → Heap → Option R) (a b : List Nat) :
    funD A gtys (g29O A) g29an n (bodyOf Try.f29) g29res [(aN .u64 5 a), (aN .u64 5 b)] [] kk = g29 A n kk a b := by
  have h1 := (g29p21 A n _ _).trans (g29L2_eq A n kk    n (g29R1s0 A a b) 4 a b (by kernel_rfl))
  have h2 := (g29p13 A n _ _).trans h1
  have h3 := (g29Qn A n _ _ _).trans h2
  have h4 := (g29F A n _ 1 _ (g29R0s0 A a b) _ (by kernel_rfl) (by kernel_rfl)).trans (g29R1 A n (g29Q A n (pth 13) (g29Q A n (pth 7) (g29T kk))) a b)
  rw [h3] at h4
  have h5 := (g29p5 A n _ _).trans h4
  have h6 := (g29p3 A n _ _).trans h5
  have h7 := (g29Qn A n _ _ _).trans h6
  have h8 := (g29F A n _ 0 _ ⟨[(0, (aN .u64 5 a)), (1, (aN .u64 5 b))], []⟩ _ (by kernel_rfl) (by kernel_rfl)).trans (g29R0 A n (g29Q A n (pth 3) (g29T kk)) a b)
  rw [h7] at h8
  have h9 := (g29p1 A n _ _).trans h8
  exact (show funD A gtys (g29O A) g29an n (bodyOf Try.f29) g29res [(aN .u64 5 a), (aN .u64 5 b)] [] kk = g29D A n (pth 1) (g29T kk) ⟨[(0, (aN .u64 5 a)), (1, (aN .u64 5 b))], []⟩ from by kernel_rfl).trans (h9.trans (by kernel_rfl))
def g29is (o : Option AV) : Bool := match o with
  | some (.v (.cell (.bool _))) => true
  | _ => false
def g29g0 (o : Option AV) : Bool := match o with
  | some (.v (.cell (.bool x))) => x
  | _ => false
theorem g29is_spec {o : Option AV} (h : g29is o = true) : o = some (.v (.cell (.bool (g29g0 o)))) := by
  unfold g29is at h
  split at h
  · rfl
  · cases h
def g29v (A : Ar) (a b : List Nat) : Option AV := g29 A (100000) (fun v _ => some v) a b
def g29ok (A : Ar) (a b : List Nat) : Bool := g29is (g29v A a b)
def g29r0 (A : Ar) (a b : List Nat) : Bool := g29g0 (g29v A a b)
theorem g29ok_spec {A : Ar} {a b} (h : g29ok A a b = true) : g29v A a b = some (.v (.cell (.bool (g29r0 A a b)))) := g29is_spec h
def g29o (A : Ar) (args : List AV) : Option (Bool × AV) := match args with
  | [.v (.agg [.nums .u64 n0 a]), .v (.agg [.nums .u64 n1 b])] => some (Nat.beq n0 5 && (Nat.beq n1 5 && (g29ok A a b)), .v (.cell (.bool (g29r0 A a b))))
  | _ => none
theorem g29o_sound : ∀ args v, g29o realA args = some (true, v) → Fn1 Try.prog 29 args v := by
  intro args v h
  unfold g29o at h
  split at h
  · rename_i n0 a n1 b
    simp only [Option.some.injEq, Prod.mk.injEq] at h
    obtain ⟨hc, h⟩ := h
    subst h
    · skip
      simp only [Bool.and_eq_true] at hc
      have en0 := beq_true hc.1
      subst en0
      replace hc := hc.2
      have en1 := beq_true hc.1
      subst en1
      replace hc := hc.2
      exact fn1_of mixed gtysOK g29O_sound g29O_det (an := g29an) (n := 100000) Try.func29 (c := bodyOf Try.f29) rfl (by kernel_rfl) Try.call29 (Nat.le_of_ble_eq_true rfl) (fun b => rfl) (fun _ => (g29_eq realA (100000) (fun v _ => some v) a b).trans (show g29v realA a b = _ from g29ok_spec hc))
  · cases h
def g22O (A : Ar) : Orc := orcOf [(27, g27o A), (28, g28o A), (29, g29o A)]
theorem g22O_sound : OSound Try.prog (g22O realA) := orc_sound fun f g hm args v hv => by
  simp only [List.mem_cons, List.not_mem_nil, or_false, Prod.mk.injEq] at hm
  rcases hm with ⟨rfl, rfl⟩ | ⟨rfl, rfl⟩ | ⟨rfl, rfl⟩
  · exact g27o_sound _ _ hv
  · exact g28o_sound _ _ hv
  · exact g29o_sound _ _ hv
theorem g22O_det : ODet (g22O realA) := orc_det _
def g22an : Ann := [(0, ([0, 1], [])), (1, ([1, 2, 4], [1000, 1001])), (2, ([1, 2, 4, 5], [1000, 1001])), (3, ([1, 2, 4, 5], [1000, 1001])), (4, ([1, 2, 4, 5], [1000, 1001])), (5, ([1, 2, 4], [1000, 1001])), (6, ([2, 4], [1000, 1001])), (7, ([2, 4, 6], [1000, 1001])), (8, ([2, 4, 6, 7], [1000, 1001, 8001])), (9, ([2, 4, 6, 7], [1000, 1001, 8001])), (10, ([2, 4, 6, 7], [1000, 1001, 8001])), (11, ([2, 4, 7], [1000, 1001, 8001])), (12, ([2, 4, 7], [1000, 1001, 8001])), (13, ([2, 4], [1000, 1001]))]
def g22res : List ResultVar := [.cell 4 38]
noncomputable def g22D {R : Type} (A : Ar) (n : Nat) (p : List Bool) (K : Ex → St → Option R) (s : St) : Option R := codeD A gtys (g22O A) g22an n (sub (bodyOf Try.f22) p) K s
noncomputable def g22V {R : Type} (A : Ar) (n : Nat) (p : List Bool) (m : Nat) (K : Ex → St → Option R) (s : St) : Option R := loopD (fun K' s'' => codeD A gtys (g22O A) g22an n (sub (bodyOf Try.f22) p) K' s'') m K s
noncomputable def g22Q {R : Type} (A : Ar) (n : Nat) (p : List Bool) (K : Ex → St → Option R) : Ex → St → Option R := seqC (g22D A n p K) K
noncomputable def g22W {R : Type} (A : Ar) (n : Nat) (p : List Bool) (m : Nat) (K : Ex → St → Option R) : Ex → St → Option R := seqC (g22V A n p m K) K
noncomputable def g22T {R : Type} (kk : AV → Heap → Option R) : Ex → St → Option R := finD gtys g22res kk
theorem g22Qn {R : Type} (A : Ar) (n : Nat) (p : List Bool) (K : Ex → St → Option R) (s : St) : g22Q A n p K .normal s = g22D A n p K s := rfl
theorem g22Qe {R : Type} (A : Ar) (n : Nat) (p : List Bool) (K : Ex → St → Option R) (i : Nat) (s : St) : g22Q A n p K (.exit i) s = K (.exit i) s := rfl
theorem g22Wn {R : Type} (A : Ar) (n : Nat) (p : List Bool) (m : Nat) (K : Ex → St → Option R) (s : St) : g22W A n p m K .normal s = g22V A n p m K s := rfl
theorem g22We {R : Type} (A : Ar) (n : Nat) (p : List Bool) (m : Nat) (K : Ex → St → Option R) (i : Nat) (s : St) : g22W A n p m K (.exit i) s = K (.exit i) s := rfl
theorem g22Vs {R : Type} (A : Ar) (n : Nat) (p : List Bool) (m : Nat) (K : Ex → St → Option R) (s : St) : g22V A n p (m + 1) K s = g22D A n p (g22W A n p m K) s := rfl
theorem g22F {R : Type} (A : Ar) (n : Nat) (p : List Bool) (i : Nat) (K : Ex → St → Option R) (s s' : St) (hf : firstReg (sub (bodyOf Try.f22) p) = some i) (h : keep g22an i s = keep g22an i s') : g22D A n p K s = g22D A n p K s' := codeD_first hf h K
section
variable {R : Type} (A : Ar) (n : Nat) (K : Ex → St → Option R) (s : St)
theorem g22p1 : g22D A n (pth 1) K s = g22D A n (pth 2) (g22Q A n (pth 3) K) s := by kernel_rfl
theorem g22p3 : g22D A n (pth 3) K s = g22D A n (pth 5) (g22Q A n (pth 7) K) s := by kernel_rfl
theorem g22p5 : g22D A n (pth 5) K s = g22D A n (pth 9) (g22Q A n (pth 13) K) s := by kernel_rfl
theorem g22p13 : g22D A n (pth 13) K s = g22D A n (pth 21) (blockK 0 K) s := by kernel_rfl
theorem g22p21 : g22D A n (pth 21) K s = g22V A n (pth 37) n K s := by kernel_rfl
theorem g22p37 : g22D A n (pth 37) K s = g22D A n (pth 69) (g22Q A n (pth 101) K) s := by kernel_rfl
theorem g22p69 : g22D A n (pth 69) K s = g22D A n (pth 133) (g22Q A n (pth 197) K) s := by kernel_rfl
theorem g22p197 (t : Bool) : ev s (.tmp 9) = some (.v (.cell (.bool t))) → g22D A n (pth 197) K s = (match t with
    | true => g22D A n (pth 325) K s
    | false => g22D A n (pth 453) K s) := codeD_cond t
theorem g22p325 : g22D A n (pth 325) K s = K .normal s := by kernel_rfl
theorem g22p453 : g22D A n (pth 453) K s = K (.exit 0) s := by kernel_rfl
theorem g22p101 : g22D A n (pth 101) K s = g22D A n (pth 165) (g22Q A n (pth 229) K) s := by kernel_rfl
theorem g22p165 : g22D A n (pth 165) K s = g22D A n (pth 293) (blockK 1 K) s := by kernel_rfl
theorem g22p7 : g22D A n (pth 7) K s = g22D A n (pth 11) (g22Q A n (pth 15) K) s := by kernel_rfl
theorem g22p15 : g22D A n (pth 15) K s = g22D A n (pth 23) (g22Q A n (pth 31) K) s := by kernel_rfl
theorem g22p31 : g22D A n (pth 31) K s = g22D A n (pth 47) (g22Q A n (pth 63) K) s := by kernel_rfl
theorem g22p63 : g22D A n (pth 63) K s = g22D A n (pth 95) (g22Q A n (pth 127) K) s := by kernel_rfl
theorem g22p95 : g22D A n (pth 95) K s = g22D A n (pth 159) (g22Q A n (pth 223) K) s := by kernel_rfl
theorem g22p223 (t : Bool) : ev s (.tmp 40) = some (.v (.cell (.bool t))) → g22D A n (pth 223) K s = (match t with
    | true => g22D A n (pth 351) K s
    | false => g22D A n (pth 479) K s) := codeD_cond t
theorem g22p479 : g22D A n (pth 479) K s = K .normal s := by kernel_rfl
theorem g22p127 : g22D A n (pth 127) K s = g22D A n (pth 191) (g22Q A n (pth 255) K) s := by kernel_rfl
theorem g22p255 : g22D A n (pth 255) K s = g22D A n (pth 383) (g22Q A n (pth 511) K) s := by kernel_rfl
theorem g22p383 : g22D A n (pth 383) K s = g22D A n (pth 639) (blockK 2 K) s := by kernel_rfl
theorem g22p639 : g22D A n (pth 639) K s = g22V A n (pth 1151) n K s := by kernel_rfl
theorem g22p1151 : g22D A n (pth 1151) K s = g22D A n (pth 2175) (g22Q A n (pth 3199) K) s := by kernel_rfl
theorem g22p2175 : g22D A n (pth 2175) K s = g22D A n (pth 4223) (g22Q A n (pth 6271) K) s := by kernel_rfl
theorem g22p6271 (t : Bool) : ev s (.tmp 50) = some (.v (.cell (.bool t))) → g22D A n (pth 6271) K s = (match t with
    | true => g22D A n (pth 10367) K s
    | false => g22D A n (pth 14463) K s) := codeD_cond t
theorem g22p10367 : g22D A n (pth 10367) K s = K .normal s := by kernel_rfl
theorem g22p14463 : g22D A n (pth 14463) K s = K (.exit 2) s := by kernel_rfl
theorem g22p3199 : g22D A n (pth 3199) K s = g22D A n (pth 5247) (blockK 3 K) s := by kernel_rfl
theorem g22p511 : g22D A n (pth 511) K s = g22D A n (pth 767) (g22Q A n (pth 1023) K) s := by kernel_rfl
theorem g22p1023 : g22D A n (pth 1023) K s = K .ret s := by kernel_rfl
def g22R4s0 (A : Ar) (x0 : Nat) (x1 : Int) (x2 x3 : List Nat) : St := ⟨[(23, (.v (.cell (.ptr 1000 0 (some ⟨A.toN x1, 1, 5, 0, 0, 0⟩))))), (22, (u64v (A.nb .or .u64 (A.nsh .shl .u64 (x2.getD (A.toN x1) 0) 8) (A.nsh .shr .u64 (x2.getD (A.toN (A.ib .sub .i64 x1 1)) 0) 56)))), (21, (u64v (A.nsh .shr .u64 (x2.getD (A.toN (A.ib .sub .i64 x1 1)) 0) 56))), (20, (u64v (x2.getD (A.toN (A.ib .sub .i64 x1 1)) 0))), (19, (.v (.cell (.ptr 1000 0 (some ⟨A.toN (A.ib .sub .i64 x1 1), 1, 5, 0, 0, 0⟩))))), (18, (i6 (A.ib .sub .i64 x1 1))), (17, (i6 x1)), (16, (u64v (A.nsh .shl .u64 (x2.getD (A.toN x1) 0) 8))), (15, (u64v (x2.getD (A.toN x1) 0))), (14, (.v (.cell (.ptr 1000 0 (some ⟨A.toN x1, 1, 5, 0, 0, 0⟩))))), (13, (i6 x1)), (12, (i6 x1)), (1, (u8v x0)), (2, (pT 1000 0)), (4, (pT 1001 0)), (5, (i6 x1))], [(1000, (bU 5 (x2.set (A.toN x1) (A.nb .or .u64 (A.nsh .shl .u64 (x2.getD (A.toN x1) 0) 8) (A.nsh .shr .u64 (x2.getD (A.toN (A.ib .sub .i64 x1 1)) 0) 56))) 38)), (1001, (bU 5 x3 38))]⟩
theorem g22R4 (x0 : Nat) (x1 : Int) (x2 x3 : List Nat) : g22D A n (pth 293) K ⟨[(1, (u8v x0)), (2, (pT 1000 0)), (4, (pT 1001 0)), (5, (i6 x1))], [(1000, (bU 5 x2 38)), (1001, (bU 5 x3 38))]⟩ = match (generalizing := false) A.neg x1 with
    | true => none
    | false => match (generalizing := false) A.lt (A.toN x1) 5 with
      | true => match (generalizing := false) A.neg (A.ib .sub .i64 x1 1) with
        | true => none
        | false => match (generalizing := false) A.lt (A.toN (A.ib .sub .i64 x1 1)) 5 with
          | true => match (generalizing := false) A.neg x1 with
            | true => none
            | false => match (generalizing := false) A.lt (A.toN x1) 5 with
              | true => K .normal (g22R4s0 A x0 x1 x2 x3)
              | false => none
          | false => none
      | false => none := by kernel_rfl
def g22R3s0 (A : Ar) (x0 : Nat) (x1 : Int) (x2 x3 : List Nat) : St := ⟨[(5, (i6 (A.ib .sub .i64 x1 1))), (11, (i6 (A.ib .sub .i64 x1 1))), (10, (i6 x1)), (1, (u8v x0)), (2, (pT 1000 0)), (4, (pT 1001 0)), (5, (i6 x1))], [(1000, (bU 5 x2 38)), (1001, (bU 5 x3 38))]⟩
theorem g22R3 (x0 : Nat) (x1 : Int) (x2 x3 : List Nat) : g22D A n (pth 229) K ⟨[(1, (u8v x0)), (2, (pT 1000 0)), (4, (pT 1001 0)), (5, (i6 x1))], [(1000, (bU 5 x2 38)), (1001, (bU 5 x3 38))]⟩ = K .normal (g22R3s0 A x0 x1 x2 x3) := by kernel_rfl
def g22R11s0 (A : Ar) (x0 x1 x2 : List Nat) : St := ⟨[(50, (bO (!(g29r0 A x0 x2)))), (49, (bO (g29r0 A x0 x2))), (48, (aN .u64 5 x2)), (47, (aN .u64 5 x0)), (2, (pT 1000 0)), (4, (pT 1001 0)), (7, (pT 8001 0))], [(1000, (bU 5 x0 38)), (1001, (bU 5 x1 38)), (8001, (bU 5 x2 38))]⟩
theorem g22R11 (x0 x1 x2 : List Nat) : g22D A n (pth 4223) K ⟨[(2, (pT 1000 0)), (4, (pT 1001 0)), (7, (pT 8001 0))], [(1000, (bU 5 x0 38)), (1001, (bU 5 x1 38)), (8001, (bU 5 x2 38))]⟩ = match (generalizing := false) g29ok A x0 x2 with
    | true => K .normal (g22R11s0 A x0 x1 x2)
    | false => none := by kernel_rfl
def g22R12s0 (A : Ar) (x0 x1 x2 : List Nat) : St := ⟨[(53, (aN .u64 5 (g28r0 A x0 x2 1))), (52, (aN .u64 5 x2)), (51, (aN .u64 5 x0)), (2, (pT 1000 0)), (4, (pT 1001 0)), (7, (pT 8001 0))], [(1000, (bU 5 (g28r0 A x0 x2 1) 38)), (1001, (bU 5 x1 38)), (8001, (bU 5 x2 38))]⟩
theorem g22R12 (x0 x1 x2 : List Nat) : g22D A n (pth 5247) K ⟨[(2, (pT 1000 0)), (4, (pT 1001 0)), (7, (pT 8001 0))], [(1000, (bU 5 x0 38)), (1001, (bU 5 x1 38)), (8001, (bU 5 x2 38))]⟩ = match (generalizing := false) g28ok A x0 x2 1 with
    | true => K .normal (g22R12s0 A x0 x1 x2)
    | false => none := by kernel_rfl
def g22R13s0 (A : Ar) (x0 x1 : List Nat) : St := ⟨[(54, (aN .u64 5 x0)), (2, (pT 1000 0)), (4, (pT 1001 0))], [(1000, (bU 5 x0 38)), (1001, (bU 5 x0 38))]⟩
theorem g22R13 (x0 x1 : List Nat) : g22D A n (pth 767) K ⟨[(2, (pT 1000 0)), (4, (pT 1001 0))], [(1000, (bU 5 x0 38)), (1001, (bU 5 x1 38))]⟩ = K .normal (g22R13s0 A x0 x1) := by kernel_rfl
def g22R10s0 (A : Ar) (x0 : Nat) (x1 x2 x3 : List Nat) : St := ⟨[(46, (aN .u64 5 (g28r0 A x1 x3 x0))), (45, (u64v x0)), (44, (aN .u64 5 x3)), (43, (aN .u64 5 x1)), (2, (pT 1000 0)), (4, (pT 1001 0)), (6, (u64v x0)), (7, (pT 8001 0))], [(1000, (bU 5 (g28r0 A x1 x3 x0) 38)), (1001, (bU 5 x2 38)), (8001, (bU 5 x3 38))]⟩
theorem g22R10 (x0 : Nat) (x1 x2 x3 : List Nat) : g22D A n (pth 191) K ⟨[(2, (pT 1000 0)), (4, (pT 1001 0)), (6, (u64v x0)), (7, (pT 8001 0))], [(1000, (bU 5 x1 38)), (1001, (bU 5 x2 38)), (8001, (bU 5 x3 38))]⟩ = match (generalizing := false) g28ok A x1 x3 x0 with
    | true => K .normal (g22R10s0 A x0 x1 x2 x3)
    | false => none := by kernel_rfl
def g22R5s0 (A : Ar) (x0 : Nat) (x1 x2 : List Nat) : St := ⟨[(30, (pT 1000 0)), (29, (u64v (A.nb .or .u64 (A.nsh .shl .u64 (x1.getD 0 0) 8) x0))), (28, (u64v x0)), (27, (u8v x0)), (26, (u64v (A.nsh .shl .u64 (x1.getD 0 0) 8))), (25, (u64v (x1.getD 0 0))), (24, (pT 1000 0)), (1, (u8v x0)), (2, (pT 1000 0)), (4, (pT 1001 0))], [(1000, (bU 5 (x1.set 0 (A.nb .or .u64 (A.nsh .shl .u64 (x1.getD 0 0) 8) x0)) 38)), (1001, (bU 5 x2 38))]⟩
theorem g22R5 (x0 : Nat) (x1 x2 : List Nat) : g22D A n (pth 11) K ⟨[(1, (u8v x0)), (2, (pT 1000 0)), (4, (pT 1001 0))], [(1000, (bU 5 x1 38)), (1001, (bU 5 x2 38))]⟩ = K .normal (g22R5s0 A x0 x1 x2) := by kernel_rfl
def g22R6s0 (A : Ar) (x0 x1 : List Nat) : St := ⟨[(6, (u64v (A.nb .or .u64 (A.nsh .shr .u64 (x0.getD 3 0) 60) (A.nsh .shl .u64 (x0.getD 4 0) 4)))), (37, (u64v (A.nb .or .u64 (A.nsh .shr .u64 (x0.getD 3 0) 60) (A.nsh .shl .u64 (x0.getD 4 0) 4)))), (36, (u64v (A.nsh .shl .u64 (x0.getD 4 0) 4))), (35, (u64v (x0.getD 4 0))), (34, (pT 1000 4)), (33, (u64v (A.nsh .shr .u64 (x0.getD 3 0) 60))), (32, (u64v (x0.getD 3 0))), (31, (pT 1000 3)), (2, (pT 1000 0)), (4, (pT 1001 0))], [(1000, (bU 5 x0 38)), (1001, (bU 5 x1 38))]⟩
theorem g22R6 (x0 x1 : List Nat) : g22D A n (pth 23) K ⟨[(2, (pT 1000 0)), (4, (pT 1001 0))], [(1000, (bU 5 x0 38)), (1001, (bU 5 x1 38))]⟩ = K .normal (g22R6s0 A x0 x1) := by kernel_rfl
def g22R7s0 (A : Ar) (x0 : Nat) (x1 x2 : List Nat) : St := ⟨[(7, (pT 8001 0)), (38, (aN .u64 5 (g27r0 A))), (2, (pT 1000 0)), (4, (pT 1001 0)), (6, (u64v x0))], [(8001, (bU 5 (g27r0 A) 38)), (1000, (bU 5 x1 38)), (1001, (bU 5 x2 38))]⟩
theorem g22R7 (x0 : Nat) (x1 x2 : List Nat) : g22D A n (pth 47) K ⟨[(2, (pT 1000 0)), (4, (pT 1001 0)), (6, (u64v x0))], [(1000, (bU 5 x1 38)), (1001, (bU 5 x2 38))]⟩ = match (generalizing := false) g27ok A with
    | true => K .normal (g22R7s0 A x0 x1 x2)
    | false => none := by kernel_rfl
def g22R8s0 (A : Ar) (x0 : Nat) (x1 x2 x3 : List Nat) : St := ⟨[(40, (bO (A.nc .gtr x0 0))), (39, (u64v x0)), (2, (pT 1000 0)), (4, (pT 1001 0)), (6, (u64v x0)), (7, (pT 8001 0))], [(1000, (bU 5 x1 38)), (1001, (bU 5 x2 38)), (8001, (bU 5 x3 38))]⟩
theorem g22R8 (x0 : Nat) (x1 x2 x3 : List Nat) : g22D A n (pth 159) K ⟨[(2, (pT 1000 0)), (4, (pT 1001 0)), (6, (u64v x0)), (7, (pT 8001 0))], [(1000, (bU 5 x1 38)), (1001, (bU 5 x2 38)), (8001, (bU 5 x3 38))]⟩ = K .normal (g22R8s0 A x0 x1 x2 x3) := by kernel_rfl
def g22R9s0 (A : Ar) (x0 : Nat) (x1 x2 x3 : List Nat) : St := ⟨[(6, (u64v (A.nb .sub .u64 x0 1))), (42, (u64v (A.nb .sub .u64 x0 1))), (41, (u64v x0)), (2, (pT 1000 0)), (4, (pT 1001 0)), (6, (u64v x0)), (7, (pT 8001 0))], [(1000, (bU 5 x1 38)), (1001, (bU 5 x2 38)), (8001, (bU 5 x3 38))]⟩
theorem g22R9 (x0 : Nat) (x1 x2 x3 : List Nat) : g22D A n (pth 351) K ⟨[(2, (pT 1000 0)), (4, (pT 1001 0)), (6, (u64v x0)), (7, (pT 8001 0))], [(1000, (bU 5 x1 38)), (1001, (bU 5 x2 38)), (8001, (bU 5 x3 38))]⟩ = K .normal (g22R9s0 A x0 x1 x2 x3) := by kernel_rfl
def g22R2s0 (A : Ar) (x0 : Nat) (x1 : Int) (x2 x3 : List Nat) : St := ⟨[(9, (bO (A.ic .gtr x1 0))), (8, (i6 x1)), (1, (u8v x0)), (2, (pT 1000 0)), (4, (pT 1001 0)), (5, (i6 x1))], [(1000, (bU 5 x2 38)), (1001, (bU 5 x3 38))]⟩
theorem g22R2 (x0 : Nat) (x1 : Int) (x2 x3 : List Nat) : g22D A n (pth 133) K ⟨[(1, (u8v x0)), (2, (pT 1000 0)), (4, (pT 1001 0)), (5, (i6 x1))], [(1000, (bU 5 x2 38)), (1001, (bU 5 x3 38))]⟩ = K .normal (g22R2s0 A x0 x1 x2 x3) := by kernel_rfl
def g22R0s0 (A : Ar) (x0 : List Nat) (x1 : Nat) : St := ⟨[(4, (pT 1001 0)), (2, (pT 1000 0)), (0, (aN .u64 5 x0)), (1, (u8v x1))], [(1001, (bU 5 [0, 0, 0, 0, 0] 38)), (1000, (bU 5 x0 38))]⟩
theorem g22R0 (x0 : List Nat) (x1 : Nat) : g22D A n (pth 2) K ⟨[(0, (aN .u64 5 x0)), (1, (u8v x1))], []⟩ = K .normal (g22R0s0 A x0 x1) := by kernel_rfl
def g22R1s0 (A : Ar) (x0 : Nat) (x1 x2 : List Nat) : St := ⟨[(5, (i6 4)), (1, (u8v x0)), (2, (pT 1000 0)), (4, (pT 1001 0))], [(1000, (bU 5 x1 38)), (1001, (bU 5 x2 38))]⟩
theorem g22R1 (x0 : Nat) (x1 x2 : List Nat) : g22D A n (pth 9) K ⟨[(1, (u8v x0)), (2, (pT 1000 0)), (4, (pT 1001 0))], [(1000, (bU 5 x1 38)), (1001, (bU 5 x2 38))]⟩ = K .normal (g22R1s0 A x0 x1 x2) := by kernel_rfl
end
def g22J4 {R : Type} (A : Ar) (n : Nat) (kk : AV → Heap → Option R) (lg22L2 : Nat → Int → List Nat → List Nat → Option R) (x0 : Nat) (x1 : Int) (x2 x3 : List Nat) : Option R :=
  match (generalizing := false) A.neg x1 with
  | true => none
  | false => match (generalizing := false) A.lt (A.toN x1) 5 with
    | true => match (generalizing := false) A.neg (A.ib .sub .i64 x1 1) with
      | true => none
      | false => match (generalizing := false) A.lt (A.toN (A.ib .sub .i64 x1 1)) 5 with
        | true => match (generalizing := false) A.neg x1 with
          | true => none
          | false => match (generalizing := false) A.lt (A.toN x1) 5 with
            | true => lg22L2 x0 (A.ib .sub .i64 x1 1) (x2.set (A.toN x1) (A.nb .or .u64 (A.nsh .shl .u64 (x2.getD (A.toN x1) 0) 8) (A.nsh .shr .u64 (x2.getD (A.toN (A.ib .sub .i64 x1 1)) 0) 56))) x3
            | false => none
        | false => none
    | false => none
set_option maxRecDepth 100000 in
theorem g22J4_eq {R : Type} (A : Ar) (n : Nat) (kk : AV → Heap → Option R) (m0 : Nat) (lg22L2 : Nat → Int → List Nat → List Nat → Option R) 
    (hg22L2 : ∀ (s : St) (x0 : Nat) (x1 : Int) (x2 x3 : List Nat), keep g22an 2 s = ⟨[(1, (u8v x0)), (2, (pT 1000 0)), (4, (pT 1001 0)), (5, (i6 x1))], [(1000, (bU 5 x2 38)), (1001, (bU 5 x3 38))]⟩ → g22V A n (pth 37) m0 (blockK 0 (g22Q A n (pth 7) (g22T kk))) s = lg22L2 x0 x1 x2 x3) (s : St) (x0 : Nat) (x1 : Int) (x2 x3 : List Nat) (h : keep g22an 4 s = ⟨[(1, (u8v x0)), (2, (pT 1000 0)), (4, (pT 1001 0)), (5, (i6 x1))], [(1000, (bU 5 x2 38)), (1001, (bU 5 x3 38))]⟩) :
    g22D A n (pth 101) (g22W A n (pth 37) m0 (blockK 0 (g22Q A n (pth 7) (g22T kk)))) s = g22J4 A n kk lg22L2 x0 x1 x2 x3 := by
  have h1 := (g22Wn A n _ _ _ _).trans (hg22L2 (g22R3s0 A x0 x1 (x2.set (A.toN x1) (A.nb .or .u64 (A.nsh .shl .u64 (x2.getD (A.toN x1) 0) 8) (A.nsh .shr .u64 (x2.getD (A.toN (A.ib .sub .i64 x1 1)) 0) 56))) x3) x0 (A.ib .sub .i64 x1 1) (x2.set (A.toN x1) (A.nb .or .u64 (A.nsh .shl .u64 (x2.getD (A.toN x1) 0) 8) (A.nsh .shr .u64 (x2.getD (A.toN (A.ib .sub .i64 x1 1)) 0) 56))) x3 (by kernel_rfl))
  have h2 := (g22F A n _ 3 _ (g22R4s0 A x0 x1 x2 x3) _ (by kernel_rfl) (by kernel_rfl)).trans (g22R3 A n (g22W A n (pth 37) m0 (blockK 0 (g22Q A n (pth 7) (g22T kk)))) x0 x1 (x2.set (A.toN x1) (A.nb .or .u64 (A.nsh .shl .u64 (x2.getD (A.toN x1) 0) 8) (A.nsh .shr .u64 (x2.getD (A.toN (A.ib .sub .i64 x1 1)) 0) 56))) x3)
  rw [h1] at h2
  have h3 := (g22Qn A n _ _ _).trans h2
  have h4 := (blockK_n 1 _ _).trans h3
  have h5 := (g22F A n _ 4 _ ⟨[(1, (u8v x0)), (2, (pT 1000 0)), (4, (pT 1001 0)), (5, (i6 x1))], [(1000, (bU 5 x2 38)), (1001, (bU 5 x3 38))]⟩ _ (by kernel_rfl) (by kernel_rfl)).trans (g22R4 A n (blockK 1 (g22Q A n (pth 229) (g22W A n (pth 37) m0 (blockK 0 (g22Q A n (pth 7) (g22T kk)))))) x0 x1 x2 x3)
  rw [h4] at h5
  have h6 := (g22p165 A n _ _).trans h5
  have h7 := (g22p101 A n _ _).trans h6
  exact (g22F A n _ 4 _ _ ⟨[(1, (u8v x0)), (2, (pT 1000 0)), (4, (pT 1001 0)), (5, (i6 x1))], [(1000, (bU 5 x2 38)), (1001, (bU 5 x3 38))]⟩ (by kernel_rfl) (h.trans (by kernel_rfl))).trans (h7.trans (by kernel_rfl))
def g22L11 {R : Type} (A : Ar) (n : Nat) (kk : AV → Heap → Option R)  : Nat → List Nat → List Nat → List Nat → Option R
  | 0, _, _, _ => none
  | m + 1, x0, x1, x2 => match (generalizing := false) g29ok A x0 x2 with
  | true => match (generalizing := false) !(g29r0 A x0 x2) with
    | true => match (generalizing := false) g28ok A x0 x2 1 with
      | true => g22L11 A n kk  m (g28r0 A x0 x2 1) x1 x2
      | false => none
    | false => kk (aN .u64 5 x0) [(1000, (bU 5 x0 38)), (1001, (bU 5 x0 38))]
  | false => none
set_option maxRecDepth 100000 in
theorem g22L11_eq {R : Type} (A : Ar) (n : Nat) (kk : AV → Heap → Option R)    (m : Nat) (s : St) (x0 x1 x2 : List Nat) (h : keep g22an 11 s = ⟨[(2, (pT 1000 0)), (4, (pT 1001 0)), (7, (pT 8001 0))], [(1000, (bU 5 x0 38)), (1001, (bU 5 x1 38)), (8001, (bU 5 x2 38))]⟩) :
    g22V A n (pth 1151) m (blockK 2 (g22Q A n (pth 511) (g22T kk))) s = g22L11 A n kk  m x0 x1 x2 := by
  induction m generalizing s x0 x1 x2 with
  | zero => rfl
  | succ m ih =>
    have h1 := (g22Wn A n _ _ _ _).trans (ih (g22R12s0 A x0 x1 x2) (g28r0 A x0 x2 1) x1 x2 (by kernel_rfl))
    have h2 := (blockK_n 3 _ _).trans h1
    have h3 := (g22F A n _ 12 _ (g22R11s0 A x0 x1 x2) _ (by kernel_rfl) (by kernel_rfl)).trans (g22R12 A n (blockK 3 (g22W A n (pth 1151) m (blockK 2 (g22Q A n (pth 511) (g22T kk))))) x0 x1 x2)
    rw [h2] at h3
    have h4 := (g22p3199 A n _ _).trans h3
    have h5 := (g22Qn A n _ _ _).trans h4
    have h6 := (g22p10367 A n _ _).trans h5
    have h7 : (g22T kk) .ret (g22R13s0 A x0 x1) = kk (aN .u64 5 x0) [(1000, (bU 5 x0 38)), (1001, (bU 5 x0 38))] := by kernel_rfl
    have h8 := (g22p1023 A n _ _).trans h7
    have h9 := (g22Qn A n _ _ _).trans h8
    have h10 := (g22F A n _ 13 _ (g22R11s0 A x0 x1 x2) _ (by kernel_rfl) (by kernel_rfl)).trans (g22R13 A n (g22Q A n (pth 1023) (g22T kk)) x0 x1)
    rw [h9] at h10
    have h11 := (g22p511 A n _ _).trans h10
    have h12 := (g22Qn A n _ _ _).trans h11
    have h13 := (blockK_hit 2 _ _).trans h12
    have h14 := (g22We A n (pth 1151) m _ _ _).trans h13
    have h15 := (g22Qe A n (pth 3199) _ _ _).trans h14
    have h16 := (g22p14463 A n _ _).trans h15
    have h17 := g22p6271 A n (g22Q A n (pth 3199) (g22W A n (pth 1151) m (blockK 2 (g22Q A n (pth 511) (g22T kk))))) (g22R11s0 A x0 x1 x2) (!(g29r0 A x0 x2)) (by kernel_rfl)
    rw [h6, h16] at h17
    have h18 := (g22Qn A n _ _ _).trans h17
    have h19 := (g22F A n _ 11 _ ⟨[(2, (pT 1000 0)), (4, (pT 1001 0)), (7, (pT 8001 0))], [(1000, (bU 5 x0 38)), (1001, (bU 5 x1 38)), (8001, (bU 5 x2 38))]⟩ _ (by kernel_rfl) (by kernel_rfl)).trans (g22R11 A n (g22Q A n (pth 6271) (g22Q A n (pth 3199) (g22W A n (pth 1151) m (blockK 2 (g22Q A n (pth 511) (g22T kk)))))) x0 x1 x2)
    rw [h18] at h19
    have h20 := (g22p2175 A n _ _).trans h19
    have h21 := (g22p1151 A n _ _).trans h20
    exact (loopD_first (s' := ⟨[(2, (pT 1000 0)), (4, (pT 1001 0)), (7, (pT 8001 0))], [(1000, (bU 5 x0 38)), (1001, (bU 5 x1 38)), (8001, (bU 5 x2 38))]⟩) (id := 11) (by kernel_rfl) (h.trans (by kernel_rfl)) _).trans ((g22Vs A n _ m _ _).trans (h21.trans (by kernel_rfl)))
def g22J10 {R : Type} (A : Ar) (n : Nat) (kk : AV → Heap → Option R)  (x0 : Nat) (x1 x2 x3 : List Nat) : Option R :=
  match (generalizing := false) g28ok A x1 x3 x0 with
  | true => g22L11 A n kk  n (g28r0 A x1 x3 x0) x2 x3
  | false => none
set_option maxRecDepth 100000 in
theorem g22J10_eq {R : Type} (A : Ar) (n : Nat) (kk : AV → Heap → Option R)    (s : St) (x0 : Nat) (x1 x2 x3 : List Nat) (h : keep g22an 10 s = ⟨[(2, (pT 1000 0)), (4, (pT 1001 0)), (6, (u64v x0)), (7, (pT 8001 0))], [(1000, (bU 5 x1 38)), (1001, (bU 5 x2 38)), (8001, (bU 5 x3 38))]⟩) :
    g22D A n (pth 127) (g22T kk) s = g22J10 A n kk  x0 x1 x2 x3 := by
  have h1 := (g22p639 A n _ _).trans (g22L11_eq A n kk    n (g22R10s0 A x0 x1 x2 x3) (g28r0 A x1 x3 x0) x2 x3 (by kernel_rfl))
  have h2 := (g22p383 A n _ _).trans h1
  have h3 := (g22p255 A n _ _).trans h2
  have h4 := (g22Qn A n _ _ _).trans h3
  have h5 := (g22F A n _ 10 _ ⟨[(2, (pT 1000 0)), (4, (pT 1001 0)), (6, (u64v x0)), (7, (pT 8001 0))], [(1000, (bU 5 x1 38)), (1001, (bU 5 x2 38)), (8001, (bU 5 x3 38))]⟩ _ (by kernel_rfl) (by kernel_rfl)).trans (g22R10 A n (g22Q A n (pth 255) (g22T kk)) x0 x1 x2 x3)
  rw [h4] at h5
  have h6 := (g22p127 A n _ _).trans h5
  exact (g22F A n _ 10 _ _ ⟨[(2, (pT 1000 0)), (4, (pT 1001 0)), (6, (u64v x0)), (7, (pT 8001 0))], [(1000, (bU 5 x1 38)), (1001, (bU 5 x2 38)), (8001, (bU 5 x3 38))]⟩ (by kernel_rfl) (h.trans (by kernel_rfl))).trans (h6.trans (by kernel_rfl))
def g22J5 {R : Type} (A : Ar) (n : Nat) (kk : AV → Heap → Option R)  (x0 : Nat) (x1 x2 : List Nat) : Option R :=
  match (generalizing := false) g27ok A with
  | true => match (generalizing := false) A.nc .gtr (A.nb .or .u64 (A.nsh .shr .u64 ((x1.set 0 (A.nb .or .u64 (A.nsh .shl .u64 (x1.getD 0 0) 8) x0)).getD 3 0) 60) (A.nsh .shl .u64 ((x1.set 0 (A.nb .or .u64 (A.nsh .shl .u64 (x1.getD 0 0) 8) x0)).getD 4 0) 4)) 0 with
    | true => g22J10 A n kk  (A.nb .sub .u64 (A.nb .or .u64 (A.nsh .shr .u64 ((x1.set 0 (A.nb .or .u64 (A.nsh .shl .u64 (x1.getD 0 0) 8) x0)).getD 3 0) 60) (A.nsh .shl .u64 ((x1.set 0 (A.nb .or .u64 (A.nsh .shl .u64 (x1.getD 0 0) 8) x0)).getD 4 0) 4)) 1) (x1.set 0 (A.nb .or .u64 (A.nsh .shl .u64 (x1.getD 0 0) 8) x0)) x2 (g27r0 A)
    | false => g22J10 A n kk  (A.nb .or .u64 (A.nsh .shr .u64 ((x1.set 0 (A.nb .or .u64 (A.nsh .shl .u64 (x1.getD 0 0) 8) x0)).getD 3 0) 60) (A.nsh .shl .u64 ((x1.set 0 (A.nb .or .u64 (A.nsh .shl .u64 (x1.getD 0 0) 8) x0)).getD 4 0) 4)) (x1.set 0 (A.nb .or .u64 (A.nsh .shl .u64 (x1.getD 0 0) 8) x0)) x2 (g27r0 A)
  | false => none
set_option maxRecDepth 100000 in
theorem g22J5_eq {R : Type} (A : Ar) (n : Nat) (kk : AV → Heap → Option R)    (s : St) (x0 : Nat) (x1 x2 : List Nat) (h : keep g22an 5 s = ⟨[(1, (u8v x0)), (2, (pT 1000 0)), (4, (pT 1001 0))], [(1000, (bU 5 x1 38)), (1001, (bU 5 x2 38))]⟩) :
    g22D A n (pth 7) (g22T kk) s = g22J5 A n kk  x0 x1 x2 := by
  have h1 := (g22Qn A n _ _ _).trans (g22J10_eq A n kk     (g22R9s0 A (A.nb .or .u64 (A.nsh .shr .u64 ((x1.set 0 (A.nb .or .u64 (A.nsh .shl .u64 (x1.getD 0 0) 8) x0)).getD 3 0) 60) (A.nsh .shl .u64 ((x1.set 0 (A.nb .or .u64 (A.nsh .shl .u64 (x1.getD 0 0) 8) x0)).getD 4 0) 4)) (x1.set 0 (A.nb .or .u64 (A.nsh .shl .u64 (x1.getD 0 0) 8) x0)) x2 (g27r0 A)) (A.nb .sub .u64 (A.nb .or .u64 (A.nsh .shr .u64 ((x1.set 0 (A.nb .or .u64 (A.nsh .shl .u64 (x1.getD 0 0) 8) x0)).getD 3 0) 60) (A.nsh .shl .u64 ((x1.set 0 (A.nb .or .u64 (A.nsh .shl .u64 (x1.getD 0 0) 8) x0)).getD 4 0) 4)) 1) (x1.set 0 (A.nb .or .u64 (A.nsh .shl .u64 (x1.getD 0 0) 8) x0)) x2 (g27r0 A) (by kernel_rfl))
  have h2 := (g22F A n _ 9 _ (g22R8s0 A (A.nb .or .u64 (A.nsh .shr .u64 ((x1.set 0 (A.nb .or .u64 (A.nsh .shl .u64 (x1.getD 0 0) 8) x0)).getD 3 0) 60) (A.nsh .shl .u64 ((x1.set 0 (A.nb .or .u64 (A.nsh .shl .u64 (x1.getD 0 0) 8) x0)).getD 4 0) 4)) (x1.set 0 (A.nb .or .u64 (A.nsh .shl .u64 (x1.getD 0 0) 8) x0)) x2 (g27r0 A)) _ (by kernel_rfl) (by kernel_rfl)).trans (g22R9 A n (g22Q A n (pth 127) (g22T kk)) (A.nb .or .u64 (A.nsh .shr .u64 ((x1.set 0 (A.nb .or .u64 (A.nsh .shl .u64 (x1.getD 0 0) 8) x0)).getD 3 0) 60) (A.nsh .shl .u64 ((x1.set 0 (A.nb .or .u64 (A.nsh .shl .u64 (x1.getD 0 0) 8) x0)).getD 4 0) 4)) (x1.set 0 (A.nb .or .u64 (A.nsh .shl .u64 (x1.getD 0 0) 8) x0)) x2 (g27r0 A))
  rw [h1] at h2
  have h3 := (g22Qn A n _ _ _).trans (g22J10_eq A n kk     (g22R8s0 A (A.nb .or .u64 (A.nsh .shr .u64 ((x1.set 0 (A.nb .or .u64 (A.nsh .shl .u64 (x1.getD 0 0) 8) x0)).getD 3 0) 60) (A.nsh .shl .u64 ((x1.set 0 (A.nb .or .u64 (A.nsh .shl .u64 (x1.getD 0 0) 8) x0)).getD 4 0) 4)) (x1.set 0 (A.nb .or .u64 (A.nsh .shl .u64 (x1.getD 0 0) 8) x0)) x2 (g27r0 A)) (A.nb .or .u64 (A.nsh .shr .u64 ((x1.set 0 (A.nb .or .u64 (A.nsh .shl .u64 (x1.getD 0 0) 8) x0)).getD 3 0) 60) (A.nsh .shl .u64 ((x1.set 0 (A.nb .or .u64 (A.nsh .shl .u64 (x1.getD 0 0) 8) x0)).getD 4 0) 4)) (x1.set 0 (A.nb .or .u64 (A.nsh .shl .u64 (x1.getD 0 0) 8) x0)) x2 (g27r0 A) (by kernel_rfl))
  have h4 := (g22p479 A n _ _).trans h3
  have h5 := g22p223 A n (g22Q A n (pth 127) (g22T kk)) (g22R8s0 A (A.nb .or .u64 (A.nsh .shr .u64 ((x1.set 0 (A.nb .or .u64 (A.nsh .shl .u64 (x1.getD 0 0) 8) x0)).getD 3 0) 60) (A.nsh .shl .u64 ((x1.set 0 (A.nb .or .u64 (A.nsh .shl .u64 (x1.getD 0 0) 8) x0)).getD 4 0) 4)) (x1.set 0 (A.nb .or .u64 (A.nsh .shl .u64 (x1.getD 0 0) 8) x0)) x2 (g27r0 A)) (A.nc .gtr (A.nb .or .u64 (A.nsh .shr .u64 ((x1.set 0 (A.nb .or .u64 (A.nsh .shl .u64 (x1.getD 0 0) 8) x0)).getD 3 0) 60) (A.nsh .shl .u64 ((x1.set 0 (A.nb .or .u64 (A.nsh .shl .u64 (x1.getD 0 0) 8) x0)).getD 4 0) 4)) 0) (by kernel_rfl)
  rw [h2, h4] at h5
  have h6 := (g22Qn A n _ _ _).trans h5
  have h7 := (g22F A n _ 8 _ (g22R7s0 A (A.nb .or .u64 (A.nsh .shr .u64 ((x1.set 0 (A.nb .or .u64 (A.nsh .shl .u64 (x1.getD 0 0) 8) x0)).getD 3 0) 60) (A.nsh .shl .u64 ((x1.set 0 (A.nb .or .u64 (A.nsh .shl .u64 (x1.getD 0 0) 8) x0)).getD 4 0) 4)) (x1.set 0 (A.nb .or .u64 (A.nsh .shl .u64 (x1.getD 0 0) 8) x0)) x2) _ (by kernel_rfl) (by kernel_rfl)).trans (g22R8 A n (g22Q A n (pth 223) (g22Q A n (pth 127) (g22T kk))) (A.nb .or .u64 (A.nsh .shr .u64 ((x1.set 0 (A.nb .or .u64 (A.nsh .shl .u64 (x1.getD 0 0) 8) x0)).getD 3 0) 60) (A.nsh .shl .u64 ((x1.set 0 (A.nb .or .u64 (A.nsh .shl .u64 (x1.getD 0 0) 8) x0)).getD 4 0) 4)) (x1.set 0 (A.nb .or .u64 (A.nsh .shl .u64 (x1.getD 0 0) 8) x0)) x2 (g27r0 A))
  rw [h6] at h7
  have h8 := (g22p95 A n _ _).trans h7
  have h9 := (g22p63 A n _ _).trans h8
  have h10 := (g22Qn A n _ _ _).trans h9
  have h11 := (g22F A n _ 7 _ (g22R6s0 A (x1.set 0 (A.nb .or .u64 (A.nsh .shl .u64 (x1.getD 0 0) 8) x0)) x2) _ (by kernel_rfl) (by kernel_rfl)).trans (g22R7 A n (g22Q A n (pth 63) (g22T kk)) (A.nb .or .u64 (A.nsh .shr .u64 ((x1.set 0 (A.nb .or .u64 (A.nsh .shl .u64 (x1.getD 0 0) 8) x0)).getD 3 0) 60) (A.nsh .shl .u64 ((x1.set 0 (A.nb .or .u64 (A.nsh .shl .u64 (x1.getD 0 0) 8) x0)).getD 4 0) 4)) (x1.set 0 (A.nb .or .u64 (A.nsh .shl .u64 (x1.getD 0 0) 8) x0)) x2)
  rw [h10] at h11
  have h12 := (g22p31 A n _ _).trans h11
  have h13 := (g22Qn A n _ _ _).trans h12
  have h14 := (g22F A n _ 6 _ (g22R5s0 A x0 x1 x2) _ (by kernel_rfl) (by kernel_rfl)).trans (g22R6 A n (g22Q A n (pth 31) (g22T kk)) (x1.set 0 (A.nb .or .u64 (A.nsh .shl .u64 (x1.getD 0 0) 8) x0)) x2)
  rw [h13] at h14
  have h15 := (g22p15 A n _ _).trans h14
  have h16 := (g22Qn A n _ _ _).trans h15
  have h17 := (g22F A n _ 5 _ ⟨[(1, (u8v x0)), (2, (pT 1000 0)), (4, (pT 1001 0))], [(1000, (bU 5 x1 38)), (1001, (bU 5 x2 38))]⟩ _ (by kernel_rfl) (by kernel_rfl)).trans (g22R5 A n (g22Q A n (pth 15) (g22T kk)) x0 x1 x2)
  rw [h16] at h17
  have h18 := (g22p7 A n _ _).trans h17
  exact (g22F A n _ 5 _ _ ⟨[(1, (u8v x0)), (2, (pT 1000 0)), (4, (pT 1001 0))], [(1000, (bU 5 x1 38)), (1001, (bU 5 x2 38))]⟩ (by kernel_rfl) (h.trans (by kernel_rfl))).trans (h18.trans (by kernel_rfl))
def g22L2 {R : Type} (A : Ar) (n : Nat) (kk : AV → Heap → Option R)  : Nat → Nat → Int → List Nat → List Nat → Option R
  | 0, _, _, _, _ => none
  | m + 1, x0, x1, x2, x3 => match (generalizing := false) A.ic .gtr x1 0 with
  | true => g22J4 A n kk (g22L2 A n kk  m) x0 x1 x2 x3
  | false => g22J5 A n kk  x0 x2 x3
set_option maxRecDepth 100000 in
theorem g22L2_eq {R : Type} (A : Ar) (n : Nat) (kk : AV → Heap → Option R)    (m : Nat) (s : St) (x0 : Nat) (x1 : Int) (x2 x3 : List Nat) (h : keep g22an 2 s = ⟨[(1, (u8v x0)), (2, (pT 1000 0)), (4, (pT 1001 0)), (5, (i6 x1))], [(1000, (bU 5 x2 38)), (1001, (bU 5 x3 38))]⟩) :
    g22V A n (pth 37) m (blockK 0 (g22Q A n (pth 7) (g22T kk))) s = g22L2 A n kk  m x0 x1 x2 x3 := by
  induction m generalizing s x0 x1 x2 x3 with
  | zero => rfl
  | succ m ih =>
    have h1 := (g22Qn A n _ _ _).trans (g22J4_eq A n kk m (g22L2 A n kk  m) ih  (g22R2s0 A x0 x1 x2 x3) x0 x1 x2 x3 (by kernel_rfl))
    have h2 := (g22p325 A n _ _).trans h1
    have h3 := (g22Qn A n _ _ _).trans (g22J5_eq A n kk     (g22R2s0 A x0 x1 x2 x3) x0 x2 x3 (by kernel_rfl))
    have h4 := (blockK_hit 0 _ _).trans h3
    have h5 := (g22We A n (pth 37) m _ _ _).trans h4
    have h6 := (g22Qe A n (pth 101) _ _ _).trans h5
    have h7 := (g22p453 A n _ _).trans h6
    have h8 := g22p197 A n (g22Q A n (pth 101) (g22W A n (pth 37) m (blockK 0 (g22Q A n (pth 7) (g22T kk))))) (g22R2s0 A x0 x1 x2 x3) (A.ic .gtr x1 0) (by kernel_rfl)
    rw [h2, h7] at h8
    have h9 := (g22Qn A n _ _ _).trans h8
    have h10 := (g22F A n _ 2 _ ⟨[(1, (u8v x0)), (2, (pT 1000 0)), (4, (pT 1001 0)), (5, (i6 x1))], [(1000, (bU 5 x2 38)), (1001, (bU 5 x3 38))]⟩ _ (by kernel_rfl) (by kernel_rfl)).trans (g22R2 A n (g22Q A n (pth 197) (g22Q A n (pth 101) (g22W A n (pth 37) m (blockK 0 (g22Q A n (pth 7) (g22T kk)))))) x0 x1 x2 x3)
    rw [h9] at h10
    have h11 := (g22p69 A n _ _).trans h10
    have h12 := (g22p37 A n _ _).trans h11
    exact (loopD_first (s' := ⟨[(1, (u8v x0)), (2, (pT 1000 0)), (4, (pT 1001 0)), (5, (i6 x1))], [(1000, (bU 5 x2 38)), (1001, (bU 5 x3 38))]⟩) (id := 2) (by kernel_rfl) (h.trans (by kernel_rfl)) _).trans ((g22Vs A n _ m _ _).trans (h12.trans (by kernel_rfl)))
def g22 {R : Type} (A : Ar) (n : Nat) (kk : AV → Heap → Option R) (a : List Nat) (b : Nat) : Option R :=
  g22L2 A n kk  n b 4 a [0, 0, 0, 0, 0]
set_option maxRecDepth 100000 in
theorem g22_eq {R : Type} (A : Ar) (n : Nat) (kk : AV → Heap → Option R) (a : List Nat) (b : Nat) :
    funD A gtys (g22O A) g22an n (bodyOf Try.f22) g22res [(aN .u64 5 a), (u8v b)] [] kk = g22 A n kk a b := by
  have h1 := (g22p21 A n _ _).trans (g22L2_eq A n kk    n (g22R1s0 A b a [0, 0, 0, 0, 0]) b 4 a [0, 0, 0, 0, 0] (by kernel_rfl))
  have h2 := (g22p13 A n _ _).trans h1
  have h3 := (g22Qn A n _ _ _).trans h2
  have h4 := (g22F A n _ 1 _ (g22R0s0 A a b) _ (by kernel_rfl) (by kernel_rfl)).trans (g22R1 A n (g22Q A n (pth 13) (g22Q A n (pth 7) (g22T kk))) b a [0, 0, 0, 0, 0])
  rw [h3] at h4
  have h5 := (g22p5 A n _ _).trans h4
  have h6 := (g22p3 A n _ _).trans h5
  have h7 := (g22Qn A n _ _ _).trans h6
  have h8 := (g22F A n _ 0 _ ⟨[(0, (aN .u64 5 a)), (1, (u8v b))], []⟩ _ (by kernel_rfl) (by kernel_rfl)).trans (g22R0 A n (g22Q A n (pth 3) (g22T kk)) a b)
  rw [h7] at h8
  have h9 := (g22p1 A n _ _).trans h8
  exact (show funD A gtys (g22O A) g22an n (bodyOf Try.f22) g22res [(aN .u64 5 a), (u8v b)] [] kk = g22D A n (pth 1) (g22T kk) ⟨[(0, (aN .u64 5 a)), (1, (u8v b))], []⟩ from by kernel_rfl).trans (h9.trans (by kernel_rfl))
def g22is (o : Option AV) : Bool := match o with
  | some (aN .u64 5 _) => true
  | _ => false
def g22g0 (o : Option AV) : List Nat := match o with
  | some (aN .u64 5 x) => x
  | _ => []
theorem g22is_spec {o : Option AV} (h : g22is o = true) : o = some (aN .u64 5 (g22g0 o)) := by
  unfold g22is at h
  split at h
  · rfl
  · cases h
def g22v (A : Ar) (a : List Nat) (b : Nat) : Option AV := g22 A (100000) (fun v _ => some v) a b
def g22ok (A : Ar) (a : List Nat) (b : Nat) : Bool := g22is (g22v A a b)
def g22r0 (A : Ar) (a : List Nat) (b : Nat) : List Nat := g22g0 (g22v A a b)
theorem g22ok_spec {A : Ar} {a b} (h : g22ok A a b = true) : g22v A a b = some (aN .u64 5 (g22r0 A a b)) := g22is_spec h
def g22o (A : Ar) (args : List AV) : Option (Bool × AV) := match args with
  | [.v (.agg [.nums .u64 n0 a]), .v (.cell (.nat .u8 b))] => some (Nat.beq n0 5 && (g22ok A a b), .v (.agg [.nums .u64 5 (g22r0 A a b)]))
  | _ => none
theorem g22o_sound : ∀ args v, g22o realA args = some (true, v) → Fn1 Try.prog 22 args v := by
  intro args v h
  unfold g22o at h
  split at h
  · rename_i n0 a b
    simp only [Option.some.injEq, Prod.mk.injEq] at h
    obtain ⟨hc, h⟩ := h
    subst h
    · skip
      simp only [Bool.and_eq_true] at hc
      have en0 := beq_true hc.1
      subst en0
      replace hc := hc.2
      exact fn1_of mixed gtysOK g22O_sound g22O_det (an := g22an) (n := 100000) Try.func22 (c := bodyOf Try.f22) rfl (by kernel_rfl) Try.call22 (Nat.le_of_ble_eq_true rfl) (fun b => rfl) (fun _ => (g22_eq realA (100000) (fun v _ => some v) a b).trans (show g22v realA a b = _ from g22ok_spec hc))
  · cases h
def g23O (A : Ar) : Orc := orcOf []
theorem g23O_sound : OSound Try.prog (g23O realA) := orc_sound fun f g hm args v hv => by
  cases hm
theorem g23O_det : ODet (g23O realA) := orc_det _
def g23an : Ann := [(0, ([0], [])), (1, ([1], [1000])), (2, ([1, 3], [1000, 2000])), (3, ([1, 3, 7, 8], [1000, 2000])), (4, ([1, 3, 7, 8], [1000, 2000])), (5, ([1, 3, 4, 7, 8], [1000, 2000])), (6, ([1, 3, 7, 8], [1000, 2000])), (7, ([3], [2000]))]
def g23res : List ResultVar := [.tmp 2]
noncomputable def g23D {R : Type} (A : Ar) (n : Nat) (p : List Bool) (K : Ex → St → Option R) (s : St) : Option R := codeD A gtys (g23O A) g23an n (sub (bodyOf Try.f23) p) K s
noncomputable def g23V {R : Type} (A : Ar) (n : Nat) (p : List Bool) (m : Nat) (K : Ex → St → Option R) (s : St) : Option R := loopD (fun K' s'' => codeD A gtys (g23O A) g23an n (sub (bodyOf Try.f23) p) K' s'') m K s
noncomputable def g23Q {R : Type} (A : Ar) (n : Nat) (p : List Bool) (K : Ex → St → Option R) : Ex → St → Option R := seqC (g23D A n p K) K
noncomputable def g23W {R : Type} (A : Ar) (n : Nat) (p : List Bool) (m : Nat) (K : Ex → St → Option R) : Ex → St → Option R := seqC (g23V A n p m K) K
noncomputable def g23T {R : Type} (kk : AV → Heap → Option R) : Ex → St → Option R := finD gtys g23res kk
theorem g23Qn {R : Type} (A : Ar) (n : Nat) (p : List Bool) (K : Ex → St → Option R) (s : St) : g23Q A n p K .normal s = g23D A n p K s := rfl
theorem g23Qe {R : Type} (A : Ar) (n : Nat) (p : List Bool) (K : Ex → St → Option R) (i : Nat) (s : St) : g23Q A n p K (.exit i) s = K (.exit i) s := rfl
theorem g23Wn {R : Type} (A : Ar) (n : Nat) (p : List Bool) (m : Nat) (K : Ex → St → Option R) (s : St) : g23W A n p m K .normal s = g23V A n p m K s := rfl
theorem g23We {R : Type} (A : Ar) (n : Nat) (p : List Bool) (m : Nat) (K : Ex → St → Option R) (i : Nat) (s : St) : g23W A n p m K (.exit i) s = K (.exit i) s := rfl
theorem g23Vs {R : Type} (A : Ar) (n : Nat) (p : List Bool) (m : Nat) (K : Ex → St → Option R) (s : St) : g23V A n p (m + 1) K s = g23D A n p (g23W A n p m K) s := rfl
theorem g23F {R : Type} (A : Ar) (n : Nat) (p : List Bool) (i : Nat) (K : Ex → St → Option R) (s s' : St) (hf : firstReg (sub (bodyOf Try.f23) p) = some i) (h : keep g23an i s = keep g23an i s') : g23D A n p K s = g23D A n p K s' := codeD_first hf h K
section
variable {R : Type} (A : Ar) (n : Nat) (K : Ex → St → Option R) (s : St)
theorem g23p1 : g23D A n (pth 1) K s = g23D A n (pth 2) (g23Q A n (pth 3) K) s := by kernel_rfl
theorem g23p3 : g23D A n (pth 3) K s = g23D A n (pth 5) (g23Q A n (pth 7) K) s := by kernel_rfl
theorem g23p7 : g23D A n (pth 7) K s = g23D A n (pth 11) (g23Q A n (pth 15) K) s := by kernel_rfl
theorem g23p11 : g23D A n (pth 11) K s = g23D A n (pth 19) (g23Q A n (pth 27) K) s := by kernel_rfl
theorem g23p27 : g23D A n (pth 27) K s = g23D A n (pth 43) (blockK 0 K) s := by kernel_rfl
theorem g23p43 : g23D A n (pth 43) K s = g23V A n (pth 75) n K s := by kernel_rfl
theorem g23p75 : g23D A n (pth 75) K s = g23D A n (pth 139) (g23Q A n (pth 203) K) s := by kernel_rfl
theorem g23p203 : g23D A n (pth 203) K s = g23D A n (pth 331) (g23Q A n (pth 459) K) s := by kernel_rfl
theorem g23p331 (t : Bool) : ev s (.tmp 9) = some (.v (.cell (.bool t))) → g23D A n (pth 331) K s = (match t with
    | true => g23D A n (pth 587) K s
    | false => g23D A n (pth 843) K s) := codeD_cond t
theorem g23p587 : g23D A n (pth 587) K s = K .normal s := by kernel_rfl
theorem g23p843 : g23D A n (pth 843) K s = K (.exit 0) s := by kernel_rfl
theorem g23p459 : g23D A n (pth 459) K s = g23D A n (pth 715) (g23Q A n (pth 971) K) s := by kernel_rfl
theorem g23p715 : g23D A n (pth 715) K s = g23D A n (pth 1227) (blockK 1 K) s := by kernel_rfl
theorem g23p1227 : g23D A n (pth 1227) K s = g23D A n (pth 2251) (g23Q A n (pth 3275) K) s := by kernel_rfl
theorem g23p15 : g23D A n (pth 15) K s = g23D A n (pth 23) (g23Q A n (pth 31) K) s := by kernel_rfl
theorem g23p31 : g23D A n (pth 31) K s = K .ret s := by kernel_rfl
def g23R4s0 (A : Ar) (x0 : Nat) (x1 x2 : Int) (x3 : List Nat) (x4 : Nat) (x5 : List Nat) : St := ⟨[(4, (i6 x2)), (10, (i6 x2)), (1, (pT 1000 0)), (3, (sL 2000 none x0 1)), (7, (i6 x1)), (8, (i6 x2))], [(1000, (bU 5 x3 38)), (2000, ⟨[.nums .u8 x4 x5], 5, 2⟩)]⟩
theorem g23R4 (x0 : Nat) (x1 x2 : Int) (x3 : List Nat) (x4 : Nat) (x5 : List Nat) : g23D A n (pth 2251) K ⟨[(1, (pT 1000 0)), (3, (sL 2000 none x0 1)), (7, (i6 x1)), (8, (i6 x2))], [(1000, (bU 5 x3 38)), (2000, ⟨[.nums .u8 x4 x5], 5, 2⟩)]⟩ = K .normal (g23R4s0 A x0 x1 x2 x3 x4 x5) := by kernel_rfl
def g23R5s0 (A : Ar) (x0 : Nat) (x1 x2 x3 : Int) (x4 : List Nat) (x5 : Nat) (x6 : List Nat) : St := ⟨[(22, (.v (.cell (.ptr 2000 0 (some ⟨A.toN x1, 1, x0, A.toN x1, 0, 1⟩))))), (21, (u8v (A.n2n .u8 (A.nsh .shr .u64 (x4.getD (A.toN (A.ib .quo .i64 x1 8)) 0) (A.toN (A.ib .mul .i64 8 (A.ib .rem .i64 x1 8))))))), (20, (u64v (A.nsh .shr .u64 (x4.getD (A.toN (A.ib .quo .i64 x1 8)) 0) (A.toN (A.ib .mul .i64 8 (A.ib .rem .i64 x1 8)))))), (19, (i6 (A.ib .mul .i64 8 (A.ib .rem .i64 x1 8)))), (18, (i6 (A.ib .rem .i64 x1 8))), (17, (i6 x1)), (16, (u64v (x4.getD (A.toN (A.ib .quo .i64 x1 8)) 0))), (15, (.v (.cell (.ptr 1000 0 (some ⟨A.toN (A.ib .quo .i64 x1 8), 1, 5, 0, 0, 0⟩))))), (14, (i6 (A.ib .quo .i64 x1 8))), (13, (i6 x1)), (12, (i6 x1)), (11, (sL 2000 none x0 1)), (1, (pT 1000 0)), (3, (sL 2000 none x0 1)), (4, (i6 x1)), (7, (i6 x2)), (8, (i6 x3))], [(1000, (bU 5 x4 38)), (2000, ⟨[.nums .u8 x5 (x6.set (A.toN x1) (A.n2n .u8 (A.nsh .shr .u64 (x4.getD (A.toN (A.ib .quo .i64 x1 8)) 0) (A.toN (A.ib .mul .i64 8 (A.ib .rem .i64 x1 8))))))], 5, 2⟩)]⟩
theorem g23R5 (x0 : Nat) (x1 x2 x3 : Int) (x4 : List Nat) (x5 : Nat) (x6 : List Nat) : g23D A n (pth 3275) K ⟨[(1, (pT 1000 0)), (3, (sL 2000 none x0 1)), (4, (i6 x1)), (7, (i6 x2)), (8, (i6 x3))], [(1000, (bU 5 x4 38)), (2000, ⟨[.nums .u8 x5 x6], 5, 2⟩)]⟩ = match (generalizing := false) A.neg (A.ib .quo .i64 x1 8) with
    | true => none
    | false => match (generalizing := false) A.lt (A.toN (A.ib .quo .i64 x1 8)) 5 with
      | true => match (generalizing := false) A.neg (A.ib .mul .i64 8 (A.ib .rem .i64 x1 8)) with
        | true => none
        | false => match (generalizing := false) A.neg x1 with
          | true => none
          | false => match (generalizing := false) A.lt (A.toN x1) x0 with
            | true => K .normal (g23R5s0 A x0 x1 x2 x3 x4 x5 x6)
            | false => none
      | false => none := by kernel_rfl
def g23R6s0 (A : Ar) (x0 : Nat) (x1 x2 : Int) (x3 : List Nat) (x4 : Nat) (x5 : List Nat) : St := ⟨[(8, (i6 (A.ib .add .i64 x2 1))), (23, (i6 (A.ib .add .i64 x2 1))), (1, (pT 1000 0)), (3, (sL 2000 none x0 1)), (7, (i6 x1)), (8, (i6 x2))], [(1000, (bU 5 x3 38)), (2000, ⟨[.nums .u8 x4 x5], 5, 2⟩)]⟩
theorem g23R6 (x0 : Nat) (x1 x2 : Int) (x3 : List Nat) (x4 : Nat) (x5 : List Nat) : g23D A n (pth 971) K ⟨[(1, (pT 1000 0)), (3, (sL 2000 none x0 1)), (7, (i6 x1)), (8, (i6 x2))], [(1000, (bU 5 x3 38)), (2000, ⟨[.nums .u8 x4 x5], 5, 2⟩)]⟩ = K .normal (g23R6s0 A x0 x1 x2 x3 x4 x5) := by kernel_rfl
def g23R3s0 (A : Ar) (x0 : Nat) (x1 x2 : Int) (x3 : List Nat) (x4 : Nat) (x5 : List Nat) : St := ⟨[(9, (bO (A.ic .lss x2 x1))), (1, (pT 1000 0)), (3, (sL 2000 none x0 1)), (7, (i6 x1)), (8, (i6 x2))], [(1000, (bU 5 x3 38)), (2000, ⟨[.nums .u8 x4 x5], 5, 2⟩)]⟩
theorem g23R3 (x0 : Nat) (x1 x2 : Int) (x3 : List Nat) (x4 : Nat) (x5 : List Nat) : g23D A n (pth 139) K ⟨[(1, (pT 1000 0)), (3, (sL 2000 none x0 1)), (7, (i6 x1)), (8, (i6 x2))], [(1000, (bU 5 x3 38)), (2000, ⟨[.nums .u8 x4 x5], 5, 2⟩)]⟩ = K .normal (g23R3s0 A x0 x1 x2 x3 x4 x5) := by kernel_rfl
def g23R7s0 (A : Ar) (x0 x1 : Nat) (x2 : List Nat) : St := ⟨[(2, (tS (x2.take x0))), (25, (tS (x2.take x0))), (24, (sL 2000 none x0 1)), (3, (sL 2000 none x0 1))], [(2000, ⟨[.nums .u8 x1 x2], 5, 2⟩)]⟩
theorem g23R7 (x0 x1 : Nat) (x2 : List Nat) : g23D A n (pth 23) K ⟨[(3, (sL 2000 none x0 1))], [(2000, ⟨[.nums .u8 x1 x2], 5, 2⟩)]⟩ = K .normal (g23R7s0 A x0 x1 x2) := by kernel_rfl
def g23R0s0 (A : Ar) (x0 : List Nat) : St := ⟨[(2, (tS [])), (1, (pT 1000 0)), (0, (aN .u64 5 x0))], [(1000, (bU 5 x0 38))]⟩
theorem g23R0 (x0 : List Nat) : g23D A n (pth 2) K ⟨[(0, (aN .u64 5 x0))], []⟩ = K .normal (g23R0s0 A x0) := by kernel_rfl
def g23R1s0 (A : Ar) (x0 : List Nat) : St := ⟨[(3, (sL 2000 none 32 1)), (5, (sL 2000 none 32 1)), (1, (pT 1000 0))], [(2000, ⟨[.nums .u8 32 (List.replicate 32 0)], 5, 2⟩), (1000, (bU 5 x0 38))]⟩
theorem g23R1 (x0 : List Nat) : g23D A n (pth 5) K ⟨[(1, (pT 1000 0))], [(1000, (bU 5 x0 38))]⟩ = match (generalizing := false) A.le 32 32 with
    | true => match (generalizing := false) A.le 32 140737488355328 with
      | true => K .normal (g23R1s0 A x0)
      | false => none
    | false => none := by kernel_rfl
def g23R2s0 (A : Ar) (x0 : Nat) (x1 : List Nat) (x2 : Nat) (x3 : List Nat) : St := ⟨[(8, (i6 0)), (7, (i6 (A.ofN x0))), (6, (sL 2000 none x0 1)), (1, (pT 1000 0)), (3, (sL 2000 none x0 1))], [(1000, (bU 5 x1 38)), (2000, ⟨[.nums .u8 x2 x3], 5, 2⟩)]⟩
theorem g23R2 (x0 : Nat) (x1 : List Nat) (x2 : Nat) (x3 : List Nat) : g23D A n (pth 19) K ⟨[(1, (pT 1000 0)), (3, (sL 2000 none x0 1))], [(1000, (bU 5 x1 38)), (2000, ⟨[.nums .u8 x2 x3], 5, 2⟩)]⟩ = K .normal (g23R2s0 A x0 x1 x2 x3) := by kernel_rfl
end
def g23J4 {R : Type} (A : Ar) (n : Nat) (kk : AV → Heap → Option R) (lg23L3 : Nat → Int → Int → List Nat → Nat → List Nat → Option R) (x0 : Nat) (x1 x2 : Int) (x3 : List Nat) (x4 : Nat) (x5 : List Nat) : Option R :=
  match (generalizing := false) A.neg (A.ib .quo .i64 x2 8) with
  | true => none
  | false => match (generalizing := false) A.lt (A.toN (A.ib .quo .i64 x2 8)) 5 with
    | true => match (generalizing := false) A.neg (A.ib .mul .i64 8 (A.ib .rem .i64 x2 8)) with
      | true => none
      | false => match (generalizing := false) A.neg x2 with
        | true => none
        | false => match (generalizing := false) A.lt (A.toN x2) x0 with
          | true => lg23L3 x0 x1 (A.ib .add .i64 x2 1) x3 x4 (x5.set (A.toN x2) (A.n2n .u8 (A.nsh .shr .u64 (x3.getD (A.toN (A.ib .quo .i64 x2 8)) 0) (A.toN (A.ib .mul .i64 8 (A.ib .rem .i64 x2 8))))))
          | false => none
    | false => none
set_option maxRecDepth 100000 in
theorem g23J4_eq {R : Type} (A : Ar) (n : Nat) (kk : AV → Heap → Option R) (m0 : Nat) (lg23L3 : Nat → Int → Int → List Nat → Nat → List Nat → Option R) 
    (hg23L3 : ∀ (s : St) (x0 : Nat) (x1 x2 : Int) (x3 : List Nat) (x4 : Nat) (x5 : List Nat), keep g23an 3 s = ⟨[(1, (pT 1000 0)), (3, (sL 2000 none x0 1)), (7, (i6 x1)), (8, (i6 x2))], [(1000, (bU 5 x3 38)), (2000, ⟨[.nums .u8 x4 x5], 5, 2⟩)]⟩ → g23V A n (pth 75) m0 (blockK 0 (g23Q A n (pth 15) (g23T kk))) s = lg23L3 x0 x1 x2 x3 x4 x5) (s : St) (x0 : Nat) (x1 x2 : Int) (x3 : List Nat) (x4 : Nat) (x5 : List Nat) (h : keep g23an 4 s = ⟨[(1, (pT 1000 0)), (3, (sL 2000 none x0 1)), (7, (i6 x1)), (8, (i6 x2))], [(1000, (bU 5 x3 38)), (2000, ⟨[.nums .u8 x4 x5], 5, 2⟩)]⟩) :
    g23D A n (pth 459) (g23W A n (pth 75) m0 (blockK 0 (g23Q A n (pth 15) (g23T kk)))) s = g23J4 A n kk lg23L3 x0 x1 x2 x3 x4 x5 := by
  have h1 := (g23Wn A n _ _ _ _).trans (hg23L3 (g23R6s0 A x0 x1 x2 x3 x4 (x5.set (A.toN x2) (A.n2n .u8 (A.nsh .shr .u64 (x3.getD (A.toN (A.ib .quo .i64 x2 8)) 0) (A.toN (A.ib .mul .i64 8 (A.ib .rem .i64 x2 8))))))) x0 x1 (A.ib .add .i64 x2 1) x3 x4 (x5.set (A.toN x2) (A.n2n .u8 (A.nsh .shr .u64 (x3.getD (A.toN (A.ib .quo .i64 x2 8)) 0) (A.toN (A.ib .mul .i64 8 (A.ib .rem .i64 x2 8)))))) (by kernel_rfl))
  have h2 := (g23F A n _ 6 _ (g23R5s0 A x0 x2 x1 x2 x3 x4 x5) _ (by kernel_rfl) (by kernel_rfl)).trans (g23R6 A n (g23W A n (pth 75) m0 (blockK 0 (g23Q A n (pth 15) (g23T kk)))) x0 x1 x2 x3 x4 (x5.set (A.toN x2) (A.n2n .u8 (A.nsh .shr .u64 (x3.getD (A.toN (A.ib .quo .i64 x2 8)) 0) (A.toN (A.ib .mul .i64 8 (A.ib .rem .i64 x2 8)))))))
  rw [h1] at h2
  have h3 := (g23Qn A n _ _ _).trans h2
  have h4 := (blockK_n 1 _ _).trans h3
  have h5 := (g23F A n _ 5 _ (g23R4s0 A x0 x1 x2 x3 x4 x5) _ (by kernel_rfl) (by kernel_rfl)).trans (g23R5 A n (blockK 1 (g23Q A n (pth 971) (g23W A n (pth 75) m0 (blockK 0 (g23Q A n (pth 15) (g23T kk)))))) x0 x2 x1 x2 x3 x4 x5)
  rw [h4] at h5
  have h6 := (g23Qn A n _ _ _).trans h5
  have h7 := (g23F A n _ 4 _ ⟨[(1, (pT 1000 0)), (3, (sL 2000 none x0 1)), (7, (i6 x1)), (8, (i6 x2))], [(1000, (bU 5 x3 38)), (2000, ⟨[.nums .u8 x4 x5], 5, 2⟩)]⟩ _ (by kernel_rfl) (by kernel_rfl)).trans (g23R4 A n (g23Q A n (pth 3275) (blockK 1 (g23Q A n (pth 971) (g23W A n (pth 75) m0 (blockK 0 (g23Q A n (pth 15) (g23T kk))))))) x0 x1 x2 x3 x4 x5)
  rw [h6] at h7
  have h8 := (g23p1227 A n _ _).trans h7
  have h9 := (g23p715 A n _ _).trans h8
  have h10 := (g23p459 A n _ _).trans h9
  exact (g23F A n _ 4 _ _ ⟨[(1, (pT 1000 0)), (3, (sL 2000 none x0 1)), (7, (i6 x1)), (8, (i6 x2))], [(1000, (bU 5 x3 38)), (2000, ⟨[.nums .u8 x4 x5], 5, 2⟩)]⟩ (by kernel_rfl) (h.trans (by kernel_rfl))).trans (h10.trans (by kernel_rfl))
def g23L3 {R : Type} (A : Ar) (n : Nat) (kk : AV → Heap → Option R)  : Nat → Nat → Int → Int → List Nat → Nat → List Nat → Option R
  | 0, _, _, _, _, _, _ => none
  | m + 1, x0, x1, x2, x3, x4, x5 => match (generalizing := false) A.ic .lss x2 x1 with
  | true => g23J4 A n kk (g23L3 A n kk  m) x0 x1 x2 x3 x4 x5
  | false => kk (tS (x5.take x0)) [(2000, ⟨[.nums .u8 x4 x5], 5, 2⟩)]
set_option maxRecDepth 100000 in
theorem g23L3_eq {R : Type} (A : Ar) (n : Nat) (kk : AV → Heap → Option R)    (m : Nat) (s : St) (x0 : Nat) (x1 x2 : Int) (x3 : List Nat) (x4 : Nat) (x5 : List Nat) (h : keep g23an 3 s = ⟨[(1, (pT 1000 0)), (3, (sL 2000 none x0 1)), (7, (i6 x1)), (8, (i6 x2))], [(1000, (bU 5 x3 38)), (2000, ⟨[.nums .u8 x4 x5], 5, 2⟩)]⟩) :
    g23V A n (pth 75) m (blockK 0 (g23Q A n (pth 15) (g23T kk))) s = g23L3 A n kk  m x0 x1 x2 x3 x4 x5 := by
  induction m generalizing s x0 x1 x2 x3 x4 x5 with
  | zero => rfl
  | succ m ih =>
    have h1 := (g23Qn A n _ _ _).trans (g23J4_eq A n kk m (g23L3 A n kk  m) ih  (g23R3s0 A x0 x1 x2 x3 x4 x5) x0 x1 x2 x3 x4 x5 (by kernel_rfl))
    have h2 := (g23p587 A n _ _).trans h1
    have h3 : (g23T kk) .ret (g23R7s0 A x0 x4 x5) = kk (tS (x5.take x0)) [(2000, ⟨[.nums .u8 x4 x5], 5, 2⟩)] := by kernel_rfl
    have h4 := (g23p31 A n _ _).trans h3
    have h5 := (g23Qn A n _ _ _).trans h4
    have h6 := (g23F A n _ 7 _ (g23R3s0 A x0 x1 x2 x3 x4 x5) _ (by kernel_rfl) (by kernel_rfl)).trans (g23R7 A n (g23Q A n (pth 31) (g23T kk)) x0 x4 x5)
    rw [h5] at h6
    have h7 := (g23p15 A n _ _).trans h6
    have h8 := (g23Qn A n _ _ _).trans h7
    have h9 := (blockK_hit 0 _ _).trans h8
    have h10 := (g23We A n (pth 75) m _ _ _).trans h9
    have h11 := (g23Qe A n (pth 459) _ _ _).trans h10
    have h12 := (g23p843 A n _ _).trans h11
    have h13 := g23p331 A n (g23Q A n (pth 459) (g23W A n (pth 75) m (blockK 0 (g23Q A n (pth 15) (g23T kk))))) (g23R3s0 A x0 x1 x2 x3 x4 x5) (A.ic .lss x2 x1) (by kernel_rfl)
    rw [h2, h12] at h13
    have h14 := (g23p203 A n _ _).trans h13
    have h15 := (g23Qn A n _ _ _).trans h14
    have h16 := (g23F A n _ 3 _ ⟨[(1, (pT 1000 0)), (3, (sL 2000 none x0 1)), (7, (i6 x1)), (8, (i6 x2))], [(1000, (bU 5 x3 38)), (2000, ⟨[.nums .u8 x4 x5], 5, 2⟩)]⟩ _ (by kernel_rfl) (by kernel_rfl)).trans (g23R3 A n (g23Q A n (pth 203) (g23W A n (pth 75) m (blockK 0 (g23Q A n (pth 15) (g23T kk))))) x0 x1 x2 x3 x4 x5)
    rw [h15] at h16
    have h17 := (g23p75 A n _ _).trans h16
    exact (loopD_first (s' := ⟨[(1, (pT 1000 0)), (3, (sL 2000 none x0 1)), (7, (i6 x1)), (8, (i6 x2))], [(1000, (bU 5 x3 38)), (2000, ⟨[.nums .u8 x4 x5], 5, 2⟩)]⟩) (id := 3) (by kernel_rfl) (h.trans (by kernel_rfl)) _).trans ((g23Vs A n _ m _ _).trans (h17.trans (by kernel_rfl)))
def g23 {R : Type} (A : Ar) (n : Nat) (kk : AV → Heap → Option R) (a : List Nat) : Option R :=
  match (generalizing := false) A.le 32 32 with
  | true => match (generalizing := false) A.le 32 140737488355328 with
    | true => g23L3 A n kk  n 32 (A.ofN 32) 0 a 32 (List.replicate 32 0)
    | false => none
  | false => none
set_option maxRecDepth 100000 in
theorem g23_eq {R : Type} (A : Ar) (n : Nat) (kk : AV → Heap → Option R) (a : List Nat) :
    funD A gtys (g23O A) g23an n (bodyOf Try.f23) g23res [(aN .u64 5 a)] [] kk = g23 A n kk a := by
  have h1 := (g23p43 A n _ _).trans (g23L3_eq A n kk    n (g23R2s0 A 32 a 32 (List.replicate 32 0)) 32 (A.ofN 32) 0 a 32 (List.replicate 32 0) (by kernel_rfl))
  have h2 := (g23p27 A n _ _).trans h1
  have h3 := (g23Qn A n _ _ _).trans h2
  have h4 := (g23F A n _ 2 _ (g23R1s0 A a) _ (by kernel_rfl) (by kernel_rfl)).trans (g23R2 A n (g23Q A n (pth 27) (g23Q A n (pth 15) (g23T kk))) 32 a 32 (List.replicate 32 0))
  rw [h3] at h4
  have h5 := (g23p11 A n _ _).trans h4
  have h6 := (g23p7 A n _ _).trans h5
  have h7 := (g23Qn A n _ _ _).trans h6
  have h8 := (g23F A n _ 1 _ (g23R0s0 A a) _ (by kernel_rfl) (by kernel_rfl)).trans (g23R1 A n (g23Q A n (pth 7) (g23T kk)) a)
  rw [h7] at h8
  have h9 := (g23p3 A n _ _).trans h8
  have h10 := (g23Qn A n _ _ _).trans h9
  have h11 := (g23F A n _ 0 _ ⟨[(0, (aN .u64 5 a))], []⟩ _ (by kernel_rfl) (by kernel_rfl)).trans (g23R0 A n (g23Q A n (pth 3) (g23T kk)) a)
  rw [h10] at h11
  have h12 := (g23p1 A n _ _).trans h11
  exact (show funD A gtys (g23O A) g23an n (bodyOf Try.f23) g23res [(aN .u64 5 a)] [] kk = g23D A n (pth 1) (g23T kk) ⟨[(0, (aN .u64 5 a))], []⟩ from by kernel_rfl).trans (h12.trans (by kernel_rfl))
def g23is (o : Option AV) : Bool := match o with
  | some (.v (.cell (.str _))) => true
  | _ => false
def g23g0 (o : Option AV) : List Nat := match o with
  | some (.v (.cell (.str x))) => x
  | _ => []
theorem g23is_spec {o : Option AV} (h : g23is o = true) : o = some (.v (.cell (.str (g23g0 o)))) := by
  unfold g23is at h
  split at h
  · rfl
  · cases h
def g23v (A : Ar) (a : List Nat) : Option AV := g23 A (100000) (fun v _ => some v) a
def g23ok (A : Ar) (a : List Nat) : Bool := g23is (g23v A a)
def g23r0 (A : Ar) (a : List Nat) : List Nat := g23g0 (g23v A a)
theorem g23ok_spec {A : Ar} {a} (h : g23ok A a = true) : g23v A a = some (.v (.cell (.str (g23r0 A a)))) := g23is_spec h
def g23o (A : Ar) (args : List AV) : Option (Bool × AV) := match args with
  | [.v (.agg [.nums .u64 n0 a])] => some (Nat.beq n0 5 && (g23ok A a), .v (.cell (.str (g23r0 A a))))
  | _ => none
theorem g23o_sound : ∀ args v, g23o realA args = some (true, v) → Fn1 Try.prog 23 args v := by
  intro args v h
  unfold g23o at h
  split at h
  · rename_i n0 a
    simp only [Option.some.injEq, Prod.mk.injEq] at h
    obtain ⟨hc, h⟩ := h
    subst h
    · skip
      simp only [Bool.and_eq_true] at hc
      have en0 := beq_true hc.1
      subst en0
      replace hc := hc.2
      exact fn1_of mixed gtysOK g23O_sound g23O_det (an := g23an) (n := 100000) Try.func23 (c := bodyOf Try.f23) rfl (by kernel_rfl) Try.call23 (Nat.le_of_ble_eq_true rfl) (fun b => rfl) (fun _ => (g23_eq realA (100000) (fun v _ => some v) a).trans (show g23v realA a = _ from g23ok_spec hc))
  · cases h
def g10O (A : Ar) : Orc := orcOf [(22, g22o A), (23, g23o A)]
theorem g10O_sound : OSound Try.prog (g10O realA) := orc_sound fun f g hm args v hv => by
  simp only [List.mem_cons, List.not_mem_nil, or_false, Prod.mk.injEq] at hm
  rcases hm with ⟨rfl, rfl⟩ | ⟨rfl, rfl⟩
  · exact g22o_sound _ _ hv
  · exact g23o_sound _ _ hv
theorem g10O_det : ODet (g10O realA) := orc_det _
def g10an : Ann := [(0, ([0], [])), (1, ([0], [])), (2, ([0, 3], [2000])), (3, ([0, 3, 4], [2000])), (4, ([0, 3, 4], [2000])), (5, ([0, 3, 4], [2000])), (6, ([3], [2000]))]
def g10res : List ResultVar := [.tmp 2]
noncomputable def g10D {R : Type} (A : Ar) (n : Nat) (p : List Bool) (K : Ex → St → Option R) (s : St) : Option R := codeD A gtys (g10O A) g10an n (sub (bodyOf Try.f10) p) K s
noncomputable def g10V {R : Type} (A : Ar) (n : Nat) (p : List Bool) (m : Nat) (K : Ex → St → Option R) (s : St) : Option R := loopD (fun K' s'' => codeD A gtys (g10O A) g10an n (sub (bodyOf Try.f10) p) K' s'') m K s
noncomputable def g10Q {R : Type} (A : Ar) (n : Nat) (p : List Bool) (K : Ex → St → Option R) : Ex → St → Option R := seqC (g10D A n p K) K
noncomputable def g10W {R : Type} (A : Ar) (n : Nat) (p : List Bool) (m : Nat) (K : Ex → St → Option R) : Ex → St → Option R := seqC (g10V A n p m K) K
noncomputable def g10T {R : Type} (kk : AV → Heap → Option R) : Ex → St → Option R := finD gtys g10res kk
theorem g10Qn {R : Type} (A : Ar) (n : Nat) (p : List Bool) (K : Ex → St → Option R) (s : St) : g10Q A n p K .normal s = g10D A n p K s := rfl
theorem g10Qe {R : Type} (A : Ar) (n : Nat) (p : List Bool) (K : Ex → St → Option R) (i : Nat) (s : St) : g10Q A n p K (.exit i) s = K (.exit i) s := rfl
theorem g10Wn {R : Type} (A : Ar) (n : Nat) (p : List Bool) (m : Nat) (K : Ex → St → Option R) (s : St) : g10W A n p m K .normal s = g10V A n p m K s := rfl
theorem g10We {R : Type} (A : Ar) (n : Nat) (p : List Bool) (m : Nat) (K : Ex → St → Option R) (i : Nat) (s : St) : g10W A n p m K (.exit i) s = K (.exit i) s := rfl
theorem g10Vs {R : Type} (A : Ar) (n : Nat) (p : List Bool) (m : Nat) (K : Ex → St → Option R) (s : St) : g10V A n p (m + 1) K s = g10D A n p (g10W A n p m K) s := rfl
theorem g10F {R : Type} (A : Ar) (n : Nat) (p : List Bool) (i : Nat) (K : Ex → St → Option R) (s s' : St) (hf : firstReg (sub (bodyOf Try.f10) p) = some i) (h : keep g10an i s = keep g10an i s') : g10D A n p K s = g10D A n p K s' := codeD_first hf h K
section
variable {R : Type} (A : Ar) (n : Nat) (K : Ex → St → Option R) (s : St)
theorem g10p1 : g10D A n (pth 1) K s = g10D A n (pth 2) (g10Q A n (pth 3) K) s := by kernel_rfl
theorem g10p3 : g10D A n (pth 3) K s = g10D A n (pth 5) (g10Q A n (pth 7) K) s := by kernel_rfl
theorem g10p7 : g10D A n (pth 7) K s = g10D A n (pth 11) (g10Q A n (pth 15) K) s := by kernel_rfl
theorem g10p11 : g10D A n (pth 11) K s = g10D A n (pth 19) (g10Q A n (pth 27) K) s := by kernel_rfl
theorem g10p27 : g10D A n (pth 27) K s = g10D A n (pth 43) (blockK 0 K) s := by kernel_rfl
theorem g10p43 : g10D A n (pth 43) K s = g10V A n (pth 75) n K s := by kernel_rfl
theorem g10p75 : g10D A n (pth 75) K s = g10D A n (pth 139) (g10Q A n (pth 203) K) s := by kernel_rfl
theorem g10p139 : g10D A n (pth 139) K s = g10D A n (pth 267) (g10Q A n (pth 395) K) s := by kernel_rfl
theorem g10p395 (t : Bool) : ev s (.tmp 10) = some (.v (.cell (.bool t))) → g10D A n (pth 395) K s = (match t with
    | true => g10D A n (pth 651) K s
    | false => g10D A n (pth 907) K s) := codeD_cond t
theorem g10p651 : g10D A n (pth 651) K s = K .normal s := by kernel_rfl
theorem g10p907 : g10D A n (pth 907) K s = K (.exit 0) s := by kernel_rfl
theorem g10p203 : g10D A n (pth 203) K s = g10D A n (pth 331) (g10Q A n (pth 459) K) s := by kernel_rfl
theorem g10p331 : g10D A n (pth 331) K s = g10D A n (pth 587) (blockK 1 K) s := by kernel_rfl
theorem g10p15 : g10D A n (pth 15) K s = g10D A n (pth 23) (g10Q A n (pth 31) K) s := by kernel_rfl
theorem g10p31 : g10D A n (pth 31) K s = K .ret s := by kernel_rfl
def g10R5s0 (A : Ar) (x0 : List Nat) (x1 : Int) (x2 : List Nat) : St := ⟨[(17, (aN .u64 5 (g22r0 A x2 (x0.getD (A.toN x1) 0)))), (16, (u8v (x0.getD (A.toN x1) 0))), (15, (i6 x1)), (14, (tS x0)), (13, (aN .u64 5 x2)), (0, (tS x0)), (3, (pT 2000 0)), (4, (i6 x1))], [(2000, (bU 5 (g22r0 A x2 (x0.getD (A.toN x1) 0)) 38))]⟩
theorem g10R5 (x0 : List Nat) (x1 : Int) (x2 : List Nat) : g10D A n (pth 587) K ⟨[(0, (tS x0)), (3, (pT 2000 0)), (4, (i6 x1))], [(2000, (bU 5 x2 38))]⟩ = match (generalizing := false) A.neg x1 with
    | true => none
    | false => match (generalizing := false) A.lt (A.toN x1) x0.length with
      | true => match (generalizing := false) g22ok A x2 (x0.getD (A.toN x1) 0) with
        | true => K .normal (g10R5s0 A x0 x1 x2)
        | false => none
      | false => none := by kernel_rfl
def g10R4s0 (A : Ar) (x0 : List Nat) (x1 : Int) (x2 : List Nat) : St := ⟨[(4, (i6 (A.ib .sub .i64 x1 1))), (12, (i6 (A.ib .sub .i64 x1 1))), (11, (i6 x1)), (0, (tS x0)), (3, (pT 2000 0)), (4, (i6 x1))], [(2000, (bU 5 x2 38))]⟩
theorem g10R4 (x0 : List Nat) (x1 : Int) (x2 : List Nat) : g10D A n (pth 459) K ⟨[(0, (tS x0)), (3, (pT 2000 0)), (4, (i6 x1))], [(2000, (bU 5 x2 38))]⟩ = K .normal (g10R4s0 A x0 x1 x2) := by kernel_rfl
def g10R3s0 (A : Ar) (x0 : List Nat) (x1 : Int) (x2 : List Nat) : St := ⟨[(10, (bO (A.ic .geq x1 0))), (9, (i6 x1)), (0, (tS x0)), (3, (pT 2000 0)), (4, (i6 x1))], [(2000, (bU 5 x2 38))]⟩
theorem g10R3 (x0 : List Nat) (x1 : Int) (x2 : List Nat) : g10D A n (pth 267) K ⟨[(0, (tS x0)), (3, (pT 2000 0)), (4, (i6 x1))], [(2000, (bU 5 x2 38))]⟩ = K .normal (g10R3s0 A x0 x1 x2) := by kernel_rfl
def g10R6s0 (A : Ar) (x0 : List Nat) : St := ⟨[(2, (tS (g23r0 A x0))), (19, (tS (g23r0 A x0))), (18, (aN .u64 5 x0)), (3, (pT 2000 0))], [(2000, (bU 5 x0 38))]⟩
theorem g10R6 (x0 : List Nat) : g10D A n (pth 23) K ⟨[(3, (pT 2000 0))], [(2000, (bU 5 x0 38))]⟩ = match (generalizing := false) g23ok A x0 with
    | true => K .normal (g10R6s0 A x0)
    | false => none := by kernel_rfl
def g10R0s0 (A : Ar) (x0 : List Nat) : St := ⟨[(2, (tS [])), (0, (tS x0))], []⟩
theorem g10R0 (x0 : List Nat) : g10D A n (pth 2) K ⟨[(0, (tS x0))], []⟩ = K .normal (g10R0s0 A x0) := by kernel_rfl
def g10R1s0 (A : Ar) (x0 : List Nat) : St := ⟨[(3, (pT 2000 0)), (0, (tS x0))], [(2000, (bU 5 [0, 0, 0, 0, 0] 38))]⟩
theorem g10R1 (x0 : List Nat) : g10D A n (pth 5) K ⟨[(0, (tS x0))], []⟩ = K .normal (g10R1s0 A x0) := by kernel_rfl
def g10R2s0 (A : Ar) (x0 x1 : List Nat) : St := ⟨[(4, (i6 (A.ib .sub .i64 (A.mn (A.ofN x0.length) 64) 1))), (8, (i6 (A.ib .sub .i64 (A.mn (A.ofN x0.length) 64) 1))), (7, (i6 (A.mn (A.ofN x0.length) 64))), (6, (i6 (A.ofN x0.length))), (5, (tS x0)), (0, (tS x0)), (3, (pT 2000 0))], [(2000, (bU 5 x1 38))]⟩
theorem g10R2 (x0 x1 : List Nat) : g10D A n (pth 19) K ⟨[(0, (tS x0)), (3, (pT 2000 0))], [(2000, (bU 5 x1 38))]⟩ = K .normal (g10R2s0 A x0 x1) := by kernel_rfl
end
def g10J5 {R : Type} (A : Ar) (n : Nat) (kk : AV → Heap → Option R) (lg10L3 : List Nat → Int → List Nat → Option R) (x0 : List Nat) (x1 : Int) (x2 : List Nat) : Option R :=
  match (generalizing := false) A.neg x1 with
  | true => none
  | false => match (generalizing := false) A.lt (A.toN x1) x0.length with
    | true => match (generalizing := false) g22ok A x2 (x0.getD (A.toN x1) 0) with
      | true => lg10L3 x0 (A.ib .sub .i64 x1 1) (g22r0 A x2 (x0.getD (A.toN x1) 0))
      | false => none
    | false => none
set_option maxRecDepth 100000 in
theorem g10J5_eq {R : Type} (A : Ar) (n : Nat) (kk : AV → Heap → Option R) (m0 : Nat) (lg10L3 : List Nat → Int → List Nat → Option R) 
    (hg10L3 : ∀ (s : St) (x0 : List Nat) (x1 : Int) (x2 : List Nat), keep g10an 3 s = ⟨[(0, (tS x0)), (3, (pT 2000 0)), (4, (i6 x1))], [(2000, (bU 5 x2 38))]⟩ → g10V A n (pth 75) m0 (blockK 0 (g10Q A n (pth 15) (g10T kk))) s = lg10L3 x0 x1 x2) (s : St) (x0 : List Nat) (x1 : Int) (x2 : List Nat) (h : keep g10an 5 s = ⟨[(0, (tS x0)), (3, (pT 2000 0)), (4, (i6 x1))], [(2000, (bU 5 x2 38))]⟩) :
    g10D A n (pth 203) (g10W A n (pth 75) m0 (blockK 0 (g10Q A n (pth 15) (g10T kk)))) s = g10J5 A n kk lg10L3 x0 x1 x2 := by
  have h1 := (g10Wn A n _ _ _ _).trans (hg10L3 (g10R4s0 A x0 x1 (g22r0 A x2 (x0.getD (A.toN x1) 0))) x0 (A.ib .sub .i64 x1 1) (g22r0 A x2 (x0.getD (A.toN x1) 0)) (by kernel_rfl))
  have h2 := (g10F A n _ 4 _ (g10R5s0 A x0 x1 x2) _ (by kernel_rfl) (by kernel_rfl)).trans (g10R4 A n (g10W A n (pth 75) m0 (blockK 0 (g10Q A n (pth 15) (g10T kk)))) x0 x1 (g22r0 A x2 (x0.getD (A.toN x1) 0)))
  rw [h1] at h2
  have h3 := (g10Qn A n _ _ _).trans h2
  have h4 := (blockK_n 1 _ _).trans h3
  have h5 := (g10F A n _ 5 _ ⟨[(0, (tS x0)), (3, (pT 2000 0)), (4, (i6 x1))], [(2000, (bU 5 x2 38))]⟩ _ (by kernel_rfl) (by kernel_rfl)).trans (g10R5 A n (blockK 1 (g10Q A n (pth 459) (g10W A n (pth 75) m0 (blockK 0 (g10Q A n (pth 15) (g10T kk)))))) x0 x1 x2)
  rw [h4] at h5
  have h6 := (g10p331 A n _ _).trans h5
  have h7 := (g10p203 A n _ _).trans h6
  exact (g10F A n _ 5 _ _ ⟨[(0, (tS x0)), (3, (pT 2000 0)), (4, (i6 x1))], [(2000, (bU 5 x2 38))]⟩ (by kernel_rfl) (h.trans (by kernel_rfl))).trans (h7.trans (by kernel_rfl))
def g10L3 {R : Type} (A : Ar) (n : Nat) (kk : AV → Heap → Option R)  : Nat → List Nat → Int → List Nat → Option R
  | 0, _, _, _ => none
  | m + 1, x0, x1, x2 => match (generalizing := false) A.ic .geq x1 0 with
  | true => g10J5 A n kk (g10L3 A n kk  m) x0 x1 x2
  | false => match (generalizing := false) g23ok A x2 with
    | true => kk (tS (g23r0 A x2)) [(2000, (bU 5 x2 38))]
    | false => none
set_option maxRecDepth 100000 in
theorem g10L3_eq {R : Type} (A : Ar) (n : Nat) (kk : AV → Heap → Option R)    (m : Nat) (s : St) (x0 : List Nat) (x1 : Int) (x2 : List Nat) (h : keep g10an 3 s = ⟨[(0, (tS x0)), (3, (pT 2000 0)), (4, (i6 x1))], [(2000, (bU 5 x2 38))]⟩) :
    g10V A n (pth 75) m (blockK 0 (g10Q A n (pth 15) (g10T kk))) s = g10L3 A n kk  m x0 x1 x2 := by
  induction m generalizing s x0 x1 x2 with
  | zero => rfl
  | succ m ih =>
    have h1 := (g10Qn A n _ _ _).trans (g10J5_eq A n kk m (g10L3 A n kk  m) ih  (g10R3s0 A x0 x1 x2) x0 x1 x2 (by kernel_rfl))
    have h2 := (g10p651 A n _ _).trans h1
    have h3 : (g10T kk) .ret (g10R6s0 A x2) = kk (tS (g23r0 A x2)) [(2000, (bU 5 x2 38))] := by kernel_rfl
    have h4 := (g10p31 A n _ _).trans h3
    have h5 := (g10Qn A n _ _ _).trans h4
    have h6 := (g10F A n _ 6 _ (g10R3s0 A x0 x1 x2) _ (by kernel_rfl) (by kernel_rfl)).trans (g10R6 A n (g10Q A n (pth 31) (g10T kk)) x2)
    rw [h5] at h6
    have h7 := (g10p15 A n _ _).trans h6
    have h8 := (g10Qn A n _ _ _).trans h7
    have h9 := (blockK_hit 0 _ _).trans h8
    have h10 := (g10We A n (pth 75) m _ _ _).trans h9
    have h11 := (g10Qe A n (pth 203) _ _ _).trans h10
    have h12 := (g10p907 A n _ _).trans h11
    have h13 := g10p395 A n (g10Q A n (pth 203) (g10W A n (pth 75) m (blockK 0 (g10Q A n (pth 15) (g10T kk))))) (g10R3s0 A x0 x1 x2) (A.ic .geq x1 0) (by kernel_rfl)
    rw [h2, h12] at h13
    have h14 := (g10Qn A n _ _ _).trans h13
    have h15 := (g10F A n _ 3 _ ⟨[(0, (tS x0)), (3, (pT 2000 0)), (4, (i6 x1))], [(2000, (bU 5 x2 38))]⟩ _ (by kernel_rfl) (by kernel_rfl)).trans (g10R3 A n (g10Q A n (pth 395) (g10Q A n (pth 203) (g10W A n (pth 75) m (blockK 0 (g10Q A n (pth 15) (g10T kk)))))) x0 x1 x2)
    rw [h14] at h15
    have h16 := (g10p139 A n _ _).trans h15
    have h17 := (g10p75 A n _ _).trans h16
    exact (loopD_first (s' := ⟨[(0, (tS x0)), (3, (pT 2000 0)), (4, (i6 x1))], [(2000, (bU 5 x2 38))]⟩) (id := 3) (by kernel_rfl) (h.trans (by kernel_rfl)) _).trans ((g10Vs A n _ m _ _).trans (h17.trans (by kernel_rfl)))
def g10 {R : Type} (A : Ar) (n : Nat) (kk : AV → Heap → Option R) (a : List Nat) : Option R :=
  g10L3 A n kk  n a (A.ib .sub .i64 (A.mn (A.ofN a.length) 64) 1) [0, 0, 0, 0, 0]
set_option maxRecDepth 100000 in
theorem g10_eq {R : Type} (A : Ar) (n : Nat) (kk : AV → Heap → Option R) (a : List Nat) :
    funD A gtys (g10O A) g10an n (bodyOf Try.f10) g10res [(tS a)] [] kk = g10 A n kk a := by
  have h1 := (g10p43 A n _ _).trans (g10L3_eq A n kk    n (g10R2s0 A a [0, 0, 0, 0, 0]) a (A.ib .sub .i64 (A.mn (A.ofN a.length) 64) 1) [0, 0, 0, 0, 0] (by kernel_rfl))
  have h2 := (g10p27 A n _ _).trans h1
  have h3 := (g10Qn A n _ _ _).trans h2
  have h4 := (g10F A n _ 2 _ (g10R1s0 A a) _ (by kernel_rfl) (by kernel_rfl)).trans (g10R2 A n (g10Q A n (pth 27) (g10Q A n (pth 15) (g10T kk))) a [0, 0, 0, 0, 0])
  rw [h3] at h4
  have h5 := (g10p11 A n _ _).trans h4
  have h6 := (g10p7 A n _ _).trans h5
  have h7 := (g10Qn A n _ _ _).trans h6
  have h8 := (g10F A n _ 1 _ (g10R0s0 A a) _ (by kernel_rfl) (by kernel_rfl)).trans (g10R1 A n (g10Q A n (pth 7) (g10T kk)) a)
  rw [h7] at h8
  have h9 := (g10p3 A n _ _).trans h8
  have h10 := (g10Qn A n _ _ _).trans h9
  have h11 := (g10F A n _ 0 _ ⟨[(0, (tS a))], []⟩ _ (by kernel_rfl) (by kernel_rfl)).trans (g10R0 A n (g10Q A n (pth 3) (g10T kk)) a)
  rw [h10] at h11
  have h12 := (g10p1 A n _ _).trans h11
  exact (show funD A gtys (g10O A) g10an n (bodyOf Try.f10) g10res [(tS a)] [] kk = g10D A n (pth 1) (g10T kk) ⟨[(0, (tS a))], []⟩ from by kernel_rfl).trans (h12.trans (by kernel_rfl))
def g10is (o : Option AV) : Bool := match o with
  | some (.v (.cell (.str _))) => true
  | _ => false
def g10g0 (o : Option AV) : List Nat := match o with
  | some (.v (.cell (.str x))) => x
  | _ => []
theorem g10is_spec {o : Option AV} (h : g10is o = true) : o = some (.v (.cell (.str (g10g0 o)))) := by
  unfold g10is at h
  split at h
  · rfl
  · cases h
def g10v (A : Ar) (a : List Nat) : Option AV := g10 A (100000) (fun v _ => some v) a
def g10ok (A : Ar) (a : List Nat) : Bool := g10is (g10v A a)
def g10r0 (A : Ar) (a : List Nat) : List Nat := g10g0 (g10v A a)
theorem g10ok_spec {A : Ar} {a} (h : g10ok A a = true) : g10v A a = some (.v (.cell (.str (g10r0 A a)))) := g10is_spec h
def g10o (A : Ar) (args : List AV) : Option (Bool × AV) := match args with
  | [.v (.cell (.str a))] => some (g10ok A a, .v (.cell (.str (g10r0 A a))))
  | _ => none
theorem g10o_sound : ∀ args v, g10o realA args = some (true, v) → Fn1 Try.prog 10 args v := by
  intro args v h
  unfold g10o at h
  split at h
  · rename_i a
    simp only [Option.some.injEq, Prod.mk.injEq] at h
    obtain ⟨hc, h⟩ := h
    subst h
    · skip
      exact fn1_of mixed gtysOK g10O_sound g10O_det (an := g10an) (n := 100000) Try.func10 (c := bodyOf Try.f10) rfl (by kernel_rfl) Try.call10 (Nat.le_of_ble_eq_true rfl) (fun b => rfl) (fun _ => (g10_eq realA (100000) (fun v _ => some v) a).trans (show g10v realA a = _ from g10ok_spec hc))
  · cases h
def g12O (A : Ar) : Orc := orcOf [(10, g10o A)]
theorem g12O_sound : OSound Try.prog (g12O realA) := orc_sound fun f g hm args v hv => by
  simp only [List.mem_cons, List.not_mem_nil, or_false, Prod.mk.injEq] at hm
  rcases hm with ⟨rfl, rfl⟩
  · exact g10o_sound _ _ hv
theorem g12O_det : ODet (g12O realA) := orc_det _
def g12an : Ann := [(0, ([0], [])), (1, ([0], []))]
def g12res : List ResultVar := [.tmp 2]
noncomputable def g12D {R : Type} (A : Ar) (n : Nat) (p : List Bool) (K : Ex → St → Option R) (s : St) : Option R := codeD A gtys (g12O A) g12an n (sub (bodyOf Try.f12) p) K s
noncomputable def g12Q {R : Type} (A : Ar) (n : Nat) (p : List Bool) (K : Ex → St → Option R) : Ex → St → Option R := seqC (g12D A n p K) K
noncomputable def g12T {R : Type} (kk : AV → Heap → Option R) : Ex → St → Option R := finD gtys g12res kk
theorem g12Qn {R : Type} (A : Ar) (n : Nat) (p : List Bool) (K : Ex → St → Option R) (s : St) : g12Q A n p K .normal s = g12D A n p K s := rfl
theorem g12F {R : Type} (A : Ar) (n : Nat) (p : List Bool) (i : Nat) (K : Ex → St → Option R) (s s' : St) (hf : firstReg (sub (bodyOf Try.f12) p) = some i) (h : keep g12an i s = keep g12an i s') : g12D A n p K s = g12D A n p K s' := codeD_first hf h K
section
variable {R : Type} (A : Ar) (n : Nat) (K : Ex → St → Option R) (s : St)
theorem g12p1 : g12D A n (pth 1) K s = g12D A n (pth 2) (g12Q A n (pth 3) K) s := by kernel_rfl
theorem g12p3 : g12D A n (pth 3) K s = g12D A n (pth 5) (g12Q A n (pth 7) K) s := by kernel_rfl
theorem g12p7 : g12D A n (pth 7) K s = K .ret s := by kernel_rfl
def g12R0s0 (A : Ar) (x0 : List Nat) : St := ⟨[(2, (bO false)), (0, (tS x0))], []⟩
theorem g12R0 (x0 : List Nat) : g12D A n (pth 2) K ⟨[(0, (tS x0))], []⟩ = K .normal (g12R0s0 A x0) := by kernel_rfl
def g12R1s0 (A : Ar) (x0 : List Nat) : St := ⟨[(2, (bO (A.sc .eql (g10r0 A x0) x0))), (11, (bO (A.sc .eql (g10r0 A x0) x0))), (10, (bO (A.sc .eql (g10r0 A x0) x0))), (9, (tS x0)), (8, (tS (g10r0 A x0))), (7, (tS x0)), (6, (bO true)), (5, (bO (A.ic .eql (A.ofN x0.length) 32))), (4, (i6 (A.ofN x0.length))), (3, (tS x0)), (0, (tS x0))], []⟩
def g12R1s1 (A : Ar) (x0 : List Nat) : St := ⟨[(2, (bO false)), (11, (bO false)), (10, uN), (9, uN), (8, uN), (7, uN), (6, (bO false)), (5, (bO (A.ic .eql (A.ofN x0.length) 32))), (4, (i6 (A.ofN x0.length))), (3, (tS x0)), (0, (tS x0))], []⟩
theorem g12R1 (x0 : List Nat) : g12D A n (pth 5) K ⟨[(0, (tS x0))], []⟩ = match (generalizing := false) A.ic .eql (A.ofN x0.length) 32 with
    | true => match (generalizing := false) g10ok A x0 with
      | true => K .normal (g12R1s0 A x0)
      | false => none
    | false => K .normal (g12R1s1 A x0) := by kernel_rfl
end
def g12 {R : Type} (A : Ar) (n : Nat) (kk : AV → Heap → Option R) (a : List Nat) : Option R :=
  match (generalizing := false) A.ic .eql (A.ofN a.length) 32 with
  | true => match (generalizing := false) g10ok A a with
    | true => kk (bO (A.sc .eql (g10r0 A a) a)) []
    | false => none
  | false => kk (bO false) []
set_option maxRecDepth 100000 in
theorem g12_eq {R : Type} (A : Ar) (n : Nat) (kk : AV → Heap → Option R) (a : List Nat) :
    funD A gtys (g12O A) g12an n (bodyOf Try.f12) g12res [(tS a)] [] kk = g12 A n kk a := by
  have h1 : (g12T kk) .ret (g12R1s0 A a) = kk (bO (A.sc .eql (g10r0 A a) a)) [] := by kernel_rfl
  have h2 := (g12p7 A n _ _).trans h1
  have h3 := (g12Qn A n _ _ _).trans h2
  have h4 : (g12T kk) .ret (g12R1s1 A a) = kk (bO false) [] := by kernel_rfl
  have h5 := (g12p7 A n _ _).trans h4
  have h6 := (g12Qn A n _ _ _).trans h5
  have h7 := (g12F A n _ 1 _ (g12R0s0 A a) _ (by kernel_rfl) (by kernel_rfl)).trans (g12R1 A n (g12Q A n (pth 7) (g12T kk)) a)
  rw [h3, h6] at h7
  have h8 := (g12p3 A n _ _).trans h7
  have h9 := (g12Qn A n _ _ _).trans h8
  have h10 := (g12F A n _ 0 _ ⟨[(0, (tS a))], []⟩ _ (by kernel_rfl) (by kernel_rfl)).trans (g12R0 A n (g12Q A n (pth 3) (g12T kk)) a)
  rw [h9] at h10
  have h11 := (g12p1 A n _ _).trans h10
  exact (show funD A gtys (g12O A) g12an n (bodyOf Try.f12) g12res [(tS a)] [] kk = g12D A n (pth 1) (g12T kk) ⟨[(0, (tS a))], []⟩ from by kernel_rfl).trans (h11.trans (by kernel_rfl))
def g12is (o : Option AV) : Bool := match o with
  | some (.v (.cell (.bool _))) => true
  | _ => false
def g12g0 (o : Option AV) : Bool := match o with
  | some (.v (.cell (.bool x))) => x
  | _ => false
theorem g12is_spec {o : Option AV} (h : g12is o = true) : o = some (.v (.cell (.bool (g12g0 o)))) := by
  unfold g12is at h
  split at h
  · rfl
  · cases h
def g12v (A : Ar) (a : List Nat) : Option AV := g12 A (100000) (fun v _ => some v) a
def g12ok (A : Ar) (a : List Nat) : Bool := g12is (g12v A a)
def g12r0 (A : Ar) (a : List Nat) : Bool := g12g0 (g12v A a)
theorem g12ok_spec {A : Ar} {a} (h : g12ok A a = true) : g12v A a = some (.v (.cell (.bool (g12r0 A a)))) := g12is_spec h
def g12o (A : Ar) (args : List AV) : Option (Bool × AV) := match args with
  | [.v (.cell (.str a))] => some (g12ok A a, .v (.cell (.bool (g12r0 A a))))
  | _ => none
theorem g12o_sound : ∀ args v, g12o realA args = some (true, v) → Fn1 Try.prog 12 args v := by
  intro args v h
  unfold g12o at h
  split at h
  · rename_i a
    simp only [Option.some.injEq, Prod.mk.injEq] at h
    obtain ⟨hc, h⟩ := h
    subst h
    · skip
      exact fn1_of mixed gtysOK g12O_sound g12O_det (an := g12an) (n := 100000) Try.func12 (c := bodyOf Try.f12) rfl (by kernel_rfl) Try.call12 (Nat.le_of_ble_eq_true rfl) (fun b => rfl) (fun _ => (g12_eq realA (100000) (fun v _ => some v) a).trans (show g12v realA a = _ from g12ok_spec hc))
  · cases h
def g14O (A : Ar) : Orc := orcOf [(10, g10o A)]
theorem g14O_sound : OSound Try.prog (g14O realA) := orc_sound fun f g hm args v hv => by
  simp only [List.mem_cons, List.not_mem_nil, or_false, Prod.mk.injEq] at hm
  rcases hm with ⟨rfl, rfl⟩
  · exact g10o_sound _ _ hv
theorem g14O_det : ODet (g14O realA) := orc_det _
def g14an : Ann := [(0, ([0, 1, 2], [])), (1, ([0, 1, 2], [])), (2, ([0, 1, 2, 7], [2000])), (3, ([0, 1, 2, 7, 15, 16], [2000])), (4, ([0, 1, 2, 7, 15, 16], [2000])), (5, ([0, 1, 2, 7, 8, 15, 16], [2000])), (6, ([0, 1, 2, 7, 8, 15, 16, 21, 22], [2000])), (7, ([0, 1, 2, 7, 8, 15, 16, 21, 22], [2000])), (8, ([0, 1, 2, 7, 8, 9, 15, 16, 21, 22], [2000])), (9, ([0, 1, 2, 7, 8, 15, 16, 21, 22], [2000])), (10, ([0, 1, 2, 7, 15, 16], [2000])), (11, ([2, 7], [2000])), (12, ([2, 7, 45, 46], [2000])), (13, ([2, 7, 45, 46], [2000])), (14, ([2, 7, 10, 45, 46], [2000])), (15, ([2, 7, 45, 46], [2000])), (16, ([7], [2000])), (17, ([7, 11], [2000, 17000])), (18, ([7, 11, 61, 62], [2000, 17000])), (19, ([7, 11, 61, 62], [2000, 17000])), (20, ([7, 11, 12, 61, 62], [2000, 17000])), (21, ([7, 11, 12, 61, 62], [2000, 17000])), (22, ([7, 11, 61, 62], [2000, 17000])), (23, ([11], [17000]))]
def g14res : List ResultVar := [.tmp 6]
noncomputable def g14D {R : Type} (A : Ar) (n : Nat) (p : List Bool) (K : Ex → St → Option R) (s : St) : Option R := codeD A gtys (g14O A) g14an n (sub (bodyOf Try.f14) p) K s
noncomputable def g14V {R : Type} (A : Ar) (n : Nat) (p : List Bool) (m : Nat) (K : Ex → St → Option R) (s : St) : Option R := loopD (fun K' s'' => codeD A gtys (g14O A) g14an n (sub (bodyOf Try.f14) p) K' s'') m K s
noncomputable def g14Q {R : Type} (A : Ar) (n : Nat) (p : List Bool) (K : Ex → St → Option R) : Ex → St → Option R := seqC (g14D A n p K) K
noncomputable def g14W {R : Type} (A : Ar) (n : Nat) (p : List Bool) (m : Nat) (K : Ex → St → Option R) : Ex → St → Option R := seqC (g14V A n p m K) K
noncomputable def g14T {R : Type} (kk : AV → Heap → Option R) : Ex → St → Option R := finD gtys g14res kk
theorem g14Qn {R : Type} (A : Ar) (n : Nat) (p : List Bool) (K : Ex → St → Option R) (s : St) : g14Q A n p K .normal s = g14D A n p K s := rfl
theorem g14Qe {R : Type} (A : Ar) (n : Nat) (p : List Bool) (K : Ex → St → Option R) (i : Nat) (s : St) : g14Q A n p K (.exit i) s = K (.exit i) s := rfl
theorem g14Wn {R : Type} (A : Ar) (n : Nat) (p : List Bool) (m : Nat) (K : Ex → St → Option R) (s : St) : g14W A n p m K .normal s = g14V A n p m K s := rfl
theorem g14We {R : Type} (A : Ar) (n : Nat) (p : List Bool) (m : Nat) (K : Ex → St → Option R) (i : Nat) (s : St) : g14W A n p m K (.exit i) s = K (.exit i) s := rfl
theorem g14Vs {R : Type} (A : Ar) (n : Nat) (p : List Bool) (m : Nat) (K : Ex → St → Option R) (s : St) : g14V A n p (m + 1) K s = g14D A n p (g14W A n p m K) s := rfl
theorem g14F {R : Type} (A : Ar) (n : Nat) (p : List Bool) (i : Nat) (K : Ex → St → Option R) (s s' : St) (hf : firstReg (sub (bodyOf Try.f14) p) = some i) (h : keep g14an i s = keep g14an i s') : g14D A n p K s = g14D A n p K s' := codeD_first hf h K
section
variable {R : Type} (A : Ar) (n : Nat) (K : Ex → St → Option R) (s : St)
theorem g14p1 : g14D A n (pth 1) K s = g14D A n (pth 2) (g14Q A n (pth 3) K) s := by kernel_rfl
theorem g14p3 : g14D A n (pth 3) K s = g14D A n (pth 5) (g14Q A n (pth 7) K) s := by kernel_rfl
theorem g14p7 : g14D A n (pth 7) K s = g14D A n (pth 11) (g14Q A n (pth 15) K) s := by kernel_rfl
theorem g14p11 : g14D A n (pth 11) K s = g14D A n (pth 19) (g14Q A n (pth 27) K) s := by kernel_rfl
theorem g14p27 : g14D A n (pth 27) K s = g14D A n (pth 43) (blockK 0 K) s := by kernel_rfl
theorem g14p43 : g14D A n (pth 43) K s = g14V A n (pth 75) n K s := by kernel_rfl
theorem g14p75 : g14D A n (pth 75) K s = g14D A n (pth 139) (g14Q A n (pth 203) K) s := by kernel_rfl
theorem g14p203 : g14D A n (pth 203) K s = g14D A n (pth 331) (g14Q A n (pth 459) K) s := by kernel_rfl
theorem g14p331 (t : Bool) : ev s (.tmp 17) = some (.v (.cell (.bool t))) → g14D A n (pth 331) K s = (match t with
    | true => g14D A n (pth 587) K s
    | false => g14D A n (pth 843) K s) := codeD_cond t
theorem g14p587 : g14D A n (pth 587) K s = K .normal s := by kernel_rfl
theorem g14p843 : g14D A n (pth 843) K s = K (.exit 0) s := by kernel_rfl
theorem g14p459 : g14D A n (pth 459) K s = g14D A n (pth 715) (g14Q A n (pth 971) K) s := by kernel_rfl
theorem g14p715 : g14D A n (pth 715) K s = g14D A n (pth 1227) (blockK 1 K) s := by kernel_rfl
theorem g14p1227 : g14D A n (pth 1227) K s = g14D A n (pth 2251) (g14Q A n (pth 3275) K) s := by kernel_rfl
theorem g14p3275 : g14D A n (pth 3275) K s = g14D A n (pth 5323) (g14Q A n (pth 7371) K) s := by kernel_rfl
theorem g14p7371 : g14D A n (pth 7371) K s = g14D A n (pth 11467) (blockK 2 K) s := by kernel_rfl
theorem g14p11467 : g14D A n (pth 11467) K s = g14V A n (pth 19659) n K s := by kernel_rfl
theorem g14p19659 : g14D A n (pth 19659) K s = g14D A n (pth 36043) (g14Q A n (pth 52427) K) s := by kernel_rfl
theorem g14p52427 : g14D A n (pth 52427) K s = g14D A n (pth 85195) (g14Q A n (pth 117963) K) s := by kernel_rfl
theorem g14p85195 (t : Bool) : ev s (.tmp 23) = some (.v (.cell (.bool t))) → g14D A n (pth 85195) K s = (match t with
    | true => g14D A n (pth 150731) K s
    | false => g14D A n (pth 216267) K s) := codeD_cond t
theorem g14p150731 : g14D A n (pth 150731) K s = K .normal s := by kernel_rfl
theorem g14p216267 : g14D A n (pth 216267) K s = K (.exit 2) s := by kernel_rfl
theorem g14p117963 : g14D A n (pth 117963) K s = g14D A n (pth 183499) (g14Q A n (pth 249035) K) s := by kernel_rfl
theorem g14p183499 : g14D A n (pth 183499) K s = g14D A n (pth 314571) (blockK 3 K) s := by kernel_rfl
theorem g14p314571 : g14D A n (pth 314571) K s = g14D A n (pth 576715) (g14Q A n (pth 838859) K) s := by kernel_rfl
theorem g14p15 : g14D A n (pth 15) K s = g14D A n (pth 23) (g14Q A n (pth 31) K) s := by kernel_rfl
theorem g14p23 : g14D A n (pth 23) K s = g14D A n (pth 39) (g14Q A n (pth 55) K) s := by kernel_rfl
theorem g14p55 : g14D A n (pth 55) K s = g14D A n (pth 87) (blockK 4 K) s := by kernel_rfl
theorem g14p87 : g14D A n (pth 87) K s = g14V A n (pth 151) n K s := by kernel_rfl
theorem g14p151 : g14D A n (pth 151) K s = g14D A n (pth 279) (g14Q A n (pth 407) K) s := by kernel_rfl
theorem g14p407 : g14D A n (pth 407) K s = g14D A n (pth 663) (g14Q A n (pth 919) K) s := by kernel_rfl
theorem g14p663 (t : Bool) : ev s (.tmp 47) = some (.v (.cell (.bool t))) → g14D A n (pth 663) K s = (match t with
    | true => g14D A n (pth 1175) K s
    | false => g14D A n (pth 1687) K s) := codeD_cond t
theorem g14p1175 : g14D A n (pth 1175) K s = K .normal s := by kernel_rfl
theorem g14p1687 : g14D A n (pth 1687) K s = K (.exit 4) s := by kernel_rfl
theorem g14p919 : g14D A n (pth 919) K s = g14D A n (pth 1431) (g14Q A n (pth 1943) K) s := by kernel_rfl
theorem g14p1431 : g14D A n (pth 1431) K s = g14D A n (pth 2455) (blockK 5 K) s := by kernel_rfl
theorem g14p2455 : g14D A n (pth 2455) K s = g14D A n (pth 4503) (g14Q A n (pth 6551) K) s := by kernel_rfl
theorem g14p31 : g14D A n (pth 31) K s = g14D A n (pth 47) (g14Q A n (pth 63) K) s := by kernel_rfl
theorem g14p63 : g14D A n (pth 63) K s = g14D A n (pth 95) (g14Q A n (pth 127) K) s := by kernel_rfl
theorem g14p95 : g14D A n (pth 95) K s = g14D A n (pth 159) (g14Q A n (pth 223) K) s := by kernel_rfl
theorem g14p223 : g14D A n (pth 223) K s = g14D A n (pth 351) (blockK 6 K) s := by kernel_rfl
theorem g14p351 : g14D A n (pth 351) K s = g14V A n (pth 607) n K s := by kernel_rfl
theorem g14p607 : g14D A n (pth 607) K s = g14D A n (pth 1119) (g14Q A n (pth 1631) K) s := by kernel_rfl
theorem g14p1631 : g14D A n (pth 1631) K s = g14D A n (pth 2655) (g14Q A n (pth 3679) K) s := by kernel_rfl
theorem g14p2655 (t : Bool) : ev s (.tmp 63) = some (.v (.cell (.bool t))) → g14D A n (pth 2655) K s = (match t with
    | true => g14D A n (pth 4703) K s
    | false => g14D A n (pth 6751) K s) := codeD_cond t
theorem g14p4703 : g14D A n (pth 4703) K s = K .normal s := by kernel_rfl
theorem g14p6751 : g14D A n (pth 6751) K s = K (.exit 6) s := by kernel_rfl
theorem g14p3679 : g14D A n (pth 3679) K s = g14D A n (pth 5727) (g14Q A n (pth 7775) K) s := by kernel_rfl
theorem g14p5727 : g14D A n (pth 5727) K s = g14D A n (pth 9823) (blockK 7 K) s := by kernel_rfl
theorem g14p9823 : g14D A n (pth 9823) K s = g14D A n (pth 18015) (g14Q A n (pth 26207) K) s := by kernel_rfl
theorem g14p26207 : g14D A n (pth 26207) K s = g14D A n (pth 42591) (g14Q A n (pth 58975) K) s := by kernel_rfl
theorem g14p127 : g14D A n (pth 127) K s = g14D A n (pth 191) (g14Q A n (pth 255) K) s := by kernel_rfl
theorem g14p255 : g14D A n (pth 255) K s = K .ret s := by kernel_rfl
def g14R7s0 (A : Ar) (x0 x1 x2 : List Nat) (x3 x4 : Int) (x5 x6 x7 : Int) (x8 : List Nat) : St := ⟨[(9, (i6 x7)), (24, (i6 x7)), (0, (tS x0)), (1, (tS x1)), (2, (tS x2)), (7, (pT 2000 0)), (8, (i6 x3)), (15, (i6 x4)), (16, (i6 x5)), (21, (i6 x6)), (22, (i6 x7))], [(2000, (bW 65 x8 43))]⟩
theorem g14R7 (x0 x1 x2 : List Nat) (x3 x4 : Int) (x5 x6 x7 : Int) (x8 : List Nat) : g14D A n (pth 576715) K ⟨[(0, (tS x0)), (1, (tS x1)), (2, (tS x2)), (7, (pT 2000 0)), (8, (i6 x3)), (15, (i6 x4)), (16, (i6 x5)), (21, (i6 x6)), (22, (i6 x7))], [(2000, (bW 65 x8 43))]⟩ = K .normal (g14R7s0 A x0 x1 x2 x3 x4 x5 x6 x7 x8) := by kernel_rfl
def g14R8s0 (A : Ar) (x0 x1 x2 : List Nat) (x3 x4 : Int) (x5 x6 : Int) (x7 x8 : Int) (x9 : List Nat) : St := ⟨[(40, (.v (.cell (.ptr 2000 0 (some ⟨A.toN (A.ib .add .i64 x3 x4), 1, 65, 0, 0, 0⟩))))), (39, (u32v (A.nb .add .u32 (x9.getD (A.toN (A.ib .add .i64 x3 x4)) 0) (A.nb .mul .u32 (x0.getD (A.toN x3) 0) (x1.getD (A.toN x4) 0))))), (38, (u32v (A.nb .mul .u32 (x0.getD (A.toN x3) 0) (x1.getD (A.toN x4) 0)))), (37, (u32v (x1.getD (A.toN x4) 0))), (36, (u8v (x1.getD (A.toN x4) 0))), (35, (i6 x4)), (34, (tS x1)), (33, (u32v (x0.getD (A.toN x3) 0))), (32, (u8v (x0.getD (A.toN x3) 0))), (31, (i6 x3)), (30, (tS x0)), (29, (u32v (x9.getD (A.toN (A.ib .add .i64 x3 x4)) 0))), (28, (.v (.cell (.ptr 2000 0 (some ⟨A.toN (A.ib .add .i64 x3 x4), 1, 65, 0, 0, 0⟩))))), (27, (i6 (A.ib .add .i64 x3 x4))), (26, (i6 x4)), (25, (i6 x3)), (0, (tS x0)), (1, (tS x1)), (2, (tS x2)), (7, (pT 2000 0)), (8, (i6 x3)), (9, (i6 x4)), (15, (i6 x5)), (16, (i6 x6)), (21, (i6 x7)), (22, (i6 x8))], [(2000, (bW 65 (x9.set (A.toN (A.ib .add .i64 x3 x4)) (A.nb .add .u32 (x9.getD (A.toN (A.ib .add .i64 x3 x4)) 0) (A.nb .mul .u32 (x0.getD (A.toN x3) 0) (x1.getD (A.toN x4) 0)))) 43))]⟩
theorem g14R8 (x0 x1 x2 : List Nat) (x3 x4 : Int) (x5 x6 : Int) (x7 x8 : Int) (x9 : List Nat) : g14D A n (pth 838859) K ⟨[(0, (tS x0)), (1, (tS x1)), (2, (tS x2)), (7, (pT 2000 0)), (8, (i6 x3)), (9, (i6 x4)), (15, (i6 x5)), (16, (i6 x6)), (21, (i6 x7)), (22, (i6 x8))], [(2000, (bW 65 x9 43))]⟩ = match (generalizing := false) A.neg (A.ib .add .i64 x3 x4) with
    | true => none
    | false => match (generalizing := false) A.lt (A.toN (A.ib .add .i64 x3 x4)) 65 with
      | true => match (generalizing := false) A.neg x3 with
        | true => none
        | false => match (generalizing := false) A.lt (A.toN x3) x0.length with
          | true => match (generalizing := false) A.neg x4 with
            | true => none
            | false => match (generalizing := false) A.lt (A.toN x4) x1.length with
              | true => match (generalizing := false) A.neg (A.ib .add .i64 x3 x4) with
                | true => none
                | false => match (generalizing := false) A.lt (A.toN (A.ib .add .i64 x3 x4)) 65 with
                  | true => K .normal (g14R8s0 A x0 x1 x2 x3 x4 x5 x6 x7 x8 x9)
                  | false => none
              | false => none
          | false => none
      | false => none := by kernel_rfl
def g14R9s0 (A : Ar) (x0 x1 x2 : List Nat) (x3 x4 : Int) (x5 x6 x7 : Int) (x8 : List Nat) : St := ⟨[(22, (i6 (A.ib .add .i64 x7 1))), (41, (i6 (A.ib .add .i64 x7 1))), (0, (tS x0)), (1, (tS x1)), (2, (tS x2)), (7, (pT 2000 0)), (8, (i6 x3)), (15, (i6 x4)), (16, (i6 x5)), (21, (i6 x6)), (22, (i6 x7))], [(2000, (bW 65 x8 43))]⟩
theorem g14R9 (x0 x1 x2 : List Nat) (x3 x4 : Int) (x5 x6 x7 : Int) (x8 : List Nat) : g14D A n (pth 249035) K ⟨[(0, (tS x0)), (1, (tS x1)), (2, (tS x2)), (7, (pT 2000 0)), (8, (i6 x3)), (15, (i6 x4)), (16, (i6 x5)), (21, (i6 x6)), (22, (i6 x7))], [(2000, (bW 65 x8 43))]⟩ = K .normal (g14R9s0 A x0 x1 x2 x3 x4 x5 x6 x7 x8) := by kernel_rfl
def g14R6s0 (A : Ar) (x0 x1 x2 : List Nat) (x3 x4 : Int) (x5 x6 x7 : Int) (x8 : List Nat) : St := ⟨[(23, (bO (A.ic .lss x7 x6))), (0, (tS x0)), (1, (tS x1)), (2, (tS x2)), (7, (pT 2000 0)), (8, (i6 x3)), (15, (i6 x4)), (16, (i6 x5)), (21, (i6 x6)), (22, (i6 x7))], [(2000, (bW 65 x8 43))]⟩
theorem g14R6 (x0 x1 x2 : List Nat) (x3 x4 : Int) (x5 x6 x7 : Int) (x8 : List Nat) : g14D A n (pth 36043) K ⟨[(0, (tS x0)), (1, (tS x1)), (2, (tS x2)), (7, (pT 2000 0)), (8, (i6 x3)), (15, (i6 x4)), (16, (i6 x5)), (21, (i6 x6)), (22, (i6 x7))], [(2000, (bW 65 x8 43))]⟩ = K .normal (g14R6s0 A x0 x1 x2 x3 x4 x5 x6 x7 x8) := by kernel_rfl
def g14R10s0 (A : Ar) (x0 x1 x2 : List Nat) (x3 x4 : Int) (x5 : List Nat) : St := ⟨[(16, (i6 (A.ib .add .i64 x4 1))), (42, (i6 (A.ib .add .i64 x4 1))), (0, (tS x0)), (1, (tS x1)), (2, (tS x2)), (7, (pT 2000 0)), (15, (i6 x3)), (16, (i6 x4))], [(2000, (bW 65 x5 43))]⟩
theorem g14R10 (x0 x1 x2 : List Nat) (x3 x4 : Int) (x5 : List Nat) : g14D A n (pth 971) K ⟨[(0, (tS x0)), (1, (tS x1)), (2, (tS x2)), (7, (pT 2000 0)), (15, (i6 x3)), (16, (i6 x4))], [(2000, (bW 65 x5 43))]⟩ = K .normal (g14R10s0 A x0 x1 x2 x3 x4 x5) := by kernel_rfl
def g14R4s0 (A : Ar) (x0 x1 x2 : List Nat) (x3 x4 : Int) (x5 : List Nat) : St := ⟨[(8, (i6 x4)), (18, (i6 x4)), (0, (tS x0)), (1, (tS x1)), (2, (tS x2)), (7, (pT 2000 0)), (15, (i6 x3)), (16, (i6 x4))], [(2000, (bW 65 x5 43))]⟩
theorem g14R4 (x0 x1 x2 : List Nat) (x3 x4 : Int) (x5 : List Nat) : g14D A n (pth 2251) K ⟨[(0, (tS x0)), (1, (tS x1)), (2, (tS x2)), (7, (pT 2000 0)), (15, (i6 x3)), (16, (i6 x4))], [(2000, (bW 65 x5 43))]⟩ = K .normal (g14R4s0 A x0 x1 x2 x3 x4 x5) := by kernel_rfl
def g14R5s0 (A : Ar) (x0 x1 x2 : List Nat) (x3 x4 x5 : Int) (x6 : List Nat) : St := ⟨[(22, (i6 0)), (21, (i6 (A.mn (A.ofN x1.length) 32))), (20, (i6 (A.ofN x1.length))), (19, (tS x1)), (0, (tS x0)), (1, (tS x1)), (2, (tS x2)), (7, (pT 2000 0)), (8, (i6 x3)), (15, (i6 x4)), (16, (i6 x5))], [(2000, (bW 65 x6 43))]⟩
theorem g14R5 (x0 x1 x2 : List Nat) (x3 x4 x5 : Int) (x6 : List Nat) : g14D A n (pth 5323) K ⟨[(0, (tS x0)), (1, (tS x1)), (2, (tS x2)), (7, (pT 2000 0)), (8, (i6 x3)), (15, (i6 x4)), (16, (i6 x5))], [(2000, (bW 65 x6 43))]⟩ = K .normal (g14R5s0 A x0 x1 x2 x3 x4 x5 x6) := by kernel_rfl
def g14R13s0 (A : Ar) (x0 : List Nat) (x1 x2 : Int) (x3 : List Nat) : St := ⟨[(10, (i6 x2)), (48, (i6 x2)), (2, (tS x0)), (7, (pT 2000 0)), (45, (i6 x1)), (46, (i6 x2))], [(2000, (bW 65 x3 43))]⟩
theorem g14R13 (x0 : List Nat) (x1 x2 : Int) (x3 : List Nat) : g14D A n (pth 4503) K ⟨[(2, (tS x0)), (7, (pT 2000 0)), (45, (i6 x1)), (46, (i6 x2))], [(2000, (bW 65 x3 43))]⟩ = K .normal (g14R13s0 A x0 x1 x2 x3) := by kernel_rfl
def g14R14s0 (A : Ar) (x0 : List Nat) (x1 x2 x3 : Int) (x4 : List Nat) : St := ⟨[(57, (.v (.cell (.ptr 2000 0 (some ⟨A.toN x1, 1, 65, 0, 0, 0⟩))))), (56, (u32v (A.nb .add .u32 (x4.getD (A.toN x1) 0) (x0.getD (A.toN x1) 0)))), (55, (u32v (x0.getD (A.toN x1) 0))), (54, (u8v (x0.getD (A.toN x1) 0))), (53, (i6 x1)), (52, (tS x0)), (51, (u32v (x4.getD (A.toN x1) 0))), (50, (.v (.cell (.ptr 2000 0 (some ⟨A.toN x1, 1, 65, 0, 0, 0⟩))))), (49, (i6 x1)), (2, (tS x0)), (7, (pT 2000 0)), (10, (i6 x1)), (45, (i6 x2)), (46, (i6 x3))], [(2000, (bW 65 (x4.set (A.toN x1) (A.nb .add .u32 (x4.getD (A.toN x1) 0) (x0.getD (A.toN x1) 0))) 43))]⟩
theorem g14R14 (x0 : List Nat) (x1 x2 x3 : Int) (x4 : List Nat) : g14D A n (pth 6551) K ⟨[(2, (tS x0)), (7, (pT 2000 0)), (10, (i6 x1)), (45, (i6 x2)), (46, (i6 x3))], [(2000, (bW 65 x4 43))]⟩ = match (generalizing := false) A.neg x1 with
    | true => none
    | false => match (generalizing := false) A.lt (A.toN x1) 65 with
      | true => match (generalizing := false) A.neg x1 with
        | true => none
        | false => match (generalizing := false) A.lt (A.toN x1) x0.length with
          | true => match (generalizing := false) A.neg x1 with
            | true => none
            | false => match (generalizing := false) A.lt (A.toN x1) 65 with
              | true => K .normal (g14R14s0 A x0 x1 x2 x3 x4)
              | false => none
          | false => none
      | false => none := by kernel_rfl
def g14R15s0 (A : Ar) (x0 : List Nat) (x1 x2 : Int) (x3 : List Nat) : St := ⟨[(46, (i6 (A.ib .add .i64 x2 1))), (58, (i6 (A.ib .add .i64 x2 1))), (2, (tS x0)), (7, (pT 2000 0)), (45, (i6 x1)), (46, (i6 x2))], [(2000, (bW 65 x3 43))]⟩
theorem g14R15 (x0 : List Nat) (x1 x2 : Int) (x3 : List Nat) : g14D A n (pth 1943) K ⟨[(2, (tS x0)), (7, (pT 2000 0)), (45, (i6 x1)), (46, (i6 x2))], [(2000, (bW 65 x3 43))]⟩ = K .normal (g14R15s0 A x0 x1 x2 x3) := by kernel_rfl
def g14R19s0 (A : Ar) (x0 : Nat) (x1 x2 : Int) (x3 : List Nat) (x4 : Nat) (x5 : List Nat) : St := ⟨[(12, (i6 x2)), (64, (i6 x2)), (7, (pT 2000 0)), (11, (sL 17000 none x0 1)), (61, (i6 x1)), (62, (i6 x2))], [(2000, (bW 65 x3 43)), (17000, ⟨[.nums .u8 x4 x5], 5, 2⟩)]⟩
theorem g14R19 (x0 : Nat) (x1 x2 : Int) (x3 : List Nat) (x4 : Nat) (x5 : List Nat) : g14D A n (pth 18015) K ⟨[(7, (pT 2000 0)), (11, (sL 17000 none x0 1)), (61, (i6 x1)), (62, (i6 x2))], [(2000, (bW 65 x3 43)), (17000, ⟨[.nums .u8 x4 x5], 5, 2⟩)]⟩ = K .normal (g14R19s0 A x0 x1 x2 x3 x4 x5) := by kernel_rfl
def g14R20s0 (A : Ar) (x0 : Nat) (x1 x2 x3 : Int) (x4 : List Nat) (x5 : Nat) (x6 : List Nat) : St := ⟨[(71, (.v (.cell (.ptr 17000 0 (some ⟨A.toN x1, 1, x0, A.toN x1, 0, 1⟩))))), (70, (u8v (A.n2n .u8 (x4.getD (A.toN x1) 0)))), (69, (u32v (x4.getD (A.toN x1) 0))), (68, (.v (.cell (.ptr 2000 0 (some ⟨A.toN x1, 1, 65, 0, 0, 0⟩))))), (67, (i6 x1)), (66, (i6 x1)), (65, (sL 17000 none x0 1)), (7, (pT 2000 0)), (11, (sL 17000 none x0 1)), (12, (i6 x1)), (61, (i6 x2)), (62, (i6 x3))], [(2000, (bW 65 x4 43)), (17000, ⟨[.nums .u8 x5 (x6.set (A.toN x1) (A.n2n .u8 (x4.getD (A.toN x1) 0)))], 5, 2⟩)]⟩
theorem g14R20 (x0 : Nat) (x1 x2 x3 : Int) (x4 : List Nat) (x5 : Nat) (x6 : List Nat) : g14D A n (pth 42591) K ⟨[(7, (pT 2000 0)), (11, (sL 17000 none x0 1)), (12, (i6 x1)), (61, (i6 x2)), (62, (i6 x3))], [(2000, (bW 65 x4 43)), (17000, ⟨[.nums .u8 x5 x6], 5, 2⟩)]⟩ = match (generalizing := false) A.neg x1 with
    | true => none
    | false => match (generalizing := false) A.lt (A.toN x1) 65 with
      | true => match (generalizing := false) A.neg x1 with
        | true => none
        | false => match (generalizing := false) A.lt (A.toN x1) x0 with
          | true => K .normal (g14R20s0 A x0 x1 x2 x3 x4 x5 x6)
          | false => none
      | false => none := by kernel_rfl
def g14R21s0 (A : Ar) (x0 : Nat) (x1 x2 x3 : Int) (x4 : List Nat) (x5 : Nat) (x6 : List Nat) : St := ⟨[(81, (.v (.cell (.ptr 2000 0 (some ⟨A.toN (A.ib .add .i64 x1 1), 1, 65, 0, 0, 0⟩))))), (80, (u32v (A.nb .add .u32 (x4.getD (A.toN (A.ib .add .i64 x1 1)) 0) (A.nsh .shr .u32 (x4.getD (A.toN x1) 0) 8)))), (79, (u32v (A.nsh .shr .u32 (x4.getD (A.toN x1) 0) 8))), (78, (u32v (x4.getD (A.toN x1) 0))), (77, (.v (.cell (.ptr 2000 0 (some ⟨A.toN x1, 1, 65, 0, 0, 0⟩))))), (76, (i6 x1)), (75, (u32v (x4.getD (A.toN (A.ib .add .i64 x1 1)) 0))), (74, (.v (.cell (.ptr 2000 0 (some ⟨A.toN (A.ib .add .i64 x1 1), 1, 65, 0, 0, 0⟩))))), (73, (i6 (A.ib .add .i64 x1 1))), (72, (i6 x1)), (7, (pT 2000 0)), (11, (sL 17000 none x0 1)), (12, (i6 x1)), (61, (i6 x2)), (62, (i6 x3))], [(2000, (bW 65 (x4.set (A.toN (A.ib .add .i64 x1 1)) (A.nb .add .u32 (x4.getD (A.toN (A.ib .add .i64 x1 1)) 0) (A.nsh .shr .u32 (x4.getD (A.toN x1) 0) 8))) 43)), (17000, ⟨[.nums .u8 x5 x6], 5, 2⟩)]⟩
theorem g14R21 (x0 : Nat) (x1 x2 x3 : Int) (x4 : List Nat) (x5 : Nat) (x6 : List Nat) : g14D A n (pth 58975) K ⟨[(7, (pT 2000 0)), (11, (sL 17000 none x0 1)), (12, (i6 x1)), (61, (i6 x2)), (62, (i6 x3))], [(2000, (bW 65 x4 43)), (17000, ⟨[.nums .u8 x5 x6], 5, 2⟩)]⟩ = match (generalizing := false) A.neg (A.ib .add .i64 x1 1) with
    | true => none
    | false => match (generalizing := false) A.lt (A.toN (A.ib .add .i64 x1 1)) 65 with
      | true => match (generalizing := false) A.neg x1 with
        | true => none
        | false => match (generalizing := false) A.lt (A.toN x1) 65 with
          | true => match (generalizing := false) A.neg (A.ib .add .i64 x1 1) with
            | true => none
            | false => match (generalizing := false) A.lt (A.toN (A.ib .add .i64 x1 1)) 65 with
              | true => K .normal (g14R21s0 A x0 x1 x2 x3 x4 x5 x6)
              | false => none
          | false => none
      | false => none := by kernel_rfl
def g14R22s0 (A : Ar) (x0 : Nat) (x1 x2 : Int) (x3 : List Nat) (x4 : Nat) (x5 : List Nat) : St := ⟨[(62, (i6 (A.ib .add .i64 x2 1))), (82, (i6 (A.ib .add .i64 x2 1))), (7, (pT 2000 0)), (11, (sL 17000 none x0 1)), (61, (i6 x1)), (62, (i6 x2))], [(2000, (bW 65 x3 43)), (17000, ⟨[.nums .u8 x4 x5], 5, 2⟩)]⟩
theorem g14R22 (x0 : Nat) (x1 x2 : Int) (x3 : List Nat) (x4 : Nat) (x5 : List Nat) : g14D A n (pth 7775) K ⟨[(7, (pT 2000 0)), (11, (sL 17000 none x0 1)), (61, (i6 x1)), (62, (i6 x2))], [(2000, (bW 65 x3 43)), (17000, ⟨[.nums .u8 x4 x5], 5, 2⟩)]⟩ = K .normal (g14R22s0 A x0 x1 x2 x3 x4 x5) := by kernel_rfl
def g14R18s0 (A : Ar) (x0 : Nat) (x1 x2 : Int) (x3 : List Nat) (x4 : Nat) (x5 : List Nat) : St := ⟨[(63, (bO (A.ic .lss x2 x1))), (7, (pT 2000 0)), (11, (sL 17000 none x0 1)), (61, (i6 x1)), (62, (i6 x2))], [(2000, (bW 65 x3 43)), (17000, ⟨[.nums .u8 x4 x5], 5, 2⟩)]⟩
theorem g14R18 (x0 : Nat) (x1 x2 : Int) (x3 : List Nat) (x4 : Nat) (x5 : List Nat) : g14D A n (pth 1119) K ⟨[(7, (pT 2000 0)), (11, (sL 17000 none x0 1)), (61, (i6 x1)), (62, (i6 x2))], [(2000, (bW 65 x3 43)), (17000, ⟨[.nums .u8 x4 x5], 5, 2⟩)]⟩ = K .normal (g14R18s0 A x0 x1 x2 x3 x4 x5) := by kernel_rfl
def g14R23s0 (A : Ar) (x0 x1 : Nat) (x2 : List Nat) : St := ⟨[(6, (tS (g10r0 A (x2.take x0)))), (85, (tS (g10r0 A (x2.take x0)))), (84, (tS (x2.take x0))), (83, (sL 17000 none x0 1)), (11, (sL 17000 none x0 1))], [(17000, ⟨[.nums .u8 x1 x2], 5, 2⟩)]⟩
theorem g14R23 (x0 x1 : Nat) (x2 : List Nat) : g14D A n (pth 191) K ⟨[(11, (sL 17000 none x0 1))], [(17000, ⟨[.nums .u8 x1 x2], 5, 2⟩)]⟩ = match (generalizing := false) g10ok A (x2.take x0) with
    | true => K .normal (g14R23s0 A x0 x1 x2)
    | false => none := by kernel_rfl
def g14R16s0 (A : Ar) (x0 : List Nat) : St := ⟨[(11, (sL 17000 none 64 1)), (59, (sL 17000 none 64 1)), (7, (pT 2000 0))], [(17000, ⟨[.nums .u8 64 (List.replicate 64 0)], 5, 2⟩), (2000, (bW 65 x0 43))]⟩
theorem g14R16 (x0 : List Nat) : g14D A n (pth 47) K ⟨[(7, (pT 2000 0))], [(2000, (bW 65 x0 43))]⟩ = match (generalizing := false) A.le 64 64 with
    | true => match (generalizing := false) A.le 64 140737488355328 with
      | true => K .normal (g14R16s0 A x0)
      | false => none
    | false => none := by kernel_rfl
def g14R17s0 (A : Ar) (x0 : Nat) (x1 : List Nat) (x2 : Nat) (x3 : List Nat) : St := ⟨[(62, (i6 0)), (61, (i6 (A.ofN x0))), (60, (sL 17000 none x0 1)), (7, (pT 2000 0)), (11, (sL 17000 none x0 1))], [(2000, (bW 65 x1 43)), (17000, ⟨[.nums .u8 x2 x3], 5, 2⟩)]⟩
theorem g14R17 (x0 : Nat) (x1 : List Nat) (x2 : Nat) (x3 : List Nat) : g14D A n (pth 159) K ⟨[(7, (pT 2000 0)), (11, (sL 17000 none x0 1))], [(2000, (bW 65 x1 43)), (17000, ⟨[.nums .u8 x2 x3], 5, 2⟩)]⟩ = K .normal (g14R17s0 A x0 x1 x2 x3) := by kernel_rfl
def g14R12s0 (A : Ar) (x0 : List Nat) (x1 x2 : Int) (x3 : List Nat) : St := ⟨[(47, (bO (A.ic .lss x2 x1))), (2, (tS x0)), (7, (pT 2000 0)), (45, (i6 x1)), (46, (i6 x2))], [(2000, (bW 65 x3 43))]⟩
theorem g14R12 (x0 : List Nat) (x1 x2 : Int) (x3 : List Nat) : g14D A n (pth 279) K ⟨[(2, (tS x0)), (7, (pT 2000 0)), (45, (i6 x1)), (46, (i6 x2))], [(2000, (bW 65 x3 43))]⟩ = K .normal (g14R12s0 A x0 x1 x2 x3) := by kernel_rfl
def g14R11s0 (A : Ar) (x0 x1 : List Nat) : St := ⟨[(46, (i6 0)), (45, (i6 (A.mn (A.ofN x0.length) 32))), (44, (i6 (A.ofN x0.length))), (43, (tS x0)), (2, (tS x0)), (7, (pT 2000 0))], [(2000, (bW 65 x1 43))]⟩
theorem g14R11 (x0 x1 : List Nat) : g14D A n (pth 39) K ⟨[(2, (tS x0)), (7, (pT 2000 0))], [(2000, (bW 65 x1 43))]⟩ = K .normal (g14R11s0 A x0 x1) := by kernel_rfl
def g14R3s0 (A : Ar) (x0 x1 x2 : List Nat) (x3 x4 : Int) (x5 : List Nat) : St := ⟨[(17, (bO (A.ic .lss x4 x3))), (0, (tS x0)), (1, (tS x1)), (2, (tS x2)), (7, (pT 2000 0)), (15, (i6 x3)), (16, (i6 x4))], [(2000, (bW 65 x5 43))]⟩
theorem g14R3 (x0 x1 x2 : List Nat) (x3 x4 : Int) (x5 : List Nat) : g14D A n (pth 139) K ⟨[(0, (tS x0)), (1, (tS x1)), (2, (tS x2)), (7, (pT 2000 0)), (15, (i6 x3)), (16, (i6 x4))], [(2000, (bW 65 x5 43))]⟩ = K .normal (g14R3s0 A x0 x1 x2 x3 x4 x5) := by kernel_rfl
def g14R0s0 (A : Ar) (x0 x1 x2 : List Nat) : St := ⟨[(6, (tS [])), (0, (tS x0)), (1, (tS x1)), (2, (tS x2))], []⟩
theorem g14R0 (x0 x1 x2 : List Nat) : g14D A n (pth 2) K ⟨[(0, (tS x0)), (1, (tS x1)), (2, (tS x2))], []⟩ = K .normal (g14R0s0 A x0 x1 x2) := by kernel_rfl
def g14R1s0 (A : Ar) (x0 x1 x2 : List Nat) : St := ⟨[(7, (pT 2000 0)), (0, (tS x0)), (1, (tS x1)), (2, (tS x2))], [(2000, (bW 65 [0, 0, 0, 0, 0, 0, 0, 0, 0, 0, 0, 0, 0, 0, 0, 0, 0, 0, 0, 0, 0, 0, 0, 0, 0, 0, 0, 0, 0, 0, 0, 0, 0, 0, 0, 0, 0, 0, 0, 0, 0, 0, 0, 0, 0, 0, 0, 0, 0, 0, 0, 0, 0, 0, 0, 0, 0, 0, 0, 0, 0, 0, 0, 0, 0] 43))]⟩
theorem g14R1 (x0 x1 x2 : List Nat) : g14D A n (pth 5) K ⟨[(0, (tS x0)), (1, (tS x1)), (2, (tS x2))], []⟩ = K .normal (g14R1s0 A x0 x1 x2) := by kernel_rfl
def g14R2s0 (A : Ar) (x0 x1 : List Nat) (x2 x3 : List Nat) : St := ⟨[(16, (i6 0)), (15, (i6 (A.mn (A.ofN x0.length) 32))), (14, (i6 (A.ofN x0.length))), (13, (tS x0)), (0, (tS x0)), (1, (tS x1)), (2, (tS x2)), (7, (pT 2000 0))], [(2000, (bW 65 x3 43))]⟩
theorem g14R2 (x0 x1 : List Nat) (x2 x3 : List Nat) : g14D A n (pth 19) K ⟨[(0, (tS x0)), (1, (tS x1)), (2, (tS x2)), (7, (pT 2000 0))], [(2000, (bW 65 x3 43))]⟩ = K .normal (g14R2s0 A x0 x1 x2 x3) := by kernel_rfl
end
def g14J7 {R : Type} (A : Ar) (n : Nat) (kk : AV → Heap → Option R) (lg14L6 : List Nat → List Nat → List Nat → Int → Int → Int → Int → Int → List Nat → Option R) (x0 x1 x2 : List Nat) (x3 x4 : Int) (x5 x6 x7 : Int) (x8 : List Nat) : Option R :=
  match (generalizing := false) A.neg (A.ib .add .i64 x3 x7) with
  | true => none
  | false => match (generalizing := false) A.lt (A.toN (A.ib .add .i64 x3 x7)) 65 with
    | true => match (generalizing := false) A.neg x3 with
      | true => none
      | false => match (generalizing := false) A.lt (A.toN x3) x0.length with
        | true => match (generalizing := false) A.neg x7 with
          | true => none
          | false => match (generalizing := false) A.lt (A.toN x7) x1.length with
            | true => match (generalizing := false) A.neg (A.ib .add .i64 x3 x7) with
              | true => none
              | false => match (generalizing := false) A.lt (A.toN (A.ib .add .i64 x3 x7)) 65 with
                | true => lg14L6 x0 x1 x2 x3 x4 x5 x6 (A.ib .add .i64 x7 1) (x8.set (A.toN (A.ib .add .i64 x3 x7)) (A.nb .add .u32 (x8.getD (A.toN (A.ib .add .i64 x3 x7)) 0) (A.nb .mul .u32 (x0.getD (A.toN x3) 0) (x1.getD (A.toN x7) 0))))
                | false => none
            | false => none
        | false => none
    | false => none
set_option maxRecDepth 100000 in
theorem g14J7_eq {R : Type} (A : Ar) (n : Nat) (kk : AV → Heap → Option R) (m0 m1 : Nat) (lg14L6 : List Nat → List Nat → List Nat → Int → Int → Int → Int → Int → List Nat → Option R) 
    (hg14L6 : ∀ (s : St) (x0 x1 x2 : List Nat) (x3 x4 : Int) (x5 x6 x7 : Int) (x8 : List Nat), keep g14an 6 s = ⟨[(0, (tS x0)), (1, (tS x1)), (2, (tS x2)), (7, (pT 2000 0)), (8, (i6 x3)), (15, (i6 x4)), (16, (i6 x5)), (21, (i6 x6)), (22, (i6 x7))], [(2000, (bW 65 x8 43))]⟩ → g14V A n (pth 19659) m1 (blockK 2 (blockK 1 (g14Q A n (pth 971) (g14W A n (pth 75) m0 (blockK 0 (g14Q A n (pth 15) (g14T kk))))))) s = lg14L6 x0 x1 x2 x3 x4 x5 x6 x7 x8) (s : St) (x0 x1 x2 : List Nat) (x3 x4 : Int) (x5 x6 x7 : Int) (x8 : List Nat) (h : keep g14an 7 s = ⟨[(0, (tS x0)), (1, (tS x1)), (2, (tS x2)), (7, (pT 2000 0)), (8, (i6 x3)), (15, (i6 x4)), (16, (i6 x5)), (21, (i6 x6)), (22, (i6 x7))], [(2000, (bW 65 x8 43))]⟩) :
    g14D A n (pth 117963) (g14W A n (pth 19659) m1 (blockK 2 (blockK 1 (g14Q A n (pth 971) (g14W A n (pth 75) m0 (blockK 0 (g14Q A n (pth 15) (g14T kk)))))))) s = g14J7 A n kk lg14L6 x0 x1 x2 x3 x4 x5 x6 x7 x8 := by
  have h1 := (g14Wn A n _ _ _ _).trans (hg14L6 (g14R9s0 A x0 x1 x2 x3 x4 x5 x6 x7 (x8.set (A.toN (A.ib .add .i64 x3 x7)) (A.nb .add .u32 (x8.getD (A.toN (A.ib .add .i64 x3 x7)) 0) (A.nb .mul .u32 (x0.getD (A.toN x3) 0) (x1.getD (A.toN x7) 0))))) x0 x1 x2 x3 x4 x5 x6 (A.ib .add .i64 x7 1) (x8.set (A.toN (A.ib .add .i64 x3 x7)) (A.nb .add .u32 (x8.getD (A.toN (A.ib .add .i64 x3 x7)) 0) (A.nb .mul .u32 (x0.getD (A.toN x3) 0) (x1.getD (A.toN x7) 0)))) (by kernel_rfl))
  have h2 := (g14F A n _ 9 _ (g14R8s0 A x0 x1 x2 x3 x7 x4 x5 x6 x7 x8) _ (by kernel_rfl) (by kernel_rfl)).trans (g14R9 A n (g14W A n (pth 19659) m1 (blockK 2 (blockK 1 (g14Q A n (pth 971) (g14W A n (pth 75) m0 (blockK 0 (g14Q A n (pth 15) (g14T kk)))))))) x0 x1 x2 x3 x4 x5 x6 x7 (x8.set (A.toN (A.ib .add .i64 x3 x7)) (A.nb .add .u32 (x8.getD (A.toN (A.ib .add .i64 x3 x7)) 0) (A.nb .mul .u32 (x0.getD (A.toN x3) 0) (x1.getD (A.toN x7) 0)))))
  rw [h1] at h2
  have h3 := (g14Qn A n _ _ _).trans h2
  have h4 := (blockK_n 3 _ _).trans h3
  have h5 := (g14F A n _ 8 _ (g14R7s0 A x0 x1 x2 x3 x4 x5 x6 x7 x8) _ (by kernel_rfl) (by kernel_rfl)).trans (g14R8 A n (blockK 3 (g14Q A n (pth 249035) (g14W A n (pth 19659) m1 (blockK 2 (blockK 1 (g14Q A n (pth 971) (g14W A n (pth 75) m0 (blockK 0 (g14Q A n (pth 15) (g14T kk)))))))))) x0 x1 x2 x3 x7 x4 x5 x6 x7 x8)
  rw [h4] at h5
  have h6 := (g14Qn A n _ _ _).trans h5
  have h7 := (g14F A n _ 7 _ ⟨[(0, (tS x0)), (1, (tS x1)), (2, (tS x2)), (7, (pT 2000 0)), (8, (i6 x3)), (15, (i6 x4)), (16, (i6 x5)), (21, (i6 x6)), (22, (i6 x7))], [(2000, (bW 65 x8 43))]⟩ _ (by kernel_rfl) (by kernel_rfl)).trans (g14R7 A n (g14Q A n (pth 838859) (blockK 3 (g14Q A n (pth 249035) (g14W A n (pth 19659) m1 (blockK 2 (blockK 1 (g14Q A n (pth 971) (g14W A n (pth 75) m0 (blockK 0 (g14Q A n (pth 15) (g14T kk))))))))))) x0 x1 x2 x3 x4 x5 x6 x7 x8)
  rw [h6] at h7
  have h8 := (g14p314571 A n _ _).trans h7
  have h9 := (g14p183499 A n _ _).trans h8
  have h10 := (g14p117963 A n _ _).trans h9
  exact (g14F A n _ 7 _ _ ⟨[(0, (tS x0)), (1, (tS x1)), (2, (tS x2)), (7, (pT 2000 0)), (8, (i6 x3)), (15, (i6 x4)), (16, (i6 x5)), (21, (i6 x6)), (22, (i6 x7))], [(2000, (bW 65 x8 43))]⟩ (by kernel_rfl) (h.trans (by kernel_rfl))).trans (h10.trans (by kernel_rfl))
def g14L6 {R : Type} (A : Ar) (n : Nat) (kk : AV → Heap → Option R) (lg14L3 : List Nat → List Nat → List Nat → Int → Int → List Nat → Option R) : Nat → List Nat → List Nat → List Nat → Int → Int → Int → Int → Int → List Nat → Option R
  | 0, _, _, _, _, _, _, _, _, _ => none
  | m + 1, x0, x1, x2, x3, x4, x5, x6, x7, x8 => match (generalizing := false) A.ic .lss x7 x6 with
  | true => g14J7 A n kk (g14L6 A n kk lg14L3 m) x0 x1 x2 x3 x4 x5 x6 x7 x8
  | false => lg14L3 x0 x1 x2 x4 (A.ib .add .i64 x5 1) x8
set_option maxRecDepth 100000 in
theorem g14L6_eq {R : Type} (A : Ar) (n : Nat) (kk : AV → Heap → Option R) (m0 : Nat) (lg14L3 : List Nat → List Nat → List Nat → Int → Int → List Nat → Option R) 
    (hg14L3 : ∀ (s : St) (x0 x1 x2 : List Nat) (x3 x4 : Int) (x5 : List Nat), keep g14an 3 s = ⟨[(0, (tS x0)), (1, (tS x1)), (2, (tS x2)), (7, (pT 2000 0)), (15, (i6 x3)), (16, (i6 x4))], [(2000, (bW 65 x5 43))]⟩ → g14V A n (pth 75) m0 (blockK 0 (g14Q A n (pth 15) (g14T kk))) s = lg14L3 x0 x1 x2 x3 x4 x5) (m : Nat) (s : St) (x0 x1 x2 : List Nat) (x3 x4 : Int) (x5 x6 x7 : Int) (x8 : List Nat) (h : keep g14an 6 s = ⟨[(0, (tS x0)), (1, (tS x1)), (2, (tS x2)), (7, (pT 2000 0)), (8, (i6 x3)), (15, (i6 x4)), (16, (i6 x5)), (21, (i6 x6)), (22, (i6 x7))], [(2000, (bW 65 x8 43))]⟩) :
    g14V A n (pth 19659) m (blockK 2 (blockK 1 (g14Q A n (pth 971) (g14W A n (pth 75) m0 (blockK 0 (g14Q A n (pth 15) (g14T kk))))))) s = g14L6 A n kk lg14L3 m x0 x1 x2 x3 x4 x5 x6 x7 x8 := by
  induction m generalizing s x0 x1 x2 x3 x4 x5 x6 x7 x8 with
  | zero => rfl
  | succ m ih =>
    have h1 := (g14Qn A n _ _ _).trans (g14J7_eq A n kk m0 m (g14L6 A n kk lg14L3 m) ih  (g14R6s0 A x0 x1 x2 x3 x4 x5 x6 x7 x8) x0 x1 x2 x3 x4 x5 x6 x7 x8 (by kernel_rfl))
    have h2 := (g14p150731 A n _ _).trans h1
    have h3 := (g14Wn A n _ _ _ _).trans (hg14L3 (g14R10s0 A x0 x1 x2 x4 x5 x8) x0 x1 x2 x4 (A.ib .add .i64 x5 1) x8 (by kernel_rfl))
    have h4 := (g14F A n _ 10 _ (g14R6s0 A x0 x1 x2 x3 x4 x5 x6 x7 x8) _ (by kernel_rfl) (by kernel_rfl)).trans (g14R10 A n (g14W A n (pth 75) m0 (blockK 0 (g14Q A n (pth 15) (g14T kk)))) x0 x1 x2 x4 x5 x8)
    rw [h3] at h4
    have h5 := (g14Qn A n _ _ _).trans h4
    have h6 := (blockK_n 1 _ _).trans h5
    have h7 := (blockK_hit 2 _ _).trans h6
    have h8 := (g14We A n (pth 19659) m _ _ _).trans h7
    have h9 := (g14Qe A n (pth 117963) _ _ _).trans h8
    have h10 := (g14p216267 A n _ _).trans h9
    have h11 := g14p85195 A n (g14Q A n (pth 117963) (g14W A n (pth 19659) m (blockK 2 (blockK 1 (g14Q A n (pth 971) (g14W A n (pth 75) m0 (blockK 0 (g14Q A n (pth 15) (g14T kk))))))))) (g14R6s0 A x0 x1 x2 x3 x4 x5 x6 x7 x8) (A.ic .lss x7 x6) (by kernel_rfl)
    rw [h2, h10] at h11
    have h12 := (g14p52427 A n _ _).trans h11
    have h13 := (g14Qn A n _ _ _).trans h12
    have h14 := (g14F A n _ 6 _ ⟨[(0, (tS x0)), (1, (tS x1)), (2, (tS x2)), (7, (pT 2000 0)), (8, (i6 x3)), (15, (i6 x4)), (16, (i6 x5)), (21, (i6 x6)), (22, (i6 x7))], [(2000, (bW 65 x8 43))]⟩ _ (by kernel_rfl) (by kernel_rfl)).trans (g14R6 A n (g14Q A n (pth 52427) (g14W A n (pth 19659) m (blockK 2 (blockK 1 (g14Q A n (pth 971) (g14W A n (pth 75) m0 (blockK 0 (g14Q A n (pth 15) (g14T kk))))))))) x0 x1 x2 x3 x4 x5 x6 x7 x8)
    rw [h13] at h14
    have h15 := (g14p19659 A n _ _).trans h14
    exact (loopD_first (s' := ⟨[(0, (tS x0)), (1, (tS x1)), (2, (tS x2)), (7, (pT 2000 0)), (8, (i6 x3)), (15, (i6 x4)), (16, (i6 x5)), (21, (i6 x6)), (22, (i6 x7))], [(2000, (bW 65 x8 43))]⟩) (id := 6) (by kernel_rfl) (h.trans (by kernel_rfl)) _).trans ((g14Vs A n _ m _ _).trans (h15.trans (by kernel_rfl)))
def g14J4 {R : Type} (A : Ar) (n : Nat) (kk : AV → Heap → Option R) (lg14L3 : List Nat → List Nat → List Nat → Int → Int → List Nat → Option R) (x0 x1 x2 : List Nat) (x3 x4 : Int) (x5 : List Nat) : Option R :=
  g14L6 A n kk lg14L3 n x0 x1 x2 x4 x3 x4 (A.mn (A.ofN x1.length) 32) 0 x5
set_option maxRecDepth 100000 in
theorem g14J4_eq {R : Type} (A : Ar) (n : Nat) (kk : AV → Heap → Option R) (m0 : Nat) (lg14L3 : List Nat → List Nat → List Nat → Int → Int → List Nat → Option R) 
    (hg14L3 : ∀ (s : St) (x0 x1 x2 : List Nat) (x3 x4 : Int) (x5 : List Nat), keep g14an 3 s = ⟨[(0, (tS x0)), (1, (tS x1)), (2, (tS x2)), (7, (pT 2000 0)), (15, (i6 x3)), (16, (i6 x4))], [(2000, (bW 65 x5 43))]⟩ → g14V A n (pth 75) m0 (blockK 0 (g14Q A n (pth 15) (g14T kk))) s = lg14L3 x0 x1 x2 x3 x4 x5) (s : St) (x0 x1 x2 : List Nat) (x3 x4 : Int) (x5 : List Nat) (h : keep g14an 4 s = ⟨[(0, (tS x0)), (1, (tS x1)), (2, (tS x2)), (7, (pT 2000 0)), (15, (i6 x3)), (16, (i6 x4))], [(2000, (bW 65 x5 43))]⟩) :
    g14D A n (pth 459) (g14W A n (pth 75) m0 (blockK 0 (g14Q A n (pth 15) (g14T kk)))) s = g14J4 A n kk lg14L3 x0 x1 x2 x3 x4 x5 := by
  have h1 := (g14p11467 A n _ _).trans (g14L6_eq A n kk m0 lg14L3 hg14L3 n (g14R5s0 A x0 x1 x2 x4 x3 x4 x5) x0 x1 x2 x4 x3 x4 (A.mn (A.ofN x1.length) 32) 0 x5 (by kernel_rfl))
  have h2 := (g14p7371 A n _ _).trans h1
  have h3 := (g14Qn A n _ _ _).trans h2
  have h4 := (g14F A n _ 5 _ (g14R4s0 A x0 x1 x2 x3 x4 x5) _ (by kernel_rfl) (by kernel_rfl)).trans (g14R5 A n (g14Q A n (pth 7371) (blockK 1 (g14Q A n (pth 971) (g14W A n (pth 75) m0 (blockK 0 (g14Q A n (pth 15) (g14T kk))))))) x0 x1 x2 x4 x3 x4 x5)
  rw [h3] at h4
  have h5 := (g14p3275 A n _ _).trans h4
  have h6 := (g14Qn A n _ _ _).trans h5
  have h7 := (g14F A n _ 4 _ ⟨[(0, (tS x0)), (1, (tS x1)), (2, (tS x2)), (7, (pT 2000 0)), (15, (i6 x3)), (16, (i6 x4))], [(2000, (bW 65 x5 43))]⟩ _ (by kernel_rfl) (by kernel_rfl)).trans (g14R4 A n (g14Q A n (pth 3275) (blockK 1 (g14Q A n (pth 971) (g14W A n (pth 75) m0 (blockK 0 (g14Q A n (pth 15) (g14T kk))))))) x0 x1 x2 x3 x4 x5)
  rw [h6] at h7
  have h8 := (g14p1227 A n _ _).trans h7
  have h9 := (g14p715 A n _ _).trans h8
  have h10 := (g14p459 A n _ _).trans h9
  exact (g14F A n _ 4 _ _ ⟨[(0, (tS x0)), (1, (tS x1)), (2, (tS x2)), (7, (pT 2000 0)), (15, (i6 x3)), (16, (i6 x4))], [(2000, (bW 65 x5 43))]⟩ (by kernel_rfl) (h.trans (by kernel_rfl))).trans (h10.trans (by kernel_rfl))
def g14J13 {R : Type} (A : Ar) (n : Nat) (kk : AV → Heap → Option R) (lg14L12 : List Nat → Int → Int → List Nat → Option R) (x0 : List Nat) (x1 x2 : Int) (x3 : List Nat) : Option R :=
  match (generalizing := false) A.neg x2 with
  | true => none
  | false => match (generalizing := false) A.lt (A.toN x2) 65 with
    | true => match (generalizing := false) A.neg x2 with
      | true => none
      | false => match (generalizing := false) A.lt (A.toN x2) x0.length with
        | true => match (generalizing := false) A.neg x2 with
          | true => none
          | false => match (generalizing := false) A.lt (A.toN x2) 65 with
            | true => lg14L12 x0 x1 (A.ib .add .i64 x2 1) (x3.set (A.toN x2) (A.nb .add .u32 (x3.getD (A.toN x2) 0) (x0.getD (A.toN x2) 0)))
            | false => none
        | false => none
    | false => none
set_option maxRecDepth 100000 in
theorem g14J13_eq {R : Type} (A : Ar) (n : Nat) (kk : AV → Heap → Option R) (m0 : Nat) (lg14L12 : List Nat → Int → Int → List Nat → Option R) 
    (hg14L12 : ∀ (s : St) (x0 : List Nat) (x1 x2 : Int) (x3 : List Nat), keep g14an 12 s = ⟨[(2, (tS x0)), (7, (pT 2000 0)), (45, (i6 x1)), (46, (i6 x2))], [(2000, (bW 65 x3 43))]⟩ → g14V A n (pth 151) m0 (blockK 4 (g14Q A n (pth 31) (g14T kk))) s = lg14L12 x0 x1 x2 x3) (s : St) (x0 : List Nat) (x1 x2 : Int) (x3 : List Nat) (h : keep g14an 13 s = ⟨[(2, (tS x0)), (7, (pT 2000 0)), (45, (i6 x1)), (46, (i6 x2))], [(2000, (bW 65 x3 43))]⟩) :
    g14D A n (pth 919) (g14W A n (pth 151) m0 (blockK 4 (g14Q A n (pth 31) (g14T kk)))) s = g14J13 A n kk lg14L12 x0 x1 x2 x3 := by
  have h1 := (g14Wn A n _ _ _ _).trans (hg14L12 (g14R15s0 A x0 x1 x2 (x3.set (A.toN x2) (A.nb .add .u32 (x3.getD (A.toN x2) 0) (x0.getD (A.toN x2) 0)))) x0 x1 (A.ib .add .i64 x2 1) (x3.set (A.toN x2) (A.nb .add .u32 (x3.getD (A.toN x2) 0) (x0.getD (A.toN x2) 0))) (by kernel_rfl))
  have h2 := (g14F A n _ 15 _ (g14R14s0 A x0 x2 x1 x2 x3) _ (by kernel_rfl) (by kernel_rfl)).trans (g14R15 A n (g14W A n (pth 151) m0 (blockK 4 (g14Q A n (pth 31) (g14T kk)))) x0 x1 x2 (x3.set (A.toN x2) (A.nb .add .u32 (x3.getD (A.toN x2) 0) (x0.getD (A.toN x2) 0))))
  rw [h1] at h2
  have h3 := (g14Qn A n _ _ _).trans h2
  have h4 := (blockK_n 5 _ _).trans h3
  have h5 := (g14F A n _ 14 _ (g14R13s0 A x0 x1 x2 x3) _ (by kernel_rfl) (by kernel_rfl)).trans (g14R14 A n (blockK 5 (g14Q A n (pth 1943) (g14W A n (pth 151) m0 (blockK 4 (g14Q A n (pth 31) (g14T kk)))))) x0 x2 x1 x2 x3)
  rw [h4] at h5
  have h6 := (g14Qn A n _ _ _).trans h5
  have h7 := (g14F A n _ 13 _ ⟨[(2, (tS x0)), (7, (pT 2000 0)), (45, (i6 x1)), (46, (i6 x2))], [(2000, (bW 65 x3 43))]⟩ _ (by kernel_rfl) (by kernel_rfl)).trans (g14R13 A n (g14Q A n (pth 6551) (blockK 5 (g14Q A n (pth 1943) (g14W A n (pth 151) m0 (blockK 4 (g14Q A n (pth 31) (g14T kk))))))) x0 x1 x2 x3)
  rw [h6] at h7
  have h8 := (g14p2455 A n _ _).trans h7
  have h9 := (g14p1431 A n _ _).trans h8
  have h10 := (g14p919 A n _ _).trans h9
  exact (g14F A n _ 13 _ _ ⟨[(2, (tS x0)), (7, (pT 2000 0)), (45, (i6 x1)), (46, (i6 x2))], [(2000, (bW 65 x3 43))]⟩ (by kernel_rfl) (h.trans (by kernel_rfl))).trans (h10.trans (by kernel_rfl))
def g14J19 {R : Type} (A : Ar) (n : Nat) (kk : AV → Heap → Option R) (lg14L18 : Nat → Int → Int → List Nat → Nat → List Nat → Option R) (x0 : Nat) (x1 x2 : Int) (x3 : List Nat) (x4 : Nat) (x5 : List Nat) : Option R :=
  match (generalizing := false) A.neg x2 with
  | true => none
  | false => match (generalizing := false) A.lt (A.toN x2) 65 with
    | true => match (generalizing := false) A.neg x2 with
      | true => none
      | false => match (generalizing := false) A.lt (A.toN x2) x0 with
        | true => match (generalizing := false) A.neg (A.ib .add .i64 x2 1) with
          | true => none
          | false => match (generalizing := false) A.lt (A.toN (A.ib .add .i64 x2 1)) 65 with
            | true => match (generalizing := false) A.neg x2 with
              | true => none
              | false => match (generalizing := false) A.lt (A.toN x2) 65 with
                | true => match (generalizing := false) A.neg (A.ib .add .i64 x2 1) with
                  | true => none
                  | false => match (generalizing := false) A.lt (A.toN (A.ib .add .i64 x2 1)) 65 with
                    | true => lg14L18 x0 x1 (A.ib .add .i64 x2 1) (x3.set (A.toN (A.ib .add .i64 x2 1)) (A.nb .add .u32 (x3.getD (A.toN (A.ib .add .i64 x2 1)) 0) (A.nsh .shr .u32 (x3.getD (A.toN x2) 0) 8))) x4 (x5.set (A.toN x2) (A.n2n .u8 (x3.getD (A.toN x2) 0)))
                    | false => none
                | false => none
            | false => none
        | false => none
    | false => none
set_option maxRecDepth 100000 in
theorem g14J19_eq {R : Type} (A : Ar) (n : Nat) (kk : AV → Heap → Option R) (m0 : Nat) (lg14L18 : Nat → Int → Int → List Nat → Nat → List Nat → Option R) 
    (hg14L18 : ∀ (s : St) (x0 : Nat) (x1 x2 : Int) (x3 : List Nat) (x4 : Nat) (x5 : List Nat), keep g14an 18 s = ⟨[(7, (pT 2000 0)), (11, (sL 17000 none x0 1)), (61, (i6 x1)), (62, (i6 x2))], [(2000, (bW 65 x3 43)), (17000, ⟨[.nums .u8 x4 x5], 5, 2⟩)]⟩ → g14V A n (pth 607) m0 (blockK 6 (g14Q A n (pth 127) (g14T kk))) s = lg14L18 x0 x1 x2 x3 x4 x5) (s : St) (x0 : Nat) (x1 x2 : Int) (x3 : List Nat) (x4 : Nat) (x5 : List Nat) (h : keep g14an 19 s = ⟨[(7, (pT 2000 0)), (11, (sL 17000 none x0 1)), (61, (i6 x1)), (62, (i6 x2))], [(2000, (bW 65 x3 43)), (17000, ⟨[.nums .u8 x4 x5], 5, 2⟩)]⟩) :
    g14D A n (pth 3679) (g14W A n (pth 607) m0 (blockK 6 (g14Q A n (pth 127) (g14T kk)))) s = g14J19 A n kk lg14L18 x0 x1 x2 x3 x4 x5 := by
  have h1 := (g14Wn A n _ _ _ _).trans (hg14L18 (g14R22s0 A x0 x1 x2 (x3.set (A.toN (A.ib .add .i64 x2 1)) (A.nb .add .u32 (x3.getD (A.toN (A.ib .add .i64 x2 1)) 0) (A.nsh .shr .u32 (x3.getD (A.toN x2) 0) 8))) x4 (x5.set (A.toN x2) (A.n2n .u8 (x3.getD (A.toN x2) 0)))) x0 x1 (A.ib .add .i64 x2 1) (x3.set (A.toN (A.ib .add .i64 x2 1)) (A.nb .add .u32 (x3.getD (A.toN (A.ib .add .i64 x2 1)) 0) (A.nsh .shr .u32 (x3.getD (A.toN x2) 0) 8))) x4 (x5.set (A.toN x2) (A.n2n .u8 (x3.getD (A.toN x2) 0))) (by kernel_rfl))
  have h2 := (g14F A n _ 22 _ (g14R21s0 A x0 x2 x1 x2 x3 x4 (x5.set (A.toN x2) (A.n2n .u8 (x3.getD (A.toN x2) 0)))) _ (by kernel_rfl) (by kernel_rfl)).trans (g14R22 A n (g14W A n (pth 607) m0 (blockK 6 (g14Q A n (pth 127) (g14T kk)))) x0 x1 x2 (x3.set (A.toN (A.ib .add .i64 x2 1)) (A.nb .add .u32 (x3.getD (A.toN (A.ib .add .i64 x2 1)) 0) (A.nsh .shr .u32 (x3.getD (A.toN x2) 0) 8))) x4 (x5.set (A.toN x2) (A.n2n .u8 (x3.getD (A.toN x2) 0))))
  rw [h1] at h2
  have h3 := (g14Qn A n _ _ _).trans h2
  have h4 := (blockK_n 7 _ _).trans h3
  have h5 := (g14F A n _ 21 _ (g14R20s0 A x0 x2 x1 x2 x3 x4 x5) _ (by kernel_rfl) (by kernel_rfl)).trans (g14R21 A n (blockK 7 (g14Q A n (pth 7775) (g14W A n (pth 607) m0 (blockK 6 (g14Q A n (pth 127) (g14T kk)))))) x0 x2 x1 x2 x3 x4 (x5.set (A.toN x2) (A.n2n .u8 (x3.getD (A.toN x2) 0))))
  rw [h4] at h5
  have h6 := (g14Qn A n _ _ _).trans h5
  have h7 := (g14F A n _ 20 _ (g14R19s0 A x0 x1 x2 x3 x4 x5) _ (by kernel_rfl) (by kernel_rfl)).trans (g14R20 A n (g14Q A n (pth 58975) (blockK 7 (g14Q A n (pth 7775) (g14W A n (pth 607) m0 (blockK 6 (g14Q A n (pth 127) (g14T kk))))))) x0 x2 x1 x2 x3 x4 x5)
  rw [h6] at h7
  have h8 := (g14p26207 A n _ _).trans h7
  have h9 := (g14Qn A n _ _ _).trans h8
  have h10 := (g14F A n _ 19 _ ⟨[(7, (pT 2000 0)), (11, (sL 17000 none x0 1)), (61, (i6 x1)), (62, (i6 x2))], [(2000, (bW 65 x3 43)), (17000, ⟨[.nums .u8 x4 x5], 5, 2⟩)]⟩ _ (by kernel_rfl) (by kernel_rfl)).trans (g14R19 A n (g14Q A n (pth 26207) (blockK 7 (g14Q A n (pth 7775) (g14W A n (pth 607) m0 (blockK 6 (g14Q A n (pth 127) (g14T kk))))))) x0 x1 x2 x3 x4 x5)
  rw [h9] at h10
  have h11 := (g14p9823 A n _ _).trans h10
  have h12 := (g14p5727 A n _ _).trans h11
  have h13 := (g14p3679 A n _ _).trans h12
  exact (g14F A n _ 19 _ _ ⟨[(7, (pT 2000 0)), (11, (sL 17000 none x0 1)), (61, (i6 x1)), (62, (i6 x2))], [(2000, (bW 65 x3 43)), (17000, ⟨[.nums .u8 x4 x5], 5, 2⟩)]⟩ (by kernel_rfl) (h.trans (by kernel_rfl))).trans (h13.trans (by kernel_rfl))
def g14L18 {R : Type} (A : Ar) (n : Nat) (kk : AV → Heap → Option R)  : Nat → Nat → Int → Int → List Nat → Nat → List Nat → Option R
  | 0, _, _, _, _, _, _ => none
  | m + 1, x0, x1, x2, x3, x4, x5 => match (generalizing := false) A.ic .lss x2 x1 with
  | true => g14J19 A n kk (g14L18 A n kk  m) x0 x1 x2 x3 x4 x5
  | false => match (generalizing := false) g10ok A (x5.take x0) with
    | true => kk (tS (g10r0 A (x5.take x0))) [(17000, ⟨[.nums .u8 x4 x5], 5, 2⟩)]
    | false => none
set_option maxRecDepth 100000 in
theorem g14L18_eq {R : Type} (A : Ar) (n : Nat) (kk : AV → Heap → Option R)    (m : Nat) (s : St) (x0 : Nat) (x1 x2 : Int) (x3 : List Nat) (x4 : Nat) (x5 : List Nat) (h : keep g14an 18 s = ⟨[(7, (pT 2000 0)), (11, (sL 17000 none x0 1)), (61, (i6 x1)), (62, (i6 x2))], [(2000, (bW 65 x3 43)), (17000, ⟨[.nums .u8 x4 x5], 5, 2⟩)]⟩) :
    g14V A n (pth 607) m (blockK 6 (g14Q A n (pth 127) (g14T kk))) s = g14L18 A n kk  m x0 x1 x2 x3 x4 x5 := by
  induction m generalizing s x0 x1 x2 x3 x4 x5 with
  | zero => rfl
  | succ m ih =>
    have h1 := (g14Qn A n _ _ _).trans (g14J19_eq A n kk m (g14L18 A n kk  m) ih  (g14R18s0 A x0 x1 x2 x3 x4 x5) x0 x1 x2 x3 x4 x5 (by kernel_rfl))
    have h2 := (g14p4703 A n _ _).trans h1
    have h3 : (g14T kk) .ret (g14R23s0 A x0 x4 x5) = kk (tS (g10r0 A (x5.take x0))) [(17000, ⟨[.nums .u8 x4 x5], 5, 2⟩)] := by kernel_rfl
    have h4 := (g14p255 A n _ _).trans h3
    have h5 := (g14Qn A n _ _ _).trans h4
    have h6 := (g14F A n _ 23 _ (g14R18s0 A x0 x1 x2 x3 x4 x5) _ (by kernel_rfl) (by kernel_rfl)).trans (g14R23 A n (g14Q A n (pth 255) (g14T kk)) x0 x4 x5)
    rw [h5] at h6
    have h7 := (g14p127 A n _ _).trans h6
    have h8 := (g14Qn A n _ _ _).trans h7
    have h9 := (blockK_hit 6 _ _).trans h8
    have h10 := (g14We A n (pth 607) m _ _ _).trans h9
    have h11 := (g14Qe A n (pth 3679) _ _ _).trans h10
    have h12 := (g14p6751 A n _ _).trans h11
    have h13 := g14p2655 A n (g14Q A n (pth 3679) (g14W A n (pth 607) m (blockK 6 (g14Q A n (pth 127) (g14T kk))))) (g14R18s0 A x0 x1 x2 x3 x4 x5) (A.ic .lss x2 x1) (by kernel_rfl)
    rw [h2, h12] at h13
    have h14 := (g14p1631 A n _ _).trans h13
    have h15 := (g14Qn A n _ _ _).trans h14
    have h16 := (g14F A n _ 18 _ ⟨[(7, (pT 2000 0)), (11, (sL 17000 none x0 1)), (61, (i6 x1)), (62, (i6 x2))], [(2000, (bW 65 x3 43)), (17000, ⟨[.nums .u8 x4 x5], 5, 2⟩)]⟩ _ (by kernel_rfl) (by kernel_rfl)).trans (g14R18 A n (g14Q A n (pth 1631) (g14W A n (pth 607) m (blockK 6 (g14Q A n (pth 127) (g14T kk))))) x0 x1 x2 x3 x4 x5)
    rw [h15] at h16
    have h17 := (g14p607 A n _ _).trans h16
    exact (loopD_first (s' := ⟨[(7, (pT 2000 0)), (11, (sL 17000 none x0 1)), (61, (i6 x1)), (62, (i6 x2))], [(2000, (bW 65 x3 43)), (17000, ⟨[.nums .u8 x4 x5], 5, 2⟩)]⟩) (id := 18) (by kernel_rfl) (h.trans (by kernel_rfl)) _).trans ((g14Vs A n _ m _ _).trans (h17.trans (by kernel_rfl)))
def g14J16 {R : Type} (A : Ar) (n : Nat) (kk : AV → Heap → Option R)  (x0 : List Nat) : Option R :=
  match (generalizing := false) A.le 64 64 with
  | true => match (generalizing := false) A.le 64 140737488355328 with
    | true => g14L18 A n kk  n 64 (A.ofN 64) 0 x0 64 (List.replicate 64 0)
    | false => none
  | false => none
set_option maxRecDepth 100000 in
theorem g14J16_eq {R : Type} (A : Ar) (n : Nat) (kk : AV → Heap → Option R)    (s : St) (x0 : List Nat) (h : keep g14an 16 s = ⟨[(7, (pT 2000 0))], [(2000, (bW 65 x0 43))]⟩) :
    g14D A n (pth 31) (g14T kk) s = g14J16 A n kk  x0 := by
  have h1 := (g14p351 A n _ _).trans (g14L18_eq A n kk    n (g14R17s0 A 64 x0 64 (List.replicate 64 0)) 64 (A.ofN 64) 0 x0 64 (List.replicate 64 0) (by kernel_rfl))
  have h2 := (g14p223 A n _ _).trans h1
  have h3 := (g14Qn A n _ _ _).trans h2
  have h4 := (g14F A n _ 17 _ (g14R16s0 A x0) _ (by kernel_rfl) (by kernel_rfl)).trans (g14R17 A n (g14Q A n (pth 223) (g14Q A n (pth 127) (g14T kk))) 64 x0 64 (List.replicate 64 0))
  rw [h3] at h4
  have h5 := (g14p95 A n _ _).trans h4
  have h6 := (g14p63 A n _ _).trans h5
  have h7 := (g14Qn A n _ _ _).trans h6
  have h8 := (g14F A n _ 16 _ ⟨[(7, (pT 2000 0))], [(2000, (bW 65 x0 43))]⟩ _ (by kernel_rfl) (by kernel_rfl)).trans (g14R16 A n (g14Q A n (pth 63) (g14T kk)) x0)
  rw [h7] at h8
  have h9 := (g14p31 A n _ _).trans h8
  exact (g14F A n _ 16 _ _ ⟨[(7, (pT 2000 0))], [(2000, (bW 65 x0 43))]⟩ (by kernel_rfl) (h.trans (by kernel_rfl))).trans (h9.trans (by kernel_rfl))
def g14L12 {R : Type} (A : Ar) (n : Nat) (kk : AV → Heap → Option R)  : Nat → List Nat → Int → Int → List Nat → Option R
  | 0, _, _, _, _ => none
  | m + 1, x0, x1, x2, x3 => match (generalizing := false) A.ic .lss x2 x1 with
  | true => g14J13 A n kk (g14L12 A n kk  m) x0 x1 x2 x3
  | false => g14J16 A n kk  x3
set_option maxRecDepth 100000 in
theorem g14L12_eq {R : Type} (A : Ar) (n : Nat) (kk : AV → Heap → Option R)    (m : Nat) (s : St) (x0 : List Nat) (x1 x2 : Int) (x3 : List Nat) (h : keep g14an 12 s = ⟨[(2, (tS x0)), (7, (pT 2000 0)), (45, (i6 x1)), (46, (i6 x2))], [(2000, (bW 65 x3 43))]⟩) :
    g14V A n (pth 151) m (blockK 4 (g14Q A n (pth 31) (g14T kk))) s = g14L12 A n kk  m x0 x1 x2 x3 := by
  induction m generalizing s x0 x1 x2 x3 with
  | zero => rfl
  | succ m ih =>
    have h1 := (g14Qn A n _ _ _).trans (g14J13_eq A n kk m (g14L12 A n kk  m) ih  (g14R12s0 A x0 x1 x2 x3) x0 x1 x2 x3 (by kernel_rfl))
    have h2 := (g14p1175 A n _ _).trans h1
    have h3 := (g14Qn A n _ _ _).trans (g14J16_eq A n kk     (g14R12s0 A x0 x1 x2 x3) x3 (by kernel_rfl))
    have h4 := (blockK_hit 4 _ _).trans h3
    have h5 := (g14We A n (pth 151) m _ _ _).trans h4
    have h6 := (g14Qe A n (pth 919) _ _ _).trans h5
    have h7 := (g14p1687 A n _ _).trans h6
    have h8 := g14p663 A n (g14Q A n (pth 919) (g14W A n (pth 151) m (blockK 4 (g14Q A n (pth 31) (g14T kk))))) (g14R12s0 A x0 x1 x2 x3) (A.ic .lss x2 x1) (by kernel_rfl)
    rw [h2, h7] at h8
    have h9 := (g14p407 A n _ _).trans h8
    have h10 := (g14Qn A n _ _ _).trans h9
    have h11 := (g14F A n _ 12 _ ⟨[(2, (tS x0)), (7, (pT 2000 0)), (45, (i6 x1)), (46, (i6 x2))], [(2000, (bW 65 x3 43))]⟩ _ (by kernel_rfl) (by kernel_rfl)).trans (g14R12 A n (g14Q A n (pth 407) (g14W A n (pth 151) m (blockK 4 (g14Q A n (pth 31) (g14T kk))))) x0 x1 x2 x3)
    rw [h10] at h11
    have h12 := (g14p151 A n _ _).trans h11
    exact (loopD_first (s' := ⟨[(2, (tS x0)), (7, (pT 2000 0)), (45, (i6 x1)), (46, (i6 x2))], [(2000, (bW 65 x3 43))]⟩) (id := 12) (by kernel_rfl) (h.trans (by kernel_rfl)) _).trans ((g14Vs A n _ m _ _).trans (h12.trans (by kernel_rfl)))
def g14J11 {R : Type} (A : Ar) (n : Nat) (kk : AV → Heap → Option R)  (x0 x1 : List Nat) : Option R :=
  g14L12 A n kk  n x0 (A.mn (A.ofN x0.length) 32) 0 x1
set_option maxRecDepth 100000 in
theorem g14J11_eq {R : Type} (A : Ar) (n : Nat) (kk : AV → Heap → Option R)    (s : St) (x0 x1 : List Nat) (h : keep g14an 11 s = ⟨[(2, (tS x0)), (7, (pT 2000 0))], [(2000, (bW 65 x1 43))]⟩) :
    g14D A n (pth 15) (g14T kk) s = g14J11 A n kk  x0 x1 := by
  have h1 := (g14p87 A n _ _).trans (g14L12_eq A n kk    n (g14R11s0 A x0 x1) x0 (A.mn (A.ofN x0.length) 32) 0 x1 (by kernel_rfl))
  have h2 := (g14p55 A n _ _).trans h1
  have h3 := (g14Qn A n _ _ _).trans h2
  have h4 := (g14F A n _ 11 _ ⟨[(2, (tS x0)), (7, (pT 2000 0))], [(2000, (bW 65 x1 43))]⟩ _ (by kernel_rfl) (by kernel_rfl)).trans (g14R11 A n (g14Q A n (pth 55) (g14Q A n (pth 31) (g14T kk))) x0 x1)
  rw [h3] at h4
  have h5 := (g14p23 A n _ _).trans h4
  have h6 := (g14p15 A n _ _).trans h5
  exact (g14F A n _ 11 _ _ ⟨[(2, (tS x0)), (7, (pT 2000 0))], [(2000, (bW 65 x1 43))]⟩ (by kernel_rfl) (h.trans (by kernel_rfl))).trans (h6.trans (by kernel_rfl))
def g14L3 {R : Type} (A : Ar) (n : Nat) (kk : AV → Heap → Option R)  : Nat → List Nat → List Nat → List Nat → Int → Int → List Nat → Option R
  | 0, _, _, _, _, _, _ => none
  | m + 1, x0, x1, x2, x3, x4, x5 => match (generalizing := false) A.ic .lss x4 x3 with
  | true => g14J4 A n kk (g14L3 A n kk  m) x0 x1 x2 x3 x4 x5
  | false => g14J11 A n kk  x2 x5
set_option maxRecDepth 100000 in
theorem g14L3_eq {R : Type} (A : Ar) (n : Nat) (kk : AV → Heap → Option R)    (m : Nat) (s : St) (x0 x1 x2 : List Nat) (x3 x4 : Int) (x5 : List Nat) (h : keep g14an 3 s = ⟨[(0, (tS x0)), (1, (tS x1)), (2, (tS x2)), (7, (pT 2000 0)), (15, (i6 x3)), (16, (i6 x4))], [(2000, (bW 65 x5 43))]⟩) :
    g14V A n (pth 75) m (blockK 0 (g14Q A n (pth 15) (g14T kk))) s = g14L3 A n kk  m x0 x1 x2 x3 x4 x5 := by
  induction m generalizing s x0 x1 x2 x3 x4 x5 with
  | zero => rfl
  | succ m ih =>
    have h1 := (g14Qn A n _ _ _).trans (g14J4_eq A n kk m (g14L3 A n kk  m) ih  (g14R3s0 A x0 x1 x2 x3 x4 x5) x0 x1 x2 x3 x4 x5 (by kernel_rfl))
    have h2 := (g14p587 A n _ _).trans h1
    have h3 := (g14Qn A n _ _ _).trans (g14J11_eq A n kk     (g14R3s0 A x0 x1 x2 x3 x4 x5) x2 x5 (by kernel_rfl))
    have h4 := (blockK_hit 0 _ _).trans h3
    have h5 := (g14We A n (pth 75) m _ _ _).trans h4
    have h6 := (g14Qe A n (pth 459) _ _ _).trans h5
    have h7 := (g14p843 A n _ _).trans h6
    have h8 := g14p331 A n (g14Q A n (pth 459) (g14W A n (pth 75) m (blockK 0 (g14Q A n (pth 15) (g14T kk))))) (g14R3s0 A x0 x1 x2 x3 x4 x5) (A.ic .lss x4 x3) (by kernel_rfl)
    rw [h2, h7] at h8
    have h9 := (g14p203 A n _ _).trans h8
    have h10 := (g14Qn A n _ _ _).trans h9
    have h11 := (g14F A n _ 3 _ ⟨[(0, (tS x0)), (1, (tS x1)), (2, (tS x2)), (7, (pT 2000 0)), (15, (i6 x3)), (16, (i6 x4))], [(2000, (bW 65 x5 43))]⟩ _ (by kernel_rfl) (by kernel_rfl)).trans (g14R3 A n (g14Q A n (pth 203) (g14W A n (pth 75) m (blockK 0 (g14Q A n (pth 15) (g14T kk))))) x0 x1 x2 x3 x4 x5)
    rw [h10] at h11
    have h12 := (g14p75 A n _ _).trans h11
    exact (loopD_first (s' := ⟨[(0, (tS x0)), (1, (tS x1)), (2, (tS x2)), (7, (pT 2000 0)), (15, (i6 x3)), (16, (i6 x4))], [(2000, (bW 65 x5 43))]⟩) (id := 3) (by kernel_rfl) (h.trans (by kernel_rfl)) _).trans ((g14Vs A n _ m _ _).trans (h12.trans (by kernel_rfl)))
def g14 {R : Type} (A : Ar) (n : Nat) (kk : AV → Heap → Option R) (a b c : List Nat) : Option R :=
  g14L3 A n kk  n a b c (A.mn (A.ofN a.length) 32) 0 [0, 0, 0, 0, 0, 0, 0, 0, 0, 0, 0, 0, 0, 0, 0, 0, 0, 0, 0, 0, 0, 0, 0, 0, 0, 0, 0, 0, 0, 0, 0, 0, 0, 0, 0, 0, 0, 0, 0, 0, 0, 0, 0, 0, 0, 0, 0, 0, 0, 0, 0, 0, 0, 0, 0, 0, 0, 0, 0, 0, 0, 0, 0, 0, 0]
set_option maxRecDepth 100000 in
theorem g14_eq {R : Type} (A : Ar) (n : Nat) (kk : AV → Heap → Option R) (a b c : List Nat) :
    funD A gtys (g14O A) g14an n (bodyOf Try.f14) g14res [(tS a), (tS b), (tS c)] [] kk = g14 A n kk a b c := by
  have h1 := (g14p43 A n _ _).trans (g14L3_eq A n kk    n (g14R2s0 A a b c [0, 0, 0, 0, 0, 0, 0, 0, 0, 0, 0, 0, 0, 0, 0, 0, 0, 0, 0, 0, 0, 0, 0, 0, 0, 0, 0, 0, 0, 0, 0, 0, 0, 0, 0, 0, 0, 0, 0, 0, 0, 0, 0, 0, 0, 0, 0, 0, 0, 0, 0, 0, 0, 0, 0, 0, 0, 0, 0, 0, 0, 0, 0, 0, 0]) a b c (A.mn (A.ofN a.length) 32) 0 [0, 0, 0, 0, 0, 0, 0, 0, 0, 0, 0, 0, 0, 0, 0, 0, 0, 0, 0, 0, 0, 0, 0, 0, 0, 0, 0, 0, 0, 0, 0, 0, 0, 0, 0, 0, 0, 0, 0, 0, 0, 0, 0, 0, 0, 0, 0, 0, 0, 0, 0, 0, 0, 0, 0, 0, 0, 0, 0, 0, 0, 0, 0, 0, 0] (by kernel_rfl))
  have h2 := (g14p27 A n _ _).trans h1
  have h3 := (g14Qn A n _ _ _).trans h2
  have h4 := (g14F A n _ 2 _ (g14R1s0 A a b c) _ (by kernel_rfl) (by kernel_rfl)).trans (g14R2 A n (g14Q A n (pth 27) (g14Q A n (pth 15) (g14T kk))) a b c [0, 0, 0, 0, 0, 0, 0, 0, 0, 0, 0, 0, 0, 0, 0, 0, 0, 0, 0, 0, 0, 0, 0, 0, 0, 0, 0, 0, 0, 0, 0, 0, 0, 0, 0, 0, 0, 0, 0, 0, 0, 0, 0, 0, 0, 0, 0, 0, 0, 0, 0, 0, 0, 0, 0, 0, 0, 0, 0, 0, 0, 0, 0, 0, 0])
  rw [h3] at h4
  have h5 := (g14p11 A n _ _).trans h4
  have h6 := (g14p7 A n _ _).trans h5
  have h7 := (g14Qn A n _ _ _).trans h6
  have h8 := (g14F A n _ 1 _ (g14R0s0 A a b c) _ (by kernel_rfl) (by kernel_rfl)).trans (g14R1 A n (g14Q A n (pth 7) (g14T kk)) a b c)
  rw [h7] at h8
  have h9 := (g14p3 A n _ _).trans h8
  have h10 := (g14Qn A n _ _ _).trans h9
  have h11 := (g14F A n _ 0 _ ⟨[(0, (tS a)), (1, (tS b)), (2, (tS c))], []⟩ _ (by kernel_rfl) (by kernel_rfl)).trans (g14R0 A n (g14Q A n (pth 3) (g14T kk)) a b c)
  rw [h10] at h11
  have h12 := (g14p1 A n _ _).trans h11
  exact (show funD A gtys (g14O A) g14an n (bodyOf Try.f14) g14res [(tS a), (tS b), (tS c)] [] kk = g14D A n (pth 1) (g14T kk) ⟨[(0, (tS a)), (1, (tS b)), (2, (tS c))], []⟩ from by kernel_rfl).trans (h12.trans (by kernel_rfl))
def g14is (o : Option AV) : Bool := match o with
  | some (.v (.cell (.str _))) => true
  | _ => false
def g14g0 (o : Option AV) : List Nat := match o with
  | some (.v (.cell (.str x))) => x
  | _ => []
theorem g14is_spec {o : Option AV} (h : g14is o = true) : o = some (.v (.cell (.str (g14g0 o)))) := by
  unfold g14is at h
  split at h
  · rfl
  · cases h
def g14v (A : Ar) (a b c : List Nat) : Option AV := g14 A (100000) (fun v _ => some v) a b c
def g14ok (A : Ar) (a b c : List Nat) : Bool := g14is (g14v A a b c)
def g14r0 (A : Ar) (a b c : List Nat) : List Nat := g14g0 (g14v A a b c)
theorem g14ok_spec {A : Ar} {a b c} (h : g14ok A a b c = true) : g14v A a b c = some (.v (.cell (.str (g14r0 A a b c)))) := g14is_spec h
def g14o (A : Ar) (args : List AV) : Option (Bool × AV) := match args with
  | [.v (.cell (.str a)), .v (.cell (.str b)), .v (.cell (.str c))] => some (g14ok A a b c, .v (.cell (.str (g14r0 A a b c))))
  | _ => none
theorem g14o_sound : ∀ args v, g14o realA args = some (true, v) → Fn1 Try.prog 14 args v := by
  intro args v h
  unfold g14o at h
  split at h
  · rename_i a b c
    simp only [Option.some.injEq, Prod.mk.injEq] at h
    obtain ⟨hc, h⟩ := h
    subst h
    · skip
      exact fn1_of mixed gtysOK g14O_sound g14O_det (an := g14an) (n := 100000) Try.func14 (c := bodyOf Try.f14) rfl (by kernel_rfl) Try.call14 (Nat.le_of_ble_eq_true rfl) (fun b => rfl) (fun _ => (g14_eq realA (100000) (fun v _ => some v) a b c).trans (show g14v realA a b c = _ from g14ok_spec hc))
  · cases h
end Go.Sx
