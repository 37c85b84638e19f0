/- printed by sxgen -/
import Derived.Test.YtloapdnklljaoaaSxR13a
namespace Go.Sx
open Go.Proofs
set_option linter.unusedVariables false
/- (*engrosser/wire.Writer).Number -/
def g11a_O (A : Ar) : Orc := orcH [] [(29, ⟨[], none, (ho2 (g29o A) (g29a_o A))⟩)]
theorem g11a_O_sound : OSound Try.prog (g11a_O realA) := orcH_sound (fun f g hm args v hv => by
    cases hm) (fun f e hm args h v h' hv => by
    simp only [List.mem_cons, List.not_mem_nil, or_false, Prod.mk.injEq] at hm
    rcases hm with ⟨rfl, rfl⟩
    · exact (ho2_sound g29o_sound g29a_o_sound) _ _ _ _ hv)
theorem g11a_O_det : ODet (g11a_O realA) := orcH_det _ _
def g11a_an : Ann := [(0, ([0, 1, 2], [0, 600])), (1, ([0, 1, 2], [0, 600])), (2, ([0, 1, 2, 34, 35], [0, 600])), (3, ([0, 1, 2, 34, 35], [0, 600])), (4, ([0, 1, 2, 6, 34, 35], [0, 600])), (5, ([0, 1, 2, 34, 35], [0, 600]))]
def g11a_res : List ResultVar := []
noncomputable def g11a_D {R : Type} (A : Ar) (n : Nat) (p : List Bool) (K : Ex → St → Option R) (s : St) : Option R := codeD A gtys (g11a_O A) g11a_an n (sub (bodyOf Try.f11) p) K s
noncomputable def g11a_V {R : Type} (A : Ar) (n : Nat) (p : List Bool) (m : Nat) (K : Ex → St → Option R) (s : St) : Option R := loopD (fun K' s'' => codeD A gtys (g11a_O A) g11a_an n (sub (bodyOf Try.f11) p) K' s'') m K s
noncomputable def g11a_Q {R : Type} (A : Ar) (n : Nat) (p : List Bool) (K : Ex → St → Option R) : Ex → St → Option R := seqC (g11a_D A n p K) K
noncomputable def g11a_W {R : Type} (A : Ar) (n : Nat) (p : List Bool) (m : Nat) (K : Ex → St → Option R) : Ex → St → Option R := seqC (g11a_V A n p m K) K
noncomputable def g11a_T {R : Type} (kk : AV → Heap → Option R) : Ex → St → Option R := finD gtys g11a_res kk
theorem g11a_Qn {R : Type} (A : Ar) (n : Nat) (p : List Bool) (K : Ex → St → Option R) (s : St) : g11a_Q A n p K .normal s = g11a_D A n p K s := rfl
theorem g11a_Qe {R : Type} (A : Ar) (n : Nat) (p : List Bool) (K : Ex → St → Option R) (i : Nat) (s : St) : g11a_Q A n p K (.exit i) s = K (.exit i) s := rfl
theorem g11a_Qr {R : Type} (A : Ar) (n : Nat) (p : List Bool) (K : Ex → St → Option R) (s : St) : g11a_Q A n p K .ret s = K .ret s := rfl
theorem g11a_Wn {R : Type} (A : Ar) (n : Nat) (p : List Bool) (m : Nat) (K : Ex → St → Option R) (s : St) : g11a_W A n p m K .normal s = g11a_V A n p m K s := rfl
theorem g11a_We {R : Type} (A : Ar) (n : Nat) (p : List Bool) (m : Nat) (K : Ex → St → Option R) (i : Nat) (s : St) : g11a_W A n p m K (.exit i) s = K (.exit i) s := rfl
theorem g11a_Vs {R : Type} (A : Ar) (n : Nat) (p : List Bool) (m : Nat) (K : Ex → St → Option R) (s : St) : g11a_V A n p (m + 1) K s = g11a_D A n p (g11a_W A n p m K) s := rfl
theorem g11a_F {R : Type} (A : Ar) (n : Nat) (p : List Bool) (i : Nat) (K : Ex → St → Option R) (s s' : St) (hf : firstReg (sub (bodyOf Try.f11) p) = some i) (h : keep g11a_an i s = keep g11a_an i s') : g11a_D A n p K s = g11a_D A n p K s' := codeD_first hf h K
section
variable {R : Type} (A : Ar) (n : Nat) (K : Ex → St → Option R) (s : St)
theorem g11a_p1 : g11a_D A n (pth 1) K s = g11a_D A n (pth 2) (g11a_Q A n (pth 3) K) s := by kernel_rfl
theorem g11a_p2 : g11a_D A n (pth 2) K s = g11a_D A n (pth 4) (g11a_Q A n (pth 6) K) s := by kernel_rfl
theorem g11a_p6 (t : Bool) : ev s (.tmp 33) = some (.v (.cell (.bool t))) → g11a_D A n (pth 6) K s = (match t with
    | true => g11a_D A n (pth 10) K s
    | false => g11a_D A n (pth 14) K s) := codeD_cond t
theorem g11a_p10 : g11a_D A n (pth 10) K s = K .ret s := by kernel_rfl
theorem g11a_p14 : g11a_D A n (pth 14) K s = K .normal s := by kernel_rfl
theorem g11a_p3 : g11a_D A n (pth 3) K s = g11a_D A n (pth 5) (g11a_Q A n (pth 7) K) s := by kernel_rfl
theorem g11a_p7 : g11a_D A n (pth 7) K s = g11a_D A n (pth 11) (blockK 0 K) s := by kernel_rfl
theorem g11a_p11 : g11a_D A n (pth 11) K s = g11a_V A n (pth 19) n K s := by kernel_rfl
theorem g11a_p19 : g11a_D A n (pth 19) K s = g11a_D A n (pth 35) (g11a_Q A n (pth 51) K) s := by kernel_rfl
theorem g11a_p51 : g11a_D A n (pth 51) K s = g11a_D A n (pth 83) (g11a_Q A n (pth 115) K) s := by kernel_rfl
theorem g11a_p83 (t : Bool) : ev s (.tmp 36) = some (.v (.cell (.bool t))) → g11a_D A n (pth 83) K s = (match t with
    | true => g11a_D A n (pth 147) K s
    | false => g11a_D A n (pth 211) K s) := codeD_cond t
theorem g11a_p147 : g11a_D A n (pth 147) K s = K .normal s := by kernel_rfl
theorem g11a_p211 : g11a_D A n (pth 211) K s = K (.exit 0) s := by kernel_rfl
theorem g11a_p115 : g11a_D A n (pth 115) K s = g11a_D A n (pth 179) (g11a_Q A n (pth 243) K) s := by kernel_rfl
theorem g11a_p179 : g11a_D A n (pth 179) K s = g11a_D A n (pth 307) (blockK 1 K) s := by kernel_rfl
theorem g11a_p307 : g11a_D A n (pth 307) K s = g11a_D A n (pth 563) (g11a_Q A n (pth 819) K) s := by kernel_rfl
def g11a_R3s0 (A : Ar) (x0 x1 : Int) (x2 x3 x4 : Int) (x5 x6 : Nat) (x7 : List Nat) : St := ⟨[(6, (i6 x3)), (37, (i6 x3)), (0, (pT 0 0)), (1, (i6 x0)), (2, (i6 x1)), (34, (i6 x2)), (35, (i6 x3))], [(0, ⟨[.one (.int .i64 x4), .one (.sl 600 none x5 1)], 56, 1⟩), (600, ⟨[.nums .u8 x6 x7], 5, 2⟩)]⟩
theorem g11a_R3 (x0 x1 : Int) (x2 x3 x4 : Int) (x5 x6 : Nat) (x7 : List Nat) : g11a_D A n (pth 563) K ⟨[(0, (pT 0 0)), (1, (i6 x0)), (2, (i6 x1)), (34, (i6 x2)), (35, (i6 x3))], [(0, ⟨[.one (.int .i64 x4), .one (.sl 600 none x5 1)], 56, 1⟩), (600, ⟨[.nums .u8 x6 x7], 5, 2⟩)]⟩ = K .normal (g11a_R3s0 A x0 x1 x2 x3 x4 x5 x6 x7) := by kernel_rfl
def g11a_R4s0 (A : Ar) (x0 x1 : Int) (x2 x3 : Int) (x4 x5 : Int) (x6 x7 : Nat) (x8 : List Nat) : St := ⟨[(54, (pT 0 1)), (53, (pT 0 0)), (52, (sL 600 none ((x8 ++ ([A.i2n .u8 (A.ish .shr .i64 x0 (A.toN (A.ib .mul .i64 8 (A.ib .sub .i64 (A.ib .sub .i64 x1 1) x2))))].take 1)).length) 1)), (51, (sL 5013 none 1 1)), (50, (u8v (A.i2n .u8 (A.ish .shr .i64 x0 (A.toN (A.ib .mul .i64 8 (A.ib .sub .i64 (A.ib .sub .i64 x1 1) x2))))))), (49, (i6 (A.ish .shr .i64 x0 (A.toN (A.ib .mul .i64 8 (A.ib .sub .i64 (A.ib .sub .i64 x1 1) x2)))))), (48, (i6 (A.ib .mul .i64 8 (A.ib .sub .i64 (A.ib .sub .i64 x1 1) x2)))), (47, (i6 (A.ib .sub .i64 (A.ib .sub .i64 x1 1) x2))), (46, (i6 x2)), (45, (i6 (A.ib .sub .i64 x1 1))), (44, (i6 x1)), (43, (i6 x0)), (42, (.v (.cell .top))), (41, (pT 0 1)), (40, (pT 0 0)), (39, (pT 0 0)), (38, (pT 0 0)), (0, (pT 0 0)), (1, (i6 x0)), (2, (i6 x1)), (6, (i6 x2)), (34, (i6 x3)), (35, (i6 x4))], [(600, ⟨[.nums .u8 ((x8 ++ ([A.i2n .u8 (A.ish .shr .i64 x0 (A.toN (A.ib .mul .i64 8 (A.ib .sub .i64 (A.ib .sub .i64 x1 1) x2))))].take 1)).length) (x8 ++ ([A.i2n .u8 (A.ish .shr .i64 x0 (A.toN (A.ib .mul .i64 8 (A.ib .sub .i64 (A.ib .sub .i64 x1 1) x2))))].take 1))], 5, 2⟩), (5013, ⟨[.nums .u8 1 [A.i2n .u8 (A.ish .shr .i64 x0 (A.toN (A.ib .mul .i64 8 (A.ib .sub .i64 (A.ib .sub .i64 x1 1) x2))))]], 5, 2⟩), (0, ⟨[.one (.int .i64 x5), .one (.sl 600 none ((x8 ++ ([A.i2n .u8 (A.ish .shr .i64 x0 (A.toN (A.ib .mul .i64 8 (A.ib .sub .i64 (A.ib .sub .i64 x1 1) x2))))].take 1)).length) 1)], 56, 1⟩)]⟩
theorem g11a_R4 (x0 x1 : Int) (x2 x3 : Int) (x4 x5 : Int) (x6 x7 : Nat) (x8 : List Nat) : g11a_D A n (pth 819) K ⟨[(0, (pT 0 0)), (1, (i6 x0)), (2, (i6 x1)), (6, (i6 x2)), (34, (i6 x3)), (35, (i6 x4))], [(0, ⟨[.one (.int .i64 x5), .one (.sl 600 none x6 1)], 56, 1⟩), (600, ⟨[.nums .u8 x7 x8], 5, 2⟩)]⟩ = match (generalizing := false) A.neg (A.ib .mul .i64 8 (A.ib .sub .i64 (A.ib .sub .i64 x1 1) x2)) with
    | true => none
    | false => match (generalizing := false) A.eq x6 (x7 + 0) with
      | true => match (generalizing := false) A.le ((x8 ++ ([A.i2n .u8 (A.ish .shr .i64 x0 (A.toN (A.ib .mul .i64 8 (A.ib .sub .i64 (A.ib .sub .i64 x1 1) x2))))].take 1)).length) 140737488355328 with
        | true => K .normal (g11a_R4s0 A x0 x1 x2 x3 x4 x5 x6 x7 x8)
        | false => none
      | false => none := by kernel_rfl
def g11a_R5s0 (A : Ar) (x0 x1 : Int) (x2 x3 x4 : Int) (x5 x6 : Nat) (x7 : List Nat) : St := ⟨[(35, (i6 (A.ib .add .i64 x3 1))), (55, (i6 (A.ib .add .i64 x3 1))), (0, (pT 0 0)), (1, (i6 x0)), (2, (i6 x1)), (34, (i6 x2)), (35, (i6 x3))], [(0, ⟨[.one (.int .i64 x4), .one (.sl 600 none x5 1)], 56, 1⟩), (600, ⟨[.nums .u8 x6 x7], 5, 2⟩)]⟩
theorem g11a_R5 (x0 x1 : Int) (x2 x3 x4 : Int) (x5 x6 : Nat) (x7 : List Nat) : g11a_D A n (pth 243) K ⟨[(0, (pT 0 0)), (1, (i6 x0)), (2, (i6 x1)), (34, (i6 x2)), (35, (i6 x3))], [(0, ⟨[.one (.int .i64 x4), .one (.sl 600 none x5 1)], 56, 1⟩), (600, ⟨[.nums .u8 x6 x7], 5, 2⟩)]⟩ = K .normal (g11a_R5s0 A x0 x1 x2 x3 x4 x5 x6 x7) := by kernel_rfl
def g11a_R2s0 (A : Ar) (x0 x1 : Int) (x2 x3 x4 : Int) (x5 x6 : Nat) (x7 : List Nat) : St := ⟨[(36, (bO (A.ic .lss x3 x2))), (0, (pT 0 0)), (1, (i6 x0)), (2, (i6 x1)), (34, (i6 x2)), (35, (i6 x3))], [(0, ⟨[.one (.int .i64 x4), .one (.sl 600 none x5 1)], 56, 1⟩), (600, ⟨[.nums .u8 x6 x7], 5, 2⟩)]⟩
theorem g11a_R2 (x0 x1 : Int) (x2 x3 x4 : Int) (x5 x6 : Nat) (x7 : List Nat) : g11a_D A n (pth 35) K ⟨[(0, (pT 0 0)), (1, (i6 x0)), (2, (i6 x1)), (34, (i6 x2)), (35, (i6 x3))], [(0, ⟨[.one (.int .i64 x4), .one (.sl 600 none x5 1)], 56, 1⟩), (600, ⟨[.nums .u8 x6 x7], 5, 2⟩)]⟩ = K .normal (g11a_R2s0 A x0 x1 x2 x3 x4 x5 x6 x7) := by kernel_rfl
def g11a_R1s0 (A : Ar) (x0 x1 x2 : Int) (x3 x4 : Nat) (x5 : List Nat) : St := ⟨[(35, (i6 0)), (34, (i6 x1)), (0, (pT 0 0)), (1, (i6 x0)), (2, (i6 x1))], [(0, ⟨[.one (.int .i64 x2), .one (.sl 600 none x3 1)], 56, 1⟩), (600, ⟨[.nums .u8 x4 x5], 5, 2⟩)]⟩
theorem g11a_R1 (x0 x1 x2 : Int) (x3 x4 : Nat) (x5 : List Nat) : g11a_D A n (pth 5) K ⟨[(0, (pT 0 0)), (1, (i6 x0)), (2, (i6 x1))], [(0, ⟨[.one (.int .i64 x2), .one (.sl 600 none x3 1)], 56, 1⟩), (600, ⟨[.nums .u8 x4 x5], 5, 2⟩)]⟩ = K .normal (g11a_R1s0 A x0 x1 x2 x3 x4 x5) := by kernel_rfl
def g11a_R0s0 (A : Ar) (x0 x1 x2 : Int) (x3 x4 : Nat) (x5 : List Nat) : St := ⟨[(33, (bO true)), (32, uN), (31, uN), (30, uN), (29, uN), (28, uN), (27, uN), (26, uN), (25, uN), (24, uN), (23, uN), (22, (bO true)), (21, (bO (!(g29r0 A (A.ic .geq x0 0) 1 x2 x3 x4 x5)))), (20, (bO (g29r0 A (A.ic .geq x0 0) 1 x2 x3 x4 x5))), (19, (bO (A.ic .geq x0 0))), (18, (bO (A.ic .geq x0 0))), (17, (i6 x0)), (16, (bO true)), (15, (bO (A.ic .leq x1 7))), (14, (bO (A.ic .leq x1 7))), (13, (i6 x1)), (12, (bO true)), (11, (bO (A.ic .geq x1 1))), (10, (i6 x1)), (9, (pT 0 0)), (8, (pT 0 0)), (7, (pT 0 0)), (0, (pT 0 0)), (1, (i6 x0)), (2, (i6 x1))], [(0, ⟨[.one (.int .i64 (g29r1 A (A.ic .geq x0 0) 1 x2 x3 x4 x5)), .one (.sl 600 none (g29r2 A (A.ic .geq x0 0) 1 x2 x3 x4 x5) 1)], 56, 1⟩), (600, ⟨[.nums .u8 (g29r3 A (A.ic .geq x0 0) 1 x2 x3 x4 x5) (g29r4 A (A.ic .geq x0 0) 1 x2 x3 x4 x5)], 5, 2⟩)]⟩
def g11a_R0s1 (A : Ar) (x0 x1 x2 : Int) (x3 x4 : Nat) (x5 : List Nat) : St := ⟨[(33, (bO (!(g29r0 A (A.ic .lss x0 (A.ish .shl .i64 1 (A.toN (A.ib .mul .i64 8 x1)))) 1 (g29r1 A (A.ic .geq x0 0) 1 x2 x3 x4 x5) (g29r2 A (A.ic .geq x0 0) 1 x2 x3 x4 x5) (g29r3 A (A.ic .geq x0 0) 1 x2 x3 x4 x5) (g29r4 A (A.ic .geq x0 0) 1 x2 x3 x4 x5))))), (32, (bO (!(g29r0 A (A.ic .lss x0 (A.ish .shl .i64 1 (A.toN (A.ib .mul .i64 8 x1)))) 1 (g29r1 A (A.ic .geq x0 0) 1 x2 x3 x4 x5) (g29r2 A (A.ic .geq x0 0) 1 x2 x3 x4 x5) (g29r3 A (A.ic .geq x0 0) 1 x2 x3 x4 x5) (g29r4 A (A.ic .geq x0 0) 1 x2 x3 x4 x5))))), (31, (bO (g29r0 A (A.ic .lss x0 (A.ish .shl .i64 1 (A.toN (A.ib .mul .i64 8 x1)))) 1 (g29r1 A (A.ic .geq x0 0) 1 x2 x3 x4 x5) (g29r2 A (A.ic .geq x0 0) 1 x2 x3 x4 x5) (g29r3 A (A.ic .geq x0 0) 1 x2 x3 x4 x5) (g29r4 A (A.ic .geq x0 0) 1 x2 x3 x4 x5)))), (30, (bO (A.ic .lss x0 (A.ish .shl .i64 1 (A.toN (A.ib .mul .i64 8 x1)))))), (29, (i6 (A.ish .shl .i64 1 (A.toN (A.ib .mul .i64 8 x1))))), (28, (i6 (A.ib .mul .i64 8 x1))), (27, (i6 x1)), (26, (i6 x0)), (25, (pT 0 0)), (24, (pT 0 0)), (23, (pT 0 0)), (22, (bO false)), (21, (bO (!(g29r0 A (A.ic .geq x0 0) 1 x2 x3 x4 x5)))), (20, (bO (g29r0 A (A.ic .geq x0 0) 1 x2 x3 x4 x5))), (19, (bO (A.ic .geq x0 0))), (18, (bO (A.ic .geq x0 0))), (17, (i6 x0)), (16, (bO true)), (15, (bO (A.ic .leq x1 7))), (14, (bO (A.ic .leq x1 7))), (13, (i6 x1)), (12, (bO true)), (11, (bO (A.ic .geq x1 1))), (10, (i6 x1)), (9, (pT 0 0)), (8, (pT 0 0)), (7, (pT 0 0)), (0, (pT 0 0)), (1, (i6 x0)), (2, (i6 x1))], [(0, ⟨[.one (.int .i64 (g29r1 A (A.ic .lss x0 (A.ish .shl .i64 1 (A.toN (A.ib .mul .i64 8 x1)))) 1 (g29r1 A (A.ic .geq x0 0) 1 x2 x3 x4 x5) (g29r2 A (A.ic .geq x0 0) 1 x2 x3 x4 x5) (g29r3 A (A.ic .geq x0 0) 1 x2 x3 x4 x5) (g29r4 A (A.ic .geq x0 0) 1 x2 x3 x4 x5))), .one (.sl 600 none (g29r2 A (A.ic .lss x0 (A.ish .shl .i64 1 (A.toN (A.ib .mul .i64 8 x1)))) 1 (g29r1 A (A.ic .geq x0 0) 1 x2 x3 x4 x5) (g29r2 A (A.ic .geq x0 0) 1 x2 x3 x4 x5) (g29r3 A (A.ic .geq x0 0) 1 x2 x3 x4 x5) (g29r4 A (A.ic .geq x0 0) 1 x2 x3 x4 x5)) 1)], 56, 1⟩), (600, ⟨[.nums .u8 (g29r3 A (A.ic .lss x0 (A.ish .shl .i64 1 (A.toN (A.ib .mul .i64 8 x1)))) 1 (g29r1 A (A.ic .geq x0 0) 1 x2 x3 x4 x5) (g29r2 A (A.ic .geq x0 0) 1 x2 x3 x4 x5) (g29r3 A (A.ic .geq x0 0) 1 x2 x3 x4 x5) (g29r4 A (A.ic .geq x0 0) 1 x2 x3 x4 x5)) (g29r4 A (A.ic .lss x0 (A.ish .shl .i64 1 (A.toN (A.ib .mul .i64 8 x1)))) 1 (g29r1 A (A.ic .geq x0 0) 1 x2 x3 x4 x5) (g29r2 A (A.ic .geq x0 0) 1 x2 x3 x4 x5) (g29r3 A (A.ic .geq x0 0) 1 x2 x3 x4 x5) (g29r4 A (A.ic .geq x0 0) 1 x2 x3 x4 x5))], 5, 2⟩)]⟩
def g11a_R0s2 (A : Ar) (x0 x1 x2 : Int) (x3 x4 : Nat) (x5 : List Nat) : St := ⟨[(33, (bO true)), (32, uN), (31, uN), (30, uN), (29, uN), (28, uN), (27, uN), (26, uN), (25, uN), (24, uN), (23, uN), (22, (bO true)), (21, (bO (!(g29r0 A false 1 x2 x3 x4 x5)))), (20, (bO (g29r0 A false 1 x2 x3 x4 x5))), (19, (bO false)), (18, uN), (17, uN), (16, (bO false)), (15, (bO (A.ic .leq x1 7))), (14, (bO (A.ic .leq x1 7))), (13, (i6 x1)), (12, (bO true)), (11, (bO (A.ic .geq x1 1))), (10, (i6 x1)), (9, (pT 0 0)), (8, (pT 0 0)), (7, (pT 0 0)), (0, (pT 0 0)), (1, (i6 x0)), (2, (i6 x1))], [(0, ⟨[.one (.int .i64 (g29r1 A false 1 x2 x3 x4 x5)), .one (.sl 600 none (g29r2 A false 1 x2 x3 x4 x5) 1)], 56, 1⟩), (600, ⟨[.nums .u8 (g29r3 A false 1 x2 x3 x4 x5) (g29r4 A false 1 x2 x3 x4 x5)], 5, 2⟩)]⟩
def g11a_R0s3 (A : Ar) (x0 x1 x2 : Int) (x3 x4 : Nat) (x5 : List Nat) : St := ⟨[(33, (bO (!(g29r0 A (A.ic .lss x0 (A.ish .shl .i64 1 (A.toN (A.ib .mul .i64 8 x1)))) 1 (g29r1 A false 1 x2 x3 x4 x5) (g29r2 A false 1 x2 x3 x4 x5) (g29r3 A false 1 x2 x3 x4 x5) (g29r4 A false 1 x2 x3 x4 x5))))), (32, (bO (!(g29r0 A (A.ic .lss x0 (A.ish .shl .i64 1 (A.toN (A.ib .mul .i64 8 x1)))) 1 (g29r1 A false 1 x2 x3 x4 x5) (g29r2 A false 1 x2 x3 x4 x5) (g29r3 A false 1 x2 x3 x4 x5) (g29r4 A false 1 x2 x3 x4 x5))))), (31, (bO (g29r0 A (A.ic .lss x0 (A.ish .shl .i64 1 (A.toN (A.ib .mul .i64 8 x1)))) 1 (g29r1 A false 1 x2 x3 x4 x5) (g29r2 A false 1 x2 x3 x4 x5) (g29r3 A false 1 x2 x3 x4 x5) (g29r4 A false 1 x2 x3 x4 x5)))), (30, (bO (A.ic .lss x0 (A.ish .shl .i64 1 (A.toN (A.ib .mul .i64 8 x1)))))), (29, (i6 (A.ish .shl .i64 1 (A.toN (A.ib .mul .i64 8 x1))))), (28, (i6 (A.ib .mul .i64 8 x1))), (27, (i6 x1)), (26, (i6 x0)), (25, (pT 0 0)), (24, (pT 0 0)), (23, (pT 0 0)), (22, (bO false)), (21, (bO (!(g29r0 A false 1 x2 x3 x4 x5)))), (20, (bO (g29r0 A false 1 x2 x3 x4 x5))), (19, (bO false)), (18, uN), (17, uN), (16, (bO false)), (15, (bO (A.ic .leq x1 7))), (14, (bO (A.ic .leq x1 7))), (13, (i6 x1)), (12, (bO true)), (11, (bO (A.ic .geq x1 1))), (10, (i6 x1)), (9, (pT 0 0)), (8, (pT 0 0)), (7, (pT 0 0)), (0, (pT 0 0)), (1, (i6 x0)), (2, (i6 x1))], [(0, ⟨[.one (.int .i64 (g29r1 A (A.ic .lss x0 (A.ish .shl .i64 1 (A.toN (A.ib .mul .i64 8 x1)))) 1 (g29r1 A false 1 x2 x3 x4 x5) (g29r2 A false 1 x2 x3 x4 x5) (g29r3 A false 1 x2 x3 x4 x5) (g29r4 A false 1 x2 x3 x4 x5))), .one (.sl 600 none (g29r2 A (A.ic .lss x0 (A.ish .shl .i64 1 (A.toN (A.ib .mul .i64 8 x1)))) 1 (g29r1 A false 1 x2 x3 x4 x5) (g29r2 A false 1 x2 x3 x4 x5) (g29r3 A false 1 x2 x3 x4 x5) (g29r4 A false 1 x2 x3 x4 x5)) 1)], 56, 1⟩), (600, ⟨[.nums .u8 (g29r3 A (A.ic .lss x0 (A.ish .shl .i64 1 (A.toN (A.ib .mul .i64 8 x1)))) 1 (g29r1 A false 1 x2 x3 x4 x5) (g29r2 A false 1 x2 x3 x4 x5) (g29r3 A false 1 x2 x3 x4 x5) (g29r4 A false 1 x2 x3 x4 x5)) (g29r4 A (A.ic .lss x0 (A.ish .shl .i64 1 (A.toN (A.ib .mul .i64 8 x1)))) 1 (g29r1 A false 1 x2 x3 x4 x5) (g29r2 A false 1 x2 x3 x4 x5) (g29r3 A false 1 x2 x3 x4 x5) (g29r4 A false 1 x2 x3 x4 x5))], 5, 2⟩)]⟩
def g11a_R0s4 (A : Ar) (x0 x1 x2 : Int) (x3 x4 : Nat) (x5 : List Nat) : St := ⟨[(33, (bO true)), (32, uN), (31, uN), (30, uN), (29, uN), (28, uN), (27, uN), (26, uN), (25, uN), (24, uN), (23, uN), (22, (bO true)), (21, (bO (!(g29r0 A false 1 x2 x3 x4 x5)))), (20, (bO (g29r0 A false 1 x2 x3 x4 x5))), (19, (bO false)), (18, uN), (17, uN), (16, (bO false)), (15, (bO false)), (14, uN), (13, uN), (12, (bO false)), (11, (bO (A.ic .geq x1 1))), (10, (i6 x1)), (9, (pT 0 0)), (8, (pT 0 0)), (7, (pT 0 0)), (0, (pT 0 0)), (1, (i6 x0)), (2, (i6 x1))], [(0, ⟨[.one (.int .i64 (g29r1 A false 1 x2 x3 x4 x5)), .one (.sl 600 none (g29r2 A false 1 x2 x3 x4 x5) 1)], 56, 1⟩), (600, ⟨[.nums .u8 (g29r3 A false 1 x2 x3 x4 x5) (g29r4 A false 1 x2 x3 x4 x5)], 5, 2⟩)]⟩
def g11a_R0s5 (A : Ar) (x0 x1 x2 : Int) (x3 x4 : Nat) (x5 : List Nat) : St := ⟨[(33, (bO (!(g29r0 A (A.ic .lss x0 (A.ish .shl .i64 1 (A.toN (A.ib .mul .i64 8 x1)))) 1 (g29r1 A false 1 x2 x3 x4 x5) (g29r2 A false 1 x2 x3 x4 x5) (g29r3 A false 1 x2 x3 x4 x5) (g29r4 A false 1 x2 x3 x4 x5))))), (32, (bO (!(g29r0 A (A.ic .lss x0 (A.ish .shl .i64 1 (A.toN (A.ib .mul .i64 8 x1)))) 1 (g29r1 A false 1 x2 x3 x4 x5) (g29r2 A false 1 x2 x3 x4 x5) (g29r3 A false 1 x2 x3 x4 x5) (g29r4 A false 1 x2 x3 x4 x5))))), (31, (bO (g29r0 A (A.ic .lss x0 (A.ish .shl .i64 1 (A.toN (A.ib .mul .i64 8 x1)))) 1 (g29r1 A false 1 x2 x3 x4 x5) (g29r2 A false 1 x2 x3 x4 x5) (g29r3 A false 1 x2 x3 x4 x5) (g29r4 A false 1 x2 x3 x4 x5)))), (30, (bO (A.ic .lss x0 (A.ish .shl .i64 1 (A.toN (A.ib .mul .i64 8 x1)))))), (29, (i6 (A.ish .shl .i64 1 (A.toN (A.ib .mul .i64 8 x1))))), (28, (i6 (A.ib .mul .i64 8 x1))), (27, (i6 x1)), (26, (i6 x0)), (25, (pT 0 0)), (24, (pT 0 0)), (23, (pT 0 0)), (22, (bO false)), (21, (bO (!(g29r0 A false 1 x2 x3 x4 x5)))), (20, (bO (g29r0 A false 1 x2 x3 x4 x5))), (19, (bO false)), (18, uN), (17, uN), (16, (bO false)), (15, (bO false)), (14, uN), (13, uN), (12, (bO false)), (11, (bO (A.ic .geq x1 1))), (10, (i6 x1)), (9, (pT 0 0)), (8, (pT 0 0)), (7, (pT 0 0)), (0, (pT 0 0)), (1, (i6 x0)), (2, (i6 x1))], [(0, ⟨[.one (.int .i64 (g29r1 A (A.ic .lss x0 (A.ish .shl .i64 1 (A.toN (A.ib .mul .i64 8 x1)))) 1 (g29r1 A false 1 x2 x3 x4 x5) (g29r2 A false 1 x2 x3 x4 x5) (g29r3 A false 1 x2 x3 x4 x5) (g29r4 A false 1 x2 x3 x4 x5))), .one (.sl 600 none (g29r2 A (A.ic .lss x0 (A.ish .shl .i64 1 (A.toN (A.ib .mul .i64 8 x1)))) 1 (g29r1 A false 1 x2 x3 x4 x5) (g29r2 A false 1 x2 x3 x4 x5) (g29r3 A false 1 x2 x3 x4 x5) (g29r4 A false 1 x2 x3 x4 x5)) 1)], 56, 1⟩), (600, ⟨[.nums .u8 (g29r3 A (A.ic .lss x0 (A.ish .shl .i64 1 (A.toN (A.ib .mul .i64 8 x1)))) 1 (g29r1 A false 1 x2 x3 x4 x5) (g29r2 A false 1 x2 x3 x4 x5) (g29r3 A false 1 x2 x3 x4 x5) (g29r4 A false 1 x2 x3 x4 x5)) (g29r4 A (A.ic .lss x0 (A.ish .shl .i64 1 (A.toN (A.ib .mul .i64 8 x1)))) 1 (g29r1 A false 1 x2 x3 x4 x5) (g29r2 A false 1 x2 x3 x4 x5) (g29r3 A false 1 x2 x3 x4 x5) (g29r4 A false 1 x2 x3 x4 x5))], 5, 2⟩)]⟩
theorem g11a_R0 (x0 x1 x2 : Int) (x3 x4 : Nat) (x5 : List Nat) : g11a_D A n (pth 4) K ⟨[(0, (pT 0 0)), (1, (i6 x0)), (2, (i6 x1))], [(0, ⟨[.one (.int .i64 x2), .one (.sl 600 none x3 1)], 56, 1⟩), (600, ⟨[.nums .u8 x4 x5], 5, 2⟩)]⟩ = match (generalizing := false) A.ic .geq x1 1 with
    | true => match (generalizing := false) A.ic .leq x1 7 with
      | true => match (generalizing := false) g29ok A (A.ic .geq x0 0) 1 x2 x3 x4 x5 with
        | true => match (generalizing := false) !(g29r0 A (A.ic .geq x0 0) 1 x2 x3 x4 x5) with
          | true => K .normal (g11a_R0s0 A x0 x1 x2 x3 x4 x5)
          | false => match (generalizing := false) A.neg (A.ib .mul .i64 8 x1) with
            | true => none
            | false => match (generalizing := false) g29ok A (A.ic .lss x0 (A.ish .shl .i64 1 (A.toN (A.ib .mul .i64 8 x1)))) 1 (g29r1 A (A.ic .geq x0 0) 1 x2 x3 x4 x5) (g29r2 A (A.ic .geq x0 0) 1 x2 x3 x4 x5) (g29r3 A (A.ic .geq x0 0) 1 x2 x3 x4 x5) (g29r4 A (A.ic .geq x0 0) 1 x2 x3 x4 x5) with
              | true => K .normal (g11a_R0s1 A x0 x1 x2 x3 x4 x5)
              | false => none
        | false => none
      | false => match (generalizing := false) g29ok A false 1 x2 x3 x4 x5 with
        | true => match (generalizing := false) !(g29r0 A false 1 x2 x3 x4 x5) with
          | true => K .normal (g11a_R0s2 A x0 x1 x2 x3 x4 x5)
          | false => match (generalizing := false) A.neg (A.ib .mul .i64 8 x1) with
            | true => none
            | false => match (generalizing := false) g29ok A (A.ic .lss x0 (A.ish .shl .i64 1 (A.toN (A.ib .mul .i64 8 x1)))) 1 (g29r1 A false 1 x2 x3 x4 x5) (g29r2 A false 1 x2 x3 x4 x5) (g29r3 A false 1 x2 x3 x4 x5) (g29r4 A false 1 x2 x3 x4 x5) with
              | true => K .normal (g11a_R0s3 A x0 x1 x2 x3 x4 x5)
              | false => none
        | false => none
    | false => match (generalizing := false) g29ok A false 1 x2 x3 x4 x5 with
      | true => match (generalizing := false) !(g29r0 A false 1 x2 x3 x4 x5) with
        | true => K .normal (g11a_R0s4 A x0 x1 x2 x3 x4 x5)
        | false => match (generalizing := false) A.neg (A.ib .mul .i64 8 x1) with
          | true => none
          | false => match (generalizing := false) g29ok A (A.ic .lss x0 (A.ish .shl .i64 1 (A.toN (A.ib .mul .i64 8 x1)))) 1 (g29r1 A false 1 x2 x3 x4 x5) (g29r2 A false 1 x2 x3 x4 x5) (g29r3 A false 1 x2 x3 x4 x5) (g29r4 A false 1 x2 x3 x4 x5) with
            | true => K .normal (g11a_R0s5 A x0 x1 x2 x3 x4 x5)
            | false => none
      | false => none := by kernel_rfl
end
def g11a_J3 {R : Type} (A : Ar) (n : Nat) (kk : AV → Heap → Option R) (lg11a_L2 : Int → Int → Int → Int → Int → Nat → Nat → List Nat → Option R) (x0 x1 : Int) (x2 x3 x4 : Int) (x5 x6 : Nat) (x7 : List Nat) : Option R :=
  match (generalizing := false) A.neg (A.ib .mul .i64 8 (A.ib .sub .i64 (A.ib .sub .i64 x1 1) x3)) with
  | true => none
  | false => match (generalizing := false) A.eq x5 (x6 + 0) with
    | true => match (generalizing := false) A.le ((x7 ++ ([A.i2n .u8 (A.ish .shr .i64 x0 (A.toN (A.ib .mul .i64 8 (A.ib .sub .i64 (A.ib .sub .i64 x1 1) x3))))].take 1)).length) 140737488355328 with
      | true => lg11a_L2 x0 x1 x2 (A.ib .add .i64 x3 1) x4 ((x7 ++ ([A.i2n .u8 (A.ish .shr .i64 x0 (A.toN (A.ib .mul .i64 8 (A.ib .sub .i64 (A.ib .sub .i64 x1 1) x3))))].take 1)).length) ((x7 ++ ([A.i2n .u8 (A.ish .shr .i64 x0 (A.toN (A.ib .mul .i64 8 (A.ib .sub .i64 (A.ib .sub .i64 x1 1) x3))))].take 1)).length) (x7 ++ ([A.i2n .u8 (A.ish .shr .i64 x0 (A.toN (A.ib .mul .i64 8 (A.ib .sub .i64 (A.ib .sub .i64 x1 1) x3))))].take 1))
      | false => none
    | false => none
set_option maxRecDepth 100000 in
theorem g11a_J3_eq {R : Type} (A : Ar) (n : Nat) (kk : AV → Heap → Option R) (m0 : Nat) (lg11a_L2 : Int → Int → Int → Int → Int → Nat → Nat → List Nat → Option R) 
    (hg11a_L2 : ∀ (s : St) (x0 x1 : Int) (x2 x3 x4 : Int) (x5 x6 : Nat) (x7 : List Nat), keep g11a_an 2 s = ⟨[(0, (pT 0 0)), (1, (i6 x0)), (2, (i6 x1)), (34, (i6 x2)), (35, (i6 x3))], [(0, ⟨[.one (.int .i64 x4), .one (.sl 600 none x5 1)], 56, 1⟩), (600, ⟨[.nums .u8 x6 x7], 5, 2⟩)]⟩ → g11a_V A n (pth 19) m0 (blockK 0 (g11a_T kk)) s = lg11a_L2 x0 x1 x2 x3 x4 x5 x6 x7) (s : St) (x0 x1 : Int) (x2 x3 x4 : Int) (x5 x6 : Nat) (x7 : List Nat) (h : keep g11a_an 3 s = ⟨[(0, (pT 0 0)), (1, (i6 x0)), (2, (i6 x1)), (34, (i6 x2)), (35, (i6 x3))], [(0, ⟨[.one (.int .i64 x4), .one (.sl 600 none x5 1)], 56, 1⟩), (600, ⟨[.nums .u8 x6 x7], 5, 2⟩)]⟩) :
    g11a_D A n (pth 115) (g11a_W A n (pth 19) m0 (blockK 0 (g11a_T kk))) s = g11a_J3 A n kk lg11a_L2 x0 x1 x2 x3 x4 x5 x6 x7 := by
  have h1 := (g11a_Wn A n _ _ _ _).trans (hg11a_L2 (g11a_R5s0 A x0 x1 x2 x3 x4 ((x7 ++ ([A.i2n .u8 (A.ish .shr .i64 x0 (A.toN (A.ib .mul .i64 8 (A.ib .sub .i64 (A.ib .sub .i64 x1 1) x3))))].take 1)).length) ((x7 ++ ([A.i2n .u8 (A.ish .shr .i64 x0 (A.toN (A.ib .mul .i64 8 (A.ib .sub .i64 (A.ib .sub .i64 x1 1) x3))))].take 1)).length) (x7 ++ ([A.i2n .u8 (A.ish .shr .i64 x0 (A.toN (A.ib .mul .i64 8 (A.ib .sub .i64 (A.ib .sub .i64 x1 1) x3))))].take 1))) x0 x1 x2 (A.ib .add .i64 x3 1) x4 ((x7 ++ ([A.i2n .u8 (A.ish .shr .i64 x0 (A.toN (A.ib .mul .i64 8 (A.ib .sub .i64 (A.ib .sub .i64 x1 1) x3))))].take 1)).length) ((x7 ++ ([A.i2n .u8 (A.ish .shr .i64 x0 (A.toN (A.ib .mul .i64 8 (A.ib .sub .i64 (A.ib .sub .i64 x1 1) x3))))].take 1)).length) (x7 ++ ([A.i2n .u8 (A.ish .shr .i64 x0 (A.toN (A.ib .mul .i64 8 (A.ib .sub .i64 (A.ib .sub .i64 x1 1) x3))))].take 1)) (by kernel_rfl))
  have h2 := (g11a_F A n _ 5 _ (g11a_R4s0 A x0 x1 x3 x2 x3 x4 x5 x6 x7) _ (by kernel_rfl) (by kernel_rfl)).trans (g11a_R5 A n (g11a_W A n (pth 19) m0 (blockK 0 (g11a_T kk))) x0 x1 x2 x3 x4 ((x7 ++ ([A.i2n .u8 (A.ish .shr .i64 x0 (A.toN (A.ib .mul .i64 8 (A.ib .sub .i64 (A.ib .sub .i64 x1 1) x3))))].take 1)).length) ((x7 ++ ([A.i2n .u8 (A.ish .shr .i64 x0 (A.toN (A.ib .mul .i64 8 (A.ib .sub .i64 (A.ib .sub .i64 x1 1) x3))))].take 1)).length) (x7 ++ ([A.i2n .u8 (A.ish .shr .i64 x0 (A.toN (A.ib .mul .i64 8 (A.ib .sub .i64 (A.ib .sub .i64 x1 1) x3))))].take 1)))
  rw [h1] at h2
  have h3 := (g11a_Qn A n _ _ _).trans h2
  have h4 := (blockK_n 1 _ _).trans h3
  have h5 := (g11a_F A n _ 4 _ (g11a_R3s0 A x0 x1 x2 x3 x4 x5 x6 x7) _ (by kernel_rfl) (by kernel_rfl)).trans (g11a_R4 A n (blockK 1 (g11a_Q A n (pth 243) (g11a_W A n (pth 19) m0 (blockK 0 (g11a_T kk))))) x0 x1 x3 x2 x3 x4 x5 x6 x7)
  rw [h4] at h5
  have h6 := (g11a_Qn A n _ _ _).trans h5
  have h7 := (g11a_F A n _ 3 _ ⟨[(0, (pT 0 0)), (1, (i6 x0)), (2, (i6 x1)), (34, (i6 x2)), (35, (i6 x3))], [(0, ⟨[.one (.int .i64 x4), .one (.sl 600 none x5 1)], 56, 1⟩), (600, ⟨[.nums .u8 x6 x7], 5, 2⟩)]⟩ _ (by kernel_rfl) (by kernel_rfl)).trans (g11a_R3 A n (g11a_Q A n (pth 819) (blockK 1 (g11a_Q A n (pth 243) (g11a_W A n (pth 19) m0 (blockK 0 (g11a_T kk)))))) x0 x1 x2 x3 x4 x5 x6 x7)
  rw [h6] at h7
  have h8 := (g11a_p307 A n _ _).trans h7
  have h9 := (g11a_p179 A n _ _).trans h8
  have h10 := (g11a_p115 A n _ _).trans h9
  exact (g11a_F A n _ 3 _ _ ⟨[(0, (pT 0 0)), (1, (i6 x0)), (2, (i6 x1)), (34, (i6 x2)), (35, (i6 x3))], [(0, ⟨[.one (.int .i64 x4), .one (.sl 600 none x5 1)], 56, 1⟩), (600, ⟨[.nums .u8 x6 x7], 5, 2⟩)]⟩ (by kernel_rfl) (h.trans (by kernel_rfl))).trans (h10.trans (by kernel_rfl))
def g11a_L2 {R : Type} (A : Ar) (n : Nat) (kk : AV → Heap → Option R)  : Nat → Int → Int → Int → Int → Int → Nat → Nat → List Nat → Option R
  | 0, _, _, _, _, _, _, _, _ => none
  | m + 1, x0, x1, x2, x3, x4, x5, x6, x7 => match (generalizing := false) A.ic .lss x3 x2 with
  | true => g11a_J3 A n kk (g11a_L2 A n kk  m) x0 x1 x2 x3 x4 x5 x6 x7
  | false => kk (.tup []) [(0, ⟨[.one (.int .i64 x4), .one (.sl 600 none x5 1)], 56, 1⟩), (600, ⟨[.nums .u8 x6 x7], 5, 2⟩)]
set_option maxRecDepth 100000 in
theorem g11a_L2_eq {R : Type} (A : Ar) (n : Nat) (kk : AV → Heap → Option R)    (m : Nat) (s : St) (x0 x1 : Int) (x2 x3 x4 : Int) (x5 x6 : Nat) (x7 : List Nat) (h : keep g11a_an 2 s = ⟨[(0, (pT 0 0)), (1, (i6 x0)), (2, (i6 x1)), (34, (i6 x2)), (35, (i6 x3))], [(0, ⟨[.one (.int .i64 x4), .one (.sl 600 none x5 1)], 56, 1⟩), (600, ⟨[.nums .u8 x6 x7], 5, 2⟩)]⟩) :
    g11a_V A n (pth 19) m (blockK 0 (g11a_T kk)) s = g11a_L2 A n kk  m x0 x1 x2 x3 x4 x5 x6 x7 := by
  induction m generalizing s x0 x1 x2 x3 x4 x5 x6 x7 with
  | zero => rfl
  | succ m ih =>
    have h1 := (g11a_Qn A n _ _ _).trans (g11a_J3_eq A n kk m (g11a_L2 A n kk  m) ih  (g11a_R2s0 A x0 x1 x2 x3 x4 x5 x6 x7) x0 x1 x2 x3 x4 x5 x6 x7 (by kernel_rfl))
    have h2 := (g11a_p147 A n _ _).trans h1
    have h3 : (g11a_T kk) .normal (g11a_R2s0 A x0 x1 x2 x3 x4 x5 x6 x7) = kk (.tup []) [(0, ⟨[.one (.int .i64 x4), .one (.sl 600 none x5 1)], 56, 1⟩), (600, ⟨[.nums .u8 x6 x7], 5, 2⟩)] := by kernel_rfl
    have h4 := (blockK_hit 0 _ _).trans h3
    have h5 := (g11a_We A n (pth 19) m _ _ _).trans h4
    have h6 := (g11a_Qe A n (pth 115) _ _ _).trans h5
    have h7 := (g11a_p211 A n _ _).trans h6
    have h8 := g11a_p83 A n (g11a_Q A n (pth 115) (g11a_W A n (pth 19) m (blockK 0 (g11a_T kk)))) (g11a_R2s0 A x0 x1 x2 x3 x4 x5 x6 x7) (A.ic .lss x3 x2) (by kernel_rfl)
    rw [h2, h7] at h8
    have h9 := (g11a_p51 A n _ _).trans h8
    have h10 := (g11a_Qn A n _ _ _).trans h9
    have h11 := (g11a_F A n _ 2 _ ⟨[(0, (pT 0 0)), (1, (i6 x0)), (2, (i6 x1)), (34, (i6 x2)), (35, (i6 x3))], [(0, ⟨[.one (.int .i64 x4), .one (.sl 600 none x5 1)], 56, 1⟩), (600, ⟨[.nums .u8 x6 x7], 5, 2⟩)]⟩ _ (by kernel_rfl) (by kernel_rfl)).trans (g11a_R2 A n (g11a_Q A n (pth 51) (g11a_W A n (pth 19) m (blockK 0 (g11a_T kk)))) x0 x1 x2 x3 x4 x5 x6 x7)
    rw [h10] at h11
    have h12 := (g11a_p19 A n _ _).trans h11
    exact (loopD_first (s' := ⟨[(0, (pT 0 0)), (1, (i6 x0)), (2, (i6 x1)), (34, (i6 x2)), (35, (i6 x3))], [(0, ⟨[.one (.int .i64 x4), .one (.sl 600 none x5 1)], 56, 1⟩), (600, ⟨[.nums .u8 x6 x7], 5, 2⟩)]⟩) (id := 2) (by kernel_rfl) (h.trans (by kernel_rfl)) _).trans ((g11a_Vs A n _ m _ _).trans (h12.trans (by kernel_rfl)))
def g11a_J1 {R : Type} (A : Ar) (n : Nat) (kk : AV → Heap → Option R)  (x0 x1 x2 : Int) (x3 x4 : Nat) (x5 : List Nat) : Option R :=
  g11a_L2 A n kk  n x0 x1 x1 0 x2 x3 x4 x5
set_option maxRecDepth 100000 in
theorem g11a_J1_eq {R : Type} (A : Ar) (n : Nat) (kk : AV → Heap → Option R)    (s : St) (x0 x1 x2 : Int) (x3 x4 : Nat) (x5 : List Nat) (h : keep g11a_an 1 s = ⟨[(0, (pT 0 0)), (1, (i6 x0)), (2, (i6 x1))], [(0, ⟨[.one (.int .i64 x2), .one (.sl 600 none x3 1)], 56, 1⟩), (600, ⟨[.nums .u8 x4 x5], 5, 2⟩)]⟩) :
    g11a_D A n (pth 3) (g11a_T kk) s = g11a_J1 A n kk  x0 x1 x2 x3 x4 x5 := by
  have h1 := (g11a_p11 A n _ _).trans (g11a_L2_eq A n kk    n (g11a_R1s0 A x0 x1 x2 x3 x4 x5) x0 x1 x1 0 x2 x3 x4 x5 (by kernel_rfl))
  have h2 := (g11a_p7 A n _ _).trans h1
  have h3 := (g11a_Qn A n _ _ _).trans h2
  have h4 := (g11a_F A n _ 1 _ ⟨[(0, (pT 0 0)), (1, (i6 x0)), (2, (i6 x1))], [(0, ⟨[.one (.int .i64 x2), .one (.sl 600 none x3 1)], 56, 1⟩), (600, ⟨[.nums .u8 x4 x5], 5, 2⟩)]⟩ _ (by kernel_rfl) (by kernel_rfl)).trans (g11a_R1 A n (g11a_Q A n (pth 7) (g11a_T kk)) x0 x1 x2 x3 x4 x5)
  rw [h3] at h4
  have h5 := (g11a_p3 A n _ _).trans h4
  exact (g11a_F A n _ 1 _ _ ⟨[(0, (pT 0 0)), (1, (i6 x0)), (2, (i6 x1))], [(0, ⟨[.one (.int .i64 x2), .one (.sl 600 none x3 1)], 56, 1⟩), (600, ⟨[.nums .u8 x4 x5], 5, 2⟩)]⟩ (by kernel_rfl) (h.trans (by kernel_rfl))).trans (h5.trans (by kernel_rfl))
def g11a_ {R : Type} (A : Ar) (n : Nat) (kk : AV → Heap → Option R) (x0 x1 x2 : Int) (x3 x4 : Nat) (x5 : List Nat) : Option R :=
  match (generalizing := false) A.ic .geq x1 1 with
  | true => match (generalizing := false) A.ic .leq x1 7 with
    | true => match (generalizing := false) g29ok A (A.ic .geq x0 0) 1 x2 x3 x4 x5 with
      | true => match (generalizing := false) !(g29r0 A (A.ic .geq x0 0) 1 x2 x3 x4 x5) with
        | true => kk (.tup []) [(0, ⟨[.one (.int .i64 (g29r1 A (A.ic .geq x0 0) 1 x2 x3 x4 x5)), .one (.sl 600 none (g29r2 A (A.ic .geq x0 0) 1 x2 x3 x4 x5) 1)], 56, 1⟩), (600, ⟨[.nums .u8 (g29r3 A (A.ic .geq x0 0) 1 x2 x3 x4 x5) (g29r4 A (A.ic .geq x0 0) 1 x2 x3 x4 x5)], 5, 2⟩)]
        | false => match (generalizing := false) A.neg (A.ib .mul .i64 8 x1) with
          | true => none
          | false => match (generalizing := false) g29ok A (A.ic .lss x0 (A.ish .shl .i64 1 (A.toN (A.ib .mul .i64 8 x1)))) 1 (g29r1 A (A.ic .geq x0 0) 1 x2 x3 x4 x5) (g29r2 A (A.ic .geq x0 0) 1 x2 x3 x4 x5) (g29r3 A (A.ic .geq x0 0) 1 x2 x3 x4 x5) (g29r4 A (A.ic .geq x0 0) 1 x2 x3 x4 x5) with
            | true => match (generalizing := false) !(g29r0 A (A.ic .lss x0 (A.ish .shl .i64 1 (A.toN (A.ib .mul .i64 8 x1)))) 1 (g29r1 A (A.ic .geq x0 0) 1 x2 x3 x4 x5) (g29r2 A (A.ic .geq x0 0) 1 x2 x3 x4 x5) (g29r3 A (A.ic .geq x0 0) 1 x2 x3 x4 x5) (g29r4 A (A.ic .geq x0 0) 1 x2 x3 x4 x5)) with
              | true => kk (.tup []) [(0, ⟨[.one (.int .i64 (g29r1 A (A.ic .lss x0 (A.ish .shl .i64 1 (A.toN (A.ib .mul .i64 8 x1)))) 1 (g29r1 A (A.ic .geq x0 0) 1 x2 x3 x4 x5) (g29r2 A (A.ic .geq x0 0) 1 x2 x3 x4 x5) (g29r3 A (A.ic .geq x0 0) 1 x2 x3 x4 x5) (g29r4 A (A.ic .geq x0 0) 1 x2 x3 x4 x5))), .one (.sl 600 none (g29r2 A (A.ic .lss x0 (A.ish .shl .i64 1 (A.toN (A.ib .mul .i64 8 x1)))) 1 (g29r1 A (A.ic .geq x0 0) 1 x2 x3 x4 x5) (g29r2 A (A.ic .geq x0 0) 1 x2 x3 x4 x5) (g29r3 A (A.ic .geq x0 0) 1 x2 x3 x4 x5) (g29r4 A (A.ic .geq x0 0) 1 x2 x3 x4 x5)) 1)], 56, 1⟩), (600, ⟨[.nums .u8 (g29r3 A (A.ic .lss x0 (A.ish .shl .i64 1 (A.toN (A.ib .mul .i64 8 x1)))) 1 (g29r1 A (A.ic .geq x0 0) 1 x2 x3 x4 x5) (g29r2 A (A.ic .geq x0 0) 1 x2 x3 x4 x5) (g29r3 A (A.ic .geq x0 0) 1 x2 x3 x4 x5) (g29r4 A (A.ic .geq x0 0) 1 x2 x3 x4 x5)) (g29r4 A (A.ic .lss x0 (A.ish .shl .i64 1 (A.toN (A.ib .mul .i64 8 x1)))) 1 (g29r1 A (A.ic .geq x0 0) 1 x2 x3 x4 x5) (g29r2 A (A.ic .geq x0 0) 1 x2 x3 x4 x5) (g29r3 A (A.ic .geq x0 0) 1 x2 x3 x4 x5) (g29r4 A (A.ic .geq x0 0) 1 x2 x3 x4 x5))], 5, 2⟩)]
              | false => g11a_J1 A n kk  x0 x1 (g29r1 A (A.ic .lss x0 (A.ish .shl .i64 1 (A.toN (A.ib .mul .i64 8 x1)))) 1 (g29r1 A (A.ic .geq x0 0) 1 x2 x3 x4 x5) (g29r2 A (A.ic .geq x0 0) 1 x2 x3 x4 x5) (g29r3 A (A.ic .geq x0 0) 1 x2 x3 x4 x5) (g29r4 A (A.ic .geq x0 0) 1 x2 x3 x4 x5)) (g29r2 A (A.ic .lss x0 (A.ish .shl .i64 1 (A.toN (A.ib .mul .i64 8 x1)))) 1 (g29r1 A (A.ic .geq x0 0) 1 x2 x3 x4 x5) (g29r2 A (A.ic .geq x0 0) 1 x2 x3 x4 x5) (g29r3 A (A.ic .geq x0 0) 1 x2 x3 x4 x5) (g29r4 A (A.ic .geq x0 0) 1 x2 x3 x4 x5)) (g29r3 A (A.ic .lss x0 (A.ish .shl .i64 1 (A.toN (A.ib .mul .i64 8 x1)))) 1 (g29r1 A (A.ic .geq x0 0) 1 x2 x3 x4 x5) (g29r2 A (A.ic .geq x0 0) 1 x2 x3 x4 x5) (g29r3 A (A.ic .geq x0 0) 1 x2 x3 x4 x5) (g29r4 A (A.ic .geq x0 0) 1 x2 x3 x4 x5)) (g29r4 A (A.ic .lss x0 (A.ish .shl .i64 1 (A.toN (A.ib .mul .i64 8 x1)))) 1 (g29r1 A (A.ic .geq x0 0) 1 x2 x3 x4 x5) (g29r2 A (A.ic .geq x0 0) 1 x2 x3 x4 x5) (g29r3 A (A.ic .geq x0 0) 1 x2 x3 x4 x5) (g29r4 A (A.ic .geq x0 0) 1 x2 x3 x4 x5))
            | false => none
      | false => none
    | false => match (generalizing := false) g29ok A false 1 x2 x3 x4 x5 with
      | true => match (generalizing := false) !(g29r0 A false 1 x2 x3 x4 x5) with
        | true => kk (.tup []) [(0, ⟨[.one (.int .i64 (g29r1 A false 1 x2 x3 x4 x5)), .one (.sl 600 none (g29r2 A false 1 x2 x3 x4 x5) 1)], 56, 1⟩), (600, ⟨[.nums .u8 (g29r3 A false 1 x2 x3 x4 x5) (g29r4 A false 1 x2 x3 x4 x5)], 5, 2⟩)]
        | false => match (generalizing := false) A.neg (A.ib .mul .i64 8 x1) with
          | true => none
          | false => match (generalizing := false) g29ok A (A.ic .lss x0 (A.ish .shl .i64 1 (A.toN (A.ib .mul .i64 8 x1)))) 1 (g29r1 A false 1 x2 x3 x4 x5) (g29r2 A false 1 x2 x3 x4 x5) (g29r3 A false 1 x2 x3 x4 x5) (g29r4 A false 1 x2 x3 x4 x5) with
            | true => match (generalizing := false) !(g29r0 A (A.ic .lss x0 (A.ish .shl .i64 1 (A.toN (A.ib .mul .i64 8 x1)))) 1 (g29r1 A false 1 x2 x3 x4 x5) (g29r2 A false 1 x2 x3 x4 x5) (g29r3 A false 1 x2 x3 x4 x5) (g29r4 A false 1 x2 x3 x4 x5)) with
              | true => kk (.tup []) [(0, ⟨[.one (.int .i64 (g29r1 A (A.ic .lss x0 (A.ish .shl .i64 1 (A.toN (A.ib .mul .i64 8 x1)))) 1 (g29r1 A false 1 x2 x3 x4 x5) (g29r2 A false 1 x2 x3 x4 x5) (g29r3 A false 1 x2 x3 x4 x5) (g29r4 A false 1 x2 x3 x4 x5))), .one (.sl 600 none (g29r2 A (A.ic .lss x0 (A.ish .shl .i64 1 (A.toN (A.ib .mul .i64 8 x1)))) 1 (g29r1 A false 1 x2 x3 x4 x5) (g29r2 A false 1 x2 x3 x4 x5) (g29r3 A false 1 x2 x3 x4 x5) (g29r4 A false 1 x2 x3 x4 x5)) 1)], 56, 1⟩), (600, ⟨[.nums .u8 (g29r3 A (A.ic .lss x0 (A.ish .shl .i64 1 (A.toN (A.ib .mul .i64 8 x1)))) 1 (g29r1 A false 1 x2 x3 x4 x5) (g29r2 A false 1 x2 x3 x4 x5) (g29r3 A false 1 x2 x3 x4 x5) (g29r4 A false 1 x2 x3 x4 x5)) (g29r4 A (A.ic .lss x0 (A.ish .shl .i64 1 (A.toN (A.ib .mul .i64 8 x1)))) 1 (g29r1 A false 1 x2 x3 x4 x5) (g29r2 A false 1 x2 x3 x4 x5) (g29r3 A false 1 x2 x3 x4 x5) (g29r4 A false 1 x2 x3 x4 x5))], 5, 2⟩)]
              | false => g11a_J1 A n kk  x0 x1 (g29r1 A (A.ic .lss x0 (A.ish .shl .i64 1 (A.toN (A.ib .mul .i64 8 x1)))) 1 (g29r1 A false 1 x2 x3 x4 x5) (g29r2 A false 1 x2 x3 x4 x5) (g29r3 A false 1 x2 x3 x4 x5) (g29r4 A false 1 x2 x3 x4 x5)) (g29r2 A (A.ic .lss x0 (A.ish .shl .i64 1 (A.toN (A.ib .mul .i64 8 x1)))) 1 (g29r1 A false 1 x2 x3 x4 x5) (g29r2 A false 1 x2 x3 x4 x5) (g29r3 A false 1 x2 x3 x4 x5) (g29r4 A false 1 x2 x3 x4 x5)) (g29r3 A (A.ic .lss x0 (A.ish .shl .i64 1 (A.toN (A.ib .mul .i64 8 x1)))) 1 (g29r1 A false 1 x2 x3 x4 x5) (g29r2 A false 1 x2 x3 x4 x5) (g29r3 A false 1 x2 x3 x4 x5) (g29r4 A false 1 x2 x3 x4 x5)) (g29r4 A (A.ic .lss x0 (A.ish .shl .i64 1 (A.toN (A.ib .mul .i64 8 x1)))) 1 (g29r1 A false 1 x2 x3 x4 x5) (g29r2 A false 1 x2 x3 x4 x5) (g29r3 A false 1 x2 x3 x4 x5) (g29r4 A false 1 x2 x3 x4 x5))
            | false => none
      | false => none
  | false => match (generalizing := false) g29ok A false 1 x2 x3 x4 x5 with
    | true => match (generalizing := false) !(g29r0 A false 1 x2 x3 x4 x5) with
      | true => kk (.tup []) [(0, ⟨[.one (.int .i64 (g29r1 A false 1 x2 x3 x4 x5)), .one (.sl 600 none (g29r2 A false 1 x2 x3 x4 x5) 1)], 56, 1⟩), (600, ⟨[.nums .u8 (g29r3 A false 1 x2 x3 x4 x5) (g29r4 A false 1 x2 x3 x4 x5)], 5, 2⟩)]
      | false => match (generalizing := false) A.neg (A.ib .mul .i64 8 x1) with
        | true => none
        | false => match (generalizing := false) g29ok A (A.ic .lss x0 (A.ish .shl .i64 1 (A.toN (A.ib .mul .i64 8 x1)))) 1 (g29r1 A false 1 x2 x3 x4 x5) (g29r2 A false 1 x2 x3 x4 x5) (g29r3 A false 1 x2 x3 x4 x5) (g29r4 A false 1 x2 x3 x4 x5) with
          | true => match (generalizing := false) !(g29r0 A (A.ic .lss x0 (A.ish .shl .i64 1 (A.toN (A.ib .mul .i64 8 x1)))) 1 (g29r1 A false 1 x2 x3 x4 x5) (g29r2 A false 1 x2 x3 x4 x5) (g29r3 A false 1 x2 x3 x4 x5) (g29r4 A false 1 x2 x3 x4 x5)) with
            | true => kk (.tup []) [(0, ⟨[.one (.int .i64 (g29r1 A (A.ic .lss x0 (A.ish .shl .i64 1 (A.toN (A.ib .mul .i64 8 x1)))) 1 (g29r1 A false 1 x2 x3 x4 x5) (g29r2 A false 1 x2 x3 x4 x5) (g29r3 A false 1 x2 x3 x4 x5) (g29r4 A false 1 x2 x3 x4 x5))), .one (.sl 600 none (g29r2 A (A.ic .lss x0 (A.ish .shl .i64 1 (A.toN (A.ib .mul .i64 8 x1)))) 1 (g29r1 A false 1 x2 x3 x4 x5) (g29r2 A false 1 x2 x3 x4 x5) (g29r3 A false 1 x2 x3 x4 x5) (g29r4 A false 1 x2 x3 x4 x5)) 1)], 56, 1⟩), (600, ⟨[.nums .u8 (g29r3 A (A.ic .lss x0 (A.ish .shl .i64 1 (A.toN (A.ib .mul .i64 8 x1)))) 1 (g29r1 A false 1 x2 x3 x4 x5) (g29r2 A false 1 x2 x3 x4 x5) (g29r3 A false 1 x2 x3 x4 x5) (g29r4 A false 1 x2 x3 x4 x5)) (g29r4 A (A.ic .lss x0 (A.ish .shl .i64 1 (A.toN (A.ib .mul .i64 8 x1)))) 1 (g29r1 A false 1 x2 x3 x4 x5) (g29r2 A false 1 x2 x3 x4 x5) (g29r3 A false 1 x2 x3 x4 x5) (g29r4 A false 1 x2 x3 x4 x5))], 5, 2⟩)]
            | false => g11a_J1 A n kk  x0 x1 (g29r1 A (A.ic .lss x0 (A.ish .shl .i64 1 (A.toN (A.ib .mul .i64 8 x1)))) 1 (g29r1 A false 1 x2 x3 x4 x5) (g29r2 A false 1 x2 x3 x4 x5) (g29r3 A false 1 x2 x3 x4 x5) (g29r4 A false 1 x2 x3 x4 x5)) (g29r2 A (A.ic .lss x0 (A.ish .shl .i64 1 (A.toN (A.ib .mul .i64 8 x1)))) 1 (g29r1 A false 1 x2 x3 x4 x5) (g29r2 A false 1 x2 x3 x4 x5) (g29r3 A false 1 x2 x3 x4 x5) (g29r4 A false 1 x2 x3 x4 x5)) (g29r3 A (A.ic .lss x0 (A.ish .shl .i64 1 (A.toN (A.ib .mul .i64 8 x1)))) 1 (g29r1 A false 1 x2 x3 x4 x5) (g29r2 A false 1 x2 x3 x4 x5) (g29r3 A false 1 x2 x3 x4 x5) (g29r4 A false 1 x2 x3 x4 x5)) (g29r4 A (A.ic .lss x0 (A.ish .shl .i64 1 (A.toN (A.ib .mul .i64 8 x1)))) 1 (g29r1 A false 1 x2 x3 x4 x5) (g29r2 A false 1 x2 x3 x4 x5) (g29r3 A false 1 x2 x3 x4 x5) (g29r4 A false 1 x2 x3 x4 x5))
          | false => none
    | false => none
set_option maxRecDepth 100000 in
theorem g11a__eq {R : Type} (A : Ar) (n : Nat) (kk : AV → Heap → Option R) (x0 x1 x2 : Int) (x3 x4 : Nat) (x5 : List Nat) :
    funD A gtys (g11a_O A) g11a_an n (bodyOf Try.f11) g11a_res [(pT 0 0), (i6 x0), (i6 x1)] [(0, ⟨[.one (.int .i64 x2), .one (.sl 600 none x3 1)], 56, 1⟩), (600, ⟨[.nums .u8 x4 x5], 5, 2⟩)] kk = g11a_ A n kk x0 x1 x2 x3 x4 x5 := by
  have h1 : (g11a_T kk) .ret (g11a_R0s0 A x0 x1 x2 x3 x4 x5) = kk (.tup []) [(0, ⟨[.one (.int .i64 (g29r1 A (A.ic .geq x0 0) 1 x2 x3 x4 x5)), .one (.sl 600 none (g29r2 A (A.ic .geq x0 0) 1 x2 x3 x4 x5) 1)], 56, 1⟩), (600, ⟨[.nums .u8 (g29r3 A (A.ic .geq x0 0) 1 x2 x3 x4 x5) (g29r4 A (A.ic .geq x0 0) 1 x2 x3 x4 x5)], 5, 2⟩)] := by kernel_rfl
  have h2 := (g11a_Qr A n (pth 3) _ _).trans h1
  have h3 := (g11a_p10 A n _ _).trans h2
  have h4 := (g11a_p6 A n (g11a_Q A n (pth 3) (g11a_T kk)) (g11a_R0s0 A x0 x1 x2 x3 x4 x5) true (by kernel_rfl)).trans h3
  have h5 := (g11a_Qn A n _ _ _).trans h4
  have h6 : (g11a_T kk) .ret (g11a_R0s1 A x0 x1 x2 x3 x4 x5) = kk (.tup []) [(0, ⟨[.one (.int .i64 (g29r1 A (A.ic .lss x0 (A.ish .shl .i64 1 (A.toN (A.ib .mul .i64 8 x1)))) 1 (g29r1 A (A.ic .geq x0 0) 1 x2 x3 x4 x5) (g29r2 A (A.ic .geq x0 0) 1 x2 x3 x4 x5) (g29r3 A (A.ic .geq x0 0) 1 x2 x3 x4 x5) (g29r4 A (A.ic .geq x0 0) 1 x2 x3 x4 x5))), .one (.sl 600 none (g29r2 A (A.ic .lss x0 (A.ish .shl .i64 1 (A.toN (A.ib .mul .i64 8 x1)))) 1 (g29r1 A (A.ic .geq x0 0) 1 x2 x3 x4 x5) (g29r2 A (A.ic .geq x0 0) 1 x2 x3 x4 x5) (g29r3 A (A.ic .geq x0 0) 1 x2 x3 x4 x5) (g29r4 A (A.ic .geq x0 0) 1 x2 x3 x4 x5)) 1)], 56, 1⟩), (600, ⟨[.nums .u8 (g29r3 A (A.ic .lss x0 (A.ish .shl .i64 1 (A.toN (A.ib .mul .i64 8 x1)))) 1 (g29r1 A (A.ic .geq x0 0) 1 x2 x3 x4 x5) (g29r2 A (A.ic .geq x0 0) 1 x2 x3 x4 x5) (g29r3 A (A.ic .geq x0 0) 1 x2 x3 x4 x5) (g29r4 A (A.ic .geq x0 0) 1 x2 x3 x4 x5)) (g29r4 A (A.ic .lss x0 (A.ish .shl .i64 1 (A.toN (A.ib .mul .i64 8 x1)))) 1 (g29r1 A (A.ic .geq x0 0) 1 x2 x3 x4 x5) (g29r2 A (A.ic .geq x0 0) 1 x2 x3 x4 x5) (g29r3 A (A.ic .geq x0 0) 1 x2 x3 x4 x5) (g29r4 A (A.ic .geq x0 0) 1 x2 x3 x4 x5))], 5, 2⟩)] := by kernel_rfl
  have h7 := (g11a_Qr A n (pth 3) _ _).trans h6
  have h8 := (g11a_p10 A n _ _).trans h7
  have h9 := (g11a_Qn A n _ _ _).trans (g11a_J1_eq A n kk     (g11a_R0s1 A x0 x1 x2 x3 x4 x5) x0 x1 (g29r1 A (A.ic .lss x0 (A.ish .shl .i64 1 (A.toN (A.ib .mul .i64 8 x1)))) 1 (g29r1 A (A.ic .geq x0 0) 1 x2 x3 x4 x5) (g29r2 A (A.ic .geq x0 0) 1 x2 x3 x4 x5) (g29r3 A (A.ic .geq x0 0) 1 x2 x3 x4 x5) (g29r4 A (A.ic .geq x0 0) 1 x2 x3 x4 x5)) (g29r2 A (A.ic .lss x0 (A.ish .shl .i64 1 (A.toN (A.ib .mul .i64 8 x1)))) 1 (g29r1 A (A.ic .geq x0 0) 1 x2 x3 x4 x5) (g29r2 A (A.ic .geq x0 0) 1 x2 x3 x4 x5) (g29r3 A (A.ic .geq x0 0) 1 x2 x3 x4 x5) (g29r4 A (A.ic .geq x0 0) 1 x2 x3 x4 x5)) (g29r3 A (A.ic .lss x0 (A.ish .shl .i64 1 (A.toN (A.ib .mul .i64 8 x1)))) 1 (g29r1 A (A.ic .geq x0 0) 1 x2 x3 x4 x5) (g29r2 A (A.ic .geq x0 0) 1 x2 x3 x4 x5) (g29r3 A (A.ic .geq x0 0) 1 x2 x3 x4 x5) (g29r4 A (A.ic .geq x0 0) 1 x2 x3 x4 x5)) (g29r4 A (A.ic .lss x0 (A.ish .shl .i64 1 (A.toN (A.ib .mul .i64 8 x1)))) 1 (g29r1 A (A.ic .geq x0 0) 1 x2 x3 x4 x5) (g29r2 A (A.ic .geq x0 0) 1 x2 x3 x4 x5) (g29r3 A (A.ic .geq x0 0) 1 x2 x3 x4 x5) (g29r4 A (A.ic .geq x0 0) 1 x2 x3 x4 x5)) (by kernel_rfl))
  have h10 := (g11a_p14 A n _ _).trans h9
  have h11 := g11a_p6 A n (g11a_Q A n (pth 3) (g11a_T kk)) (g11a_R0s1 A x0 x1 x2 x3 x4 x5) (!(g29r0 A (A.ic .lss x0 (A.ish .shl .i64 1 (A.toN (A.ib .mul .i64 8 x1)))) 1 (g29r1 A (A.ic .geq x0 0) 1 x2 x3 x4 x5) (g29r2 A (A.ic .geq x0 0) 1 x2 x3 x4 x5) (g29r3 A (A.ic .geq x0 0) 1 x2 x3 x4 x5) (g29r4 A (A.ic .geq x0 0) 1 x2 x3 x4 x5))) (by kernel_rfl)
  rw [h8, h10] at h11
  have h12 := (g11a_Qn A n _ _ _).trans h11
  have h13 : (g11a_T kk) .ret (g11a_R0s2 A x0 x1 x2 x3 x4 x5) = kk (.tup []) [(0, ⟨[.one (.int .i64 (g29r1 A false 1 x2 x3 x4 x5)), .one (.sl 600 none (g29r2 A false 1 x2 x3 x4 x5) 1)], 56, 1⟩), (600, ⟨[.nums .u8 (g29r3 A false 1 x2 x3 x4 x5) (g29r4 A false 1 x2 x3 x4 x5)], 5, 2⟩)] := by kernel_rfl
  have h14 := (g11a_Qr A n (pth 3) _ _).trans h13
  have h15 := (g11a_p10 A n _ _).trans h14
  have h16 := (g11a_p6 A n (g11a_Q A n (pth 3) (g11a_T kk)) (g11a_R0s2 A x0 x1 x2 x3 x4 x5) true (by kernel_rfl)).trans h15
  have h17 := (g11a_Qn A n _ _ _).trans h16
  have h18 : (g11a_T kk) .ret (g11a_R0s3 A x0 x1 x2 x3 x4 x5) = kk (.tup []) [(0, ⟨[.one (.int .i64 (g29r1 A (A.ic .lss x0 (A.ish .shl .i64 1 (A.toN (A.ib .mul .i64 8 x1)))) 1 (g29r1 A false 1 x2 x3 x4 x5) (g29r2 A false 1 x2 x3 x4 x5) (g29r3 A false 1 x2 x3 x4 x5) (g29r4 A false 1 x2 x3 x4 x5))), .one (.sl 600 none (g29r2 A (A.ic .lss x0 (A.ish .shl .i64 1 (A.toN (A.ib .mul .i64 8 x1)))) 1 (g29r1 A false 1 x2 x3 x4 x5) (g29r2 A false 1 x2 x3 x4 x5) (g29r3 A false 1 x2 x3 x4 x5) (g29r4 A false 1 x2 x3 x4 x5)) 1)], 56, 1⟩), (600, ⟨[.nums .u8 (g29r3 A (A.ic .lss x0 (A.ish .shl .i64 1 (A.toN (A.ib .mul .i64 8 x1)))) 1 (g29r1 A false 1 x2 x3 x4 x5) (g29r2 A false 1 x2 x3 x4 x5) (g29r3 A false 1 x2 x3 x4 x5) (g29r4 A false 1 x2 x3 x4 x5)) (g29r4 A (A.ic .lss x0 (A.ish .shl .i64 1 (A.toN (A.ib .mul .i64 8 x1)))) 1 (g29r1 A false 1 x2 x3 x4 x5) (g29r2 A false 1 x2 x3 x4 x5) (g29r3 A false 1 x2 x3 x4 x5) (g29r4 A false 1 x2 x3 x4 x5))], 5, 2⟩)] := by kernel_rfl
  have h19 := (g11a_Qr A n (pth 3) _ _).trans h18
  have h20 := (g11a_p10 A n _ _).trans h19
  have h21 := (g11a_Qn A n _ _ _).trans (g11a_J1_eq A n kk     (g11a_R0s3 A x0 x1 x2 x3 x4 x5) x0 x1 (g29r1 A (A.ic .lss x0 (A.ish .shl .i64 1 (A.toN (A.ib .mul .i64 8 x1)))) 1 (g29r1 A false 1 x2 x3 x4 x5) (g29r2 A false 1 x2 x3 x4 x5) (g29r3 A false 1 x2 x3 x4 x5) (g29r4 A false 1 x2 x3 x4 x5)) (g29r2 A (A.ic .lss x0 (A.ish .shl .i64 1 (A.toN (A.ib .mul .i64 8 x1)))) 1 (g29r1 A false 1 x2 x3 x4 x5) (g29r2 A false 1 x2 x3 x4 x5) (g29r3 A false 1 x2 x3 x4 x5) (g29r4 A false 1 x2 x3 x4 x5)) (g29r3 A (A.ic .lss x0 (A.ish .shl .i64 1 (A.toN (A.ib .mul .i64 8 x1)))) 1 (g29r1 A false 1 x2 x3 x4 x5) (g29r2 A false 1 x2 x3 x4 x5) (g29r3 A false 1 x2 x3 x4 x5) (g29r4 A false 1 x2 x3 x4 x5)) (g29r4 A (A.ic .lss x0 (A.ish .shl .i64 1 (A.toN (A.ib .mul .i64 8 x1)))) 1 (g29r1 A false 1 x2 x3 x4 x5) (g29r2 A false 1 x2 x3 x4 x5) (g29r3 A false 1 x2 x3 x4 x5) (g29r4 A false 1 x2 x3 x4 x5)) (by kernel_rfl))
  have h22 := (g11a_p14 A n _ _).trans h21
  have h23 := g11a_p6 A n (g11a_Q A n (pth 3) (g11a_T kk)) (g11a_R0s3 A x0 x1 x2 x3 x4 x5) (!(g29r0 A (A.ic .lss x0 (A.ish .shl .i64 1 (A.toN (A.ib .mul .i64 8 x1)))) 1 (g29r1 A false 1 x2 x3 x4 x5) (g29r2 A false 1 x2 x3 x4 x5) (g29r3 A false 1 x2 x3 x4 x5) (g29r4 A false 1 x2 x3 x4 x5))) (by kernel_rfl)
  rw [h20, h22] at h23
  have h24 := (g11a_Qn A n _ _ _).trans h23
  have h25 : (g11a_T kk) .ret (g11a_R0s4 A x0 x1 x2 x3 x4 x5) = kk (.tup []) [(0, ⟨[.one (.int .i64 (g29r1 A false 1 x2 x3 x4 x5)), .one (.sl 600 none (g29r2 A false 1 x2 x3 x4 x5) 1)], 56, 1⟩), (600, ⟨[.nums .u8 (g29r3 A false 1 x2 x3 x4 x5) (g29r4 A false 1 x2 x3 x4 x5)], 5, 2⟩)] := by kernel_rfl
  have h26 := (g11a_Qr A n (pth 3) _ _).trans h25
  have h27 := (g11a_p10 A n _ _).trans h26
  have h28 := (g11a_p6 A n (g11a_Q A n (pth 3) (g11a_T kk)) (g11a_R0s4 A x0 x1 x2 x3 x4 x5) true (by kernel_rfl)).trans h27
  have h29 := (g11a_Qn A n _ _ _).trans h28
  have h30 : (g11a_T kk) .ret (g11a_R0s5 A x0 x1 x2 x3 x4 x5) = kk (.tup []) [(0, ⟨[.one (.int .i64 (g29r1 A (A.ic .lss x0 (A.ish .shl .i64 1 (A.toN (A.ib .mul .i64 8 x1)))) 1 (g29r1 A false 1 x2 x3 x4 x5) (g29r2 A false 1 x2 x3 x4 x5) (g29r3 A false 1 x2 x3 x4 x5) (g29r4 A false 1 x2 x3 x4 x5))), .one (.sl 600 none (g29r2 A (A.ic .lss x0 (A.ish .shl .i64 1 (A.toN (A.ib .mul .i64 8 x1)))) 1 (g29r1 A false 1 x2 x3 x4 x5) (g29r2 A false 1 x2 x3 x4 x5) (g29r3 A false 1 x2 x3 x4 x5) (g29r4 A false 1 x2 x3 x4 x5)) 1)], 56, 1⟩), (600, ⟨[.nums .u8 (g29r3 A (A.ic .lss x0 (A.ish .shl .i64 1 (A.toN (A.ib .mul .i64 8 x1)))) 1 (g29r1 A false 1 x2 x3 x4 x5) (g29r2 A false 1 x2 x3 x4 x5) (g29r3 A false 1 x2 x3 x4 x5) (g29r4 A false 1 x2 x3 x4 x5)) (g29r4 A (A.ic .lss x0 (A.ish .shl .i64 1 (A.toN (A.ib .mul .i64 8 x1)))) 1 (g29r1 A false 1 x2 x3 x4 x5) (g29r2 A false 1 x2 x3 x4 x5) (g29r3 A false 1 x2 x3 x4 x5) (g29r4 A false 1 x2 x3 x4 x5))], 5, 2⟩)] := by kernel_rfl
  have h31 := (g11a_Qr A n (pth 3) _ _).trans h30
  have h32 := (g11a_p10 A n _ _).trans h31
  have h33 := (g11a_Qn A n _ _ _).trans (g11a_J1_eq A n kk     (g11a_R0s5 A x0 x1 x2 x3 x4 x5) x0 x1 (g29r1 A (A.ic .lss x0 (A.ish .shl .i64 1 (A.toN (A.ib .mul .i64 8 x1)))) 1 (g29r1 A false 1 x2 x3 x4 x5) (g29r2 A false 1 x2 x3 x4 x5) (g29r3 A false 1 x2 x3 x4 x5) (g29r4 A false 1 x2 x3 x4 x5)) (g29r2 A (A.ic .lss x0 (A.ish .shl .i64 1 (A.toN (A.ib .mul .i64 8 x1)))) 1 (g29r1 A false 1 x2 x3 x4 x5) (g29r2 A false 1 x2 x3 x4 x5) (g29r3 A false 1 x2 x3 x4 x5) (g29r4 A false 1 x2 x3 x4 x5)) (g29r3 A (A.ic .lss x0 (A.ish .shl .i64 1 (A.toN (A.ib .mul .i64 8 x1)))) 1 (g29r1 A false 1 x2 x3 x4 x5) (g29r2 A false 1 x2 x3 x4 x5) (g29r3 A false 1 x2 x3 x4 x5) (g29r4 A false 1 x2 x3 x4 x5)) (g29r4 A (A.ic .lss x0 (A.ish .shl .i64 1 (A.toN (A.ib .mul .i64 8 x1)))) 1 (g29r1 A false 1 x2 x3 x4 x5) (g29r2 A false 1 x2 x3 x4 x5) (g29r3 A false 1 x2 x3 x4 x5) (g29r4 A false 1 x2 x3 x4 x5)) (by kernel_rfl))
  have h34 := (g11a_p14 A n _ _).trans h33
  have h35 := g11a_p6 A n (g11a_Q A n (pth 3) (g11a_T kk)) (g11a_R0s5 A x0 x1 x2 x3 x4 x5) (!(g29r0 A (A.ic .lss x0 (A.ish .shl .i64 1 (A.toN (A.ib .mul .i64 8 x1)))) 1 (g29r1 A false 1 x2 x3 x4 x5) (g29r2 A false 1 x2 x3 x4 x5) (g29r3 A false 1 x2 x3 x4 x5) (g29r4 A false 1 x2 x3 x4 x5))) (by kernel_rfl)
  rw [h32, h34] at h35
  have h36 := (g11a_Qn A n _ _ _).trans h35
  have h37 := (g11a_F A n _ 0 _ ⟨[(0, (pT 0 0)), (1, (i6 x0)), (2, (i6 x1))], [(0, ⟨[.one (.int .i64 x2), .one (.sl 600 none x3 1)], 56, 1⟩), (600, ⟨[.nums .u8 x4 x5], 5, 2⟩)]⟩ _ (by kernel_rfl) (by kernel_rfl)).trans (g11a_R0 A n (g11a_Q A n (pth 6) (g11a_Q A n (pth 3) (g11a_T kk))) x0 x1 x2 x3 x4 x5)
  rw [h5, h12, h17, h24, h29, h36] at h37
  have h38 := (g11a_p2 A n _ _).trans h37
  have h39 := (g11a_p1 A n _ _).trans h38
  exact (show funD A gtys (g11a_O A) g11a_an n (bodyOf Try.f11) g11a_res [(pT 0 0), (i6 x0), (i6 x1)] [(0, ⟨[.one (.int .i64 x2), .one (.sl 600 none x3 1)], 56, 1⟩), (600, ⟨[.nums .u8 x4 x5], 5, 2⟩)] kk = g11a_D A n (pth 1) (g11a_T kk) ⟨[(0, (pT 0 0)), (1, (i6 x0)), (2, (i6 x1))], [(0, ⟨[.one (.int .i64 x2), .one (.sl 600 none x3 1)], 56, 1⟩), (600, ⟨[.nums .u8 x4 x5], 5, 2⟩)]⟩ from by kernel_rfl).trans (h39.trans (by kernel_rfl))
def g11a_is (o : Option (AV × Heap)) : Bool := match o with
  | some (.tup [], [(n0, ⟨[.one (.int .i64 _), .one (.sl n1 none _ n2)], n3, n4⟩), (n5, ⟨[.nums .u8 _ _], n6, n7⟩)]) => Nat.beq n0 0 && (Nat.beq n1 600 && (Nat.beq n2 1 && (Nat.beq n3 56 && (Nat.beq n4 1 && (Nat.beq n5 600 && (Nat.beq n6 5 && (Nat.beq n7 2)))))))
  | _ => false
def g11a_g0 (o : Option (AV × Heap)) : Int := match o with
  | some (.tup [], [(_, ⟨[.one (.int .i64 x), .one (.sl _ none _ _)], _, _⟩), (_, ⟨[.nums .u8 _ _], _, _⟩)]) => x
  | _ => 0
def g11a_g1 (o : Option (AV × Heap)) : Nat := match o with
  | some (.tup [], [(_, ⟨[.one (.int .i64 _), .one (.sl _ none x _)], _, _⟩), (_, ⟨[.nums .u8 _ _], _, _⟩)]) => x
  | _ => 0
def g11a_g2 (o : Option (AV × Heap)) : Nat := match o with
  | some (.tup [], [(_, ⟨[.one (.int .i64 _), .one (.sl _ none _ _)], _, _⟩), (_, ⟨[.nums .u8 x _], _, _⟩)]) => x
  | _ => 0
def g11a_g3 (o : Option (AV × Heap)) : List Nat := match o with
  | some (.tup [], [(_, ⟨[.one (.int .i64 _), .one (.sl _ none _ _)], _, _⟩), (_, ⟨[.nums .u8 _ x], _, _⟩)]) => x
  | _ => []
theorem g11a_is_spec {o : Option (AV × Heap)} (h : g11a_is o = true) : o = some ((.tup []), [(0, ⟨[.one (.int .i64 (g11a_g0 o)), .one (.sl 600 none (g11a_g1 o) 1)], 56, 1⟩), (600, ⟨[.nums .u8 (g11a_g2 o) (g11a_g3 o)], 5, 2⟩)]) := by
  unfold g11a_is at h
  split at h
  · rename_i n0 z1 n1 z3 n2 n3 n4 n5 z8 z9 n6 n7
    simp only [Bool.and_eq_true] at h
    have en0 := beq_true h.1
    subst en0
    replace h := h.2
    have en1 := beq_true h.1
    subst en1
    replace h := h.2
    have en2 := beq_true h.1
    subst en2
    replace h := h.2
    have en3 := beq_true h.1
    subst en3
    replace h := h.2
    have en4 := beq_true h.1
    subst en4
    replace h := h.2
    have en5 := beq_true h.1
    subst en5
    replace h := h.2
    have en6 := beq_true h.1
    subst en6
    replace h := h.2
    have en7 := beq_true h
    subst en7
    rfl
  · cases h
def g11a_v (A : Ar) (x0 x1 x2 : Int) (x3 x4 : Nat) (x5 : List Nat) : Option (AV × Heap) := g11a_ A (100000) (outH [0, 600] none) x0 x1 x2 x3 x4 x5
def g11a_ok (A : Ar) (x0 x1 x2 : Int) (x3 x4 : Nat) (x5 : List Nat) : Bool := g11a_is (g11a_v A x0 x1 x2 x3 x4 x5)
def g11a_r0 (A : Ar) (x0 x1 x2 : Int) (x3 x4 : Nat) (x5 : List Nat) : Int := g11a_g0 (g11a_v A x0 x1 x2 x3 x4 x5)
def g11a_r1 (A : Ar) (x0 x1 x2 : Int) (x3 x4 : Nat) (x5 : List Nat) : Nat := g11a_g1 (g11a_v A x0 x1 x2 x3 x4 x5)
def g11a_r2 (A : Ar) (x0 x1 x2 : Int) (x3 x4 : Nat) (x5 : List Nat) : Nat := g11a_g2 (g11a_v A x0 x1 x2 x3 x4 x5)
def g11a_r3 (A : Ar) (x0 x1 x2 : Int) (x3 x4 : Nat) (x5 : List Nat) : List Nat := g11a_g3 (g11a_v A x0 x1 x2 x3 x4 x5)
theorem g11a_ok_spec {A : Ar} {x0 x1 x2 x3 x4 x5} (h : g11a_ok A x0 x1 x2 x3 x4 x5 = true) : g11a_v A x0 x1 x2 x3 x4 x5 = some ((.tup []), [(0, ⟨[.one (.int .i64 (g11a_r0 A x0 x1 x2 x3 x4 x5)), .one (.sl 600 none (g11a_r1 A x0 x1 x2 x3 x4 x5) 1)], 56, 1⟩), (600, ⟨[.nums .u8 (g11a_r2 A x0 x1 x2 x3 x4 x5) (g11a_r3 A x0 x1 x2 x3 x4 x5)], 5, 2⟩)]) := g11a_is_spec h
def g11a_o (A : Ar) (args : List AV) (h : Heap) : Option (Bool × AV × Heap) := match args, h with
  | [.v (.cell (.ptr n0 n1 none)), .v (.cell (.int .i64 x0)), .v (.cell (.int .i64 x1))], [(n2, ⟨[.one (.int .i64 x2), .one (.sl n3 none x3 n4)], n5, n6⟩), (n7, ⟨[.nums .u8 x4 x5], n8, n9⟩)] => match Nat.beq n0 0 && (Nat.beq n1 0 && (Nat.beq n2 0 && (Nat.beq n3 600 && (Nat.beq n4 1 && (Nat.beq n5 56 && (Nat.beq n6 1 && (Nat.beq n7 600 && (Nat.beq n8 5 && (Nat.beq n9 2))))))))) with
    | true => some (g11a_ok A x0 x1 x2 x3 x4 x5, (.tup []), [(0, ⟨[.one (.int .i64 (g11a_r0 A x0 x1 x2 x3 x4 x5)), .one (.sl 600 none (g11a_r1 A x0 x1 x2 x3 x4 x5) 1)], 56, 1⟩), (600, ⟨[.nums .u8 (g11a_r2 A x0 x1 x2 x3 x4 x5) (g11a_r3 A x0 x1 x2 x3 x4 x5)], 5, 2⟩)])
    | false => none
  | _, _ => none
theorem g11a_o_sound : ∀ args h v h', g11a_o realA args h = some (true, v, h') → FnH Try.prog 11 args h v h' := by
  intro args h v h' hh
  unfold g11a_o at hh
  split at hh
  · rename_i n0 n1 x0 x1 n2 x2 n3 x3 n4 n5 n6 n7 x4 x5 n8 n9
    split at hh
    case h_2 => cases hh
    rename_i hc0
    simp only [Option.some.injEq, Prod.mk.injEq] at hh
    obtain ⟨hc, hv, hh⟩ := hh
    subst hv
    subst hh
    simp only [Bool.and_eq_true] at hc0
    have en0 := beq_true hc0.1
    subst en0
    replace hc0 := hc0.2
    have en1 := beq_true hc0.1
    subst en1
    replace hc0 := hc0.2
    have en2 := beq_true hc0.1
    subst en2
    replace hc0 := hc0.2
    have en3 := beq_true hc0.1
    subst en3
    replace hc0 := hc0.2
    have en4 := beq_true hc0.1
    subst en4
    replace hc0 := hc0.2
    have en5 := beq_true hc0.1
    subst en5
    replace hc0 := hc0.2
    have en6 := beq_true hc0.1
    subst en6
    replace hc0 := hc0.2
    have en7 := beq_true hc0.1
    subst en7
    replace hc0 := hc0.2
    have en8 := beq_true hc0.1
    subst en8
    replace hc0 := hc0.2
    have en9 := beq_true hc0
    subst en9
    exact fnh_of mixed gtysOK g11a_O_sound g11a_O_det (an := g11a_an) (n := 100000) Try.func11 (c := bodyOf Try.f11) rfl (by kernel_rfl) Try.call11 (Nat.le_of_ble_eq_true rfl) (pins := [0, 600]) (nilr := none) (fun _ => (g11a__eq realA (100000) (outH [0, 600] none) x0 x1 x2 x3 x4 x5).trans (show g11a_v realA x0 x1 x2 x3 x4 x5 = _ from g11a_ok_spec hc))
  · cases hh
/- engrosser/engrosserlaw13.WireOrder -/
def g7O (A : Ar) : Orc := orcH [(8, g8o A)] [(9, ⟨[], none, (g9o A)⟩), (11, ⟨[0, 1], (some (0, 1, 1, ⟨[.nums .u8 0 []], 5, 2⟩)), (ho2 (g11o A) (g11a_o A))⟩), (17, ⟨[0, 1], none, (g17o A)⟩)]
theorem g7O_sound : OSound Try.prog (g7O realA) := orcH_sound (fun f g hm args v hv => by
    simp only [List.mem_cons, List.not_mem_nil, or_false, Prod.mk.injEq] at hm
    rcases hm with ⟨rfl, rfl⟩
    · exact g8o_sound _ _ hv) (fun f e hm args h v h' hv => by
    simp only [List.mem_cons, List.not_mem_nil, or_false, Prod.mk.injEq] at hm
    rcases hm with ⟨rfl, rfl⟩ | ⟨rfl, rfl⟩ | ⟨rfl, rfl⟩
    · exact g9o_sound _ _ _ _ hv
    · exact (ho2_sound g11o_sound g11a_o_sound) _ _ _ _ hv
    · exact g17o_sound _ _ _ _ hv)
theorem g7O_det : ODet (g7O realA) := orcH_det _ _
def g7an : Ann := [(0, ([0, 1, 2], [])), (1, ([0, 1, 2], [])), (2, ([0, 1, 2, 7], [])), (3, ([], [])), (4, ([0, 1, 2, 7], [])), (5, ([0, 1, 7, 8], [])), (6, ([0, 1, 7, 8, 9], [6000])), (7, ([0, 1, 7, 8, 9, 10], [6000, 7000])), (8, ([], [])), (9, ([0, 1, 7, 8, 9, 10], [6000, 7000])), (10, ([0, 1, 7, 8, 9, 10], [6000, 7000, 10004])), (11, ([0, 1, 7, 8, 9, 10], [6000, 7000, 10004, 11004])), (12, ([0, 1, 7, 8, 10, 11, 12], [7000, 11004])), (13, ([0, 1, 7, 8, 11, 12, 13, 14], []))]
def g7res : List ResultVar := [.tmp 6]
noncomputable def g7D {R : Type} (A : Ar) (n : Nat) (p : List Bool) (K : Ex → St → Option R) (s : St) : Option R := codeD A gtys (g7O A) g7an n (sub (bodyOf Try.f7) p) K s
noncomputable def g7Q {R : Type} (A : Ar) (n : Nat) (p : List Bool) (K : Ex → St → Option R) : Ex → St → Option R := seqC (g7D A n p K) K
noncomputable def g7T {R : Type} (kk : AV → Heap → Option R) : Ex → St → Option R := finD gtys g7res kk
theorem g7Qn {R : Type} (A : Ar) (n : Nat) (p : List Bool) (K : Ex → St → Option R) (s : St) : g7Q A n p K .normal s = g7D A n p K s := rfl
theorem g7Qr {R : Type} (A : Ar) (n : Nat) (p : List Bool) (K : Ex → St → Option R) (s : St) : g7Q A n p K .ret s = K .ret s := rfl
theorem g7F {R : Type} (A : Ar) (n : Nat) (p : List Bool) (i : Nat) (K : Ex → St → Option R) (s s' : St) (hf : firstReg (sub (bodyOf Try.f7) p) = some i) (h : keep g7an i s = keep g7an i s') : g7D A n p K s = g7D A n p K s' := codeD_first hf h K
section
variable {R : Type} (A : Ar) (n : Nat) (K : Ex → St → Option R) (s : St)
theorem g7p1 : g7D A n (pth 1) K s = g7D A n (pth 2) (g7Q A n (pth 3) K) s := by kernel_rfl
theorem g7p3 : g7D A n (pth 3) K s = g7D A n (pth 5) (g7Q A n (pth 7) K) s := by kernel_rfl
theorem g7p7 : g7D A n (pth 7) K s = g7D A n (pth 11) (g7Q A n (pth 15) K) s := by kernel_rfl
theorem g7p11 : g7D A n (pth 11) K s = g7D A n (pth 19) (g7Q A n (pth 27) K) s := by kernel_rfl
theorem g7p27 (t : Bool) : ev s (.tmp 17) = some (.v (.cell (.bool t))) → g7D A n (pth 27) K s = (match t with
    | true => g7D A n (pth 43) K s
    | false => g7D A n (pth 59) K s) := codeD_cond t
theorem g7p43 : g7D A n (pth 43) K s = g7D A n (pth 75) (g7Q A n (pth 107) K) s := by kernel_rfl
theorem g7p107 : g7D A n (pth 107) K s = K .ret s := by kernel_rfl
theorem g7p59 : g7D A n (pth 59) K s = K .normal s := by kernel_rfl
theorem g7p15 : g7D A n (pth 15) K s = g7D A n (pth 23) (g7Q A n (pth 31) K) s := by kernel_rfl
theorem g7p31 : g7D A n (pth 31) K s = g7D A n (pth 47) (g7Q A n (pth 63) K) s := by kernel_rfl
theorem g7p63 : g7D A n (pth 63) K s = g7D A n (pth 95) (g7Q A n (pth 127) K) s := by kernel_rfl
theorem g7p127 : g7D A n (pth 127) K s = g7D A n (pth 191) (g7Q A n (pth 255) K) s := by kernel_rfl
theorem g7p191 : g7D A n (pth 191) K s = g7D A n (pth 319) (g7Q A n (pth 447) K) s := by kernel_rfl
theorem g7p447 (t : Bool) : ev s (.tmp 29) = some (.v (.cell (.bool t))) → g7D A n (pth 447) K s = (match t with
    | true => g7D A n (pth 703) K s
    | false => g7D A n (pth 959) K s) := codeD_cond t
theorem g7p959 : g7D A n (pth 959) K s = K .normal s := by kernel_rfl
theorem g7p255 : g7D A n (pth 255) K s = g7D A n (pth 383) (g7Q A n (pth 511) K) s := by kernel_rfl
theorem g7p511 : g7D A n (pth 511) K s = g7D A n (pth 767) (g7Q A n (pth 1023) K) s := by kernel_rfl
theorem g7p1023 : g7D A n (pth 1023) K s = g7D A n (pth 1535) (g7Q A n (pth 2047) K) s := by kernel_rfl
theorem g7p2047 : g7D A n (pth 2047) K s = g7D A n (pth 3071) (g7Q A n (pth 4095) K) s := by kernel_rfl
theorem g7p4095 : g7D A n (pth 4095) K s = g7D A n (pth 6143) (g7Q A n (pth 8191) K) s := by kernel_rfl
theorem g7p8191 : g7D A n (pth 8191) K s = K .ret s := by kernel_rfl
def g7R9s0 (A : Ar) (x0 x1 : Nat) (x2 : Bool) (x3 x4 x5 : Int) : St := ⟨[(34, (.tup [])), (33, (i6 x3)), (32, (i6 (A.ofN x0))), (31, (u32v x0)), (30, (pT 6000 0)), (0, (u32v x0)), (1, (u32v x1)), (7, (bO x2)), (8, (i6 x3)), (9, (pT 6000 0)), (10, (pT 7000 0))], [(10004, ⟨[.nums .u8 (g11a_r2 A (A.ofN x0) x3 x4 0 0 []) (g11a_r3 A (A.ofN x0) x3 x4 0 0 [])], 5, 2⟩), (6000, ⟨[.one (.int .i64 (g11a_r0 A (A.ofN x0) x3 x4 0 0 [])), .one (.sl 10004 none (g11a_r1 A (A.ofN x0) x3 x4 0 0 []) 1)], 56, 1⟩), (7000, ⟨[.one (.int .i64 x5), .one .nils], 56, 1⟩)]⟩
theorem g7R9 (x0 x1 : Nat) (x2 : Bool) (x3 x4 x5 : Int) : g7D A n (pth 383) K ⟨[(0, (u32v x0)), (1, (u32v x1)), (7, (bO x2)), (8, (i6 x3)), (9, (pT 6000 0)), (10, (pT 7000 0))], [(6000, ⟨[.one (.int .i64 x4), .one .nils], 56, 1⟩), (7000, ⟨[.one (.int .i64 x5), .one .nils], 56, 1⟩)]⟩ = match (generalizing := false) g11a_ok A (A.ofN x0) x3 x4 0 0 [] with
    | true => K .normal (g7R9s0 A x0 x1 x2 x3 x4 x5)
    | false => none := by kernel_rfl
def g7R10s0 (A : Ar) (x0 x1 : Nat) (x2 : Bool) (x3 x4 : Int) (x5 : Nat) (x6 : Int) (x7 : Nat) (x8 : List Nat) : St := ⟨[(39, (.tup [])), (38, (i6 x3)), (37, (i6 (A.ofN x1))), (36, (u32v x1)), (35, (pT 7000 0)), (0, (u32v x0)), (1, (u32v x1)), (7, (bO x2)), (8, (i6 x3)), (9, (pT 6000 0)), (10, (pT 7000 0))], [(11004, ⟨[.nums .u8 (g11a_r2 A (A.ofN x1) x3 x6 0 0 []) (g11a_r3 A (A.ofN x1) x3 x6 0 0 [])], 5, 2⟩), (6000, ⟨[.one (.int .i64 x4), .one (.sl 10004 none x5 1)], 56, 1⟩), (7000, ⟨[.one (.int .i64 (g11a_r0 A (A.ofN x1) x3 x6 0 0 [])), .one (.sl 11004 none (g11a_r1 A (A.ofN x1) x3 x6 0 0 []) 1)], 56, 1⟩), (10004, ⟨[.nums .u8 x7 x8], 5, 2⟩)]⟩
theorem g7R10 (x0 x1 : Nat) (x2 : Bool) (x3 x4 : Int) (x5 : Nat) (x6 : Int) (x7 : Nat) (x8 : List Nat) : g7D A n (pth 767) K ⟨[(0, (u32v x0)), (1, (u32v x1)), (7, (bO x2)), (8, (i6 x3)), (9, (pT 6000 0)), (10, (pT 7000 0))], [(6000, ⟨[.one (.int .i64 x4), .one (.sl 10004 none x5 1)], 56, 1⟩), (7000, ⟨[.one (.int .i64 x6), .one .nils], 56, 1⟩), (10004, ⟨[.nums .u8 x7 x8], 5, 2⟩)]⟩ = match (generalizing := false) g11a_ok A (A.ofN x1) x3 x6 0 0 [] with
    | true => K .normal (g7R10s0 A x0 x1 x2 x3 x4 x5 x6 x7 x8)
    | false => none := by kernel_rfl
def g7R11s0 (A : Ar) (x0 x1 : Nat) (x2 : Bool) (x3 x4 : Int) (x5 : Nat) (x6 : Int) (x7 x8 : Nat) (x9 : List Nat) (x10 : Nat) (x11 : List Nat) : St := ⟨[(12, (i6 (g17r1 A x4 x5 x8 x9))), (11, (tS (g17r0 A x4 x5 x8 x9))), (44, (i6 (g17r1 A x4 x5 x8 x9))), (43, (tS (g17r0 A x4 x5 x8 x9))), (40, (.tup [(.cell (.str (g17r0 A x4 x5 x8 x9))), (.cell (.int .i64 (g17r1 A x4 x5 x8 x9)))])), (42, (.tup [(.cell (.str (g17r0 A x4 x5 x8 x9))), (.cell (.int .i64 (g17r1 A x4 x5 x8 x9)))])), (41, (pT 6000 0)), (0, (u32v x0)), (1, (u32v x1)), (7, (bO x2)), (8, (i6 x3)), (9, (pT 6000 0)), (10, (pT 7000 0))], [(6000, ⟨[.one (.int .i64 (g17r2 A x4 x5 x8 x9)), .one (.sl 10004 none (g17r3 A x4 x5 x8 x9) 1)], 56, 1⟩), (7000, ⟨[.one (.int .i64 x6), .one (.sl 11004 none x7 1)], 56, 1⟩), (10004, ⟨[.nums .u8 (g17r4 A x4 x5 x8 x9) (g17r5 A x4 x5 x8 x9)], 5, 2⟩), (11004, ⟨[.nums .u8 x10 x11], 5, 2⟩)]⟩
theorem g7R11 (x0 x1 : Nat) (x2 : Bool) (x3 x4 : Int) (x5 : Nat) (x6 : Int) (x7 x8 : Nat) (x9 : List Nat) (x10 : Nat) (x11 : List Nat) : g7D A n (pth 1535) K ⟨[(0, (u32v x0)), (1, (u32v x1)), (7, (bO x2)), (8, (i6 x3)), (9, (pT 6000 0)), (10, (pT 7000 0))], [(6000, ⟨[.one (.int .i64 x4), .one (.sl 10004 none x5 1)], 56, 1⟩), (7000, ⟨[.one (.int .i64 x6), .one (.sl 11004 none x7 1)], 56, 1⟩), (10004, ⟨[.nums .u8 x8 x9], 5, 2⟩), (11004, ⟨[.nums .u8 x10 x11], 5, 2⟩)]⟩ = match (generalizing := false) g17ok A x4 x5 x8 x9 with
    | true => K .normal (g7R11s0 A x0 x1 x2 x3 x4 x5 x6 x7 x8 x9 x10 x11)
    | false => none := by kernel_rfl
def g7R12s0 (A : Ar) (x0 x1 : Nat) (x2 : Bool) (x3 : Int) (x4 : List Nat) (x5 x6 : Int) (x7 x8 : Nat) (x9 : List Nat) : St := ⟨[(14, (i6 (g17r1 A x6 x7 x8 x9))), (13, (tS (g17r0 A x6 x7 x8 x9))), (49, (i6 (g17r1 A x6 x7 x8 x9))), (48, (tS (g17r0 A x6 x7 x8 x9))), (45, (.tup [(.cell (.str (g17r0 A x6 x7 x8 x9))), (.cell (.int .i64 (g17r1 A x6 x7 x8 x9)))])), (47, (.tup [(.cell (.str (g17r0 A x6 x7 x8 x9))), (.cell (.int .i64 (g17r1 A x6 x7 x8 x9)))])), (46, (pT 7000 0)), (0, (u32v x0)), (1, (u32v x1)), (7, (bO x2)), (8, (i6 x3)), (10, (pT 7000 0)), (11, (tS x4)), (12, (i6 x5))], [(7000, ⟨[.one (.int .i64 (g17r2 A x6 x7 x8 x9)), .one (.sl 11004 none (g17r3 A x6 x7 x8 x9) 1)], 56, 1⟩), (11004, ⟨[.nums .u8 (g17r4 A x6 x7 x8 x9) (g17r5 A x6 x7 x8 x9)], 5, 2⟩)]⟩
theorem g7R12 (x0 x1 : Nat) (x2 : Bool) (x3 : Int) (x4 : List Nat) (x5 x6 : Int) (x7 x8 : Nat) (x9 : List Nat) : g7D A n (pth 3071) K ⟨[(0, (u32v x0)), (1, (u32v x1)), (7, (bO x2)), (8, (i6 x3)), (10, (pT 7000 0)), (11, (tS x4)), (12, (i6 x5))], [(7000, ⟨[.one (.int .i64 x6), .one (.sl 11004 none x7 1)], 56, 1⟩), (11004, ⟨[.nums .u8 x8 x9], 5, 2⟩)]⟩ = match (generalizing := false) g17ok A x6 x7 x8 x9 with
    | true => K .normal (g7R12s0 A x0 x1 x2 x3 x4 x5 x6 x7 x8 x9)
    | false => none := by kernel_rfl
def g7R13s0 (A : Ar) (x0 x1 : Nat) (x2 : Bool) (x3 : Int) (x4 : List Nat) (x5 : Int) (x6 : List Nat) (x7 : Int) : St := ⟨[(6, (bO ((A.sc .eql x4 x6) == (A.nc .eql x0 x1)))), (88, (bO ((A.sc .eql x4 x6) == (A.nc .eql x0 x1)))), (87, (bO ((A.sc .eql x4 x6) == (A.nc .eql x0 x1)))), (86, (bO (A.nc .eql x0 x1))), (85, (u32v x1)), (84, (u32v x0)), (83, (bO (A.sc .eql x4 x6))), (82, (tS x6)), (81, (tS x4)), (80, (bO true)), (79, (bO ((A.sc .lss x4 x6) == (A.nc .lss x0 x1)))), (78, (bO ((A.sc .lss x4 x6) == (A.nc .lss x0 x1)))), (77, (bO (A.nc .lss x0 x1))), (76, (u32v x1)), (75, (u32v x0)), (74, (bO (A.sc .lss x4 x6))), (73, (tS x6)), (72, (tS x4)), (71, (bO true)), (70, (bO (A.ic .eql (A.ofN x6.length) x3))), (69, (bO (A.ic .eql (A.ofN x6.length) x3))), (68, (i6 x3)), (67, (i6 (A.ofN x6.length))), (66, (tS x6)), (65, (bO true)), (64, (bO (A.ic .eql (A.ofN x4.length) x3))), (63, (bO (A.ic .eql (A.ofN x4.length) x3))), (62, (i6 x3)), (61, (i6 (A.ofN x4.length))), (60, (tS x4)), (59, (bO true)), (58, (bO (A.ic .eql x7 0))), (57, (bO (A.ic .eql x7 0))), (56, (i6 x7)), (55, (bO true)), (54, (bO (A.ic .eql x5 0))), (53, (bO (A.ic .eql x5 0))), (52, (i6 x5)), (51, (bO true)), (50, (bO x2)), (0, (u32v x0)), (1, (u32v x1)), (7, (bO x2)), (8, (i6 x3)), (11, (tS x4)), (12, (i6 x5)), (13, (tS x6)), (14, (i6 x7))], []⟩
def g7R13s1 (A : Ar) (x0 x1 : Nat) (x2 : Bool) (x3 : Int) (x4 : List Nat) (x5 : Int) (x6 : List Nat) (x7 : Int) : St := ⟨[(6, (bO false)), (88, (bO false)), (87, uN), (86, uN), (85, uN), (84, uN), (83, uN), (82, uN), (81, uN), (80, (bO false)), (79, (bO ((A.sc .lss x4 x6) == (A.nc .lss x0 x1)))), (78, (bO ((A.sc .lss x4 x6) == (A.nc .lss x0 x1)))), (77, (bO (A.nc .lss x0 x1))), (76, (u32v x1)), (75, (u32v x0)), (74, (bO (A.sc .lss x4 x6))), (73, (tS x6)), (72, (tS x4)), (71, (bO true)), (70, (bO (A.ic .eql (A.ofN x6.length) x3))), (69, (bO (A.ic .eql (A.ofN x6.length) x3))), (68, (i6 x3)), (67, (i6 (A.ofN x6.length))), (66, (tS x6)), (65, (bO true)), (64, (bO (A.ic .eql (A.ofN x4.length) x3))), (63, (bO (A.ic .eql (A.ofN x4.length) x3))), (62, (i6 x3)), (61, (i6 (A.ofN x4.length))), (60, (tS x4)), (59, (bO true)), (58, (bO (A.ic .eql x7 0))), (57, (bO (A.ic .eql x7 0))), (56, (i6 x7)), (55, (bO true)), (54, (bO (A.ic .eql x5 0))), (53, (bO (A.ic .eql x5 0))), (52, (i6 x5)), (51, (bO true)), (50, (bO x2)), (0, (u32v x0)), (1, (u32v x1)), (7, (bO x2)), (8, (i6 x3)), (11, (tS x4)), (12, (i6 x5)), (13, (tS x6)), (14, (i6 x7))], []⟩
def g7R13s2 (A : Ar) (x0 x1 : Nat) (x2 : Bool) (x3 : Int) (x4 : List Nat) (x5 : Int) (x6 : List Nat) (x7 : Int) : St := ⟨[(6, (bO false)), (88, (bO false)), (87, uN), (86, uN), (85, uN), (84, uN), (83, uN), (82, uN), (81, uN), (80, (bO false)), (79, (bO false)), (78, uN), (77, uN), (76, uN), (75, uN), (74, uN), (73, uN), (72, uN), (71, (bO false)), (70, (bO (A.ic .eql (A.ofN x6.length) x3))), (69, (bO (A.ic .eql (A.ofN x6.length) x3))), (68, (i6 x3)), (67, (i6 (A.ofN x6.length))), (66, (tS x6)), (65, (bO true)), (64, (bO (A.ic .eql (A.ofN x4.length) x3))), (63, (bO (A.ic .eql (A.ofN x4.length) x3))), (62, (i6 x3)), (61, (i6 (A.ofN x4.length))), (60, (tS x4)), (59, (bO true)), (58, (bO (A.ic .eql x7 0))), (57, (bO (A.ic .eql x7 0))), (56, (i6 x7)), (55, (bO true)), (54, (bO (A.ic .eql x5 0))), (53, (bO (A.ic .eql x5 0))), (52, (i6 x5)), (51, (bO true)), (50, (bO x2)), (0, (u32v x0)), (1, (u32v x1)), (7, (bO x2)), (8, (i6 x3)), (11, (tS x4)), (12, (i6 x5)), (13, (tS x6)), (14, (i6 x7))], []⟩
def g7R13s3 (A : Ar) (x0 x1 : Nat) (x2 : Bool) (x3 : Int) (x4 : List Nat) (x5 : Int) (x6 : List Nat) (x7 : Int) : St := ⟨[(6, (bO false)), (88, (bO false)), (87, uN), (86, uN), (85, uN), (84, uN), (83, uN), (82, uN), (81, uN), (80, (bO false)), (79, (bO false)), (78, uN), (77, uN), (76, uN), (75, uN), (74, uN), (73, uN), (72, uN), (71, (bO false)), (70, (bO false)), (69, uN), (68, uN), (67, uN), (66, uN), (65, (bO false)), (64, (bO (A.ic .eql (A.ofN x4.length) x3))), (63, (bO (A.ic .eql (A.ofN x4.length) x3))), (62, (i6 x3)), (61, (i6 (A.ofN x4.length))), (60, (tS x4)), (59, (bO true)), (58, (bO (A.ic .eql x7 0))), (57, (bO (A.ic .eql x7 0))), (56, (i6 x7)), (55, (bO true)), (54, (bO (A.ic .eql x5 0))), (53, (bO (A.ic .eql x5 0))), (52, (i6 x5)), (51, (bO true)), (50, (bO x2)), (0, (u32v x0)), (1, (u32v x1)), (7, (bO x2)), (8, (i6 x3)), (11, (tS x4)), (12, (i6 x5)), (13, (tS x6)), (14, (i6 x7))], []⟩
def g7R13s4 (A : Ar) (x0 x1 : Nat) (x2 : Bool) (x3 : Int) (x4 : List Nat) (x5 : Int) (x6 : List Nat) (x7 : Int) : St := ⟨[(6, (bO false)), (88, (bO false)), (87, uN), (86, uN), (85, uN), (84, uN), (83, uN), (82, uN), (81, uN), (80, (bO false)), (79, (bO false)), (78, uN), (77, uN), (76, uN), (75, uN), (74, uN), (73, uN), (72, uN), (71, (bO false)), (70, (bO false)), (69, uN), (68, uN), (67, uN), (66, uN), (65, (bO false)), (64, (bO false)), (63, uN), (62, uN), (61, uN), (60, uN), (59, (bO false)), (58, (bO (A.ic .eql x7 0))), (57, (bO (A.ic .eql x7 0))), (56, (i6 x7)), (55, (bO true)), (54, (bO (A.ic .eql x5 0))), (53, (bO (A.ic .eql x5 0))), (52, (i6 x5)), (51, (bO true)), (50, (bO x2)), (0, (u32v x0)), (1, (u32v x1)), (7, (bO x2)), (8, (i6 x3)), (11, (tS x4)), (12, (i6 x5)), (13, (tS x6)), (14, (i6 x7))], []⟩
def g7R13s5 (A : Ar) (x0 x1 : Nat) (x2 : Bool) (x3 : Int) (x4 : List Nat) (x5 : Int) (x6 : List Nat) (x7 : Int) : St := ⟨[(6, (bO false)), (88, (bO false)), (87, uN), (86, uN), (85, uN), (84, uN), (83, uN), (82, uN), (81, uN), (80, (bO false)), (79, (bO false)), (78, uN), (77, uN), (76, uN), (75, uN), (74, uN), (73, uN), (72, uN), (71, (bO false)), (70, (bO false)), (69, uN), (68, uN), (67, uN), (66, uN), (65, (bO false)), (64, (bO false)), (63, uN), (62, uN), (61, uN), (60, uN), (59, (bO false)), (58, (bO false)), (57, uN), (56, uN), (55, (bO false)), (54, (bO (A.ic .eql x5 0))), (53, (bO (A.ic .eql x5 0))), (52, (i6 x5)), (51, (bO true)), (50, (bO x2)), (0, (u32v x0)), (1, (u32v x1)), (7, (bO x2)), (8, (i6 x3)), (11, (tS x4)), (12, (i6 x5)), (13, (tS x6)), (14, (i6 x7))], []⟩
def g7R13s6 (A : Ar) (x0 x1 : Nat) (x2 : Bool) (x3 : Int) (x4 : List Nat) (x5 : Int) (x6 : List Nat) (x7 : Int) : St := ⟨[(6, (bO false)), (88, (bO false)), (87, uN), (86, uN), (85, uN), (84, uN), (83, uN), (82, uN), (81, uN), (80, (bO false)), (79, (bO false)), (78, uN), (77, uN), (76, uN), (75, uN), (74, uN), (73, uN), (72, uN), (71, (bO false)), (70, (bO false)), (69, uN), (68, uN), (67, uN), (66, uN), (65, (bO false)), (64, (bO false)), (63, uN), (62, uN), (61, uN), (60, uN), (59, (bO false)), (58, (bO false)), (57, uN), (56, uN), (55, (bO false)), (54, (bO false)), (53, uN), (52, uN), (51, (bO false)), (50, (bO x2)), (0, (u32v x0)), (1, (u32v x1)), (7, (bO x2)), (8, (i6 x3)), (11, (tS x4)), (12, (i6 x5)), (13, (tS x6)), (14, (i6 x7))], []⟩
theorem g7R13 (x0 x1 : Nat) (x2 : Bool) (x3 : Int) (x4 : List Nat) (x5 : Int) (x6 : List Nat) (x7 : Int) : g7D A n (pth 6143) K ⟨[(0, (u32v x0)), (1, (u32v x1)), (7, (bO x2)), (8, (i6 x3)), (11, (tS x4)), (12, (i6 x5)), (13, (tS x6)), (14, (i6 x7))], []⟩ = match (generalizing := false) x2 with
    | true => match (generalizing := false) A.ic .eql x5 0 with
      | true => match (generalizing := false) A.ic .eql x7 0 with
        | true => match (generalizing := false) A.ic .eql (A.ofN x4.length) x3 with
          | true => match (generalizing := false) A.ic .eql (A.ofN x6.length) x3 with
            | true => match (generalizing := false) (A.sc .lss x4 x6) == (A.nc .lss x0 x1) with
              | true => K .normal (g7R13s0 A x0 x1 x2 x3 x4 x5 x6 x7)
              | false => K .normal (g7R13s1 A x0 x1 x2 x3 x4 x5 x6 x7)
            | false => K .normal (g7R13s2 A x0 x1 x2 x3 x4 x5 x6 x7)
          | false => K .normal (g7R13s3 A x0 x1 x2 x3 x4 x5 x6 x7)
        | false => K .normal (g7R13s4 A x0 x1 x2 x3 x4 x5 x6 x7)
      | false => K .normal (g7R13s5 A x0 x1 x2 x3 x4 x5 x6 x7)
    | false => K .normal (g7R13s6 A x0 x1 x2 x3 x4 x5 x6 x7) := by kernel_rfl
def g7R4s0 (A : Ar) (x0 x1 x2 : Nat) (x3 : Bool) : St := ⟨[(8, (i6 (A.ib .add .i64 4 (A.ofN (A.nb .rem .u8 x2 4))))), (21, (i6 (A.ib .add .i64 4 (A.ofN (A.nb .rem .u8 x2 4))))), (20, (i6 (A.ofN (A.nb .rem .u8 x2 4)))), (19, (u8v (A.nb .rem .u8 x2 4))), (18, (u8v x2)), (0, (u32v x0)), (1, (u32v x1)), (2, (u8v x2)), (7, (bO x3))], []⟩
theorem g7R4 (x0 x1 x2 : Nat) (x3 : Bool) : g7D A n (pth 23) K ⟨[(0, (u32v x0)), (1, (u32v x1)), (2, (u8v x2)), (7, (bO x3))], []⟩ = K .normal (g7R4s0 A x0 x1 x2 x3) := by kernel_rfl
def g7R5s0 (A : Ar) (x0 x1 : Nat) (x2 : Bool) (x3 : Int) : St := ⟨[(9, (pT 6000 0)), (22, (pT 6000 0)), (0, (u32v x0)), (1, (u32v x1)), (7, (bO x2)), (8, (i6 x3))], [(6000, ⟨[.one (.int .i64 (g9r0 A)), .one .nils], 56, 1⟩)]⟩
theorem g7R5 (x0 x1 : Nat) (x2 : Bool) (x3 : Int) : g7D A n (pth 47) K ⟨[(0, (u32v x0)), (1, (u32v x1)), (7, (bO x2)), (8, (i6 x3))], []⟩ = match (generalizing := false) g9ok A with
    | true => K .normal (g7R5s0 A x0 x1 x2 x3)
    | false => none := by kernel_rfl
def g7R6s0 (A : Ar) (x0 x1 : Nat) (x2 : Bool) (x3 x4 : Int) : St := ⟨[(10, (pT 7000 0)), (23, (pT 7000 0)), (0, (u32v x0)), (1, (u32v x1)), (7, (bO x2)), (8, (i6 x3)), (9, (pT 6000 0))], [(7000, ⟨[.one (.int .i64 (g9r0 A)), .one .nils], 56, 1⟩), (6000, ⟨[.one (.int .i64 x4), .one .nils], 56, 1⟩)]⟩
theorem g7R6 (x0 x1 : Nat) (x2 : Bool) (x3 x4 : Int) : g7D A n (pth 95) K ⟨[(0, (u32v x0)), (1, (u32v x1)), (7, (bO x2)), (8, (i6 x3)), (9, (pT 6000 0))], [(6000, ⟨[.one (.int .i64 x4), .one .nils], 56, 1⟩)]⟩ = match (generalizing := false) g9ok A with
    | true => K .normal (g7R6s0 A x0 x1 x2 x3 x4)
    | false => none := by kernel_rfl
def g7R7s0 (A : Ar) (x0 x1 : Nat) (x2 : Bool) (x3 x4 x5 : Int) : St := ⟨[(29, (bO false)), (28, (bO false)), (27, (pT 7000 0)), (26, (bO false)), (25, (bO false)), (24, (pT 6000 0)), (0, (u32v x0)), (1, (u32v x1)), (7, (bO x2)), (8, (i6 x3)), (9, (pT 6000 0)), (10, (pT 7000 0))], [(6000, ⟨[.one (.int .i64 x4), .one .nils], 56, 1⟩), (7000, ⟨[.one (.int .i64 x5), .one .nils], 56, 1⟩)]⟩
theorem g7R7 (x0 x1 : Nat) (x2 : Bool) (x3 x4 x5 : Int) : g7D A n (pth 319) K ⟨[(0, (u32v x0)), (1, (u32v x1)), (7, (bO x2)), (8, (i6 x3)), (9, (pT 6000 0)), (10, (pT 7000 0))], [(6000, ⟨[.one (.int .i64 x4), .one .nils], 56, 1⟩), (7000, ⟨[.one (.int .i64 x5), .one .nils], 56, 1⟩)]⟩ = K .normal (g7R7s0 A x0 x1 x2 x3 x4 x5) := by kernel_rfl
def g7R0s0 (A : Ar) (x0 x1 x2 : Nat) : St := ⟨[(6, (bO false)), (0, (u32v x0)), (1, (u32v x1)), (2, (u8v x2))], []⟩
theorem g7R0 (x0 x1 x2 : Nat) : g7D A n (pth 2) K ⟨[(0, (u32v x0)), (1, (u32v x1)), (2, (u8v x2))], []⟩ = K .normal (g7R0s0 A x0 x1 x2) := by kernel_rfl
def g7R1s0 (A : Ar) (x0 x1 x2 : Nat) : St := ⟨[(7, (bO (g8r0 A))), (15, (bO (g8r0 A))), (0, (u32v x0)), (1, (u32v x1)), (2, (u8v x2))], []⟩
theorem g7R1 (x0 x1 x2 : Nat) : g7D A n (pth 5) K ⟨[(0, (u32v x0)), (1, (u32v x1)), (2, (u8v x2))], []⟩ = match (generalizing := false) g8ok A with
    | true => K .normal (g7R1s0 A x0 x1 x2)
    | false => none := by kernel_rfl
def g7R2s0 (A : Ar) (x0 x1 x2 : Nat) (x3 : Bool) : St := ⟨[(17, (bO (!x3))), (16, (bO x3)), (0, (u32v x0)), (1, (u32v x1)), (2, (u8v x2)), (7, (bO x3))], []⟩
theorem g7R2 (x0 x1 x2 : Nat) (x3 : Bool) : g7D A n (pth 19) K ⟨[(0, (u32v x0)), (1, (u32v x1)), (2, (u8v x2)), (7, (bO x3))], []⟩ = K .normal (g7R2s0 A x0 x1 x2 x3) := by kernel_rfl
def g7R3s0 (A : Ar)  : St := ⟨[(6, (bO false))], []⟩
theorem g7R3 : g7D A n (pth 75) K ⟨[], []⟩ = K .normal (g7R3s0 A) := by kernel_rfl
end
def g7J9 {R : Type} (A : Ar) (n : Nat) (kk : AV → Heap → Option R)  (x0 x1 : Nat) (x2 : Bool) (x3 x4 x5 : Int) : Option R :=
  match (generalizing := false) g11a_ok A (A.ofN x0) x3 x4 0 0 [] with
  | true => match (generalizing := false) g11a_ok A (A.ofN x1) x3 x5 0 0 [] with
    | true => match (generalizing := false) g17ok A (g11a_r0 A (A.ofN x0) x3 x4 0 0 []) (g11a_r1 A (A.ofN x0) x3 x4 0 0 []) (g11a_r2 A (A.ofN x0) x3 x4 0 0 []) (g11a_r3 A (A.ofN x0) x3 x4 0 0 []) with
      | true => match (generalizing := false) g17ok A (g11a_r0 A (A.ofN x1) x3 x5 0 0 []) (g11a_r1 A (A.ofN x1) x3 x5 0 0 []) (g11a_r2 A (A.ofN x1) x3 x5 0 0 []) (g11a_r3 A (A.ofN x1) x3 x5 0 0 []) with
        | true => match (generalizing := false) x2 with
          | true => match (generalizing := false) A.ic .eql (g17r1 A (g11a_r0 A (A.ofN x0) x3 x4 0 0 []) (g11a_r1 A (A.ofN x0) x3 x4 0 0 []) (g11a_r2 A (A.ofN x0) x3 x4 0 0 []) (g11a_r3 A (A.ofN x0) x3 x4 0 0 [])) 0 with
            | true => match (generalizing := false) A.ic .eql (g17r1 A (g11a_r0 A (A.ofN x1) x3 x5 0 0 []) (g11a_r1 A (A.ofN x1) x3 x5 0 0 []) (g11a_r2 A (A.ofN x1) x3 x5 0 0 []) (g11a_r3 A (A.ofN x1) x3 x5 0 0 [])) 0 with
              | true => match (generalizing := false) A.ic .eql (A.ofN ((g17r0 A (g11a_r0 A (A.ofN x0) x3 x4 0 0 []) (g11a_r1 A (A.ofN x0) x3 x4 0 0 []) (g11a_r2 A (A.ofN x0) x3 x4 0 0 []) (g11a_r3 A (A.ofN x0) x3 x4 0 0 [])).length)) x3 with
                | true => match (generalizing := false) A.ic .eql (A.ofN ((g17r0 A (g11a_r0 A (A.ofN x1) x3 x5 0 0 []) (g11a_r1 A (A.ofN x1) x3 x5 0 0 []) (g11a_r2 A (A.ofN x1) x3 x5 0 0 []) (g11a_r3 A (A.ofN x1) x3 x5 0 0 [])).length)) x3 with
                  | true => match (generalizing := false) (A.sc .lss (g17r0 A (g11a_r0 A (A.ofN x0) x3 x4 0 0 []) (g11a_r1 A (A.ofN x0) x3 x4 0 0 []) (g11a_r2 A (A.ofN x0) x3 x4 0 0 []) (g11a_r3 A (A.ofN x0) x3 x4 0 0 [])) (g17r0 A (g11a_r0 A (A.ofN x1) x3 x5 0 0 []) (g11a_r1 A (A.ofN x1) x3 x5 0 0 []) (g11a_r2 A (A.ofN x1) x3 x5 0 0 []) (g11a_r3 A (A.ofN x1) x3 x5 0 0 []))) == (A.nc .lss x0 x1) with
                    | true => kk (bO ((A.sc .eql (g17r0 A (g11a_r0 A (A.ofN x0) x3 x4 0 0 []) (g11a_r1 A (A.ofN x0) x3 x4 0 0 []) (g11a_r2 A (A.ofN x0) x3 x4 0 0 []) (g11a_r3 A (A.ofN x0) x3 x4 0 0 [])) (g17r0 A (g11a_r0 A (A.ofN x1) x3 x5 0 0 []) (g11a_r1 A (A.ofN x1) x3 x5 0 0 []) (g11a_r2 A (A.ofN x1) x3 x5 0 0 []) (g11a_r3 A (A.ofN x1) x3 x5 0 0 []))) == (A.nc .eql x0 x1))) []
                    | false => kk (bO false) []
                  | false => kk (bO false) []
                | false => kk (bO false) []
              | false => kk (bO false) []
            | false => kk (bO false) []
          | false => kk (bO false) []
        | false => none
      | false => none
    | false => none
  | false => none
set_option maxRecDepth 100000 in
theorem g7J9_eq {R : Type} (A : Ar) (n : Nat) (kk : AV → Heap → Option R)    (s : St) (x0 x1 : Nat) (x2 : Bool) (x3 x4 x5 : Int) (h : keep g7an 9 s = ⟨[(0, (u32v x0)), (1, (u32v x1)), (7, (bO x2)), (8, (i6 x3)), (9, (pT 6000 0)), (10, (pT 7000 0))], [(6000, ⟨[.one (.int .i64 x4), .one .nils], 56, 1⟩), (7000, ⟨[.one (.int .i64 x5), .one .nils], 56, 1⟩)]⟩) :
    g7D A n (pth 255) (g7T kk) s = g7J9 A n kk  x0 x1 x2 x3 x4 x5 := by
  have h1 : (g7T kk) .ret (g7R13s0 A x0 x1 x2 x3 (g17r0 A (g11a_r0 A (A.ofN x0) x3 x4 0 0 []) (g11a_r1 A (A.ofN x0) x3 x4 0 0 []) (g11a_r2 A (A.ofN x0) x3 x4 0 0 []) (g11a_r3 A (A.ofN x0) x3 x4 0 0 [])) (g17r1 A (g11a_r0 A (A.ofN x0) x3 x4 0 0 []) (g11a_r1 A (A.ofN x0) x3 x4 0 0 []) (g11a_r2 A (A.ofN x0) x3 x4 0 0 []) (g11a_r3 A (A.ofN x0) x3 x4 0 0 [])) (g17r0 A (g11a_r0 A (A.ofN x1) x3 x5 0 0 []) (g11a_r1 A (A.ofN x1) x3 x5 0 0 []) (g11a_r2 A (A.ofN x1) x3 x5 0 0 []) (g11a_r3 A (A.ofN x1) x3 x5 0 0 [])) (g17r1 A (g11a_r0 A (A.ofN x1) x3 x5 0 0 []) (g11a_r1 A (A.ofN x1) x3 x5 0 0 []) (g11a_r2 A (A.ofN x1) x3 x5 0 0 []) (g11a_r3 A (A.ofN x1) x3 x5 0 0 []))) = kk (bO ((A.sc .eql (g17r0 A (g11a_r0 A (A.ofN x0) x3 x4 0 0 []) (g11a_r1 A (A.ofN x0) x3 x4 0 0 []) (g11a_r2 A (A.ofN x0) x3 x4 0 0 []) (g11a_r3 A (A.ofN x0) x3 x4 0 0 [])) (g17r0 A (g11a_r0 A (A.ofN x1) x3 x5 0 0 []) (g11a_r1 A (A.ofN x1) x3 x5 0 0 []) (g11a_r2 A (A.ofN x1) x3 x5 0 0 []) (g11a_r3 A (A.ofN x1) x3 x5 0 0 []))) == (A.nc .eql x0 x1))) [] := by kernel_rfl
  have h2 := (g7p8191 A n _ _).trans h1
  have h3 := (g7Qn A n _ _ _).trans h2
  have h4 : (g7T kk) .ret (g7R13s1 A x0 x1 x2 x3 (g17r0 A (g11a_r0 A (A.ofN x0) x3 x4 0 0 []) (g11a_r1 A (A.ofN x0) x3 x4 0 0 []) (g11a_r2 A (A.ofN x0) x3 x4 0 0 []) (g11a_r3 A (A.ofN x0) x3 x4 0 0 [])) (g17r1 A (g11a_r0 A (A.ofN x0) x3 x4 0 0 []) (g11a_r1 A (A.ofN x0) x3 x4 0 0 []) (g11a_r2 A (A.ofN x0) x3 x4 0 0 []) (g11a_r3 A (A.ofN x0) x3 x4 0 0 [])) (g17r0 A (g11a_r0 A (A.ofN x1) x3 x5 0 0 []) (g11a_r1 A (A.ofN x1) x3 x5 0 0 []) (g11a_r2 A (A.ofN x1) x3 x5 0 0 []) (g11a_r3 A (A.ofN x1) x3 x5 0 0 [])) (g17r1 A (g11a_r0 A (A.ofN x1) x3 x5 0 0 []) (g11a_r1 A (A.ofN x1) x3 x5 0 0 []) (g11a_r2 A (A.ofN x1) x3 x5 0 0 []) (g11a_r3 A (A.ofN x1) x3 x5 0 0 []))) = kk (bO false) [] := by kernel_rfl
  have h5 := (g7p8191 A n _ _).trans h4
  have h6 := (g7Qn A n _ _ _).trans h5
  have h7 : (g7T kk) .ret (g7R13s2 A x0 x1 x2 x3 (g17r0 A (g11a_r0 A (A.ofN x0) x3 x4 0 0 []) (g11a_r1 A (A.ofN x0) x3 x4 0 0 []) (g11a_r2 A (A.ofN x0) x3 x4 0 0 []) (g11a_r3 A (A.ofN x0) x3 x4 0 0 [])) (g17r1 A (g11a_r0 A (A.ofN x0) x3 x4 0 0 []) (g11a_r1 A (A.ofN x0) x3 x4 0 0 []) (g11a_r2 A (A.ofN x0) x3 x4 0 0 []) (g11a_r3 A (A.ofN x0) x3 x4 0 0 [])) (g17r0 A (g11a_r0 A (A.ofN x1) x3 x5 0 0 []) (g11a_r1 A (A.ofN x1) x3 x5 0 0 []) (g11a_r2 A (A.ofN x1) x3 x5 0 0 []) (g11a_r3 A (A.ofN x1) x3 x5 0 0 [])) (g17r1 A (g11a_r0 A (A.ofN x1) x3 x5 0 0 []) (g11a_r1 A (A.ofN x1) x3 x5 0 0 []) (g11a_r2 A (A.ofN x1) x3 x5 0 0 []) (g11a_r3 A (A.ofN x1) x3 x5 0 0 []))) = kk (bO false) [] := by kernel_rfl
  have h8 := (g7p8191 A n _ _).trans h7
  have h9 := (g7Qn A n _ _ _).trans h8
  have h10 : (g7T kk) .ret (g7R13s3 A x0 x1 x2 x3 (g17r0 A (g11a_r0 A (A.ofN x0) x3 x4 0 0 []) (g11a_r1 A (A.ofN x0) x3 x4 0 0 []) (g11a_r2 A (A.ofN x0) x3 x4 0 0 []) (g11a_r3 A (A.ofN x0) x3 x4 0 0 [])) (g17r1 A (g11a_r0 A (A.ofN x0) x3 x4 0 0 []) (g11a_r1 A (A.ofN x0) x3 x4 0 0 []) (g11a_r2 A (A.ofN x0) x3 x4 0 0 []) (g11a_r3 A (A.ofN x0) x3 x4 0 0 [])) (g17r0 A (g11a_r0 A (A.ofN x1) x3 x5 0 0 []) (g11a_r1 A (A.ofN x1) x3 x5 0 0 []) (g11a_r2 A (A.ofN x1) x3 x5 0 0 []) (g11a_r3 A (A.ofN x1) x3 x5 0 0 [])) (g17r1 A (g11a_r0 A (A.ofN x1) x3 x5 0 0 []) (g11a_r1 A (A.ofN x1) x3 x5 0 0 []) (g11a_r2 A (A.ofN x1) x3 x5 0 0 []) (g11a_r3 A (A.ofN x1) x3 x5 0 0 []))) = kk (bO false) [] := by kernel_rfl
  have h11 := (g7p8191 A n _ _).trans h10
  have h12 := (g7Qn A n _ _ _).trans h11
  have h13 : (g7T kk) .ret (g7R13s4 A x0 x1 x2 x3 (g17r0 A (g11a_r0 A (A.ofN x0) x3 x4 0 0 []) (g11a_r1 A (A.ofN x0) x3 x4 0 0 []) (g11a_r2 A (A.ofN x0) x3 x4 0 0 []) (g11a_r3 A (A.ofN x0) x3 x4 0 0 [])) (g17r1 A (g11a_r0 A (A.ofN x0) x3 x4 0 0 []) (g11a_r1 A (A.ofN x0) x3 x4 0 0 []) (g11a_r2 A (A.ofN x0) x3 x4 0 0 []) (g11a_r3 A (A.ofN x0) x3 x4 0 0 [])) (g17r0 A (g11a_r0 A (A.ofN x1) x3 x5 0 0 []) (g11a_r1 A (A.ofN x1) x3 x5 0 0 []) (g11a_r2 A (A.ofN x1) x3 x5 0 0 []) (g11a_r3 A (A.ofN x1) x3 x5 0 0 [])) (g17r1 A (g11a_r0 A (A.ofN x1) x3 x5 0 0 []) (g11a_r1 A (A.ofN x1) x3 x5 0 0 []) (g11a_r2 A (A.ofN x1) x3 x5 0 0 []) (g11a_r3 A (A.ofN x1) x3 x5 0 0 []))) = kk (bO false) [] := by kernel_rfl
  have h14 := (g7p8191 A n _ _).trans h13
  have h15 := (g7Qn A n _ _ _).trans h14
  have h16 : (g7T kk) .ret (g7R13s5 A x0 x1 x2 x3 (g17r0 A (g11a_r0 A (A.ofN x0) x3 x4 0 0 []) (g11a_r1 A (A.ofN x0) x3 x4 0 0 []) (g11a_r2 A (A.ofN x0) x3 x4 0 0 []) (g11a_r3 A (A.ofN x0) x3 x4 0 0 [])) (g17r1 A (g11a_r0 A (A.ofN x0) x3 x4 0 0 []) (g11a_r1 A (A.ofN x0) x3 x4 0 0 []) (g11a_r2 A (A.ofN x0) x3 x4 0 0 []) (g11a_r3 A (A.ofN x0) x3 x4 0 0 [])) (g17r0 A (g11a_r0 A (A.ofN x1) x3 x5 0 0 []) (g11a_r1 A (A.ofN x1) x3 x5 0 0 []) (g11a_r2 A (A.ofN x1) x3 x5 0 0 []) (g11a_r3 A (A.ofN x1) x3 x5 0 0 [])) (g17r1 A (g11a_r0 A (A.ofN x1) x3 x5 0 0 []) (g11a_r1 A (A.ofN x1) x3 x5 0 0 []) (g11a_r2 A (A.ofN x1) x3 x5 0 0 []) (g11a_r3 A (A.ofN x1) x3 x5 0 0 []))) = kk (bO false) [] := by kernel_rfl
  have h17 := (g7p8191 A n _ _).trans h16
  have h18 := (g7Qn A n _ _ _).trans h17
  have h19 : (g7T kk) .ret (g7R13s6 A x0 x1 x2 x3 (g17r0 A (g11a_r0 A (A.ofN x0) x3 x4 0 0 []) (g11a_r1 A (A.ofN x0) x3 x4 0 0 []) (g11a_r2 A (A.ofN x0) x3 x4 0 0 []) (g11a_r3 A (A.ofN x0) x3 x4 0 0 [])) (g17r1 A (g11a_r0 A (A.ofN x0) x3 x4 0 0 []) (g11a_r1 A (A.ofN x0) x3 x4 0 0 []) (g11a_r2 A (A.ofN x0) x3 x4 0 0 []) (g11a_r3 A (A.ofN x0) x3 x4 0 0 [])) (g17r0 A (g11a_r0 A (A.ofN x1) x3 x5 0 0 []) (g11a_r1 A (A.ofN x1) x3 x5 0 0 []) (g11a_r2 A (A.ofN x1) x3 x5 0 0 []) (g11a_r3 A (A.ofN x1) x3 x5 0 0 [])) (g17r1 A (g11a_r0 A (A.ofN x1) x3 x5 0 0 []) (g11a_r1 A (A.ofN x1) x3 x5 0 0 []) (g11a_r2 A (A.ofN x1) x3 x5 0 0 []) (g11a_r3 A (A.ofN x1) x3 x5 0 0 []))) = kk (bO false) [] := by kernel_rfl
  have h20 := (g7p8191 A n _ _).trans h19
  have h21 := (g7Qn A n _ _ _).trans h20
  have h22 := (g7F A n _ 13 _ (g7R12s0 A x0 x1 x2 x3 (g17r0 A (g11a_r0 A (A.ofN x0) x3 x4 0 0 []) (g11a_r1 A (A.ofN x0) x3 x4 0 0 []) (g11a_r2 A (A.ofN x0) x3 x4 0 0 []) (g11a_r3 A (A.ofN x0) x3 x4 0 0 [])) (g17r1 A (g11a_r0 A (A.ofN x0) x3 x4 0 0 []) (g11a_r1 A (A.ofN x0) x3 x4 0 0 []) (g11a_r2 A (A.ofN x0) x3 x4 0 0 []) (g11a_r3 A (A.ofN x0) x3 x4 0 0 [])) (g11a_r0 A (A.ofN x1) x3 x5 0 0 []) (g11a_r1 A (A.ofN x1) x3 x5 0 0 []) (g11a_r2 A (A.ofN x1) x3 x5 0 0 []) (g11a_r3 A (A.ofN x1) x3 x5 0 0 [])) _ (by kernel_rfl) (by kernel_rfl)).trans (g7R13 A n (g7Q A n (pth 8191) (g7T kk)) x0 x1 x2 x3 (g17r0 A (g11a_r0 A (A.ofN x0) x3 x4 0 0 []) (g11a_r1 A (A.ofN x0) x3 x4 0 0 []) (g11a_r2 A (A.ofN x0) x3 x4 0 0 []) (g11a_r3 A (A.ofN x0) x3 x4 0 0 [])) (g17r1 A (g11a_r0 A (A.ofN x0) x3 x4 0 0 []) (g11a_r1 A (A.ofN x0) x3 x4 0 0 []) (g11a_r2 A (A.ofN x0) x3 x4 0 0 []) (g11a_r3 A (A.ofN x0) x3 x4 0 0 [])) (g17r0 A (g11a_r0 A (A.ofN x1) x3 x5 0 0 []) (g11a_r1 A (A.ofN x1) x3 x5 0 0 []) (g11a_r2 A (A.ofN x1) x3 x5 0 0 []) (g11a_r3 A (A.ofN x1) x3 x5 0 0 [])) (g17r1 A (g11a_r0 A (A.ofN x1) x3 x5 0 0 []) (g11a_r1 A (A.ofN x1) x3 x5 0 0 []) (g11a_r2 A (A.ofN x1) x3 x5 0 0 []) (g11a_r3 A (A.ofN x1) x3 x5 0 0 [])))
  rw [h3, h6, h9, h12, h15, h18, h21] at h22
  have h23 := (g7p4095 A n _ _).trans h22
  have h24 := (g7Qn A n _ _ _).trans h23
  have h25 := (g7F A n _ 12 _ (g7R11s0 A x0 x1 x2 x3 (g11a_r0 A (A.ofN x0) x3 x4 0 0 []) (g11a_r1 A (A.ofN x0) x3 x4 0 0 []) (g11a_r0 A (A.ofN x1) x3 x5 0 0 []) (g11a_r1 A (A.ofN x1) x3 x5 0 0 []) (g11a_r2 A (A.ofN x0) x3 x4 0 0 []) (g11a_r3 A (A.ofN x0) x3 x4 0 0 []) (g11a_r2 A (A.ofN x1) x3 x5 0 0 []) (g11a_r3 A (A.ofN x1) x3 x5 0 0 [])) _ (by kernel_rfl) (by kernel_rfl)).trans (g7R12 A n (g7Q A n (pth 4095) (g7T kk)) x0 x1 x2 x3 (g17r0 A (g11a_r0 A (A.ofN x0) x3 x4 0 0 []) (g11a_r1 A (A.ofN x0) x3 x4 0 0 []) (g11a_r2 A (A.ofN x0) x3 x4 0 0 []) (g11a_r3 A (A.ofN x0) x3 x4 0 0 [])) (g17r1 A (g11a_r0 A (A.ofN x0) x3 x4 0 0 []) (g11a_r1 A (A.ofN x0) x3 x4 0 0 []) (g11a_r2 A (A.ofN x0) x3 x4 0 0 []) (g11a_r3 A (A.ofN x0) x3 x4 0 0 [])) (g11a_r0 A (A.ofN x1) x3 x5 0 0 []) (g11a_r1 A (A.ofN x1) x3 x5 0 0 []) (g11a_r2 A (A.ofN x1) x3 x5 0 0 []) (g11a_r3 A (A.ofN x1) x3 x5 0 0 []))
  rw [h24] at h25
  have h26 := (g7p2047 A n _ _).trans h25
  have h27 := (g7Qn A n _ _ _).trans h26
  have h28 := (g7F A n _ 11 _ (g7R10s0 A x0 x1 x2 x3 (g11a_r0 A (A.ofN x0) x3 x4 0 0 []) (g11a_r1 A (A.ofN x0) x3 x4 0 0 []) x5 (g11a_r2 A (A.ofN x0) x3 x4 0 0 []) (g11a_r3 A (A.ofN x0) x3 x4 0 0 [])) _ (by kernel_rfl) (by kernel_rfl)).trans (g7R11 A n (g7Q A n (pth 2047) (g7T kk)) x0 x1 x2 x3 (g11a_r0 A (A.ofN x0) x3 x4 0 0 []) (g11a_r1 A (A.ofN x0) x3 x4 0 0 []) (g11a_r0 A (A.ofN x1) x3 x5 0 0 []) (g11a_r1 A (A.ofN x1) x3 x5 0 0 []) (g11a_r2 A (A.ofN x0) x3 x4 0 0 []) (g11a_r3 A (A.ofN x0) x3 x4 0 0 []) (g11a_r2 A (A.ofN x1) x3 x5 0 0 []) (g11a_r3 A (A.ofN x1) x3 x5 0 0 []))
  rw [h27] at h28
  have h29 := (g7p1023 A n _ _).trans h28
  have h30 := (g7Qn A n _ _ _).trans h29
  have h31 := (g7F A n _ 10 _ (g7R9s0 A x0 x1 x2 x3 x4 x5) _ (by kernel_rfl) (by kernel_rfl)).trans (g7R10 A n (g7Q A n (pth 1023) (g7T kk)) x0 x1 x2 x3 (g11a_r0 A (A.ofN x0) x3 x4 0 0 []) (g11a_r1 A (A.ofN x0) x3 x4 0 0 []) x5 (g11a_r2 A (A.ofN x0) x3 x4 0 0 []) (g11a_r3 A (A.ofN x0) x3 x4 0 0 []))
  rw [h30] at h31
  have h32 := (g7p511 A n _ _).trans h31
  have h33 := (g7Qn A n _ _ _).trans h32
  have h34 := (g7F A n _ 9 _ ⟨[(0, (u32v x0)), (1, (u32v x1)), (7, (bO x2)), (8, (i6 x3)), (9, (pT 6000 0)), (10, (pT 7000 0))], [(6000, ⟨[.one (.int .i64 x4), .one .nils], 56, 1⟩), (7000, ⟨[.one (.int .i64 x5), .one .nils], 56, 1⟩)]⟩ _ (by kernel_rfl) (by kernel_rfl)).trans (g7R9 A n (g7Q A n (pth 511) (g7T kk)) x0 x1 x2 x3 x4 x5)
  rw [h33] at h34
  have h35 := (g7p255 A n _ _).trans h34
  exact (g7F A n _ 9 _ _ ⟨[(0, (u32v x0)), (1, (u32v x1)), (7, (bO x2)), (8, (i6 x3)), (9, (pT 6000 0)), (10, (pT 7000 0))], [(6000, ⟨[.one (.int .i64 x4), .one .nils], 56, 1⟩), (7000, ⟨[.one (.int .i64 x5), .one .nils], 56, 1⟩)]⟩ (by kernel_rfl) (h.trans (by kernel_rfl))).trans (h35.trans (by kernel_rfl))
def g7J4 {R : Type} (A : Ar) (n : Nat) (kk : AV → Heap → Option R)  (x0 x1 x2 : Nat) (x3 : Bool) : Option R :=
  match (generalizing := false) g9ok A with
  | true => match (generalizing := false) g9ok A with
    | true => g7J9 A n kk  x0 x1 x3 (A.ib .add .i64 4 (A.ofN (A.nb .rem .u8 x2 4))) (g9r0 A) (g9r0 A)
    | false => none
  | false => none
set_option maxRecDepth 100000 in
theorem g7J4_eq {R : Type} (A : Ar) (n : Nat) (kk : AV → Heap → Option R)    (s : St) (x0 x1 x2 : Nat) (x3 : Bool) (h : keep g7an 4 s = ⟨[(0, (u32v x0)), (1, (u32v x1)), (2, (u8v x2)), (7, (bO x3))], []⟩) :
    g7D A n (pth 15) (g7T kk) s = g7J4 A n kk  x0 x1 x2 x3 := by
  have h1 := (g7Qn A n _ _ _).trans (g7J9_eq A n kk     (g7R7s0 A x0 x1 x3 (A.ib .add .i64 4 (A.ofN (A.nb .rem .u8 x2 4))) (g9r0 A) (g9r0 A)) x0 x1 x3 (A.ib .add .i64 4 (A.ofN (A.nb .rem .u8 x2 4))) (g9r0 A) (g9r0 A) (by kernel_rfl))
  have h2 := (g7p959 A n _ _).trans h1
  have h3 := (g7p447 A n (g7Q A n (pth 255) (g7T kk)) (g7R7s0 A x0 x1 x3 (A.ib .add .i64 4 (A.ofN (A.nb .rem .u8 x2 4))) (g9r0 A) (g9r0 A)) false (by kernel_rfl)).trans h2
  have h4 := (g7Qn A n _ _ _).trans h3
  have h5 := (g7F A n _ 7 _ (g7R6s0 A x0 x1 x3 (A.ib .add .i64 4 (A.ofN (A.nb .rem .u8 x2 4))) (g9r0 A)) _ (by kernel_rfl) (by kernel_rfl)).trans (g7R7 A n (g7Q A n (pth 447) (g7Q A n (pth 255) (g7T kk))) x0 x1 x3 (A.ib .add .i64 4 (A.ofN (A.nb .rem .u8 x2 4))) (g9r0 A) (g9r0 A))
  rw [h4] at h5
  have h6 := (g7p191 A n _ _).trans h5
  have h7 := (g7p127 A n _ _).trans h6
  have h8 := (g7Qn A n _ _ _).trans h7
  have h9 := (g7F A n _ 6 _ (g7R5s0 A x0 x1 x3 (A.ib .add .i64 4 (A.ofN (A.nb .rem .u8 x2 4)))) _ (by kernel_rfl) (by kernel_rfl)).trans (g7R6 A n (g7Q A n (pth 127) (g7T kk)) x0 x1 x3 (A.ib .add .i64 4 (A.ofN (A.nb .rem .u8 x2 4))) (g9r0 A))
  rw [h8] at h9
  have h10 := (g7p63 A n _ _).trans h9
  have h11 := (g7Qn A n _ _ _).trans h10
  have h12 := (g7F A n _ 5 _ (g7R4s0 A x0 x1 x2 x3) _ (by kernel_rfl) (by kernel_rfl)).trans (g7R5 A n (g7Q A n (pth 63) (g7T kk)) x0 x1 x3 (A.ib .add .i64 4 (A.ofN (A.nb .rem .u8 x2 4))))
  rw [h11] at h12
  have h13 := (g7p31 A n _ _).trans h12
  have h14 := (g7Qn A n _ _ _).trans h13
  have h15 := (g7F A n _ 4 _ ⟨[(0, (u32v x0)), (1, (u32v x1)), (2, (u8v x2)), (7, (bO x3))], []⟩ _ (by kernel_rfl) (by kernel_rfl)).trans (g7R4 A n (g7Q A n (pth 31) (g7T kk)) x0 x1 x2 x3)
  rw [h14] at h15
  have h16 := (g7p15 A n _ _).trans h15
  exact (g7F A n _ 4 _ _ ⟨[(0, (u32v x0)), (1, (u32v x1)), (2, (u8v x2)), (7, (bO x3))], []⟩ (by kernel_rfl) (h.trans (by kernel_rfl))).trans (h16.trans (by kernel_rfl))
def g7 {R : Type} (A : Ar) (n : Nat) (kk : AV → Heap → Option R) (a b c : Nat) : Option R :=
  match (generalizing := false) g8ok A with
  | true => match (generalizing := false) !(g8r0 A) with
    | true => kk (bO false) []
    | false => g7J4 A n kk  a b c (g8r0 A)
  | false => none
set_option maxRecDepth 100000 in
theorem g7_eq {R : Type} (A : Ar) (n : Nat) (kk : AV → Heap → Option R) (a b c : Nat) :
    funD A gtys (g7O A) g7an n (bodyOf Try.f7) g7res [(u32v a), (u32v b), (u8v c)] [] kk = g7 A n kk a b c := by
  have h1 : (g7T kk) .ret (g7R3s0 A) = kk (bO false) [] := by kernel_rfl
  have h2 := (g7Qr A n (pth 15) _ _).trans h1
  have h3 := (g7p107 A n _ _).trans h2
  have h4 := (g7Qn A n _ _ _).trans h3
  have h5 := (g7F A n _ 3 _ (g7R2s0 A a b c (g8r0 A)) _ (by kernel_rfl) (by kernel_rfl)).trans (g7R3 A n (g7Q A n (pth 107) (g7Q A n (pth 15) (g7T kk))) )
  rw [h4] at h5
  have h6 := (g7p43 A n _ _).trans h5
  have h7 := (g7Qn A n _ _ _).trans (g7J4_eq A n kk     (g7R2s0 A a b c (g8r0 A)) a b c (g8r0 A) (by kernel_rfl))
  have h8 := (g7p59 A n _ _).trans h7
  have h9 := g7p27 A n (g7Q A n (pth 15) (g7T kk)) (g7R2s0 A a b c (g8r0 A)) (!(g8r0 A)) (by kernel_rfl)
  rw [h6, h8] at h9
  have h10 := (g7Qn A n _ _ _).trans h9
  have h11 := (g7F A n _ 2 _ (g7R1s0 A a b c) _ (by kernel_rfl) (by kernel_rfl)).trans (g7R2 A n (g7Q A n (pth 27) (g7Q A n (pth 15) (g7T kk))) a b c (g8r0 A))
  rw [h10] at h11
  have h12 := (g7p11 A n _ _).trans h11
  have h13 := (g7p7 A n _ _).trans h12
  have h14 := (g7Qn A n _ _ _).trans h13
  have h15 := (g7F A n _ 1 _ (g7R0s0 A a b c) _ (by kernel_rfl) (by kernel_rfl)).trans (g7R1 A n (g7Q A n (pth 7) (g7T kk)) a b c)
  rw [h14] at h15
  have h16 := (g7p3 A n _ _).trans h15
  have h17 := (g7Qn A n _ _ _).trans h16
  have h18 := (g7F A n _ 0 _ ⟨[(0, (u32v a)), (1, (u32v b)), (2, (u8v c))], []⟩ _ (by kernel_rfl) (by kernel_rfl)).trans (g7R0 A n (g7Q A n (pth 3) (g7T kk)) a b c)
  rw [h17] at h18
  have h19 := (g7p1 A n _ _).trans h18
  exact (show funD A gtys (g7O A) g7an n (bodyOf Try.f7) g7res [(u32v a), (u32v b), (u8v c)] [] kk = g7D A n (pth 1) (g7T kk) ⟨[(0, (u32v a)), (1, (u32v b)), (2, (u8v c))], []⟩ from by kernel_rfl).trans (h19.trans (by kernel_rfl))
def g7is (o : Option AV) : Bool := match o with
  | some (.v (.cell (.bool _))) => true
  | _ => false
def g7g0 (o : Option AV) : Bool := match o with
  | some (.v (.cell (.bool x))) => x
  | _ => false
theorem g7is_spec {o : Option AV} (h : g7is o = true) : o = some (.v (.cell (.bool (g7g0 o)))) := by
  unfold g7is at h
  split at h
  · rfl
  · cases h
def g7v (A : Ar) (a b c : Nat) : Option AV := g7 A (100000) (fun v _ => some v) a b c
def g7ok (A : Ar) (a b c : Nat) : Bool := g7is (g7v A a b c)
def g7r0 (A : Ar) (a b c : Nat) : Bool := g7g0 (g7v A a b c)
theorem g7ok_spec {A : Ar} {a b c} (h : g7ok A a b c = true) : g7v A a b c = some (.v (.cell (.bool (g7r0 A a b c)))) := g7is_spec h
def g7o (A : Ar) (args : List AV) : Option (Bool × AV) := match args with
  | [.v (.cell (.nat .u32 a)), .v (.cell (.nat .u32 b)), .v (.cell (.nat .u8 c))] => some (g7ok A a b c, .v (.cell (.bool (g7r0 A a b c))))
  | _ => none
theorem g7o_sound : ∀ args v, g7o realA args = some (true, v) → Fn1 Try.prog 7 args v := by
  intro args v h
  unfold g7o at h
  split at h
  · rename_i a b c
    simp only [Option.some.injEq, Prod.mk.injEq] at h
    obtain ⟨hc, h⟩ := h
    subst h
    · skip
      exact fn1_of mixed gtysOK g7O_sound g7O_det (an := g7an) (n := 100000) Try.func7 (c := bodyOf Try.f7) rfl (by kernel_rfl) Try.call7 (Nat.le_of_ble_eq_true rfl) (fun b => rfl) (fun _ => (g7_eq realA (100000) (fun v _ => some v) a b c).trans (show g7v realA a b c = _ from g7ok_spec hc))
  · cases h
section
variable {R : Type} (A : Ar) (n : Nat) (K : Ex → St → Option R) (s : St)
end
def g15a_ {R : Type} (A : Ar) (n : Nat) (kk : AV → Heap → Option R) (x0 : List Nat) (x1 x2 : Int) (x3 x4 : Nat) (x5 : List Nat) : Option R :=
  match (generalizing := false) g11ok A (A.ofN x0.length) x1 x2 x3 x4 x5 with
  | true => match (generalizing := false) g13ok A x0 (g11r0 A (A.ofN x0.length) x1 x2 x3 x4 x5) (g11r1 A (A.ofN x0.length) x1 x2 x3 x4 x5) (g11r2 A (A.ofN x0.length) x1 x2 x3 x4 x5) (g11r3 A (A.ofN x0.length) x1 x2 x3 x4 x5) with
    | true => kk (.tup []) [(0, ⟨[.one (.int .i64 (g13r0 A x0 (g11r0 A (A.ofN x0.length) x1 x2 x3 x4 x5) (g11r1 A (A.ofN x0.length) x1 x2 x3 x4 x5) (g11r2 A (A.ofN x0.length) x1 x2 x3 x4 x5) (g11r3 A (A.ofN x0.length) x1 x2 x3 x4 x5))), .one (.sl 501 none (g13r1 A x0 (g11r0 A (A.ofN x0.length) x1 x2 x3 x4 x5) (g11r1 A (A.ofN x0.length) x1 x2 x3 x4 x5) (g11r2 A (A.ofN x0.length) x1 x2 x3 x4 x5) (g11r3 A (A.ofN x0.length) x1 x2 x3 x4 x5)) 1)], 56, 1⟩), (501, ⟨[.nums .u8 (g13r2 A x0 (g11r0 A (A.ofN x0.length) x1 x2 x3 x4 x5) (g11r1 A (A.ofN x0.length) x1 x2 x3 x4 x5) (g11r2 A (A.ofN x0.length) x1 x2 x3 x4 x5) (g11r3 A (A.ofN x0.length) x1 x2 x3 x4 x5)) (g13r3 A x0 (g11r0 A (A.ofN x0.length) x1 x2 x3 x4 x5) (g11r1 A (A.ofN x0.length) x1 x2 x3 x4 x5) (g11r2 A (A.ofN x0.length) x1 x2 x3 x4 x5) (g11r3 A (A.ofN x0.length) x1 x2 x3 x4 x5))], 5, 2⟩)]
    | false => none
  | false => none
def g15a_is (o : Option (AV × Heap)) : Bool := match o with
  | some (.tup [], [(n0, ⟨[.one (.int .i64 _), .one (.sl n1 none _ n2)], n3, n4⟩), (n5, ⟨[.nums .u8 _ _], n6, n7⟩)]) => Nat.beq n0 0 && (Nat.beq n1 501 && (Nat.beq n2 1 && (Nat.beq n3 56 && (Nat.beq n4 1 && (Nat.beq n5 501 && (Nat.beq n6 5 && (Nat.beq n7 2)))))))
  | _ => false
def g15a_g0 (o : Option (AV × Heap)) : Int := match o with
  | some (.tup [], [(_, ⟨[.one (.int .i64 x), .one (.sl _ none _ _)], _, _⟩), (_, ⟨[.nums .u8 _ _], _, _⟩)]) => x
  | _ => 0
def g15a_g1 (o : Option (AV × Heap)) : Nat := match o with
  | some (.tup [], [(_, ⟨[.one (.int .i64 _), .one (.sl _ none x _)], _, _⟩), (_, ⟨[.nums .u8 _ _], _, _⟩)]) => x
  | _ => 0
def g15a_g2 (o : Option (AV × Heap)) : Nat := match o with
  | some (.tup [], [(_, ⟨[.one (.int .i64 _), .one (.sl _ none _ _)], _, _⟩), (_, ⟨[.nums .u8 x _], _, _⟩)]) => x
  | _ => 0
def g15a_g3 (o : Option (AV × Heap)) : List Nat := match o with
  | some (.tup [], [(_, ⟨[.one (.int .i64 _), .one (.sl _ none _ _)], _, _⟩), (_, ⟨[.nums .u8 _ x], _, _⟩)]) => x
  | _ => []
def g15a_v (A : Ar) (x0 : List Nat) (x1 x2 : Int) (x3 x4 : Nat) (x5 : List Nat) : Option (AV × Heap) := g15a_ A (100000) (outH [0, 501] none) x0 x1 x2 x3 x4 x5
def g15a_ok (A : Ar) (x0 : List Nat) (x1 x2 : Int) (x3 x4 : Nat) (x5 : List Nat) : Bool := g15a_is (g15a_v A x0 x1 x2 x3 x4 x5)
def g15a_r0 (A : Ar) (x0 : List Nat) (x1 x2 : Int) (x3 x4 : Nat) (x5 : List Nat) : Int := g15a_g0 (g15a_v A x0 x1 x2 x3 x4 x5)
def g15a_r1 (A : Ar) (x0 : List Nat) (x1 x2 : Int) (x3 x4 : Nat) (x5 : List Nat) : Nat := g15a_g1 (g15a_v A x0 x1 x2 x3 x4 x5)
def g15a_r2 (A : Ar) (x0 : List Nat) (x1 x2 : Int) (x3 x4 : Nat) (x5 : List Nat) : Nat := g15a_g2 (g15a_v A x0 x1 x2 x3 x4 x5)
def g15a_r3 (A : Ar) (x0 : List Nat) (x1 x2 : Int) (x3 x4 : Nat) (x5 : List Nat) : List Nat := g15a_g3 (g15a_v A x0 x1 x2 x3 x4 x5)
section
variable {R : Type} (A : Ar) (n : Nat) (K : Ex → St → Option R) (s : St)
end
def g6J13 {R : Type} (A : Ar) (n : Nat) (kk : AV → Heap → Option R) (lg6L11 : Nat → Int → Bool → Int → Nat → List Int → List Int → List Int → List (List Nat) → Int → Nat → Int → List Nat → Nat → List Nat → Option R) (x0 : Nat) (x1 : Int) (x2 : Bool) (x3 : Int) (x4 : Nat) (x5 x6 x7 : List Int) (x8 : List (List Nat)) (x9 : Int) (x10 : Nat) (x11 : Int) (x12 : List Nat) (x13 : Nat) (x14 : List Nat) : Option R :=
  match (generalizing := false) A.neg x3 with
  | true => none
  | false => match (generalizing := false) A.lt (A.toN x3) x0 with
    | true => match (generalizing := false) g13ok A (x8.getD (A.toN x3) []) x9 x10 x13 x14 with
      | true => match (generalizing := false) A.neg x3 with
        | true => none
        | false => match (generalizing := false) A.lt (A.toN x3) x0 with
          | true => match (generalizing := false) g15a_ok A (x8.getD (A.toN x3) []) x1 (g13r0 A (x8.getD (A.toN x3) []) x9 x10 x13 x14) (g13r1 A (x8.getD (A.toN x3) []) x9 x10 x13 x14) (g13r2 A (x8.getD (A.toN x3) []) x9 x10 x13 x14) (g13r3 A (x8.getD (A.toN x3) []) x9 x10 x13 x14) with
            | true => match (generalizing := false) A.neg x3 with
              | true => none
              | false => match (generalizing := false) A.lt (A.toN x3) x0 with
                | true => match (generalizing := false) g19ok A (x7.getD (A.toN x3) 0) x11 x12 with
                  | true => match (generalizing := false) A.ic .neq (g19r0 A (x7.getD (A.toN x3) 0) x11 x12) 0 with
                    | true => kk (bO false) [(0, ⟨[.recs x4 [.ints .i64 x5, .ints .i64 x6, .ints .i64 x7, .strs x8]], 30, 0⟩)]
                    | false => match (generalizing := false) A.neg x3 with
                      | true => none
                      | false => match (generalizing := false) A.lt (A.toN x3) x0 with
                        | true => match (generalizing := false) g21ok A (x6.getD (A.toN x3) 0) (g19r1 A (x7.getD (A.toN x3) 0) x11 x12) (g19r2 A (x7.getD (A.toN x3) 0) x11 x12) with
                          | true => match (generalizing := false) A.sc .neq (g21r0 A (x6.getD (A.toN x3) 0) (g19r1 A (x7.getD (A.toN x3) 0) x11 x12) (g19r2 A (x7.getD (A.toN x3) 0) x11 x12)) [] with
                            | true => kk (bO false) [(0, ⟨[.recs x4 [.ints .i64 x5, .ints .i64 x6, .ints .i64 x7, .strs x8]], 30, 0⟩)]
                            | false => match (generalizing := false) g23ok A x1 (g21r1 A (x6.getD (A.toN x3) 0) (g19r1 A (x7.getD (A.toN x3) 0) x11 x12) (g19r2 A (x7.getD (A.toN x3) 0) x11 x12)) (g21r2 A (x6.getD (A.toN x3) 0) (g19r1 A (x7.getD (A.toN x3) 0) x11 x12) (g19r2 A (x7.getD (A.toN x3) 0) x11 x12)) with
                              | true => match (generalizing := false) A.sc .neq (g23r0 A x1 (g21r1 A (x6.getD (A.toN x3) 0) (g19r1 A (x7.getD (A.toN x3) 0) x11 x12) (g19r2 A (x7.getD (A.toN x3) 0) x11 x12)) (g21r2 A (x6.getD (A.toN x3) 0) (g19r1 A (x7.getD (A.toN x3) 0) x11 x12) (g19r2 A (x7.getD (A.toN x3) 0) x11 x12))) [] with
                                | true => kk (bO false) [(0, ⟨[.recs x4 [.ints .i64 x5, .ints .i64 x6, .ints .i64 x7, .strs x8]], 30, 0⟩)]
                                | false => match (generalizing := false) g25ok A (g23r1 A x1 (g21r1 A (x6.getD (A.toN x3) 0) (g19r1 A (x7.getD (A.toN x3) 0) x11 x12) (g19r2 A (x7.getD (A.toN x3) 0) x11 x12)) (g21r2 A (x6.getD (A.toN x3) 0) (g19r1 A (x7.getD (A.toN x3) 0) x11 x12) (g19r2 A (x7.getD (A.toN x3) 0) x11 x12))) (g23r2 A x1 (g21r1 A (x6.getD (A.toN x3) 0) (g19r1 A (x7.getD (A.toN x3) 0) x11 x12) (g19r2 A (x7.getD (A.toN x3) 0) x11 x12)) (g21r2 A (x6.getD (A.toN x3) 0) (g19r1 A (x7.getD (A.toN x3) 0) x11 x12) (g19r2 A (x7.getD (A.toN x3) 0) x11 x12))) with
                                  | true => match (generalizing := false) A.ic .neq (g25r0 A (g23r1 A x1 (g21r1 A (x6.getD (A.toN x3) 0) (g19r1 A (x7.getD (A.toN x3) 0) x11 x12) (g19r2 A (x7.getD (A.toN x3) 0) x11 x12)) (g21r2 A (x6.getD (A.toN x3) 0) (g19r1 A (x7.getD (A.toN x3) 0) x11 x12) (g19r2 A (x7.getD (A.toN x3) 0) x11 x12))) (g23r2 A x1 (g21r1 A (x6.getD (A.toN x3) 0) (g19r1 A (x7.getD (A.toN x3) 0) x11 x12) (g19r2 A (x7.getD (A.toN x3) 0) x11 x12)) (g21r2 A (x6.getD (A.toN x3) 0) (g19r1 A (x7.getD (A.toN x3) 0) x11 x12) (g19r2 A (x7.getD (A.toN x3) 0) x11 x12)))) 0 with
                                    | true => kk (bO false) [(0, ⟨[.recs x4 [.ints .i64 x5, .ints .i64 x6, .ints .i64 x7, .strs x8]], 30, 0⟩)]
                                    | false => lg6L11 x0 x1 x2 (A.ib .add .i64 x3 1) x4 x5 x6 x7 x8 (g15a_r0 A (x8.getD (A.toN x3) []) x1 (g13r0 A (x8.getD (A.toN x3) []) x9 x10 x13 x14) (g13r1 A (x8.getD (A.toN x3) []) x9 x10 x13 x14) (g13r2 A (x8.getD (A.toN x3) []) x9 x10 x13 x14) (g13r3 A (x8.getD (A.toN x3) []) x9 x10 x13 x14)) (g15a_r1 A (x8.getD (A.toN x3) []) x1 (g13r0 A (x8.getD (A.toN x3) []) x9 x10 x13 x14) (g13r1 A (x8.getD (A.toN x3) []) x9 x10 x13 x14) (g13r2 A (x8.getD (A.toN x3) []) x9 x10 x13 x14) (g13r3 A (x8.getD (A.toN x3) []) x9 x10 x13 x14)) (g25r1 A (g23r1 A x1 (g21r1 A (x6.getD (A.toN x3) 0) (g19r1 A (x7.getD (A.toN x3) 0) x11 x12) (g19r2 A (x7.getD (A.toN x3) 0) x11 x12)) (g21r2 A (x6.getD (A.toN x3) 0) (g19r1 A (x7.getD (A.toN x3) 0) x11 x12) (g19r2 A (x7.getD (A.toN x3) 0) x11 x12))) (g23r2 A x1 (g21r1 A (x6.getD (A.toN x3) 0) (g19r1 A (x7.getD (A.toN x3) 0) x11 x12) (g19r2 A (x7.getD (A.toN x3) 0) x11 x12)) (g21r2 A (x6.getD (A.toN x3) 0) (g19r1 A (x7.getD (A.toN x3) 0) x11 x12) (g19r2 A (x7.getD (A.toN x3) 0) x11 x12)))) (g25r2 A (g23r1 A x1 (g21r1 A (x6.getD (A.toN x3) 0) (g19r1 A (x7.getD (A.toN x3) 0) x11 x12) (g19r2 A (x7.getD (A.toN x3) 0) x11 x12)) (g21r2 A (x6.getD (A.toN x3) 0) (g19r1 A (x7.getD (A.toN x3) 0) x11 x12) (g19r2 A (x7.getD (A.toN x3) 0) x11 x12))) (g23r2 A x1 (g21r1 A (x6.getD (A.toN x3) 0) (g19r1 A (x7.getD (A.toN x3) 0) x11 x12) (g19r2 A (x7.getD (A.toN x3) 0) x11 x12)) (g21r2 A (x6.getD (A.toN x3) 0) (g19r1 A (x7.getD (A.toN x3) 0) x11 x12) (g19r2 A (x7.getD (A.toN x3) 0) x11 x12)))) (g15a_r2 A (x8.getD (A.toN x3) []) x1 (g13r0 A (x8.getD (A.toN x3) []) x9 x10 x13 x14) (g13r1 A (x8.getD (A.toN x3) []) x9 x10 x13 x14) (g13r2 A (x8.getD (A.toN x3) []) x9 x10 x13 x14) (g13r3 A (x8.getD (A.toN x3) []) x9 x10 x13 x14)) (g15a_r3 A (x8.getD (A.toN x3) []) x1 (g13r0 A (x8.getD (A.toN x3) []) x9 x10 x13 x14) (g13r1 A (x8.getD (A.toN x3) []) x9 x10 x13 x14) (g13r2 A (x8.getD (A.toN x3) []) x9 x10 x13 x14) (g13r3 A (x8.getD (A.toN x3) []) x9 x10 x13 x14))
                                  | false => none
                              | false => none
                          | false => none
                        | false => none
                  | false => none
                | false => none
            | false => none
          | false => none
      | false => none
    | false => none
def g6J17 {R : Type} (A : Ar) (n : Nat) (kk : AV → Heap → Option R)  (x0 : Bool) (x1 : Nat) (x2 x3 x4 : List Int) (x5 : List (List Nat)) (x6 : Int) (x7 : Nat) (x8 : Int) (x9 : List Nat) (x10 : Nat) (x11 : List Nat) : Option R :=
  match (generalizing := false) g17ok A x6 x7 x10 x11 with
  | true => match (generalizing := false) x0 with
    | true => match (generalizing := false) A.sc .eql (g17r0 A x6 x7 x10 x11) [] with
      | true => match (generalizing := false) A.ic .eql (g17r1 A x6 x7 x10 x11) 1 with
        | true => match (generalizing := false) g27ok A x8 x9 with
          | true => kk (bO (A.ic .eql (g27r0 A x8 x9) 2)) [(0, ⟨[.recs x1 [.ints .i64 x2, .ints .i64 x3, .ints .i64 x4, .strs x5]], 30, 0⟩), (6001, ⟨[.one (.int .i64 (g27r1 A x8 x9)), .one (.str (g27r2 A x8 x9))], 59, 1⟩)]
          | false => none
        | false => kk (bO false) [(0, ⟨[.recs x1 [.ints .i64 x2, .ints .i64 x3, .ints .i64 x4, .strs x5]], 30, 0⟩), (6001, ⟨[.one (.int .i64 x8), .one (.str x9)], 59, 1⟩)]
      | false => kk (bO false) [(0, ⟨[.recs x1 [.ints .i64 x2, .ints .i64 x3, .ints .i64 x4, .strs x5]], 30, 0⟩), (6001, ⟨[.one (.int .i64 x8), .one (.str x9)], 59, 1⟩)]
    | false => kk (bO false) [(0, ⟨[.recs x1 [.ints .i64 x2, .ints .i64 x3, .ints .i64 x4, .strs x5]], 30, 0⟩), (6001, ⟨[.one (.int .i64 x8), .one (.str x9)], 59, 1⟩)]
  | false => none
def g6L11 {R : Type} (A : Ar) (n : Nat) (kk : AV → Heap → Option R)  : Nat → Nat → Int → Bool → Int → Nat → List Int → List Int → List Int → List (List Nat) → Int → Nat → Int → List Nat → Nat → List Nat → Option R
  | 0, _, _, _, _, _, _, _, _, _, _, _, _, _, _, _ => none
  | m + 1, x0, x1, x2, x3, x4, x5, x6, x7, x8, x9, x10, x11, x12, x13, x14 => match (generalizing := false) A.ic .lss x3 (A.ofN x0) with
  | true => match (generalizing := false) A.ic .lss x3 10 with
    | true => g6J13 A n kk (g6L11 A n kk  m) x0 x1 x2 x3 x4 x5 x6 x7 x8 x9 x10 x11 x12 x13 x14
    | false => g6J17 A n kk  x2 x4 x5 x6 x7 x8 x9 x10 x11 x12 x13 x14
  | false => g6J17 A n kk  x2 x4 x5 x6 x7 x8 x9 x10 x11 x12 x13 x14
def g6J8 {R : Type} (A : Ar) (n : Nat) (kk : AV → Heap → Option R)  (x0 : Nat) (x1 : List Nat) (x2 : Int) (x3 : Bool) (x4 : Nat) (x5 x6 x7 : List Int) (x8 : List (List Nat)) (x9 x10 : Int) (x11 : List Nat) : Option R :=
  match (generalizing := false) g11a_ok A (-1) 2 x9 0 0 [] with
  | true => match (generalizing := false) g21ok A (A.ib .add .i64 (A.ofN x1.length) 1) x10 x11 with
    | true => g6L11 A n kk  n x0 x2 x3 0 x4 x5 x6 x7 x8 (g11a_r0 A (-1) 2 x9 0 0 []) (g11a_r1 A (-1) 2 x9 0 0 []) (g21r1 A (A.ib .add .i64 (A.ofN x1.length) 1) x10 x11) (g21r2 A (A.ib .add .i64 (A.ofN x1.length) 1) x10 x11) (g11a_r2 A (-1) 2 x9 0 0 []) (g11a_r3 A (-1) 2 x9 0 0 [])
    | false => none
  | false => none
def g6J4 {R : Type} (A : Ar) (n : Nat) (kk : AV → Heap → Option R)  (x0 : Nat) (x1 : List Nat) (x2 : Int) (x3 : Bool) (x4 : Nat) (x5 x6 x7 : List Int) (x8 : List (List Nat)) : Option R :=
  match (generalizing := false) g9ok A with
  | true => match (generalizing := false) g18ok A x1 with
    | true => g6J8 A n kk  x0 x1 x2 x3 x4 x5 x6 x7 x8 (g9r0 A) (g18r0 A x1) (g18r1 A x1)
    | false => none
  | false => none
def g6 {R : Type} (A : Ar) (n : Nat) (kk : AV → Heap → Option R) (x0 : Nat) (x1 : List Nat) (x2 : Int) (x3 : Nat) (x4 x5 x6 : List Int) (x7 : List (List Nat)) : Option R :=
  match (generalizing := false) g8ok A with
  | true => match (generalizing := false) !(g8r0 A) with
    | true => kk (bO false) [(0, ⟨[.recs x3 [.ints .i64 x4, .ints .i64 x5, .ints .i64 x6, .strs x7]], 30, 0⟩)]
    | false => g6J4 A n kk  x0 x1 x2 (g8r0 A) x3 x4 x5 x6 x7
  | false => none
end Go.Sx
