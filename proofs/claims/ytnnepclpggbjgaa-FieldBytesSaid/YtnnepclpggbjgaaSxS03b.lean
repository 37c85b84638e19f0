import Derived.Test.YtnnepclpggbjgaaSxS03a
/- printed by sxgen -/
namespace Go.Sx
open Go.Proofs
set_option linter.unusedVariables false
/- engrosser/field.power -/
def g46O (A : Ar) : Orc := orcOf [(42, g42o A)]
theorem g46O_sound : OSound Try.prog (g46O realA) := orc_sound fun f g hm args v hv => by
  simp only [List.mem_cons, List.not_mem_nil, or_false, Prod.mk.injEq] at hm
  rcases hm with ⟨rfl, rfl⟩
  · exact g42o_sound _ _ hv
theorem g46O_det : ODet (g46O realA) := orc_det _
def g46an : Ann := [(0, ([0, 1], [])), (1, ([2, 3, 4], [1000, 1001, 1002])), (2, ([2, 3, 4, 5], [1000, 1001, 1002, 2001])), (3, ([2, 3, 4, 5, 9, 10], [1000, 1001, 1002, 2001])), (4, ([2, 3, 4, 5, 9, 10], [1000, 1001, 1002, 2001])), (5, ([2, 3, 4, 5, 6, 7, 9, 10], [1000, 1001, 1002, 2001])), (6, ([2, 3, 4, 5, 6, 7, 9, 10, 14], [1000, 1001, 1002, 2001])), (7, ([2, 3, 4, 5, 6, 7, 9, 10, 14], [1000, 1001, 1002, 2001])), (8, ([2, 3, 4, 5, 6, 7, 9, 10, 14], [1000, 1001, 1002, 2001])), (9, ([2, 3, 4, 5, 6, 7, 9, 10, 14], [1000, 1001, 1002, 2001])), (10, ([2, 3, 4, 5, 6, 7, 9, 10, 14], [1000, 1001, 1002, 2001])), (11, ([2, 3, 4, 5, 6, 7, 9, 10, 14], [1000, 1001, 1002, 2001])), (12, ([2, 3, 4, 5, 9, 10], [1000, 1001, 1002, 2001])), (13, ([4, 5], [1002, 2001]))]
def g46res : List ResultVar := [.cell 4 44]
noncomputable def g46D {R : Type} (A : Ar) (n : Nat) (p : List Bool) (K : Ex → St → Option R) (s : St) : Option R := codeD A gtys (g46O A) g46an n (sub (bodyOf Try.f46) p) K s
noncomputable def g46V {R : Type} (A : Ar) (n : Nat) (p : List Bool) (m : Nat) (K : Ex → St → Option R) (s : St) : Option R := loopD (fun K' s'' => codeD A gtys (g46O A) g46an n (sub (bodyOf Try.f46) p) K' s'') m K s
noncomputable def g46Q {R : Type} (A : Ar) (n : Nat) (p : List Bool) (K : Ex → St → Option R) : Ex → St → Option R := seqC (g46D A n p K) K
noncomputable def g46W {R : Type} (A : Ar) (n : Nat) (p : List Bool) (m : Nat) (K : Ex → St → Option R) : Ex → St → Option R := seqC (g46V A n p m K) K
noncomputable def g46T {R : Type} (kk : AV → Heap → Option R) : Ex → St → Option R := finD gtys g46res kk
theorem g46Qn {R : Type} (A : Ar) (n : Nat) (p : List Bool) (K : Ex → St → Option R) (s : St) : g46Q A n p K .normal s = g46D A n p K s := rfl
theorem g46Qe {R : Type} (A : Ar) (n : Nat) (p : List Bool) (K : Ex → St → Option R) (i : Nat) (s : St) : g46Q A n p K (.exit i) s = K (.exit i) s := rfl
theorem g46Wn {R : Type} (A : Ar) (n : Nat) (p : List Bool) (m : Nat) (K : Ex → St → Option R) (s : St) : g46W A n p m K .normal s = g46V A n p m K s := rfl
theorem g46We {R : Type} (A : Ar) (n : Nat) (p : List Bool) (m : Nat) (K : Ex → St → Option R) (i : Nat) (s : St) : g46W A n p m K (.exit i) s = K (.exit i) s := rfl
theorem g46Vs {R : Type} (A : Ar) (n : Nat) (p : List Bool) (m : Nat) (K : Ex → St → Option R) (s : St) : g46V A n p (m + 1) K s = g46D A n p (g46W A n p m K) s := rfl
theorem g46F {R : Type} (A : Ar) (n : Nat) (p : List Bool) (i : Nat) (K : Ex → St → Option R) (s s' : St) (hf : firstReg (sub (bodyOf Try.f46) p) = some i) (h : keep g46an i s = keep g46an i s') : g46D A n p K s = g46D A n p K s' := codeD_first hf h K
section
variable {R : Type} (A : Ar) (n : Nat) (K : Ex → St → Option R) (s : St)
theorem g46p1 : g46D A n (pth 1) K s = g46D A n (pth 2) (g46Q A n (pth 3) K) s := by kernel_rfl
theorem g46p3 : g46D A n (pth 3) K s = g46D A n (pth 5) K s := by kernel_rfl
theorem g46p5 : g46D A n (pth 5) K s = g46D A n (pth 9) (g46Q A n (pth 13) K) s := by kernel_rfl
theorem g46p13 : g46D A n (pth 13) K s = g46D A n (pth 21) (g46Q A n (pth 29) K) s := by kernel_rfl
theorem g46p21 : g46D A n (pth 21) K s = K .normal s := by kernel_rfl
theorem g46p29 : g46D A n (pth 29) K s = g46D A n (pth 45) (g46Q A n (pth 61) K) s := by kernel_rfl
theorem g46p45 : g46D A n (pth 45) K s = g46D A n (pth 77) (g46Q A n (pth 109) K) s := by kernel_rfl
theorem g46p109 : g46D A n (pth 109) K s = g46D A n (pth 173) (blockK 0 K) s := by kernel_rfl
theorem g46p173 : g46D A n (pth 173) K s = g46V A n (pth 301) n K s := by kernel_rfl
theorem g46p301 : g46D A n (pth 301) K s = g46D A n (pth 557) (g46Q A n (pth 813) K) s := by kernel_rfl
theorem g46p813 : g46D A n (pth 813) K s = g46D A n (pth 1325) (g46Q A n (pth 1837) K) s := by kernel_rfl
theorem g46p1325 (t : Bool) : ev s (.tmp 11) = some (.v (.cell (.bool t))) → g46D A n (pth 1325) K s = (match t with
    | true => g46D A n (pth 2349) K s
    | false => g46D A n (pth 3373) K s) := codeD_cond t
theorem g46p2349 : g46D A n (pth 2349) K s = K .normal s := by kernel_rfl
theorem g46p3373 : g46D A n (pth 3373) K s = K (.exit 0) s := by kernel_rfl
theorem g46p1837 : g46D A n (pth 1837) K s = g46D A n (pth 2861) (g46Q A n (pth 3885) K) s := by kernel_rfl
theorem g46p2861 : g46D A n (pth 2861) K s = g46D A n (pth 4909) (blockK 1 K) s := by kernel_rfl
theorem g46p4909 : g46D A n (pth 4909) K s = g46D A n (pth 9005) (g46Q A n (pth 13101) K) s := by kernel_rfl
theorem g46p13101 : g46D A n (pth 13101) K s = g46D A n (pth 21293) (g46Q A n (pth 29485) K) s := by kernel_rfl
theorem g46p29485 : g46D A n (pth 29485) K s = g46D A n (pth 45869) (blockK 2 K) s := by kernel_rfl
theorem g46p45869 : g46D A n (pth 45869) K s = g46V A n (pth 78637) n K s := by kernel_rfl
theorem g46p78637 : g46D A n (pth 78637) K s = g46D A n (pth 144173) (g46Q A n (pth 209709) K) s := by kernel_rfl
theorem g46p209709 : g46D A n (pth 209709) K s = g46D A n (pth 340781) (g46Q A n (pth 471853) K) s := by kernel_rfl
theorem g46p340781 (t : Bool) : ev s (.tmp 15) = some (.v (.cell (.bool t))) → g46D A n (pth 340781) K s = (match t with
    | true => g46D A n (pth 602925) K s
    | false => g46D A n (pth 865069) K s) := codeD_cond t
theorem g46p602925 : g46D A n (pth 602925) K s = K .normal s := by kernel_rfl
theorem g46p865069 : g46D A n (pth 865069) K s = K (.exit 2) s := by kernel_rfl
theorem g46p471853 : g46D A n (pth 471853) K s = g46D A n (pth 733997) (g46Q A n (pth 996141) K) s := by kernel_rfl
theorem g46p733997 : g46D A n (pth 733997) K s = g46D A n (pth 1258285) (blockK 3 K) s := by kernel_rfl
theorem g46p1258285 : g46D A n (pth 1258285) K s = g46D A n (pth 2306861) (g46Q A n (pth 3355437) K) s := by kernel_rfl
theorem g46p2306861 : g46D A n (pth 2306861) K s = g46D A n (pth 4404013) (g46Q A n (pth 6501165) K) s := by kernel_rfl
theorem g46p6501165 (t : Bool) : ev s (.tmp 26) = some (.v (.cell (.bool t))) → g46D A n (pth 6501165) K s = (match t with
    | true => g46D A n (pth 10695469) K s
    | false => g46D A n (pth 14889773) K s) := codeD_cond t
theorem g46p10695469 : g46D A n (pth 10695469) K s = K (.exit 0) s := by kernel_rfl
theorem g46p14889773 : g46D A n (pth 14889773) K s = K .normal s := by kernel_rfl
theorem g46p3355437 : g46D A n (pth 3355437) K s = g46D A n (pth 5452589) (g46Q A n (pth 7549741) K) s := by kernel_rfl
theorem g46p5452589 : g46D A n (pth 5452589) K s = g46D A n (pth 9646893) (g46Q A n (pth 13841197) K) s := by kernel_rfl
theorem g46p13841197 (t : Bool) : ev s (.tmp 29) = some (.v (.cell (.bool t))) → g46D A n (pth 13841197) K s = (match t with
    | true => g46D A n (pth 22229805) K s
    | false => g46D A n (pth 30618413) K s) := codeD_cond t
theorem g46p30618413 : g46D A n (pth 30618413) K s = K .normal s := by kernel_rfl
theorem g46p61 : g46D A n (pth 61) K s = g46D A n (pth 93) (g46Q A n (pth 125) K) s := by kernel_rfl
theorem g46p125 : g46D A n (pth 125) K s = K .ret s := by kernel_rfl
def g46R10s0 (A : Ar) (x0 : Int) (x1 : Nat) (x2 : List Nat) (x3 x4 : Int) (x5 x6 : List Nat) (x7 x8 : List Nat) : St := ⟨[(7, (u64v (A.nsh .shr .u64 x1 1))), (37, (u64v (A.nsh .shr .u64 x1 1))), (36, (u64v x1)), (35, (aN .u64 5 (g42r0 A x5 x5))), (34, (aN .u64 5 x5)), (33, (aN .u64 5 x5)), (2, (pT 1000 0)), (3, (pT 1001 0)), (4, (pT 1002 0)), (5, (pT 2001 0)), (6, (i6 x0)), (7, (u64v x1)), (9, (aN .u64 4 x2)), (10, (i6 x3)), (14, (i6 x4))], [(1000, (bU 5 (g42r0 A x5 x5) 44)), (1001, (bU 4 x6 23)), (1002, (bU 5 x7 44)), (2001, (bU 5 x8 44))]⟩
theorem g46R10 (x0 : Int) (x1 : Nat) (x2 : List Nat) (x3 x4 : Int) (x5 x6 : List Nat) (x7 x8 : List Nat) : g46D A n (pth 7549741) K ⟨[(2, (pT 1000 0)), (3, (pT 1001 0)), (4, (pT 1002 0)), (5, (pT 2001 0)), (6, (i6 x0)), (7, (u64v x1)), (9, (aN .u64 4 x2)), (10, (i6 x3)), (14, (i6 x4))], [(1000, (bU 5 x5 44)), (1001, (bU 4 x6 23)), (1002, (bU 5 x7 44)), (2001, (bU 5 x8 44))]⟩ = match (generalizing := false) g42ok A x5 x5 with
    | true => K .normal (g46R10s0 A x0 x1 x2 x3 x4 x5 x6 x7 x8)
    | false => none := by kernel_rfl
def g46R11s0 (A : Ar) (x0 : Int) (x1 : Nat) (x2 : List Nat) (x3 x4 : Int) (x5 x6 : List Nat) (x7 x8 : List Nat) : St := ⟨[(14, (i6 (A.ib .add .i64 x4 1))), (38, (i6 (A.ib .add .i64 x4 1))), (2, (pT 1000 0)), (3, (pT 1001 0)), (4, (pT 1002 0)), (5, (pT 2001 0)), (6, (i6 x0)), (7, (u64v x1)), (9, (aN .u64 4 x2)), (10, (i6 x3)), (14, (i6 x4))], [(1000, (bU 5 x5 44)), (1001, (bU 4 x6 23)), (1002, (bU 5 x7 44)), (2001, (bU 5 x8 44))]⟩
theorem g46R11 (x0 : Int) (x1 : Nat) (x2 : List Nat) (x3 x4 : Int) (x5 x6 : List Nat) (x7 x8 : List Nat) : g46D A n (pth 996141) K ⟨[(2, (pT 1000 0)), (3, (pT 1001 0)), (4, (pT 1002 0)), (5, (pT 2001 0)), (6, (i6 x0)), (7, (u64v x1)), (9, (aN .u64 4 x2)), (10, (i6 x3)), (14, (i6 x4))], [(1000, (bU 5 x5 44)), (1001, (bU 4 x6 23)), (1002, (bU 5 x7 44)), (2001, (bU 5 x8 44))]⟩ = K .normal (g46R11s0 A x0 x1 x2 x3 x4 x5 x6 x7 x8) := by kernel_rfl
def g46R8s0 (A : Ar) (x0 : Int) (x1 : Nat) (x2 : List Nat) (x3 x4 : Int) (x5 x6 : List Nat) (x7 x8 : List Nat) : St := ⟨[(29, (bO (A.nc .neq (A.nb .and .u64 x1 1) 0))), (28, (u64v (A.nb .and .u64 x1 1))), (27, (u64v x1)), (2, (pT 1000 0)), (3, (pT 1001 0)), (4, (pT 1002 0)), (5, (pT 2001 0)), (6, (i6 x0)), (7, (u64v x1)), (9, (aN .u64 4 x2)), (10, (i6 x3)), (14, (i6 x4))], [(1000, (bU 5 x5 44)), (1001, (bU 4 x6 23)), (1002, (bU 5 x7 44)), (2001, (bU 5 x8 44))]⟩
theorem g46R8 (x0 : Int) (x1 : Nat) (x2 : List Nat) (x3 x4 : Int) (x5 x6 : List Nat) (x7 x8 : List Nat) : g46D A n (pth 9646893) K ⟨[(2, (pT 1000 0)), (3, (pT 1001 0)), (4, (pT 1002 0)), (5, (pT 2001 0)), (6, (i6 x0)), (7, (u64v x1)), (9, (aN .u64 4 x2)), (10, (i6 x3)), (14, (i6 x4))], [(1000, (bU 5 x5 44)), (1001, (bU 4 x6 23)), (1002, (bU 5 x7 44)), (2001, (bU 5 x8 44))]⟩ = K .normal (g46R8s0 A x0 x1 x2 x3 x4 x5 x6 x7 x8) := by kernel_rfl
def g46R9s0 (A : Ar) (x0 : Int) (x1 : Nat) (x2 : List Nat) (x3 x4 : Int) (x5 x6 : List Nat) (x7 x8 : List Nat) : St := ⟨[(32, (aN .u64 5 (g42r0 A x8 x5))), (31, (aN .u64 5 x5)), (30, (aN .u64 5 x8)), (2, (pT 1000 0)), (3, (pT 1001 0)), (4, (pT 1002 0)), (5, (pT 2001 0)), (6, (i6 x0)), (7, (u64v x1)), (9, (aN .u64 4 x2)), (10, (i6 x3)), (14, (i6 x4))], [(1000, (bU 5 x5 44)), (1001, (bU 4 x6 23)), (1002, (bU 5 x7 44)), (2001, (bU 5 (g42r0 A x8 x5) 44))]⟩
theorem g46R9 (x0 : Int) (x1 : Nat) (x2 : List Nat) (x3 x4 : Int) (x5 x6 : List Nat) (x7 x8 : List Nat) : g46D A n (pth 22229805) K ⟨[(2, (pT 1000 0)), (3, (pT 1001 0)), (4, (pT 1002 0)), (5, (pT 2001 0)), (6, (i6 x0)), (7, (u64v x1)), (9, (aN .u64 4 x2)), (10, (i6 x3)), (14, (i6 x4))], [(1000, (bU 5 x5 44)), (1001, (bU 4 x6 23)), (1002, (bU 5 x7 44)), (2001, (bU 5 x8 44))]⟩ = match (generalizing := false) g42ok A x8 x5 with
    | true => K .normal (g46R9s0 A x0 x1 x2 x3 x4 x5 x6 x7 x8)
    | false => none := by kernel_rfl
def g46R7s0 (A : Ar) (x0 : Int) (x1 : Nat) (x2 : List Nat) (x3 x4 : Int) (x5 x6 : List Nat) (x7 x8 : List Nat) : St := ⟨[(26, (bO (A.ic .eql x0 3))), (25, (bO (A.ic .eql x0 3))), (24, (i6 x0)), (23, (bO true)), (22, (bO (A.nc .eql (x6.getD 3 0) 0))), (21, (bO (A.nc .eql (x6.getD 3 0) 0))), (20, (u64v (x6.getD 3 0))), (19, (pT 1001 3)), (18, (bO true)), (17, (bO (A.nc .eql x1 0))), (16, (u64v x1)), (2, (pT 1000 0)), (3, (pT 1001 0)), (4, (pT 1002 0)), (5, (pT 2001 0)), (6, (i6 x0)), (7, (u64v x1)), (9, (aN .u64 4 x2)), (10, (i6 x3)), (14, (i6 x4))], [(1000, (bU 5 x5 44)), (1001, (bU 4 x6 23)), (1002, (bU 5 x7 44)), (2001, (bU 5 x8 44))]⟩
def g46R7s1 (A : Ar) (x0 : Int) (x1 : Nat) (x2 : List Nat) (x3 x4 : Int) (x5 x6 : List Nat) (x7 x8 : List Nat) : St := ⟨[(26, (bO false)), (25, uN), (24, uN), (23, (bO false)), (22, (bO (A.nc .eql (x6.getD 3 0) 0))), (21, (bO (A.nc .eql (x6.getD 3 0) 0))), (20, (u64v (x6.getD 3 0))), (19, (pT 1001 3)), (18, (bO true)), (17, (bO (A.nc .eql x1 0))), (16, (u64v x1)), (2, (pT 1000 0)), (3, (pT 1001 0)), (4, (pT 1002 0)), (5, (pT 2001 0)), (6, (i6 x0)), (7, (u64v x1)), (9, (aN .u64 4 x2)), (10, (i6 x3)), (14, (i6 x4))], [(1000, (bU 5 x5 44)), (1001, (bU 4 x6 23)), (1002, (bU 5 x7 44)), (2001, (bU 5 x8 44))]⟩
def g46R7s2 (A : Ar) (x0 : Int) (x1 : Nat) (x2 : List Nat) (x3 x4 : Int) (x5 x6 : List Nat) (x7 x8 : List Nat) : St := ⟨[(26, (bO false)), (25, uN), (24, uN), (23, (bO false)), (22, (bO false)), (21, uN), (20, uN), (19, uN), (18, (bO false)), (17, (bO (A.nc .eql x1 0))), (16, (u64v x1)), (2, (pT 1000 0)), (3, (pT 1001 0)), (4, (pT 1002 0)), (5, (pT 2001 0)), (6, (i6 x0)), (7, (u64v x1)), (9, (aN .u64 4 x2)), (10, (i6 x3)), (14, (i6 x4))], [(1000, (bU 5 x5 44)), (1001, (bU 4 x6 23)), (1002, (bU 5 x7 44)), (2001, (bU 5 x8 44))]⟩
theorem g46R7 (x0 : Int) (x1 : Nat) (x2 : List Nat) (x3 x4 : Int) (x5 x6 : List Nat) (x7 x8 : List Nat) : g46D A n (pth 4404013) K ⟨[(2, (pT 1000 0)), (3, (pT 1001 0)), (4, (pT 1002 0)), (5, (pT 2001 0)), (6, (i6 x0)), (7, (u64v x1)), (9, (aN .u64 4 x2)), (10, (i6 x3)), (14, (i6 x4))], [(1000, (bU 5 x5 44)), (1001, (bU 4 x6 23)), (1002, (bU 5 x7 44)), (2001, (bU 5 x8 44))]⟩ = match (generalizing := false) A.nc .eql x1 0 with
    | true => match (generalizing := false) A.nc .eql (x6.getD 3 0) 0 with
      | true => K .normal (g46R7s0 A x0 x1 x2 x3 x4 x5 x6 x7 x8)
      | false => K .normal (g46R7s1 A x0 x1 x2 x3 x4 x5 x6 x7 x8)
    | false => K .normal (g46R7s2 A x0 x1 x2 x3 x4 x5 x6 x7 x8) := by kernel_rfl
def g46R13s0 (A : Ar) (x0 x1 : List Nat) : St := ⟨[(40, (aN .u64 5 x1)), (4, (pT 1002 0)), (5, (pT 2001 0))], [(1002, (bU 5 x1 44)), (2001, (bU 5 x1 44))]⟩
theorem g46R13 (x0 x1 : List Nat) : g46D A n (pth 93) K ⟨[(4, (pT 1002 0)), (5, (pT 2001 0))], [(1002, (bU 5 x0 44)), (2001, (bU 5 x1 44))]⟩ = K .normal (g46R13s0 A x0 x1) := by kernel_rfl
def g46R6s0 (A : Ar) (x0 : Int) (x1 : Nat) (x2 : List Nat) (x3 x4 : Int) (x5 x6 : List Nat) (x7 x8 : List Nat) : St := ⟨[(15, (bO (A.ic .lss x4 64))), (2, (pT 1000 0)), (3, (pT 1001 0)), (4, (pT 1002 0)), (5, (pT 2001 0)), (6, (i6 x0)), (7, (u64v x1)), (9, (aN .u64 4 x2)), (10, (i6 x3)), (14, (i6 x4))], [(1000, (bU 5 x5 44)), (1001, (bU 4 x6 23)), (1002, (bU 5 x7 44)), (2001, (bU 5 x8 44))]⟩
theorem g46R6 (x0 : Int) (x1 : Nat) (x2 : List Nat) (x3 x4 : Int) (x5 x6 : List Nat) (x7 x8 : List Nat) : g46D A n (pth 144173) K ⟨[(2, (pT 1000 0)), (3, (pT 1001 0)), (4, (pT 1002 0)), (5, (pT 2001 0)), (6, (i6 x0)), (7, (u64v x1)), (9, (aN .u64 4 x2)), (10, (i6 x3)), (14, (i6 x4))], [(1000, (bU 5 x5 44)), (1001, (bU 4 x6 23)), (1002, (bU 5 x7 44)), (2001, (bU 5 x8 44))]⟩ = K .normal (g46R6s0 A x0 x1 x2 x3 x4 x5 x6 x7 x8) := by kernel_rfl
def g46R12s0 (A : Ar) (x0 : List Nat) (x1 : Int) (x2 x3 : List Nat) (x4 x5 : List Nat) : St := ⟨[(10, (i6 (A.ib .add .i64 x1 1))), (39, (i6 (A.ib .add .i64 x1 1))), (2, (pT 1000 0)), (3, (pT 1001 0)), (4, (pT 1002 0)), (5, (pT 2001 0)), (9, (aN .u64 4 x0)), (10, (i6 x1))], [(1000, (bU 5 x2 44)), (1001, (bU 4 x3 23)), (1002, (bU 5 x4 44)), (2001, (bU 5 x5 44))]⟩
theorem g46R12 (x0 : List Nat) (x1 : Int) (x2 x3 : List Nat) (x4 x5 : List Nat) : g46D A n (pth 3885) K ⟨[(2, (pT 1000 0)), (3, (pT 1001 0)), (4, (pT 1002 0)), (5, (pT 2001 0)), (9, (aN .u64 4 x0)), (10, (i6 x1))], [(1000, (bU 5 x2 44)), (1001, (bU 4 x3 23)), (1002, (bU 5 x4 44)), (2001, (bU 5 x5 44))]⟩ = K .normal (g46R12s0 A x0 x1 x2 x3 x4 x5) := by kernel_rfl
def g46R4s0 (A : Ar) (x0 : List Nat) (x1 : Int) (x2 x3 : List Nat) (x4 x5 : List Nat) : St := ⟨[(7, (u64v (x0.getD (A.toN x1) 0))), (6, (i6 x1)), (13, (u64v (x0.getD (A.toN x1) 0))), (12, (i6 x1)), (2, (pT 1000 0)), (3, (pT 1001 0)), (4, (pT 1002 0)), (5, (pT 2001 0)), (9, (aN .u64 4 x0)), (10, (i6 x1))], [(1000, (bU 5 x2 44)), (1001, (bU 4 x3 23)), (1002, (bU 5 x4 44)), (2001, (bU 5 x5 44))]⟩
theorem g46R4 (x0 : List Nat) (x1 : Int) (x2 x3 : List Nat) (x4 x5 : List Nat) : g46D A n (pth 9005) K ⟨[(2, (pT 1000 0)), (3, (pT 1001 0)), (4, (pT 1002 0)), (5, (pT 2001 0)), (9, (aN .u64 4 x0)), (10, (i6 x1))], [(1000, (bU 5 x2 44)), (1001, (bU 4 x3 23)), (1002, (bU 5 x4 44)), (2001, (bU 5 x5 44))]⟩ = match (generalizing := false) A.neg x1 with
    | true => none
    | false => match (generalizing := false) A.lt (A.toN x1) 4 with
      | true => K .normal (g46R4s0 A x0 x1 x2 x3 x4 x5)
      | false => none := by kernel_rfl
def g46R5s0 (A : Ar) (x0 : Int) (x1 : Nat) (x2 : List Nat) (x3 : Int) (x4 x5 : List Nat) (x6 x7 : List Nat) : St := ⟨[(14, (i6 0)), (2, (pT 1000 0)), (3, (pT 1001 0)), (4, (pT 1002 0)), (5, (pT 2001 0)), (6, (i6 x0)), (7, (u64v x1)), (9, (aN .u64 4 x2)), (10, (i6 x3))], [(1000, (bU 5 x4 44)), (1001, (bU 4 x5 23)), (1002, (bU 5 x6 44)), (2001, (bU 5 x7 44))]⟩
theorem g46R5 (x0 : Int) (x1 : Nat) (x2 : List Nat) (x3 : Int) (x4 x5 : List Nat) (x6 x7 : List Nat) : g46D A n (pth 21293) K ⟨[(2, (pT 1000 0)), (3, (pT 1001 0)), (4, (pT 1002 0)), (5, (pT 2001 0)), (6, (i6 x0)), (7, (u64v x1)), (9, (aN .u64 4 x2)), (10, (i6 x3))], [(1000, (bU 5 x4 44)), (1001, (bU 4 x5 23)), (1002, (bU 5 x6 44)), (2001, (bU 5 x7 44))]⟩ = K .normal (g46R5s0 A x0 x1 x2 x3 x4 x5 x6 x7) := by kernel_rfl
def g46R3s0 (A : Ar) (x0 : List Nat) (x1 : Int) (x2 x3 : List Nat) (x4 x5 : List Nat) : St := ⟨[(11, (bO (A.ic .lss x1 4))), (2, (pT 1000 0)), (3, (pT 1001 0)), (4, (pT 1002 0)), (5, (pT 2001 0)), (9, (aN .u64 4 x0)), (10, (i6 x1))], [(1000, (bU 5 x2 44)), (1001, (bU 4 x3 23)), (1002, (bU 5 x4 44)), (2001, (bU 5 x5 44))]⟩
theorem g46R3 (x0 : List Nat) (x1 : Int) (x2 x3 : List Nat) (x4 x5 : List Nat) : g46D A n (pth 557) K ⟨[(2, (pT 1000 0)), (3, (pT 1001 0)), (4, (pT 1002 0)), (5, (pT 2001 0)), (9, (aN .u64 4 x0)), (10, (i6 x1))], [(1000, (bU 5 x2 44)), (1001, (bU 4 x3 23)), (1002, (bU 5 x4 44)), (2001, (bU 5 x5 44))]⟩ = K .normal (g46R3s0 A x0 x1 x2 x3 x4 x5) := by kernel_rfl
def g46R0s0 (A : Ar) (x0 x1 : List Nat) : St := ⟨[(4, (pT 1002 0)), (3, (pT 1001 0)), (2, (pT 1000 0)), (0, (aN .u64 5 x0)), (1, (aN .u64 4 x1))], [(1002, (bU 5 [0, 0, 0, 0, 0] 44)), (1001, (bU 4 x1 23)), (1000, (bU 5 x0 44))]⟩
theorem g46R0 (x0 x1 : List Nat) : g46D A n (pth 2) K ⟨[(0, (aN .u64 5 x0)), (1, (aN .u64 4 x1))], []⟩ = K .normal (g46R0s0 A x0 x1) := by kernel_rfl
def g46R1s0 (A : Ar) (x0 x1 x2 : List Nat) : St := ⟨[(5, (pT 2001 0)), (8, (aN .u64 5 ([0, 0, 0, 0, 0].set 0 1))), (2, (pT 1000 0)), (3, (pT 1001 0)), (4, (pT 1002 0))], [(2001, (bU 5 ([0, 0, 0, 0, 0].set 0 1) 44)), (1000, (bU 5 x0 44)), (1001, (bU 4 x1 23)), (1002, (bU 5 x2 44))]⟩
theorem g46R1 (x0 x1 x2 : List Nat) : g46D A n (pth 9) K ⟨[(2, (pT 1000 0)), (3, (pT 1001 0)), (4, (pT 1002 0))], [(1000, (bU 5 x0 44)), (1001, (bU 4 x1 23)), (1002, (bU 5 x2 44))]⟩ = K .normal (g46R1s0 A x0 x1 x2) := by kernel_rfl
def g46R2s0 (A : Ar) (x0 x1 : List Nat) (x2 x3 : List Nat) : St := ⟨[(10, (i6 0)), (9, (aN .u64 4 x1)), (2, (pT 1000 0)), (3, (pT 1001 0)), (4, (pT 1002 0)), (5, (pT 2001 0))], [(1000, (bU 5 x0 44)), (1001, (bU 4 x1 23)), (1002, (bU 5 x2 44)), (2001, (bU 5 x3 44))]⟩
theorem g46R2 (x0 x1 : List Nat) (x2 x3 : List Nat) : g46D A n (pth 77) K ⟨[(2, (pT 1000 0)), (3, (pT 1001 0)), (4, (pT 1002 0)), (5, (pT 2001 0))], [(1000, (bU 5 x0 44)), (1001, (bU 4 x1 23)), (1002, (bU 5 x2 44)), (2001, (bU 5 x3 44))]⟩ = K .normal (g46R2s0 A x0 x1 x2 x3) := by kernel_rfl
end
def g46J10 {R : Type} (A : Ar) (n : Nat) (kk : AV → Heap → Option R) (lg46L3 : List Nat → Int → List Nat → List Nat → List Nat → List Nat → Option R) (lg46L6 : Int → Nat → List Nat → Int → Int → List Nat → List Nat → List Nat → List Nat → Option R) (x0 : Int) (x1 : Nat) (x2 : List Nat) (x3 x4 : Int) (x5 x6 : List Nat) (x7 x8 : List Nat) : Option R :=
  match (generalizing := false) g42ok A x5 x5 with
  | true => lg46L6 x0 (A.nsh .shr .u64 x1 1) x2 x3 (A.ib .add .i64 x4 1) (g42r0 A x5 x5) x6 x7 x8
  | false => none
set_option maxRecDepth 100000 in
theorem g46J10_eq {R : Type} (A : Ar) (n : Nat) (kk : AV → Heap → Option R) (m0 m1 : Nat) (lg46L3 : List Nat → Int → List Nat → List Nat → List Nat → List Nat → Option R) (lg46L6 : Int → Nat → List Nat → Int → Int → List Nat → List Nat → List Nat → List Nat → Option R) 
    (hg46L3 : ∀ (s : St) (x0 : List Nat) (x1 : Int) (x2 x3 : List Nat) (x4 x5 : List Nat), keep g46an 3 s = ⟨[(2, (pT 1000 0)), (3, (pT 1001 0)), (4, (pT 1002 0)), (5, (pT 2001 0)), (9, (aN .u64 4 x0)), (10, (i6 x1))], [(1000, (bU 5 x2 44)), (1001, (bU 4 x3 23)), (1002, (bU 5 x4 44)), (2001, (bU 5 x5 44))]⟩ → g46V A n (pth 301) m0 (blockK 0 (g46Q A n (pth 61) (g46T kk))) s = lg46L3 x0 x1 x2 x3 x4 x5)
    (hg46L6 : ∀ (s : St) (x0 : Int) (x1 : Nat) (x2 : List Nat) (x3 x4 : Int) (x5 x6 : List Nat) (x7 x8 : List Nat), keep g46an 6 s = ⟨[(2, (pT 1000 0)), (3, (pT 1001 0)), (4, (pT 1002 0)), (5, (pT 2001 0)), (6, (i6 x0)), (7, (u64v x1)), (9, (aN .u64 4 x2)), (10, (i6 x3)), (14, (i6 x4))], [(1000, (bU 5 x5 44)), (1001, (bU 4 x6 23)), (1002, (bU 5 x7 44)), (2001, (bU 5 x8 44))]⟩ → g46V A n (pth 78637) m1 (blockK 2 (blockK 1 (g46Q A n (pth 3885) (g46W A n (pth 301) m0 (blockK 0 (g46Q A n (pth 61) (g46T kk))))))) s = lg46L6 x0 x1 x2 x3 x4 x5 x6 x7 x8) (s : St) (x0 : Int) (x1 : Nat) (x2 : List Nat) (x3 x4 : Int) (x5 x6 : List Nat) (x7 x8 : List Nat) (h : keep g46an 10 s = ⟨[(2, (pT 1000 0)), (3, (pT 1001 0)), (4, (pT 1002 0)), (5, (pT 2001 0)), (6, (i6 x0)), (7, (u64v x1)), (9, (aN .u64 4 x2)), (10, (i6 x3)), (14, (i6 x4))], [(1000, (bU 5 x5 44)), (1001, (bU 4 x6 23)), (1002, (bU 5 x7 44)), (2001, (bU 5 x8 44))]⟩) :
    g46D A n (pth 7549741) (blockK 3 (g46Q A n (pth 996141) (g46W A n (pth 78637) m1 (blockK 2 (blockK 1 (g46Q A n (pth 3885) (g46W A n (pth 301) m0 (blockK 0 (g46Q A n (pth 61) (g46T kk)))))))))) s = g46J10 A n kk lg46L3 lg46L6 x0 x1 x2 x3 x4 x5 x6 x7 x8 := by
  have h1 := (g46Wn A n _ _ _ _).trans (hg46L6 (g46R11s0 A x0 (A.nsh .shr .u64 x1 1) x2 x3 x4 (g42r0 A x5 x5) x6 x7 x8) x0 (A.nsh .shr .u64 x1 1) x2 x3 (A.ib .add .i64 x4 1) (g42r0 A x5 x5) x6 x7 x8 (by kernel_rfl))
  have h2 := (g46F A n _ 11 _ (g46R10s0 A x0 x1 x2 x3 x4 x5 x6 x7 x8) _ (by kernel_rfl) (by kernel_rfl)).trans (g46R11 A n (g46W A n (pth 78637) m1 (blockK 2 (blockK 1 (g46Q A n (pth 3885) (g46W A n (pth 301) m0 (blockK 0 (g46Q A n (pth 61) (g46T kk)))))))) x0 (A.nsh .shr .u64 x1 1) x2 x3 x4 (g42r0 A x5 x5) x6 x7 x8)
  rw [h1] at h2
  have h3 := (g46Qn A n _ _ _).trans h2
  have h4 := (blockK_n 3 _ _).trans h3
  have h5 := (g46F A n _ 10 _ ⟨[(2, (pT 1000 0)), (3, (pT 1001 0)), (4, (pT 1002 0)), (5, (pT 2001 0)), (6, (i6 x0)), (7, (u64v x1)), (9, (aN .u64 4 x2)), (10, (i6 x3)), (14, (i6 x4))], [(1000, (bU 5 x5 44)), (1001, (bU 4 x6 23)), (1002, (bU 5 x7 44)), (2001, (bU 5 x8 44))]⟩ _ (by kernel_rfl) (by kernel_rfl)).trans (g46R10 A n (blockK 3 (g46Q A n (pth 996141) (g46W A n (pth 78637) m1 (blockK 2 (blockK 1 (g46Q A n (pth 3885) (g46W A n (pth 301) m0 (blockK 0 (g46Q A n (pth 61) (g46T kk)))))))))) x0 x1 x2 x3 x4 x5 x6 x7 x8)
  rw [h4] at h5
  exact (g46F A n _ 10 _ _ ⟨[(2, (pT 1000 0)), (3, (pT 1001 0)), (4, (pT 1002 0)), (5, (pT 2001 0)), (6, (i6 x0)), (7, (u64v x1)), (9, (aN .u64 4 x2)), (10, (i6 x3)), (14, (i6 x4))], [(1000, (bU 5 x5 44)), (1001, (bU 4 x6 23)), (1002, (bU 5 x7 44)), (2001, (bU 5 x8 44))]⟩ (by kernel_rfl) (h.trans (by kernel_rfl))).trans (h5.trans (by kernel_rfl))
def g46J8 {R : Type} (A : Ar) (n : Nat) (kk : AV → Heap → Option R) (lg46L3 : List Nat → Int → List Nat → List Nat → List Nat → List Nat → Option R) (lg46L6 : Int → Nat → List Nat → Int → Int → List Nat → List Nat → List Nat → List Nat → Option R) (x0 : Int) (x1 : Nat) (x2 : List Nat) (x3 x4 : Int) (x5 x6 : List Nat) (x7 x8 : List Nat) : Option R :=
  match (generalizing := false) A.nc .neq (A.nb .and .u64 x1 1) 0 with
  | true => match (generalizing := false) g42ok A x8 x5 with
    | true => g46J10 A n kk lg46L3 lg46L6 x0 x1 x2 x3 x4 x5 x6 x7 (g42r0 A x8 x5)
    | false => none
  | false => g46J10 A n kk lg46L3 lg46L6 x0 x1 x2 x3 x4 x5 x6 x7 x8
set_option maxRecDepth 100000 in
theorem g46J8_eq {R : Type} (A : Ar) (n : Nat) (kk : AV → Heap → Option R) (m0 m1 : Nat) (lg46L3 : List Nat → Int → List Nat → List Nat → List Nat → List Nat → Option R) (lg46L6 : Int → Nat → List Nat → Int → Int → List Nat → List Nat → List Nat → List Nat → Option R) 
    (hg46L3 : ∀ (s : St) (x0 : List Nat) (x1 : Int) (x2 x3 : List Nat) (x4 x5 : List Nat), keep g46an 3 s = ⟨[(2, (pT 1000 0)), (3, (pT 1001 0)), (4, (pT 1002 0)), (5, (pT 2001 0)), (9, (aN .u64 4 x0)), (10, (i6 x1))], [(1000, (bU 5 x2 44)), (1001, (bU 4 x3 23)), (1002, (bU 5 x4 44)), (2001, (bU 5 x5 44))]⟩ → g46V A n (pth 301) m0 (blockK 0 (g46Q A n (pth 61) (g46T kk))) s = lg46L3 x0 x1 x2 x3 x4 x5)
    (hg46L6 : ∀ (s : St) (x0 : Int) (x1 : Nat) (x2 : List Nat) (x3 x4 : Int) (x5 x6 : List Nat) (x7 x8 : List Nat), keep g46an 6 s = ⟨[(2, (pT 1000 0)), (3, (pT 1001 0)), (4, (pT 1002 0)), (5, (pT 2001 0)), (6, (i6 x0)), (7, (u64v x1)), (9, (aN .u64 4 x2)), (10, (i6 x3)), (14, (i6 x4))], [(1000, (bU 5 x5 44)), (1001, (bU 4 x6 23)), (1002, (bU 5 x7 44)), (2001, (bU 5 x8 44))]⟩ → g46V A n (pth 78637) m1 (blockK 2 (blockK 1 (g46Q A n (pth 3885) (g46W A n (pth 301) m0 (blockK 0 (g46Q A n (pth 61) (g46T kk))))))) s = lg46L6 x0 x1 x2 x3 x4 x5 x6 x7 x8) (s : St) (x0 : Int) (x1 : Nat) (x2 : List Nat) (x3 x4 : Int) (x5 x6 : List Nat) (x7 x8 : List Nat) (h : keep g46an 8 s = ⟨[(2, (pT 1000 0)), (3, (pT 1001 0)), (4, (pT 1002 0)), (5, (pT 2001 0)), (6, (i6 x0)), (7, (u64v x1)), (9, (aN .u64 4 x2)), (10, (i6 x3)), (14, (i6 x4))], [(1000, (bU 5 x5 44)), (1001, (bU 4 x6 23)), (1002, (bU 5 x7 44)), (2001, (bU 5 x8 44))]⟩) :
    g46D A n (pth 3355437) (blockK 3 (g46Q A n (pth 996141) (g46W A n (pth 78637) m1 (blockK 2 (blockK 1 (g46Q A n (pth 3885) (g46W A n (pth 301) m0 (blockK 0 (g46Q A n (pth 61) (g46T kk)))))))))) s = g46J8 A n kk lg46L3 lg46L6 x0 x1 x2 x3 x4 x5 x6 x7 x8 := by
  have h1 := (g46Qn A n _ _ _).trans (g46J10_eq A n kk m0 m1 lg46L3 lg46L6 hg46L3 hg46L6  (g46R9s0 A x0 x1 x2 x3 x4 x5 x6 x7 x8) x0 x1 x2 x3 x4 x5 x6 x7 (g42r0 A x8 x5) (by kernel_rfl))
  have h2 := (g46F A n _ 9 _ (g46R8s0 A x0 x1 x2 x3 x4 x5 x6 x7 x8) _ (by kernel_rfl) (by kernel_rfl)).trans (g46R9 A n (g46Q A n (pth 7549741) (blockK 3 (g46Q A n (pth 996141) (g46W A n (pth 78637) m1 (blockK 2 (blockK 1 (g46Q A n (pth 3885) (g46W A n (pth 301) m0 (blockK 0 (g46Q A n (pth 61) (g46T kk))))))))))) x0 x1 x2 x3 x4 x5 x6 x7 x8)
  rw [h1] at h2
  have h3 := (g46Qn A n _ _ _).trans (g46J10_eq A n kk m0 m1 lg46L3 lg46L6 hg46L3 hg46L6  (g46R8s0 A x0 x1 x2 x3 x4 x5 x6 x7 x8) x0 x1 x2 x3 x4 x5 x6 x7 x8 (by kernel_rfl))
  have h4 := (g46p30618413 A n _ _).trans h3
  have h5 := g46p13841197 A n (g46Q A n (pth 7549741) (blockK 3 (g46Q A n (pth 996141) (g46W A n (pth 78637) m1 (blockK 2 (blockK 1 (g46Q A n (pth 3885) (g46W A n (pth 301) m0 (blockK 0 (g46Q A n (pth 61) (g46T kk))))))))))) (g46R8s0 A x0 x1 x2 x3 x4 x5 x6 x7 x8) (A.nc .neq (A.nb .and .u64 x1 1) 0) (by kernel_rfl)
  rw [h2, h4] at h5
  have h6 := (g46Qn A n _ _ _).trans h5
  have h7 := (g46F A n _ 8 _ ⟨[(2, (pT 1000 0)), (3, (pT 1001 0)), (4, (pT 1002 0)), (5, (pT 2001 0)), (6, (i6 x0)), (7, (u64v x1)), (9, (aN .u64 4 x2)), (10, (i6 x3)), (14, (i6 x4))], [(1000, (bU 5 x5 44)), (1001, (bU 4 x6 23)), (1002, (bU 5 x7 44)), (2001, (bU 5 x8 44))]⟩ _ (by kernel_rfl) (by kernel_rfl)).trans (g46R8 A n (g46Q A n (pth 13841197) (g46Q A n (pth 7549741) (blockK 3 (g46Q A n (pth 996141) (g46W A n (pth 78637) m1 (blockK 2 (blockK 1 (g46Q A n (pth 3885) (g46W A n (pth 301) m0 (blockK 0 (g46Q A n (pth 61) (g46T kk)))))))))))) x0 x1 x2 x3 x4 x5 x6 x7 x8)
  rw [h6] at h7
  have h8 := (g46p5452589 A n _ _).trans h7
  have h9 := (g46p3355437 A n _ _).trans h8
  exact (g46F A n _ 8 _ _ ⟨[(2, (pT 1000 0)), (3, (pT 1001 0)), (4, (pT 1002 0)), (5, (pT 2001 0)), (6, (i6 x0)), (7, (u64v x1)), (9, (aN .u64 4 x2)), (10, (i6 x3)), (14, (i6 x4))], [(1000, (bU 5 x5 44)), (1001, (bU 4 x6 23)), (1002, (bU 5 x7 44)), (2001, (bU 5 x8 44))]⟩ (by kernel_rfl) (h.trans (by kernel_rfl))).trans (h9.trans (by kernel_rfl))
def g46J7 {R : Type} (A : Ar) (n : Nat) (kk : AV → Heap → Option R) (lg46L3 : List Nat → Int → List Nat → List Nat → List Nat → List Nat → Option R) (lg46L6 : Int → Nat → List Nat → Int → Int → List Nat → List Nat → List Nat → List Nat → Option R) (x0 : Int) (x1 : Nat) (x2 : List Nat) (x3 x4 : Int) (x5 x6 : List Nat) (x7 x8 : List Nat) : Option R :=
  match (generalizing := false) A.nc .eql x1 0 with
  | true => match (generalizing := false) A.nc .eql (x6.getD 3 0) 0 with
    | true => match (generalizing := false) A.ic .eql x0 3 with
      | true => kk (aN .u64 5 x8) [(1002, (bU 5 x8 44)), (2001, (bU 5 x8 44))]
      | false => g46J8 A n kk lg46L3 lg46L6 x0 x1 x2 x3 x4 x5 x6 x7 x8
    | false => g46J8 A n kk lg46L3 lg46L6 x0 x1 x2 x3 x4 x5 x6 x7 x8
  | false => g46J8 A n kk lg46L3 lg46L6 x0 x1 x2 x3 x4 x5 x6 x7 x8
set_option maxRecDepth 100000 in
theorem g46J7_eq {R : Type} (A : Ar) (n : Nat) (kk : AV → Heap → Option R) (m0 m1 : Nat) (lg46L3 : List Nat → Int → List Nat → List Nat → List Nat → List Nat → Option R) (lg46L6 : Int → Nat → List Nat → Int → Int → List Nat → List Nat → List Nat → List Nat → Option R) 
    (hg46L3 : ∀ (s : St) (x0 : List Nat) (x1 : Int) (x2 x3 : List Nat) (x4 x5 : List Nat), keep g46an 3 s = ⟨[(2, (pT 1000 0)), (3, (pT 1001 0)), (4, (pT 1002 0)), (5, (pT 2001 0)), (9, (aN .u64 4 x0)), (10, (i6 x1))], [(1000, (bU 5 x2 44)), (1001, (bU 4 x3 23)), (1002, (bU 5 x4 44)), (2001, (bU 5 x5 44))]⟩ → g46V A n (pth 301) m0 (blockK 0 (g46Q A n (pth 61) (g46T kk))) s = lg46L3 x0 x1 x2 x3 x4 x5)
    (hg46L6 : ∀ (s : St) (x0 : Int) (x1 : Nat) (x2 : List Nat) (x3 x4 : Int) (x5 x6 : List Nat) (x7 x8 : List Nat), keep g46an 6 s = ⟨[(2, (pT 1000 0)), (3, (pT 1001 0)), (4, (pT 1002 0)), (5, (pT 2001 0)), (6, (i6 x0)), (7, (u64v x1)), (9, (aN .u64 4 x2)), (10, (i6 x3)), (14, (i6 x4))], [(1000, (bU 5 x5 44)), (1001, (bU 4 x6 23)), (1002, (bU 5 x7 44)), (2001, (bU 5 x8 44))]⟩ → g46V A n (pth 78637) m1 (blockK 2 (blockK 1 (g46Q A n (pth 3885) (g46W A n (pth 301) m0 (blockK 0 (g46Q A n (pth 61) (g46T kk))))))) s = lg46L6 x0 x1 x2 x3 x4 x5 x6 x7 x8) (s : St) (x0 : Int) (x1 : Nat) (x2 : List Nat) (x3 x4 : Int) (x5 x6 : List Nat) (x7 x8 : List Nat) (h : keep g46an 7 s = ⟨[(2, (pT 1000 0)), (3, (pT 1001 0)), (4, (pT 1002 0)), (5, (pT 2001 0)), (6, (i6 x0)), (7, (u64v x1)), (9, (aN .u64 4 x2)), (10, (i6 x3)), (14, (i6 x4))], [(1000, (bU 5 x5 44)), (1001, (bU 4 x6 23)), (1002, (bU 5 x7 44)), (2001, (bU 5 x8 44))]⟩) :
    g46D A n (pth 471853) (g46W A n (pth 78637) m1 (blockK 2 (blockK 1 (g46Q A n (pth 3885) (g46W A n (pth 301) m0 (blockK 0 (g46Q A n (pth 61) (g46T kk)))))))) s = g46J7 A n kk lg46L3 lg46L6 x0 x1 x2 x3 x4 x5 x6 x7 x8 := by
  have h1 : (g46T kk) .ret (g46R13s0 A x7 x8) = kk (aN .u64 5 x8) [(1002, (bU 5 x8 44)), (2001, (bU 5 x8 44))] := by kernel_rfl
  have h2 := (g46p125 A n _ _).trans h1
  have h3 := (g46Qn A n _ _ _).trans h2
  have h4 := (g46F A n _ 13 _ (g46R7s0 A x0 x1 x2 x3 x4 x5 x6 x7 x8) _ (by kernel_rfl) (by kernel_rfl)).trans (g46R13 A n (g46Q A n (pth 125) (g46T kk)) x7 x8)
  rw [h3] at h4
  have h5 := (g46p61 A n _ _).trans h4
  have h6 := (g46Qn A n _ _ _).trans h5
  have h7 := (blockK_hit 0 _ _).trans h6
  have h8 := (g46We A n (pth 301) m0 _ _ _).trans h7
  have h9 := (g46Qe A n (pth 3885) _ _ _).trans h8
  have h10 := (blockK_miss 1 0 _ _ (by kernel_rfl)).trans h9
  have h11 := (blockK_miss 2 0 _ _ (by kernel_rfl)).trans h10
  have h12 := (g46We A n (pth 78637) m1 _ _ _).trans h11
  have h13 := (g46Qe A n (pth 996141) _ _ _).trans h12
  have h14 := (blockK_miss 3 0 _ _ (by kernel_rfl)).trans h13
  have h15 := (g46Qe A n (pth 3355437) _ _ _).trans h14
  have h16 := (g46p10695469 A n _ _).trans h15
  have h17 := (g46Qn A n _ _ _).trans (g46J8_eq A n kk m0 m1 lg46L3 lg46L6 hg46L3 hg46L6  (g46R7s0 A x0 x1 x2 x3 x4 x5 x6 x7 x8) x0 x1 x2 x3 x4 x5 x6 x7 x8 (by kernel_rfl))
  have h18 := (g46p14889773 A n _ _).trans h17
  have h19 := g46p6501165 A n (g46Q A n (pth 3355437) (blockK 3 (g46Q A n (pth 996141) (g46W A n (pth 78637) m1 (blockK 2 (blockK 1 (g46Q A n (pth 3885) (g46W A n (pth 301) m0 (blockK 0 (g46Q A n (pth 61) (g46T kk))))))))))) (g46R7s0 A x0 x1 x2 x3 x4 x5 x6 x7 x8) (A.ic .eql x0 3) (by kernel_rfl)
  rw [h16, h18] at h19
  have h20 := (g46Qn A n _ _ _).trans h19
  have h21 := (g46Qn A n _ _ _).trans (g46J8_eq A n kk m0 m1 lg46L3 lg46L6 hg46L3 hg46L6  (g46R7s1 A x0 x1 x2 x3 x4 x5 x6 x7 x8) x0 x1 x2 x3 x4 x5 x6 x7 x8 (by kernel_rfl))
  have h22 := (g46p14889773 A n _ _).trans h21
  have h23 := (g46p6501165 A n (g46Q A n (pth 3355437) (blockK 3 (g46Q A n (pth 996141) (g46W A n (pth 78637) m1 (blockK 2 (blockK 1 (g46Q A n (pth 3885) (g46W A n (pth 301) m0 (blockK 0 (g46Q A n (pth 61) (g46T kk))))))))))) (g46R7s1 A x0 x1 x2 x3 x4 x5 x6 x7 x8) false (by kernel_rfl)).trans h22
  have h24 := (g46Qn A n _ _ _).trans h23
  have h25 := (g46Qn A n _ _ _).trans (g46J8_eq A n kk m0 m1 lg46L3 lg46L6 hg46L3 hg46L6  (g46R7s2 A x0 x1 x2 x3 x4 x5 x6 x7 x8) x0 x1 x2 x3 x4 x5 x6 x7 x8 (by kernel_rfl))
  have h26 := (g46p14889773 A n _ _).trans h25
  have h27 := (g46p6501165 A n (g46Q A n (pth 3355437) (blockK 3 (g46Q A n (pth 996141) (g46W A n (pth 78637) m1 (blockK 2 (blockK 1 (g46Q A n (pth 3885) (g46W A n (pth 301) m0 (blockK 0 (g46Q A n (pth 61) (g46T kk))))))))))) (g46R7s2 A x0 x1 x2 x3 x4 x5 x6 x7 x8) false (by kernel_rfl)).trans h26
  have h28 := (g46Qn A n _ _ _).trans h27
  have h29 := (g46F A n _ 7 _ ⟨[(2, (pT 1000 0)), (3, (pT 1001 0)), (4, (pT 1002 0)), (5, (pT 2001 0)), (6, (i6 x0)), (7, (u64v x1)), (9, (aN .u64 4 x2)), (10, (i6 x3)), (14, (i6 x4))], [(1000, (bU 5 x5 44)), (1001, (bU 4 x6 23)), (1002, (bU 5 x7 44)), (2001, (bU 5 x8 44))]⟩ _ (by kernel_rfl) (by kernel_rfl)).trans (g46R7 A n (g46Q A n (pth 6501165) (g46Q A n (pth 3355437) (blockK 3 (g46Q A n (pth 996141) (g46W A n (pth 78637) m1 (blockK 2 (blockK 1 (g46Q A n (pth 3885) (g46W A n (pth 301) m0 (blockK 0 (g46Q A n (pth 61) (g46T kk)))))))))))) x0 x1 x2 x3 x4 x5 x6 x7 x8)
  rw [h20, h24, h28] at h29
  have h30 := (g46p2306861 A n _ _).trans h29
  have h31 := (g46p1258285 A n _ _).trans h30
  have h32 := (g46p733997 A n _ _).trans h31
  have h33 := (g46p471853 A n _ _).trans h32
  exact (g46F A n _ 7 _ _ ⟨[(2, (pT 1000 0)), (3, (pT 1001 0)), (4, (pT 1002 0)), (5, (pT 2001 0)), (6, (i6 x0)), (7, (u64v x1)), (9, (aN .u64 4 x2)), (10, (i6 x3)), (14, (i6 x4))], [(1000, (bU 5 x5 44)), (1001, (bU 4 x6 23)), (1002, (bU 5 x7 44)), (2001, (bU 5 x8 44))]⟩ (by kernel_rfl) (h.trans (by kernel_rfl))).trans (h33.trans (by kernel_rfl))
def g46L6 {R : Type} (A : Ar) (n : Nat) (kk : AV → Heap → Option R) (lg46L3 : List Nat → Int → List Nat → List Nat → List Nat → List Nat → Option R) : Nat → Int → Nat → List Nat → Int → Int → List Nat → List Nat → List Nat → List Nat → Option R
  | 0, _, _, _, _, _, _, _, _, _ => none
  | m + 1, x0, x1, x2, x3, x4, x5, x6, x7, x8 => match (generalizing := false) A.ic .lss x4 64 with
  | true => g46J7 A n kk lg46L3 (g46L6 A n kk lg46L3 m) x0 x1 x2 x3 x4 x5 x6 x7 x8
  | false => lg46L3 x2 (A.ib .add .i64 x3 1) x5 x6 x7 x8
set_option maxRecDepth 100000 in
theorem g46L6_eq {R : Type} (A : Ar) (n : Nat) (kk : AV → Heap → Option R) (m0 : Nat) (lg46L3 : List Nat → Int → List Nat → List Nat → List Nat → List Nat → Option R) 
    (hg46L3 : ∀ (s : St) (x0 : List Nat) (x1 : Int) (x2 x3 : List Nat) (x4 x5 : List Nat), keep g46an 3 s = ⟨[(2, (pT 1000 0)), (3, (pT 1001 0)), (4, (pT 1002 0)), (5, (pT 2001 0)), (9, (aN .u64 4 x0)), (10, (i6 x1))], [(1000, (bU 5 x2 44)), (1001, (bU 4 x3 23)), (1002, (bU 5 x4 44)), (2001, (bU 5 x5 44))]⟩ → g46V A n (pth 301) m0 (blockK 0 (g46Q A n (pth 61) (g46T kk))) s = lg46L3 x0 x1 x2 x3 x4 x5) (m : Nat) (s : St) (x0 : Int) (x1 : Nat) (x2 : List Nat) (x3 x4 : Int) (x5 x6 : List Nat) (x7 x8 : List Nat) (h : keep g46an 6 s = ⟨[(2, (pT 1000 0)), (3, (pT 1001 0)), (4, (pT 1002 0)), (5, (pT 2001 0)), (6, (i6 x0)), (7, (u64v x1)), (9, (aN .u64 4 x2)), (10, (i6 x3)), (14, (i6 x4))], [(1000, (bU 5 x5 44)), (1001, (bU 4 x6 23)), (1002, (bU 5 x7 44)), (2001, (bU 5 x8 44))]⟩) :
    g46V A n (pth 78637) m (blockK 2 (blockK 1 (g46Q A n (pth 3885) (g46W A n (pth 301) m0 (blockK 0 (g46Q A n (pth 61) (g46T kk))))))) s = g46L6 A n kk lg46L3 m x0 x1 x2 x3 x4 x5 x6 x7 x8 := by
  induction m generalizing s x0 x1 x2 x3 x4 x5 x6 x7 x8 with
  | zero => rfl
  | succ m ih =>
    have h1 := (g46Qn A n _ _ _).trans (g46J7_eq A n kk m0 m lg46L3 (g46L6 A n kk lg46L3 m) hg46L3 ih  (g46R6s0 A x0 x1 x2 x3 x4 x5 x6 x7 x8) x0 x1 x2 x3 x4 x5 x6 x7 x8 (by kernel_rfl))
    have h2 := (g46p602925 A n _ _).trans h1
    have h3 := (g46Wn A n _ _ _ _).trans (hg46L3 (g46R12s0 A x2 x3 x5 x6 x7 x8) x2 (A.ib .add .i64 x3 1) x5 x6 x7 x8 (by kernel_rfl))
    have h4 := (g46F A n _ 12 _ (g46R6s0 A x0 x1 x2 x3 x4 x5 x6 x7 x8) _ (by kernel_rfl) (by kernel_rfl)).trans (g46R12 A n (g46W A n (pth 301) m0 (blockK 0 (g46Q A n (pth 61) (g46T kk)))) x2 x3 x5 x6 x7 x8)
    rw [h3] at h4
    have h5 := (g46Qn A n _ _ _).trans h4
    have h6 := (blockK_n 1 _ _).trans h5
    have h7 := (blockK_hit 2 _ _).trans h6
    have h8 := (g46We A n (pth 78637) m _ _ _).trans h7
    have h9 := (g46Qe A n (pth 471853) _ _ _).trans h8
    have h10 := (g46p865069 A n _ _).trans h9
    have h11 := g46p340781 A n (g46Q A n (pth 471853) (g46W A n (pth 78637) m (blockK 2 (blockK 1 (g46Q A n (pth 3885) (g46W A n (pth 301) m0 (blockK 0 (g46Q A n (pth 61) (g46T kk))))))))) (g46R6s0 A x0 x1 x2 x3 x4 x5 x6 x7 x8) (A.ic .lss x4 64) (by kernel_rfl)
    rw [h2, h10] at h11
    have h12 := (g46p209709 A n _ _).trans h11
    have h13 := (g46Qn A n _ _ _).trans h12
    have h14 := (g46F A n _ 6 _ ⟨[(2, (pT 1000 0)), (3, (pT 1001 0)), (4, (pT 1002 0)), (5, (pT 2001 0)), (6, (i6 x0)), (7, (u64v x1)), (9, (aN .u64 4 x2)), (10, (i6 x3)), (14, (i6 x4))], [(1000, (bU 5 x5 44)), (1001, (bU 4 x6 23)), (1002, (bU 5 x7 44)), (2001, (bU 5 x8 44))]⟩ _ (by kernel_rfl) (by kernel_rfl)).trans (g46R6 A n (g46Q A n (pth 209709) (g46W A n (pth 78637) m (blockK 2 (blockK 1 (g46Q A n (pth 3885) (g46W A n (pth 301) m0 (blockK 0 (g46Q A n (pth 61) (g46T kk))))))))) x0 x1 x2 x3 x4 x5 x6 x7 x8)
    rw [h13] at h14
    have h15 := (g46p78637 A n _ _).trans h14
    exact (loopD_first (s' := ⟨[(2, (pT 1000 0)), (3, (pT 1001 0)), (4, (pT 1002 0)), (5, (pT 2001 0)), (6, (i6 x0)), (7, (u64v x1)), (9, (aN .u64 4 x2)), (10, (i6 x3)), (14, (i6 x4))], [(1000, (bU 5 x5 44)), (1001, (bU 4 x6 23)), (1002, (bU 5 x7 44)), (2001, (bU 5 x8 44))]⟩) (id := 6) (by kernel_rfl) (h.trans (by kernel_rfl)) _).trans ((g46Vs A n _ m _ _).trans (h15.trans (by kernel_rfl)))
def g46J4 {R : Type} (A : Ar) (n : Nat) (kk : AV → Heap → Option R) (lg46L3 : List Nat → Int → List Nat → List Nat → List Nat → List Nat → Option R) (x0 : List Nat) (x1 : Int) (x2 x3 : List Nat) (x4 x5 : List Nat) : Option R :=
  match (generalizing := false) A.neg x1 with
  | true => none
  | false => match (generalizing := false) A.lt (A.toN x1) 4 with
    | true => g46L6 A n kk lg46L3 n x1 (x0.getD (A.toN x1) 0) x0 x1 0 x2 x3 x4 x5
    | false => none
set_option maxRecDepth 100000 in
theorem g46J4_eq {R : Type} (A : Ar) (n : Nat) (kk : AV → Heap → Option R) (m0 : Nat) (lg46L3 : List Nat → Int → List Nat → List Nat → List Nat → List Nat → Option R) 
    (hg46L3 : ∀ (s : St) (x0 : List Nat) (x1 : Int) (x2 x3 : List Nat) (x4 x5 : List Nat), keep g46an 3 s = ⟨[(2, (pT 1000 0)), (3, (pT 1001 0)), (4, (pT 1002 0)), (5, (pT 2001 0)), (9, (aN .u64 4 x0)), (10, (i6 x1))], [(1000, (bU 5 x2 44)), (1001, (bU 4 x3 23)), (1002, (bU 5 x4 44)), (2001, (bU 5 x5 44))]⟩ → g46V A n (pth 301) m0 (blockK 0 (g46Q A n (pth 61) (g46T kk))) s = lg46L3 x0 x1 x2 x3 x4 x5) (s : St) (x0 : List Nat) (x1 : Int) (x2 x3 : List Nat) (x4 x5 : List Nat) (h : keep g46an 4 s = ⟨[(2, (pT 1000 0)), (3, (pT 1001 0)), (4, (pT 1002 0)), (5, (pT 2001 0)), (9, (aN .u64 4 x0)), (10, (i6 x1))], [(1000, (bU 5 x2 44)), (1001, (bU 4 x3 23)), (1002, (bU 5 x4 44)), (2001, (bU 5 x5 44))]⟩) :
    g46D A n (pth 1837) (g46W A n (pth 301) m0 (blockK 0 (g46Q A n (pth 61) (g46T kk)))) s = g46J4 A n kk lg46L3 x0 x1 x2 x3 x4 x5 := by
  have h1 := (g46p45869 A n _ _).trans (g46L6_eq A n kk m0 lg46L3 hg46L3 n (g46R5s0 A x1 (x0.getD (A.toN x1) 0) x0 x1 x2 x3 x4 x5) x1 (x0.getD (A.toN x1) 0) x0 x1 0 x2 x3 x4 x5 (by kernel_rfl))
  have h2 := (g46p29485 A n _ _).trans h1
  have h3 := (g46Qn A n _ _ _).trans h2
  have h4 := (g46F A n _ 5 _ (g46R4s0 A x0 x1 x2 x3 x4 x5) _ (by kernel_rfl) (by kernel_rfl)).trans (g46R5 A n (g46Q A n (pth 29485) (blockK 1 (g46Q A n (pth 3885) (g46W A n (pth 301) m0 (blockK 0 (g46Q A n (pth 61) (g46T kk))))))) x1 (x0.getD (A.toN x1) 0) x0 x1 x2 x3 x4 x5)
  rw [h3] at h4
  have h5 := (g46p13101 A n _ _).trans h4
  have h6 := (g46Qn A n _ _ _).trans h5
  have h7 := (g46F A n _ 4 _ ⟨[(2, (pT 1000 0)), (3, (pT 1001 0)), (4, (pT 1002 0)), (5, (pT 2001 0)), (9, (aN .u64 4 x0)), (10, (i6 x1))], [(1000, (bU 5 x2 44)), (1001, (bU 4 x3 23)), (1002, (bU 5 x4 44)), (2001, (bU 5 x5 44))]⟩ _ (by kernel_rfl) (by kernel_rfl)).trans (g46R4 A n (g46Q A n (pth 13101) (blockK 1 (g46Q A n (pth 3885) (g46W A n (pth 301) m0 (blockK 0 (g46Q A n (pth 61) (g46T kk))))))) x0 x1 x2 x3 x4 x5)
  rw [h6] at h7
  have h8 := (g46p4909 A n _ _).trans h7
  have h9 := (g46p2861 A n _ _).trans h8
  have h10 := (g46p1837 A n _ _).trans h9
  exact (g46F A n _ 4 _ _ ⟨[(2, (pT 1000 0)), (3, (pT 1001 0)), (4, (pT 1002 0)), (5, (pT 2001 0)), (9, (aN .u64 4 x0)), (10, (i6 x1))], [(1000, (bU 5 x2 44)), (1001, (bU 4 x3 23)), (1002, (bU 5 x4 44)), (2001, (bU 5 x5 44))]⟩ (by kernel_rfl) (h.trans (by kernel_rfl))).trans (h10.trans (by kernel_rfl))
def g46L3 {R : Type} (A : Ar) (n : Nat) (kk : AV → Heap → Option R)  : Nat → List Nat → Int → List Nat → List Nat → List Nat → List Nat → Option R
  | 0, _, _, _, _, _, _ => none
  | m + 1, x0, x1, x2, x3, x4, x5 => match (generalizing := false) A.ic .lss x1 4 with
  | true => g46J4 A n kk (g46L3 A n kk  m) x0 x1 x2 x3 x4 x5
  | false => kk (aN .u64 5 x5) [(1002, (bU 5 x5 44)), (2001, (bU 5 x5 44))]
set_option maxRecDepth 100000 in
theorem g46L3_eq {R : Type} (A : Ar) (n : Nat) (kk : AV → Heap → Option R)    (m : Nat) (s : St) (x0 : List Nat) (x1 : Int) (x2 x3 : List Nat) (x4 x5 : List Nat) (h : keep g46an 3 s = ⟨[(2, (pT 1000 0)), (3, (pT 1001 0)), (4, (pT 1002 0)), (5, (pT 2001 0)), (9, (aN .u64 4 x0)), (10, (i6 x1))], [(1000, (bU 5 x2 44)), (1001, (bU 4 x3 23)), (1002, (bU 5 x4 44)), (2001, (bU 5 x5 44))]⟩) :
    g46V A n (pth 301) m (blockK 0 (g46Q A n (pth 61) (g46T kk))) s = g46L3 A n kk  m x0 x1 x2 x3 x4 x5 := by
  induction m generalizing s x0 x1 x2 x3 x4 x5 with
  | zero => rfl
  | succ m ih =>
    have h1 := (g46Qn A n _ _ _).trans (g46J4_eq A n kk m (g46L3 A n kk  m) ih  (g46R3s0 A x0 x1 x2 x3 x4 x5) x0 x1 x2 x3 x4 x5 (by kernel_rfl))
    have h2 := (g46p2349 A n _ _).trans h1
    have h3 : (g46T kk) .ret (g46R13s0 A x4 x5) = kk (aN .u64 5 x5) [(1002, (bU 5 x5 44)), (2001, (bU 5 x5 44))] := by kernel_rfl
    have h4 := (g46p125 A n _ _).trans h3
    have h5 := (g46Qn A n _ _ _).trans h4
    have h6 := (g46F A n _ 13 _ (g46R3s0 A x0 x1 x2 x3 x4 x5) _ (by kernel_rfl) (by kernel_rfl)).trans (g46R13 A n (g46Q A n (pth 125) (g46T kk)) x4 x5)
    rw [h5] at h6
    have h7 := (g46p61 A n _ _).trans h6
    have h8 := (g46Qn A n _ _ _).trans h7
    have h9 := (blockK_hit 0 _ _).trans h8
    have h10 := (g46We A n (pth 301) m _ _ _).trans h9
    have h11 := (g46Qe A n (pth 1837) _ _ _).trans h10
    have h12 := (g46p3373 A n _ _).trans h11
    have h13 := g46p1325 A n (g46Q A n (pth 1837) (g46W A n (pth 301) m (blockK 0 (g46Q A n (pth 61) (g46T kk))))) (g46R3s0 A x0 x1 x2 x3 x4 x5) (A.ic .lss x1 4) (by kernel_rfl)
    rw [h2, h12] at h13
    have h14 := (g46p813 A n _ _).trans h13
    have h15 := (g46Qn A n _ _ _).trans h14
    have h16 := (g46F A n _ 3 _ ⟨[(2, (pT 1000 0)), (3, (pT 1001 0)), (4, (pT 1002 0)), (5, (pT 2001 0)), (9, (aN .u64 4 x0)), (10, (i6 x1))], [(1000, (bU 5 x2 44)), (1001, (bU 4 x3 23)), (1002, (bU 5 x4 44)), (2001, (bU 5 x5 44))]⟩ _ (by kernel_rfl) (by kernel_rfl)).trans (g46R3 A n (g46Q A n (pth 813) (g46W A n (pth 301) m (blockK 0 (g46Q A n (pth 61) (g46T kk))))) x0 x1 x2 x3 x4 x5)
    rw [h15] at h16
    have h17 := (g46p301 A n _ _).trans h16
    exact (loopD_first (s' := ⟨[(2, (pT 1000 0)), (3, (pT 1001 0)), (4, (pT 1002 0)), (5, (pT 2001 0)), (9, (aN .u64 4 x0)), (10, (i6 x1))], [(1000, (bU 5 x2 44)), (1001, (bU 4 x3 23)), (1002, (bU 5 x4 44)), (2001, (bU 5 x5 44))]⟩) (id := 3) (by kernel_rfl) (h.trans (by kernel_rfl)) _).trans ((g46Vs A n _ m _ _).trans (h17.trans (by kernel_rfl)))
def g46 {R : Type} (A : Ar) (n : Nat) (kk : AV → Heap → Option R) (a b : List Nat) : Option R :=
  g46L3 A n kk  n b 0 a b [0, 0, 0, 0, 0] ([0, 0, 0, 0, 0].set 0 1)
set_option maxRecDepth 100000 in
theorem g46_eq {R : Type} (A : Ar) (n : Nat) (kk : AV → Heap → Option R) (a b : List Nat) :
    funD A gtys (g46O A) g46an n (bodyOf Try.f46) g46res [(aN .u64 5 a), (aN .u64 4 b)] [] kk = g46 A n kk a b := by
  have h1 := (g46p173 A n _ _).trans (g46L3_eq A n kk    n (g46R2s0 A a b [0, 0, 0, 0, 0] ([0, 0, 0, 0, 0].set 0 1)) b 0 a b [0, 0, 0, 0, 0] ([0, 0, 0, 0, 0].set 0 1) (by kernel_rfl))
  have h2 := (g46p109 A n _ _).trans h1
  have h3 := (g46Qn A n _ _ _).trans h2
  have h4 := (g46F A n _ 2 _ (g46R1s0 A a b [0, 0, 0, 0, 0]) _ (by kernel_rfl) (by kernel_rfl)).trans (g46R2 A n (g46Q A n (pth 109) (g46Q A n (pth 61) (g46T kk))) a b [0, 0, 0, 0, 0] ([0, 0, 0, 0, 0].set 0 1))
  rw [h3] at h4
  have h5 := (g46p45 A n _ _).trans h4
  have h6 := (g46p29 A n _ _).trans h5
  have h7 := (g46Qn A n _ _ _).trans h6
  have h8 := (g46p21 A n _ _).trans h7
  have h9 := (g46p13 A n _ _).trans h8
  have h10 := (g46Qn A n _ _ _).trans h9
  have h11 := (g46F A n _ 1 _ (g46R0s0 A a b) _ (by kernel_rfl) (by kernel_rfl)).trans (g46R1 A n (g46Q A n (pth 13) (g46T kk)) a b [0, 0, 0, 0, 0])
  rw [h10] at h11
  have h12 := (g46p5 A n _ _).trans h11
  have h13 := (g46p3 A n _ _).trans h12
  have h14 := (g46Qn A n _ _ _).trans h13
  have h15 := (g46F A n _ 0 _ ⟨[(0, (aN .u64 5 a)), (1, (aN .u64 4 b))], []⟩ _ (by kernel_rfl) (by kernel_rfl)).trans (g46R0 A n (g46Q A n (pth 3) (g46T kk)) a b)
  rw [h14] at h15
  have h16 := (g46p1 A n _ _).trans h15
  exact (show funD A gtys (g46O A) g46an n (bodyOf Try.f46) g46res [(aN .u64 5 a), (aN .u64 4 b)] [] kk = g46D A n (pth 1) (g46T kk) ⟨[(0, (aN .u64 5 a)), (1, (aN .u64 4 b))], []⟩ from by kernel_rfl).trans (h16.trans (by kernel_rfl))
def g46is (o : Option AV) : Bool := match o with
  | some (aN .u64 5 _) => true
  | _ => false
def g46g0 (o : Option AV) : List Nat := match o with
  | some (aN .u64 5 x) => x
  | _ => []
theorem g46is_spec {o : Option AV} (h : g46is o = true) : o = some (aN .u64 5 (g46g0 o)) := by
  unfold g46is at h
  split at h
  · rfl
  · cases h
def g46v (A : Ar) (a b : List Nat) : Option AV := g46 A (100000) (fun v _ => some v) a b
def g46ok (A : Ar) (a b : List Nat) : Bool := g46is (g46v A a b)
def g46r0 (A : Ar) (a b : List Nat) : List Nat := g46g0 (g46v A a b)
theorem g46ok_spec {A : Ar} {a b} (h : g46ok A a b = true) : g46v A a b = some (aN .u64 5 (g46r0 A a b)) := g46is_spec h
def g46o (A : Ar) (args : List AV) : Option (Bool × AV) := match args with
  | [.v (.agg [.nums .u64 n0 a]), .v (.agg [.nums .u64 n1 b])] => some (Nat.beq n0 5 && (Nat.beq n1 4 && (g46ok A a b)), .v (.agg [.nums .u64 5 (g46r0 A a b)]))
  | _ => none
theorem g46o_sound : ∀ args v, g46o realA args = some (true, v) → Fn1 Try.prog 46 args v := by
  intro args v h
  unfold g46o at h
  split at h
  · rename_i n0 a n1 b
    simp only [Option.some.injEq, Prod.mk.injEq] at h
    obtain ⟨hc, h⟩ := h
    subst h
    · skip
      simp only [Bool.and_eq_true] at hc
      have en0 := beq_true hc.1
      subst en0
      replace hc := hc.2
      have en1 := beq_true hc.1
      subst en1
      replace hc := hc.2
      exact fn1_of mixed gtysOK g46O_sound g46O_det (an := g46an) (n := 100000) Try.func46 (c := bodyOf Try.f46) rfl (by kernel_rfl) Try.call46 (Nat.le_of_ble_eq_true rfl) (fun b => rfl) (fun _ => (g46_eq realA (100000) (fun v _ => some v) a b).trans (show g46v realA a b = _ from g46ok_spec hc))
  · cases h
/- engrosser/field.Pow -/
def g24O (A : Ar) : Orc := orcOf [(37, g37o A), (46, g46o A), (38, g38o A)]
theorem g24O_sound : OSound Try.prog (g24O realA) := orc_sound fun f g hm args v hv => by
  simp only [List.mem_cons, List.not_mem_nil, or_false, Prod.mk.injEq] at hm
  rcases hm with ⟨rfl, rfl⟩ | ⟨rfl, rfl⟩ | ⟨rfl, rfl⟩
  · exact g37o_sound _ _ hv
  · exact g46o_sound _ _ hv
  · exact g38o_sound _ _ hv
theorem g24O_det : ODet (g24O realA) := orc_det _
def g24an : Ann := [(0, ([0, 1], [])), (1, ([2, 3, 4], [1000, 1001, 1002]))]
def g24res : List ResultVar := [.cell 4 24]
noncomputable def g24D {R : Type} (A : Ar) (n : Nat) (p : List Bool) (K : Ex → St → Option R) (s : St) : Option R := codeD A gtys (g24O A) g24an n (sub (bodyOf Try.f24) p) K s
noncomputable def g24Q {R : Type} (A : Ar) (n : Nat) (p : List Bool) (K : Ex → St → Option R) : Ex → St → Option R := seqC (g24D A n p K) K
noncomputable def g24T {R : Type} (kk : AV → Heap → Option R) : Ex → St → Option R := finD gtys g24res kk
theorem g24Qn {R : Type} (A : Ar) (n : Nat) (p : List Bool) (K : Ex → St → Option R) (s : St) : g24Q A n p K .normal s = g24D A n p K s := rfl
theorem g24F {R : Type} (A : Ar) (n : Nat) (p : List Bool) (i : Nat) (K : Ex → St → Option R) (s s' : St) (hf : firstReg (sub (bodyOf Try.f24) p) = some i) (h : keep g24an i s = keep g24an i s') : g24D A n p K s = g24D A n p K s' := codeD_first hf h K
section
variable {R : Type} (A : Ar) (n : Nat) (K : Ex → St → Option R) (s : St)
theorem g24p1 : g24D A n (pth 1) K s = g24D A n (pth 2) (g24Q A n (pth 3) K) s := by kernel_rfl
theorem g24p3 : g24D A n (pth 3) K s = g24D A n (pth 5) (g24Q A n (pth 7) K) s := by kernel_rfl
theorem g24p7 : g24D A n (pth 7) K s = K .ret s := by kernel_rfl
def g24R0s0 (A : Ar) (x0 x1 : List Nat) : St := ⟨[(4, (pT 1002 0)), (3, (pT 1001 0)), (2, (pT 1000 0)), (0, (aN .u64 4 x0)), (1, (aN .u64 4 x1))], [(1002, (bU 4 [0, 0, 0, 0] 24)), (1001, (bU 4 x1 23)), (1000, (bU 4 x0 24))]⟩
theorem g24R0 (x0 x1 : List Nat) : g24D A n (pth 2) K ⟨[(0, (aN .u64 4 x0)), (1, (aN .u64 4 x1))], []⟩ = K .normal (g24R0s0 A x0 x1) := by kernel_rfl
def g24R1s0 (A : Ar) (x0 x1 x2 : List Nat) : St := ⟨[(9, (aN .u64 4 (g38r0 A (g46r0 A (g37r0 A x0) x1)))), (8, (aN .u64 5 (g46r0 A (g37r0 A x0) x1))), (7, (aN .u64 4 x1)), (6, (aN .u64 5 (g37r0 A x0))), (5, (aN .u64 4 x0)), (2, (pT 1000 0)), (3, (pT 1001 0)), (4, (pT 1002 0))], [(1000, (bU 4 x0 24)), (1001, (bU 4 x1 23)), (1002, (bU 4 (g38r0 A (g46r0 A (g37r0 A x0) x1)) 24))]⟩
theorem g24R1 (x0 x1 x2 : List Nat) : g24D A n (pth 5) K ⟨[(2, (pT 1000 0)), (3, (pT 1001 0)), (4, (pT 1002 0))], [(1000, (bU 4 x0 24)), (1001, (bU 4 x1 23)), (1002, (bU 4 x2 24))]⟩ = match (generalizing := false) g37ok A x0 with
    | true => match (generalizing := false) g46ok A (g37r0 A x0) x1 with
      | true => match (generalizing := false) g38ok A (g46r0 A (g37r0 A x0) x1) with
        | true => K .normal (g24R1s0 A x0 x1 x2)
        | false => none
      | false => none
    | false => none := by kernel_rfl
end
def g24 {R : Type} (A : Ar) (n : Nat) (kk : AV → Heap → Option R) (a b : List Nat) : Option R :=
  match (generalizing := false) g37ok A a with
  | true => match (generalizing := false) g46ok A (g37r0 A a) b with
    | true => match (generalizing := false) g38ok A (g46r0 A (g37r0 A a) b) with
      | true => kk (aN .u64 4 (g38r0 A (g46r0 A (g37r0 A a) b))) [(1000, (bU 4 a 24)), (1001, (bU 4 b 23)), (1002, (bU 4 (g38r0 A (g46r0 A (g37r0 A a) b)) 24))]
      | false => none
    | false => none
  | false => none
set_option maxRecDepth 100000 in
theorem g24_eq {R : Type} (A : Ar) (n : Nat) (kk : AV → Heap → Option R) (a b : List Nat) :
    funD A gtys (g24O A) g24an n (bodyOf Try.f24) g24res [(aN .u64 4 a), (aN .u64 4 b)] [] kk = g24 A n kk a b := by
  have h1 : (g24T kk) .ret (g24R1s0 A a b [0, 0, 0, 0]) = kk (aN .u64 4 (g38r0 A (g46r0 A (g37r0 A a) b))) [(1000, (bU 4 a 24)), (1001, (bU 4 b 23)), (1002, (bU 4 (g38r0 A (g46r0 A (g37r0 A a) b)) 24))] := by kernel_rfl
  have h2 := (g24p7 A n _ _).trans h1
  have h3 := (g24Qn A n _ _ _).trans h2
  have h4 := (g24F A n _ 1 _ (g24R0s0 A a b) _ (by kernel_rfl) (by kernel_rfl)).trans (g24R1 A n (g24Q A n (pth 7) (g24T kk)) a b [0, 0, 0, 0])
  rw [h3] at h4
  have h5 := (g24p3 A n _ _).trans h4
  have h6 := (g24Qn A n _ _ _).trans h5
  have h7 := (g24F A n _ 0 _ ⟨[(0, (aN .u64 4 a)), (1, (aN .u64 4 b))], []⟩ _ (by kernel_rfl) (by kernel_rfl)).trans (g24R0 A n (g24Q A n (pth 3) (g24T kk)) a b)
  rw [h6] at h7
  have h8 := (g24p1 A n _ _).trans h7
  exact (show funD A gtys (g24O A) g24an n (bodyOf Try.f24) g24res [(aN .u64 4 a), (aN .u64 4 b)] [] kk = g24D A n (pth 1) (g24T kk) ⟨[(0, (aN .u64 4 a)), (1, (aN .u64 4 b))], []⟩ from by kernel_rfl).trans (h8.trans (by kernel_rfl))
def g24is (o : Option AV) : Bool := match o with
  | some (aN .u64 4 _) => true
  | _ => false
def g24g0 (o : Option AV) : List Nat := match o with
  | some (aN .u64 4 x) => x
  | _ => []
theorem g24is_spec {o : Option AV} (h : g24is o = true) : o = some (aN .u64 4 (g24g0 o)) := by
  unfold g24is at h
  split at h
  · rfl
  · cases h
def g24v (A : Ar) (a b : List Nat) : Option AV := g24 A (100000) (fun v _ => some v) a b
def g24ok (A : Ar) (a b : List Nat) : Bool := g24is (g24v A a b)
def g24r0 (A : Ar) (a b : List Nat) : List Nat := g24g0 (g24v A a b)
theorem g24ok_spec {A : Ar} {a b} (h : g24ok A a b = true) : g24v A a b = some (aN .u64 4 (g24r0 A a b)) := g24is_spec h
def g24o (A : Ar) (args : List AV) : Option (Bool × AV) := match args with
  | [.v (.agg [.nums .u64 n0 a]), .v (.agg [.nums .u64 n1 b])] => some (Nat.beq n0 4 && (Nat.beq n1 4 && (g24ok A a b)), .v (.agg [.nums .u64 4 (g24r0 A a b)]))
  | _ => none
theorem g24o_sound : ∀ args v, g24o realA args = some (true, v) → Fn1 Try.prog 24 args v := by
  intro args v h
  unfold g24o at h
  split at h
  · rename_i n0 a n1 b
    simp only [Option.some.injEq, Prod.mk.injEq] at h
    obtain ⟨hc, h⟩ := h
    subst h
    · skip
      simp only [Bool.and_eq_true] at hc
      have en0 := beq_true hc.1
      subst en0
      replace hc := hc.2
      have en1 := beq_true hc.1
      subst en1
      replace hc := hc.2
      exact fn1_of mixed gtysOK g24O_sound g24O_det (an := g24an) (n := 100000) Try.func24 (c := bodyOf Try.f24) rfl (by kernel_rfl) Try.call24 (Nat.le_of_ble_eq_true rfl) (fun b => rfl) (fun _ => (g24_eq realA (100000) (fun v _ => some v) a b).trans (show g24v realA a b = _ from g24ok_spec hc))
  · cases h
/- engrosser/field.Sub -/
def g14O (A : Ar) : Orc := orcOf [(37, g37o A), (38, g38o A)]
theorem g14O_sound : OSound Try.prog (g14O realA) := orc_sound fun f g hm args v hv => by
  simp only [List.mem_cons, List.not_mem_nil, or_false, Prod.mk.injEq] at hm
  rcases hm with ⟨rfl, rfl⟩ | ⟨rfl, rfl⟩
  · exact g37o_sound _ _ hv
  · exact g38o_sound _ _ hv
theorem g14O_det : ODet (g14O realA) := orc_det _
def g14an : Ann := [(0, ([0, 1], [])), (1, ([2, 3, 4], [1000, 1001, 1002])), (2, ([4, 5, 6], [1002, 2004, 2005])), (3, ([4, 5, 6, 7], [1002, 2004, 2005, 3001])), (4, ([4, 5, 6, 7, 14], [1002, 2004, 2005, 3001])), (5, ([4, 5, 6, 7, 14], [1002, 2004, 2005, 3001])), (6, ([4, 5, 6, 7, 8, 14], [1002, 2004, 2005, 3001])), (7, ([4, 5, 6, 7, 14], [1002, 2004, 2005, 3001])), (8, ([4, 5], [1002, 2004]))]
def g14res : List ResultVar := [.cell 4 24]
noncomputable def g14D {R : Type} (A : Ar) (n : Nat) (p : List Bool) (K : Ex → St → Option R) (s : St) : Option R := codeD A gtys (g14O A) g14an n (sub (bodyOf Try.f14) p) K s
noncomputable def g14V {R : Type} (A : Ar) (n : Nat) (p : List Bool) (m : Nat) (K : Ex → St → Option R) (s : St) : Option R := loopD (fun K' s'' => codeD A gtys (g14O A) g14an n (sub (bodyOf Try.f14) p) K' s'') m K s
noncomputable def g14Q {R : Type} (A : Ar) (n : Nat) (p : List Bool) (K : Ex → St → Option R) : Ex → St → Option R := seqC (g14D A n p K) K
noncomputable def g14W {R : Type} (A : Ar) (n : Nat) (p : List Bool) (m : Nat) (K : Ex → St → Option R) : Ex → St → Option R := seqC (g14V A n p m K) K
noncomputable def g14T {R : Type} (kk : AV → Heap → Option R) : Ex → St → Option R := finD gtys g14res kk
theorem g14Qn {R : Type} (A : Ar) (n : Nat) (p : List Bool) (K : Ex → St → Option R) (s : St) : g14Q A n p K .normal s = g14D A n p K s := rfl
theorem g14Qe {R : Type} (A : Ar) (n : Nat) (p : List Bool) (K : Ex → St → Option R) (i : Nat) (s : St) : g14Q A n p K (.exit i) s = K (.exit i) s := rfl
theorem g14Wn {R : Type} (A : Ar) (n : Nat) (p : List Bool) (m : Nat) (K : Ex → St → Option R) (s : St) : g14W A n p m K .normal s = g14V A n p m K s := rfl
theorem g14We {R : Type} (A : Ar) (n : Nat) (p : List Bool) (m : Nat) (K : Ex → St → Option R) (i : Nat) (s : St) : g14W A n p m K (.exit i) s = K (.exit i) s := rfl
theorem g14Vs {R : Type} (A : Ar) (n : Nat) (p : List Bool) (m : Nat) (K : Ex → St → Option R) (s : St) : g14V A n p (m + 1) K s = g14D A n p (g14W A n p m K) s := rfl
theorem g14F {R : Type} (A : Ar) (n : Nat) (p : List Bool) (i : Nat) (K : Ex → St → Option R) (s s' : St) (hf : firstReg (sub (bodyOf Try.f14) p) = some i) (h : keep g14an i s = keep g14an i s') : g14D A n p K s = g14D A n p K s' := codeD_first hf h K
section
variable {R : Type} (A : Ar) (n : Nat) (K : Ex → St → Option R) (s : St)
theorem g14p1 : g14D A n (pth 1) K s = g14D A n (pth 2) (g14Q A n (pth 3) K) s := by kernel_rfl
theorem g14p3 : g14D A n (pth 3) K s = g14D A n (pth 5) (g14Q A n (pth 7) K) s := by kernel_rfl
theorem g14p7 : g14D A n (pth 7) K s = g14D A n (pth 11) (g14Q A n (pth 15) K) s := by kernel_rfl
theorem g14p15 : g14D A n (pth 15) K s = g14D A n (pth 23) (g14Q A n (pth 31) K) s := by kernel_rfl
theorem g14p23 : g14D A n (pth 23) K s = g14D A n (pth 39) (g14Q A n (pth 55) K) s := by kernel_rfl
theorem g14p55 : g14D A n (pth 55) K s = g14D A n (pth 87) (blockK 0 K) s := by kernel_rfl
theorem g14p87 : g14D A n (pth 87) K s = g14V A n (pth 151) n K s := by kernel_rfl
theorem g14p151 : g14D A n (pth 151) K s = g14D A n (pth 279) (g14Q A n (pth 407) K) s := by kernel_rfl
theorem g14p407 : g14D A n (pth 407) K s = g14D A n (pth 663) (g14Q A n (pth 919) K) s := by kernel_rfl
theorem g14p663 (t : Bool) : ev s (.tmp 15) = some (.v (.cell (.bool t))) → g14D A n (pth 663) K s = (match t with
    | true => g14D A n (pth 1175) K s
    | false => g14D A n (pth 1687) K s) := codeD_cond t
theorem g14p1175 : g14D A n (pth 1175) K s = K .normal s := by kernel_rfl
theorem g14p1687 : g14D A n (pth 1687) K s = K (.exit 0) s := by kernel_rfl
theorem g14p919 : g14D A n (pth 919) K s = g14D A n (pth 1431) (g14Q A n (pth 1943) K) s := by kernel_rfl
theorem g14p1431 : g14D A n (pth 1431) K s = g14D A n (pth 2455) (blockK 1 K) s := by kernel_rfl
theorem g14p2455 : g14D A n (pth 2455) K s = g14D A n (pth 4503) (g14Q A n (pth 6551) K) s := by kernel_rfl
theorem g14p31 : g14D A n (pth 31) K s = g14D A n (pth 47) (g14Q A n (pth 63) K) s := by kernel_rfl
theorem g14p63 : g14D A n (pth 63) K s = K .ret s := by kernel_rfl
def g14R5s0 (A : Ar) (x0 : Int) (x1 x2 : List Nat) (x3 x4 : List Nat) : St := ⟨[(8, (i6 x0)), (16, (i6 x0)), (4, (pT 1002 0)), (5, (pT 2004 0)), (6, (pT 2005 0)), (7, (pT 3001 0)), (14, (i6 x0))], [(1002, (bU 4 x1 24)), (2004, (bU 5 x2 44)), (2005, (bU 5 x3 44)), (3001, (bU 5 x4 44))]⟩
theorem g14R5 (x0 : Int) (x1 x2 : List Nat) (x3 x4 : List Nat) : g14D A n (pth 4503) K ⟨[(4, (pT 1002 0)), (5, (pT 2004 0)), (6, (pT 2005 0)), (7, (pT 3001 0)), (14, (i6 x0))], [(1002, (bU 4 x1 24)), (2004, (bU 5 x2 44)), (2005, (bU 5 x3 44)), (3001, (bU 5 x4 44))]⟩ = K .normal (g14R5s0 A x0 x1 x2 x3 x4) := by kernel_rfl
def g14R6s0 (A : Ar) (x0 x1 : Int) (x2 x3 : List Nat) (x4 x5 : List Nat) : St := ⟨[(28, (.v (.cell (.ptr 2004 0 (some ⟨A.toN x0, 1, 5, 0, 0, 0⟩))))), (27, (u64v (A.nb .add .u64 (x3.getD (A.toN x0) 0) (A.nb .sub .u64 (x5.getD (A.toN x0) 0) (x4.getD (A.toN x0) 0))))), (26, (u64v (A.nb .sub .u64 (x5.getD (A.toN x0) 0) (x4.getD (A.toN x0) 0)))), (25, (u64v (x4.getD (A.toN x0) 0))), (24, (.v (.cell (.ptr 2005 0 (some ⟨A.toN x0, 1, 5, 0, 0, 0⟩))))), (23, (i6 x0)), (22, (u64v (x5.getD (A.toN x0) 0))), (21, (.v (.cell (.ptr 3001 0 (some ⟨A.toN x0, 1, 5, 0, 0, 0⟩))))), (20, (i6 x0)), (19, (u64v (x3.getD (A.toN x0) 0))), (18, (.v (.cell (.ptr 2004 0 (some ⟨A.toN x0, 1, 5, 0, 0, 0⟩))))), (17, (i6 x0)), (4, (pT 1002 0)), (5, (pT 2004 0)), (6, (pT 2005 0)), (7, (pT 3001 0)), (8, (i6 x0)), (14, (i6 x1))], [(1002, (bU 4 x2 24)), (2004, (bU 5 (x3.set (A.toN x0) (A.nb .add .u64 (x3.getD (A.toN x0) 0) (A.nb .sub .u64 (x5.getD (A.toN x0) 0) (x4.getD (A.toN x0) 0)))) 44)), (2005, (bU 5 x4 44)), (3001, (bU 5 x5 44))]⟩
theorem g14R6 (x0 x1 : Int) (x2 x3 : List Nat) (x4 x5 : List Nat) : g14D A n (pth 6551) K ⟨[(4, (pT 1002 0)), (5, (pT 2004 0)), (6, (pT 2005 0)), (7, (pT 3001 0)), (8, (i6 x0)), (14, (i6 x1))], [(1002, (bU 4 x2 24)), (2004, (bU 5 x3 44)), (2005, (bU 5 x4 44)), (3001, (bU 5 x5 44))]⟩ = match (generalizing := false) A.neg x0 with
    | true => none
    | false => match (generalizing := false) A.lt (A.toN x0) 5 with
      | true => match (generalizing := false) A.neg x0 with
        | true => none
        | false => match (generalizing := false) A.lt (A.toN x0) 5 with
          | true => match (generalizing := false) A.neg x0 with
            | true => none
            | false => match (generalizing := false) A.lt (A.toN x0) 5 with
              | true => match (generalizing := false) A.neg x0 with
                | true => none
                | false => match (generalizing := false) A.lt (A.toN x0) 5 with
                  | true => K .normal (g14R6s0 A x0 x1 x2 x3 x4 x5)
                  | false => none
              | false => none
          | false => none
      | false => none := by kernel_rfl
def g14R7s0 (A : Ar) (x0 : Int) (x1 x2 : List Nat) (x3 x4 : List Nat) : St := ⟨[(14, (i6 (A.ib .add .i64 x0 1))), (29, (i6 (A.ib .add .i64 x0 1))), (4, (pT 1002 0)), (5, (pT 2004 0)), (6, (pT 2005 0)), (7, (pT 3001 0)), (14, (i6 x0))], [(1002, (bU 4 x1 24)), (2004, (bU 5 x2 44)), (2005, (bU 5 x3 44)), (3001, (bU 5 x4 44))]⟩
theorem g14R7 (x0 : Int) (x1 x2 : List Nat) (x3 x4 : List Nat) : g14D A n (pth 1943) K ⟨[(4, (pT 1002 0)), (5, (pT 2004 0)), (6, (pT 2005 0)), (7, (pT 3001 0)), (14, (i6 x0))], [(1002, (bU 4 x1 24)), (2004, (bU 5 x2 44)), (2005, (bU 5 x3 44)), (3001, (bU 5 x4 44))]⟩ = K .normal (g14R7s0 A x0 x1 x2 x3 x4) := by kernel_rfl
def g14R4s0 (A : Ar) (x0 : Int) (x1 x2 : List Nat) (x3 x4 : List Nat) : St := ⟨[(15, (bO (A.ic .lss x0 5))), (4, (pT 1002 0)), (5, (pT 2004 0)), (6, (pT 2005 0)), (7, (pT 3001 0)), (14, (i6 x0))], [(1002, (bU 4 x1 24)), (2004, (bU 5 x2 44)), (2005, (bU 5 x3 44)), (3001, (bU 5 x4 44))]⟩
theorem g14R4 (x0 : Int) (x1 x2 : List Nat) (x3 x4 : List Nat) : g14D A n (pth 279) K ⟨[(4, (pT 1002 0)), (5, (pT 2004 0)), (6, (pT 2005 0)), (7, (pT 3001 0)), (14, (i6 x0))], [(1002, (bU 4 x1 24)), (2004, (bU 5 x2 44)), (2005, (bU 5 x3 44)), (3001, (bU 5 x4 44))]⟩ = K .normal (g14R4s0 A x0 x1 x2 x3 x4) := by kernel_rfl
def g14R8s0 (A : Ar) (x0 x1 : List Nat) : St := ⟨[(31, (aN .u64 4 (g38r0 A x1))), (30, (aN .u64 5 x1)), (4, (pT 1002 0)), (5, (pT 2004 0))], [(1002, (bU 4 (g38r0 A x1) 24)), (2004, (bU 5 x1 44))]⟩
theorem g14R8 (x0 x1 : List Nat) : g14D A n (pth 47) K ⟨[(4, (pT 1002 0)), (5, (pT 2004 0))], [(1002, (bU 4 x0 24)), (2004, (bU 5 x1 44))]⟩ = match (generalizing := false) g38ok A x1 with
    | true => K .normal (g14R8s0 A x0 x1)
    | false => none := by kernel_rfl
def g14R0s0 (A : Ar) (x0 x1 : List Nat) : St := ⟨[(4, (pT 1002 0)), (3, (pT 1001 0)), (2, (pT 1000 0)), (0, (aN .u64 4 x0)), (1, (aN .u64 4 x1))], [(1002, (bU 4 [0, 0, 0, 0] 24)), (1001, (bU 4 x1 24)), (1000, (bU 4 x0 24))]⟩
theorem g14R0 (x0 x1 : List Nat) : g14D A n (pth 2) K ⟨[(0, (aN .u64 4 x0)), (1, (aN .u64 4 x1))], []⟩ = K .normal (g14R0s0 A x0 x1) := by kernel_rfl
def g14R1s0 (A : Ar) (x0 x1 x2 : List Nat) : St := ⟨[(6, (pT 2005 0)), (5, (pT 2004 0)), (12, (aN .u64 5 (g37r0 A x1))), (11, (aN .u64 4 x1)), (10, (aN .u64 5 (g37r0 A x0))), (9, (aN .u64 4 x0)), (2, (pT 1000 0)), (3, (pT 1001 0)), (4, (pT 1002 0))], [(2005, (bU 5 (g37r0 A x1) 44)), (2004, (bU 5 (g37r0 A x0) 44)), (1000, (bU 4 x0 24)), (1001, (bU 4 x1 24)), (1002, (bU 4 x2 24))]⟩
theorem g14R1 (x0 x1 x2 : List Nat) : g14D A n (pth 5) K ⟨[(2, (pT 1000 0)), (3, (pT 1001 0)), (4, (pT 1002 0))], [(1000, (bU 4 x0 24)), (1001, (bU 4 x1 24)), (1002, (bU 4 x2 24))]⟩ = match (generalizing := false) g37ok A x0 with
    | true => match (generalizing := false) g37ok A x1 with
      | true => K .normal (g14R1s0 A x0 x1 x2)
      | false => none
    | false => none := by kernel_rfl
def g14R2s0 (A : Ar) (x0 x1 x2 : List Nat) : St := ⟨[(7, (pT 3001 0)), (13, (aN .u64 5 ((((([0, 0, 0, 0, 0].set 0 9007199254740916).set 1 9007199254740988).set 2 9007199254740988).set 3 9007199254740988).set 4 9007199254740988))), (4, (pT 1002 0)), (5, (pT 2004 0)), (6, (pT 2005 0))], [(3001, (bU 5 ((((([0, 0, 0, 0, 0].set 0 9007199254740916).set 1 9007199254740988).set 2 9007199254740988).set 3 9007199254740988).set 4 9007199254740988) 44)), (1002, (bU 4 x0 24)), (2004, (bU 5 x1 44)), (2005, (bU 5 x2 44))]⟩
theorem g14R2 (x0 x1 x2 : List Nat) : g14D A n (pth 11) K ⟨[(4, (pT 1002 0)), (5, (pT 2004 0)), (6, (pT 2005 0))], [(1002, (bU 4 x0 24)), (2004, (bU 5 x1 44)), (2005, (bU 5 x2 44))]⟩ = K .normal (g14R2s0 A x0 x1 x2) := by kernel_rfl
def g14R3s0 (A : Ar) (x0 x1 : List Nat) (x2 x3 : List Nat) : St := ⟨[(14, (i6 0)), (4, (pT 1002 0)), (5, (pT 2004 0)), (6, (pT 2005 0)), (7, (pT 3001 0))], [(1002, (bU 4 x0 24)), (2004, (bU 5 x1 44)), (2005, (bU 5 x2 44)), (3001, (bU 5 x3 44))]⟩
theorem g14R3 (x0 x1 : List Nat) (x2 x3 : List Nat) : g14D A n (pth 39) K ⟨[(4, (pT 1002 0)), (5, (pT 2004 0)), (6, (pT 2005 0)), (7, (pT 3001 0))], [(1002, (bU 4 x0 24)), (2004, (bU 5 x1 44)), (2005, (bU 5 x2 44)), (3001, (bU 5 x3 44))]⟩ = K .normal (g14R3s0 A x0 x1 x2 x3) := by kernel_rfl
end
def g14J5 {R : Type} (A : Ar) (n : Nat) (kk : AV → Heap → Option R) (lg14L4 : Int → List Nat → List Nat → List Nat → List Nat → Option R) (x0 : Int) (x1 x2 : List Nat) (x3 x4 : List Nat) : Option R :=
  match (generalizing := false) A.neg x0 with
  | true => none
  | false => match (generalizing := false) A.lt (A.toN x0) 5 with
    | true => match (generalizing := false) A.neg x0 with
      | true => none
      | false => match (generalizing := false) A.lt (A.toN x0) 5 with
        | true => match (generalizing := false) A.neg x0 with
          | true => none
          | false => match (generalizing := false) A.lt (A.toN x0) 5 with
            | true => match (generalizing := false) A.neg x0 with
              | true => none
              | false => match (generalizing := false) A.lt (A.toN x0) 5 with
                | true => lg14L4 (A.ib .add .i64 x0 1) x1 (x2.set (A.toN x0) (A.nb .add .u64 (x2.getD (A.toN x0) 0) (A.nb .sub .u64 (x4.getD (A.toN x0) 0) (x3.getD (A.toN x0) 0)))) x3 x4
                | false => none
            | false => none
        | false => none
    | false => none
set_option maxRecDepth 100000 in
theorem g14J5_eq {R : Type} (A : Ar) (n : Nat) (kk : AV → Heap → Option R) (m0 : Nat) (lg14L4 : Int → List Nat → List Nat → List Nat → List Nat → Option R) 
    (hg14L4 : ∀ (s : St) (x0 : Int) (x1 x2 : List Nat) (x3 x4 : List Nat), keep g14an 4 s = ⟨[(4, (pT 1002 0)), (5, (pT 2004 0)), (6, (pT 2005 0)), (7, (pT 3001 0)), (14, (i6 x0))], [(1002, (bU 4 x1 24)), (2004, (bU 5 x2 44)), (2005, (bU 5 x3 44)), (3001, (bU 5 x4 44))]⟩ → g14V A n (pth 151) m0 (blockK 0 (g14Q A n (pth 31) (g14T kk))) s = lg14L4 x0 x1 x2 x3 x4) (s : St) (x0 : Int) (x1 x2 : List Nat) (x3 x4 : List Nat) (h : keep g14an 5 s = ⟨[(4, (pT 1002 0)), (5, (pT 2004 0)), (6, (pT 2005 0)), (7, (pT 3001 0)), (14, (i6 x0))], [(1002, (bU 4 x1 24)), (2004, (bU 5 x2 44)), (2005, (bU 5 x3 44)), (3001, (bU 5 x4 44))]⟩) :
    g14D A n (pth 919) (g14W A n (pth 151) m0 (blockK 0 (g14Q A n (pth 31) (g14T kk)))) s = g14J5 A n kk lg14L4 x0 x1 x2 x3 x4 := by
  have h1 := (g14Wn A n _ _ _ _).trans (hg14L4 (g14R7s0 A x0 x1 (x2.set (A.toN x0) (A.nb .add .u64 (x2.getD (A.toN x0) 0) (A.nb .sub .u64 (x4.getD (A.toN x0) 0) (x3.getD (A.toN x0) 0)))) x3 x4) (A.ib .add .i64 x0 1) x1 (x2.set (A.toN x0) (A.nb .add .u64 (x2.getD (A.toN x0) 0) (A.nb .sub .u64 (x4.getD (A.toN x0) 0) (x3.getD (A.toN x0) 0)))) x3 x4 (by kernel_rfl))
  have h2 := (g14F A n _ 7 _ (g14R6s0 A x0 x0 x1 x2 x3 x4) _ (by kernel_rfl) (by kernel_rfl)).trans (g14R7 A n (g14W A n (pth 151) m0 (blockK 0 (g14Q A n (pth 31) (g14T kk)))) x0 x1 (x2.set (A.toN x0) (A.nb .add .u64 (x2.getD (A.toN x0) 0) (A.nb .sub .u64 (x4.getD (A.toN x0) 0) (x3.getD (A.toN x0) 0)))) x3 x4)
  rw [h1] at h2
  have h3 := (g14Qn A n _ _ _).trans h2
  have h4 := (blockK_n 1 _ _).trans h3
  have h5 := (g14F A n _ 6 _ (g14R5s0 A x0 x1 x2 x3 x4) _ (by kernel_rfl) (by kernel_rfl)).trans (g14R6 A n (blockK 1 (g14Q A n (pth 1943) (g14W A n (pth 151) m0 (blockK 0 (g14Q A n (pth 31) (g14T kk)))))) x0 x0 x1 x2 x3 x4)
  rw [h4] at h5
  have h6 := (g14Qn A n _ _ _).trans h5
  have h7 := (g14F A n _ 5 _ ⟨[(4, (pT 1002 0)), (5, (pT 2004 0)), (6, (pT 2005 0)), (7, (pT 3001 0)), (14, (i6 x0))], [(1002, (bU 4 x1 24)), (2004, (bU 5 x2 44)), (2005, (bU 5 x3 44)), (3001, (bU 5 x4 44))]⟩ _ (by kernel_rfl) (by kernel_rfl)).trans (g14R5 A n (g14Q A n (pth 6551) (blockK 1 (g14Q A n (pth 1943) (g14W A n (pth 151) m0 (blockK 0 (g14Q A n (pth 31) (g14T kk))))))) x0 x1 x2 x3 x4)
  rw [h6] at h7
  have h8 := (g14p2455 A n _ _).trans h7
  have h9 := (g14p1431 A n _ _).trans h8
  have h10 := (g14p919 A n _ _).trans h9
  exact (g14F A n _ 5 _ _ ⟨[(4, (pT 1002 0)), (5, (pT 2004 0)), (6, (pT 2005 0)), (7, (pT 3001 0)), (14, (i6 x0))], [(1002, (bU 4 x1 24)), (2004, (bU 5 x2 44)), (2005, (bU 5 x3 44)), (3001, (bU 5 x4 44))]⟩ (by kernel_rfl) (h.trans (by kernel_rfl))).trans (h10.trans (by kernel_rfl))
def g14L4 {R : Type} (A : Ar) (n : Nat) (kk : AV → Heap → Option R)  : Nat → Int → List Nat → List Nat → List Nat → List Nat → Option R
  | 0, _, _, _, _, _ => none
  | m + 1, x0, x1, x2, x3, x4 => match (generalizing := false) A.ic .lss x0 5 with
  | true => g14J5 A n kk (g14L4 A n kk  m) x0 x1 x2 x3 x4
  | false => match (generalizing := false) g38ok A x2 with
    | true => kk (aN .u64 4 (g38r0 A x2)) [(1002, (bU 4 (g38r0 A x2) 24)), (2004, (bU 5 x2 44))]
    | false => none
set_option maxRecDepth 100000 in
theorem g14L4_eq {R : Type} (A : Ar) (n : Nat) (kk : AV → Heap → Option R)    (m : Nat) (s : St) (x0 : Int) (x1 x2 : List Nat) (x3 x4 : List Nat) (h : keep g14an 4 s = ⟨[(4, (pT 1002 0)), (5, (pT 2004 0)), (6, (pT 2005 0)), (7, (pT 3001 0)), (14, (i6 x0))], [(1002, (bU 4 x1 24)), (2004, (bU 5 x2 44)), (2005, (bU 5 x3 44)), (3001, (bU 5 x4 44))]⟩) :
    g14V A n (pth 151) m (blockK 0 (g14Q A n (pth 31) (g14T kk))) s = g14L4 A n kk  m x0 x1 x2 x3 x4 := by
  induction m generalizing s x0 x1 x2 x3 x4 with
  | zero => rfl
  | succ m ih =>
    have h1 := (g14Qn A n _ _ _).trans (g14J5_eq A n kk m (g14L4 A n kk  m) ih  (g14R4s0 A x0 x1 x2 x3 x4) x0 x1 x2 x3 x4 (by kernel_rfl))
    have h2 := (g14p1175 A n _ _).trans h1
    have h3 : (g14T kk) .ret (g14R8s0 A x1 x2) = kk (aN .u64 4 (g38r0 A x2)) [(1002, (bU 4 (g38r0 A x2) 24)), (2004, (bU 5 x2 44))] := by kernel_rfl
    have h4 := (g14p63 A n _ _).trans h3
    have h5 := (g14Qn A n _ _ _).trans h4
    have h6 := (g14F A n _ 8 _ (g14R4s0 A x0 x1 x2 x3 x4) _ (by kernel_rfl) (by kernel_rfl)).trans (g14R8 A n (g14Q A n (pth 63) (g14T kk)) x1 x2)
    rw [h5] at h6
    have h7 := (g14p31 A n _ _).trans h6
    have h8 := (g14Qn A n _ _ _).trans h7
    have h9 := (blockK_hit 0 _ _).trans h8
    have h10 := (g14We A n (pth 151) m _ _ _).trans h9
    have h11 := (g14Qe A n (pth 919) _ _ _).trans h10
    have h12 := (g14p1687 A n _ _).trans h11
    have h13 := g14p663 A n (g14Q A n (pth 919) (g14W A n (pth 151) m (blockK 0 (g14Q A n (pth 31) (g14T kk))))) (g14R4s0 A x0 x1 x2 x3 x4) (A.ic .lss x0 5) (by kernel_rfl)
    rw [h2, h12] at h13
    have h14 := (g14p407 A n _ _).trans h13
    have h15 := (g14Qn A n _ _ _).trans h14
    have h16 := (g14F A n _ 4 _ ⟨[(4, (pT 1002 0)), (5, (pT 2004 0)), (6, (pT 2005 0)), (7, (pT 3001 0)), (14, (i6 x0))], [(1002, (bU 4 x1 24)), (2004, (bU 5 x2 44)), (2005, (bU 5 x3 44)), (3001, (bU 5 x4 44))]⟩ _ (by kernel_rfl) (by kernel_rfl)).trans (g14R4 A n (g14Q A n (pth 407) (g14W A n (pth 151) m (blockK 0 (g14Q A n (pth 31) (g14T kk))))) x0 x1 x2 x3 x4)
    rw [h15] at h16
    have h17 := (g14p151 A n _ _).trans h16
    exact (loopD_first (s' := ⟨[(4, (pT 1002 0)), (5, (pT 2004 0)), (6, (pT 2005 0)), (7, (pT 3001 0)), (14, (i6 x0))], [(1002, (bU 4 x1 24)), (2004, (bU 5 x2 44)), (2005, (bU 5 x3 44)), (3001, (bU 5 x4 44))]⟩) (id := 4) (by kernel_rfl) (h.trans (by kernel_rfl)) _).trans ((g14Vs A n _ m _ _).trans (h17.trans (by kernel_rfl)))
def g14 {R : Type} (A : Ar) (n : Nat) (kk : AV → Heap → Option R) (a b : List Nat) : Option R :=
  match (generalizing := false) g37ok A a with
  | true => match (generalizing := false) g37ok A b with
    | true => g14L4 A n kk  n 0 [0, 0, 0, 0] (g37r0 A a) (g37r0 A b) ((((([0, 0, 0, 0, 0].set 0 9007199254740916).set 1 9007199254740988).set 2 9007199254740988).set 3 9007199254740988).set 4 9007199254740988)
    | false => none
  | false => none
set_option maxRecDepth 100000 in
theorem g14_eq {R : Type} (A : Ar) (n : Nat) (kk : AV → Heap → Option R) (a b : List Nat) :
    funD A gtys (g14O A) g14an n (bodyOf Try.f14) g14res [(aN .u64 4 a), (aN .u64 4 b)] [] kk = g14 A n kk a b := by
  have h1 := (g14p87 A n _ _).trans (g14L4_eq A n kk    n (g14R3s0 A [0, 0, 0, 0] (g37r0 A a) (g37r0 A b) ((((([0, 0, 0, 0, 0].set 0 9007199254740916).set 1 9007199254740988).set 2 9007199254740988).set 3 9007199254740988).set 4 9007199254740988)) 0 [0, 0, 0, 0] (g37r0 A a) (g37r0 A b) ((((([0, 0, 0, 0, 0].set 0 9007199254740916).set 1 9007199254740988).set 2 9007199254740988).set 3 9007199254740988).set 4 9007199254740988) (by kernel_rfl))
  have h2 := (g14p55 A n _ _).trans h1
  have h3 := (g14Qn A n _ _ _).trans h2
  have h4 := (g14F A n _ 3 _ (g14R2s0 A [0, 0, 0, 0] (g37r0 A a) (g37r0 A b)) _ (by kernel_rfl) (by kernel_rfl)).trans (g14R3 A n (g14Q A n (pth 55) (g14Q A n (pth 31) (g14T kk))) [0, 0, 0, 0] (g37r0 A a) (g37r0 A b) ((((([0, 0, 0, 0, 0].set 0 9007199254740916).set 1 9007199254740988).set 2 9007199254740988).set 3 9007199254740988).set 4 9007199254740988))
  rw [h3] at h4
  have h5 := (g14p23 A n _ _).trans h4
  have h6 := (g14p15 A n _ _).trans h5
  have h7 := (g14Qn A n _ _ _).trans h6
  have h8 := (g14F A n _ 2 _ (g14R1s0 A a b [0, 0, 0, 0]) _ (by kernel_rfl) (by kernel_rfl)).trans (g14R2 A n (g14Q A n (pth 15) (g14T kk)) [0, 0, 0, 0] (g37r0 A a) (g37r0 A b))
  rw [h7] at h8
  have h9 := (g14p7 A n _ _).trans h8
  have h10 := (g14Qn A n _ _ _).trans h9
  have h11 := (g14F A n _ 1 _ (g14R0s0 A a b) _ (by kernel_rfl) (by kernel_rfl)).trans (g14R1 A n (g14Q A n (pth 7) (g14T kk)) a b [0, 0, 0, 0])
  rw [h10] at h11
  have h12 := (g14p3 A n _ _).trans h11
  have h13 := (g14Qn A n _ _ _).trans h12
  have h14 := (g14F A n _ 0 _ ⟨[(0, (aN .u64 4 a)), (1, (aN .u64 4 b))], []⟩ _ (by kernel_rfl) (by kernel_rfl)).trans (g14R0 A n (g14Q A n (pth 3) (g14T kk)) a b)
  rw [h13] at h14
  have h15 := (g14p1 A n _ _).trans h14
  exact (show funD A gtys (g14O A) g14an n (bodyOf Try.f14) g14res [(aN .u64 4 a), (aN .u64 4 b)] [] kk = g14D A n (pth 1) (g14T kk) ⟨[(0, (aN .u64 4 a)), (1, (aN .u64 4 b))], []⟩ from by kernel_rfl).trans (h15.trans (by kernel_rfl))
def g14is (o : Option AV) : Bool := match o with
  | some (aN .u64 4 _) => true
  | _ => false
def g14g0 (o : Option AV) : List Nat := match o with
  | some (aN .u64 4 x) => x
  | _ => []
theorem g14is_spec {o : Option AV} (h : g14is o = true) : o = some (aN .u64 4 (g14g0 o)) := by
  unfold g14is at h
  split at h
  · rfl
  · cases h
def g14v (A : Ar) (a b : List Nat) : Option AV := g14 A (100000) (fun v _ => some v) a b
def g14ok (A : Ar) (a b : List Nat) : Bool := g14is (g14v A a b)
def g14r0 (A : Ar) (a b : List Nat) : List Nat := g14g0 (g14v A a b)
theorem g14ok_spec {A : Ar} {a b} (h : g14ok A a b = true) : g14v A a b = some (aN .u64 4 (g14r0 A a b)) := g14is_spec h
def g14o (A : Ar) (args : List AV) : Option (Bool × AV) := match args with
  | [.v (.agg [.nums .u64 n0 a]), .v (.agg [.nums .u64 n1 b])] => some (Nat.beq n0 4 && (Nat.beq n1 4 && (g14ok A a b)), .v (.agg [.nums .u64 4 (g14r0 A a b)]))
  | _ => none
theorem g14o_sound : ∀ args v, g14o realA args = some (true, v) → Fn1 Try.prog 14 args v := by
  intro args v h
  unfold g14o at h
  split at h
  · rename_i n0 a n1 b
    simp only [Option.some.injEq, Prod.mk.injEq] at h
    obtain ⟨hc, h⟩ := h
    subst h
    · skip
      simp only [Bool.and_eq_true] at hc
      have en0 := beq_true hc.1
      subst en0
      replace hc := hc.2
      have en1 := beq_true hc.1
      subst en1
      replace hc := hc.2
      exact fn1_of mixed gtysOK g14O_sound g14O_det (an := g14an) (n := 100000) Try.func14 (c := bodyOf Try.f14) rfl (by kernel_rfl) Try.call14 (Nat.le_of_ble_eq_true rfl) (fun b => rfl) (fun _ => (g14_eq realA (100000) (fun v _ => some v) a b).trans (show g14v realA a b = _ from g14ok_spec hc))
  · cases h
/- engrosser/field.Neg -/
def g18O (A : Ar) : Orc := orcOf [(14, g14o A)]
theorem g18O_sound : OSound Try.prog (g18O realA) := orc_sound fun f g hm args v hv => by
  simp only [List.mem_cons, List.not_mem_nil, or_false, Prod.mk.injEq] at hm
  rcases hm with ⟨rfl, rfl⟩
  · exact g14o_sound _ _ hv
theorem g18O_det : ODet (g18O realA) := orc_det _
def g18an : Ann := [(0, ([0], [])), (1, ([1, 2], [1000, 1001]))]
def g18res : List ResultVar := [.cell 2 24]
noncomputable def g18D {R : Type} (A : Ar) (n : Nat) (p : List Bool) (K : Ex → St → Option R) (s : St) : Option R := codeD A gtys (g18O A) g18an n (sub (bodyOf Try.f18) p) K s
noncomputable def g18Q {R : Type} (A : Ar) (n : Nat) (p : List Bool) (K : Ex → St → Option R) : Ex → St → Option R := seqC (g18D A n p K) K
noncomputable def g18T {R : Type} (kk : AV → Heap → Option R) : Ex → St → Option R := finD gtys g18res kk
theorem g18Qn {R : Type} (A : Ar) (n : Nat) (p : List Bool) (K : Ex → St → Option R) (s : St) : g18Q A n p K .normal s = g18D A n p K s := rfl
theorem g18F {R : Type} (A : Ar) (n : Nat) (p : List Bool) (i : Nat) (K : Ex → St → Option R) (s s' : St) (hf : firstReg (sub (bodyOf Try.f18) p) = some i) (h : keep g18an i s = keep g18an i s') : g18D A n p K s = g18D A n p K s' := codeD_first hf h K
section
variable {R : Type} (A : Ar) (n : Nat) (K : Ex → St → Option R) (s : St)
theorem g18p1 : g18D A n (pth 1) K s = g18D A n (pth 2) (g18Q A n (pth 3) K) s := by kernel_rfl
theorem g18p3 : g18D A n (pth 3) K s = g18D A n (pth 5) (g18Q A n (pth 7) K) s := by kernel_rfl
theorem g18p7 : g18D A n (pth 7) K s = K .ret s := by kernel_rfl
def g18R0s0 (A : Ar) (x0 : List Nat) : St := ⟨[(2, (pT 1001 0)), (1, (pT 1000 0)), (0, (aN .u64 4 x0))], [(1001, (bU 4 [0, 0, 0, 0] 24)), (1000, (bU 4 x0 24))]⟩
theorem g18R0 (x0 : List Nat) : g18D A n (pth 2) K ⟨[(0, (aN .u64 4 x0))], []⟩ = K .normal (g18R0s0 A x0) := by kernel_rfl
def g18R1s0 (A : Ar) (x0 x1 : List Nat) : St := ⟨[(5, (aN .u64 4 (g14r0 A [0, 0, 0, 0] x0))), (4, (aN .u64 4 x0)), (3, (aN .u64 4 [0, 0, 0, 0])), (1, (pT 1000 0)), (2, (pT 1001 0))], [(1000, (bU 4 x0 24)), (1001, (bU 4 (g14r0 A [0, 0, 0, 0] x0) 24))]⟩
theorem g18R1 (x0 x1 : List Nat) : g18D A n (pth 5) K ⟨[(1, (pT 1000 0)), (2, (pT 1001 0))], [(1000, (bU 4 x0 24)), (1001, (bU 4 x1 24))]⟩ = match (generalizing := false) g14ok A [0, 0, 0, 0] x0 with
    | true => K .normal (g18R1s0 A x0 x1)
    | false => none := by kernel_rfl
end
def g18 {R : Type} (A : Ar) (n : Nat) (kk : AV → Heap → Option R) (a : List Nat) : Option R :=
  match (generalizing := false) g14ok A [0, 0, 0, 0] a with
  | true => kk (aN .u64 4 (g14r0 A [0, 0, 0, 0] a)) [(1000, (bU 4 a 24)), (1001, (bU 4 (g14r0 A [0, 0, 0, 0] a) 24))]
  | false => none
set_option maxRecDepth 100000 in
theorem g18_eq {R : Type} (A : Ar) (n : Nat) (kk : AV → Heap → Option R) (a : List Nat) :
    funD A gtys (g18O A) g18an n (bodyOf Try.f18) g18res [(aN .u64 4 a)] [] kk = g18 A n kk a := by
  have h1 : (g18T kk) .ret (g18R1s0 A a [0, 0, 0, 0]) = kk (aN .u64 4 (g14r0 A [0, 0, 0, 0] a)) [(1000, (bU 4 a 24)), (1001, (bU 4 (g14r0 A [0, 0, 0, 0] a) 24))] := by kernel_rfl
  have h2 := (g18p7 A n _ _).trans h1
  have h3 := (g18Qn A n _ _ _).trans h2
  have h4 := (g18F A n _ 1 _ (g18R0s0 A a) _ (by kernel_rfl) (by kernel_rfl)).trans (g18R1 A n (g18Q A n (pth 7) (g18T kk)) a [0, 0, 0, 0])
  rw [h3] at h4
  have h5 := (g18p3 A n _ _).trans h4
  have h6 := (g18Qn A n _ _ _).trans h5
  have h7 := (g18F A n _ 0 _ ⟨[(0, (aN .u64 4 a))], []⟩ _ (by kernel_rfl) (by kernel_rfl)).trans (g18R0 A n (g18Q A n (pth 3) (g18T kk)) a)
  rw [h6] at h7
  have h8 := (g18p1 A n _ _).trans h7
  exact (show funD A gtys (g18O A) g18an n (bodyOf Try.f18) g18res [(aN .u64 4 a)] [] kk = g18D A n (pth 1) (g18T kk) ⟨[(0, (aN .u64 4 a))], []⟩ from by kernel_rfl).trans (h8.trans (by kernel_rfl))
def g18is (o : Option AV) : Bool := match o with
  | some (aN .u64 4 _) => true
  | _ => false
def g18g0 (o : Option AV) : List Nat := match o with
  | some (aN .u64 4 x) => x
  | _ => []
theorem g18is_spec {o : Option AV} (h : g18is o = true) : o = some (aN .u64 4 (g18g0 o)) := by
  unfold g18is at h
  split at h
  · rfl
  · cases h
def g18v (A : Ar) (a : List Nat) : Option AV := g18 A (100000) (fun v _ => some v) a
def g18ok (A : Ar) (a : List Nat) : Bool := g18is (g18v A a)
def g18r0 (A : Ar) (a : List Nat) : List Nat := g18g0 (g18v A a)
theorem g18ok_spec {A : Ar} {a} (h : g18ok A a = true) : g18v A a = some (aN .u64 4 (g18r0 A a)) := g18is_spec h
def g18o (A : Ar) (args : List AV) : Option (Bool × AV) := match args with
  | [.v (.agg [.nums .u64 n0 a])] => some (Nat.beq n0 4 && (g18ok A a), .v (.agg [.nums .u64 4 (g18r0 A a)]))
  | _ => none
theorem g18o_sound : ∀ args v, g18o realA args = some (true, v) → Fn1 Try.prog 18 args v := by
  intro args v h
  unfold g18o at h
  split at h
  · rename_i n0 a
    simp only [Option.some.injEq, Prod.mk.injEq] at h
    obtain ⟨hc, h⟩ := h
    subst h
    · skip
      simp only [Bool.and_eq_true] at hc
      have en0 := beq_true hc.1
      subst en0
      replace hc := hc.2
      exact fn1_of mixed gtysOK g18O_sound g18O_det (an := g18an) (n := 100000) Try.func18 (c := bodyOf Try.f18) rfl (by kernel_rfl) Try.call18 (Nat.le_of_ble_eq_true rfl) (fun b => rfl) (fun _ => (g18_eq realA (100000) (fun v _ => some v) a).trans (show g18v realA a = _ from g18ok_spec hc))
  · cases h
/- engrosser/field.Odd -/
def g22O (A : Ar) : Orc := orcOf [(37, g37o A), (38, g38o A)]
theorem g22O_sound : OSound Try.prog (g22O realA) := orc_sound fun f g hm args v hv => by
  simp only [List.mem_cons, List.not_mem_nil, or_false, Prod.mk.injEq] at hm
  rcases hm with ⟨rfl, rfl⟩ | ⟨rfl, rfl⟩
  · exact g37o_sound _ _ hv
  · exact g38o_sound _ _ hv
theorem g22O_det : ODet (g22O realA) := orc_det _
def g22an : Ann := [(0, ([0], [])), (1, ([1], [1000]))]
def g22res : List ResultVar := [.tmp 2]
noncomputable def g22D {R : Type} (A : Ar) (n : Nat) (p : List Bool) (K : Ex → St → Option R) (s : St) : Option R := codeD A gtys (g22O A) g22an n (sub (bodyOf Try.f22) p) K s
noncomputable def g22Q {R : Type} (A : Ar) (n : Nat) (p : List Bool) (K : Ex → St → Option R) : Ex → St → Option R := seqC (g22D A n p K) K
noncomputable def g22T {R : Type} (kk : AV → Heap → Option R) : Ex → St → Option R := finD gtys g22res kk
theorem g22Qn {R : Type} (A : Ar) (n : Nat) (p : List Bool) (K : Ex → St → Option R) (s : St) : g22Q A n p K .normal s = g22D A n p K s := rfl
theorem g22F {R : Type} (A : Ar) (n : Nat) (p : List Bool) (i : Nat) (K : Ex → St → Option R) (s s' : St) (hf : firstReg (sub (bodyOf Try.f22) p) = some i) (h : keep g22an i s = keep g22an i s') : g22D A n p K s = g22D A n p K s' := codeD_first hf h K
section
variable {R : Type} (A : Ar) (n : Nat) (K : Ex → St → Option R) (s : St)
theorem g22p1 : g22D A n (pth 1) K s = g22D A n (pth 2) (g22Q A n (pth 3) K) s := by kernel_rfl
theorem g22p3 : g22D A n (pth 3) K s = g22D A n (pth 5) (g22Q A n (pth 7) K) s := by kernel_rfl
theorem g22p7 : g22D A n (pth 7) K s = K .ret s := by kernel_rfl
def g22R0s0 (A : Ar) (x0 : List Nat) : St := ⟨[(2, (bO false)), (1, (pT 1000 0)), (0, (aN .u64 4 x0))], [(1000, (bU 4 x0 24))]⟩
theorem g22R0 (x0 : List Nat) : g22D A n (pth 2) K ⟨[(0, (aN .u64 4 x0))], []⟩ = K .normal (g22R0s0 A x0) := by kernel_rfl
def g22R1s0 (A : Ar) (x0 : List Nat) : St := ⟨[(2, (bO (A.nc .neq (A.nb .and .u64 ((g38r0 A (g37r0 A x0)).getD 0 0) 1) 0))), (8, (bO (A.nc .neq (A.nb .and .u64 ((g38r0 A (g37r0 A x0)).getD 0 0) 1) 0))), (7, (u64v (A.nb .and .u64 ((g38r0 A (g37r0 A x0)).getD 0 0) 1))), (6, (u64v ((g38r0 A (g37r0 A x0)).getD 0 0))), (5, (aN .u64 4 (g38r0 A (g37r0 A x0)))), (4, (aN .u64 5 (g37r0 A x0))), (3, (aN .u64 4 x0)), (1, (pT 1000 0))], [(1000, (bU 4 x0 24))]⟩
theorem g22R1 (x0 : List Nat) : g22D A n (pth 5) K ⟨[(1, (pT 1000 0))], [(1000, (bU 4 x0 24))]⟩ = match (generalizing := false) g37ok A x0 with
    | true => match (generalizing := false) g38ok A (g37r0 A x0) with
      | true => K .normal (g22R1s0 A x0)
      | false => none
    | false => none := by kernel_rfl
end
def g22 {R : Type} (A : Ar) (n : Nat) (kk : AV → Heap → Option R) (a : List Nat) : Option R :=
  match (generalizing := false) g37ok A a with
  | true => match (generalizing := false) g38ok A (g37r0 A a) with
    | true => kk (bO (A.nc .neq (A.nb .and .u64 ((g38r0 A (g37r0 A a)).getD 0 0) 1) 0)) [(1000, (bU 4 a 24))]
    | false => none
  | false => none
set_option maxRecDepth 100000 in
theorem g22_eq {R : Type} (A : Ar) (n : Nat) (kk : AV → Heap → Option R) (a : List Nat) :
    funD A gtys (g22O A) g22an n (bodyOf Try.f22) g22res [(aN .u64 4 a)] [] kk = g22 A n kk a := by
  have h1 : (g22T kk) .ret (g22R1s0 A a) = kk (bO (A.nc .neq (A.nb .and .u64 ((g38r0 A (g37r0 A a)).getD 0 0) 1) 0)) [(1000, (bU 4 a 24))] := by kernel_rfl
  have h2 := (g22p7 A n _ _).trans h1
  have h3 := (g22Qn A n _ _ _).trans h2
  have h4 := (g22F A n _ 1 _ (g22R0s0 A a) _ (by kernel_rfl) (by kernel_rfl)).trans (g22R1 A n (g22Q A n (pth 7) (g22T kk)) a)
  rw [h3] at h4
  have h5 := (g22p3 A n _ _).trans h4
  have h6 := (g22Qn A n _ _ _).trans h5
  have h7 := (g22F A n _ 0 _ ⟨[(0, (aN .u64 4 a))], []⟩ _ (by kernel_rfl) (by kernel_rfl)).trans (g22R0 A n (g22Q A n (pth 3) (g22T kk)) a)
  rw [h6] at h7
  have h8 := (g22p1 A n _ _).trans h7
  exact (show funD A gtys (g22O A) g22an n (bodyOf Try.f22) g22res [(aN .u64 4 a)] [] kk = g22D A n (pth 1) (g22T kk) ⟨[(0, (aN .u64 4 a))], []⟩ from by kernel_rfl).trans (h8.trans (by kernel_rfl))
def g22is (o : Option AV) : Bool := match o with
  | some (.v (.cell (.bool _))) => true
  | _ => false
def g22g0 (o : Option AV) : Bool := match o with
  | some (.v (.cell (.bool x))) => x
  | _ => false
theorem g22is_spec {o : Option AV} (h : g22is o = true) : o = some (.v (.cell (.bool (g22g0 o)))) := by
  unfold g22is at h
  split at h
  · rfl
  · cases h
def g22v (A : Ar) (a : List Nat) : Option AV := g22 A (100000) (fun v _ => some v) a
def g22ok (A : Ar) (a : List Nat) : Bool := g22is (g22v A a)
def g22r0 (A : Ar) (a : List Nat) : Bool := g22g0 (g22v A a)
theorem g22ok_spec {A : Ar} {a} (h : g22ok A a = true) : g22v A a = some (.v (.cell (.bool (g22r0 A a)))) := g22is_spec h
def g22o (A : Ar) (args : List AV) : Option (Bool × AV) := match args with
  | [.v (.agg [.nums .u64 n0 a])] => some (Nat.beq n0 4 && (g22ok A a), .v (.cell (.bool (g22r0 A a))))
  | _ => none
theorem g22o_sound : ∀ args v, g22o realA args = some (true, v) → Fn1 Try.prog 22 args v := by
  intro args v h
  unfold g22o at h
  split at h
  · rename_i n0 a
    simp only [Option.some.injEq, Prod.mk.injEq] at h
    obtain ⟨hc, h⟩ := h
    subst h
    · skip
      simp only [Bool.and_eq_true] at hc
      have en0 := beq_true hc.1
      subst en0
      replace hc := hc.2
      exact fn1_of mixed gtysOK g22O_sound g22O_det (an := g22an) (n := 100000) Try.func22 (c := bodyOf Try.f22) rfl (by kernel_rfl) Try.call22 (Nat.le_of_ble_eq_true rfl) (fun b => rfl) (fun _ => (g22_eq realA (100000) (fun v _ => some v) a).trans (show g22v realA a = _ from g22ok_spec hc))
  · cases h
/- engrosser/field.Root -/
def g21O (A : Ar) : Orc := orcOf [(16, g16o A), (24, g24o A), (37, g37o A), (38, g38o A), (18, g18o A), (23, g23o A), (22, g22o A)]
theorem g21O_sound : OSound Try.prog (g21O realA) := orc_sound fun f g hm args v hv => by
  simp only [List.mem_cons, List.not_mem_nil, or_false, Prod.mk.injEq] at hm
  rcases hm with ⟨rfl, rfl⟩ | ⟨rfl, rfl⟩ | ⟨rfl, rfl⟩ | ⟨rfl, rfl⟩ | ⟨rfl, rfl⟩ | ⟨rfl, rfl⟩ | ⟨rfl, rfl⟩
  · exact g16o_sound _ _ hv
  · exact g24o_sound _ _ hv
  · exact g37o_sound _ _ hv
  · exact g38o_sound _ _ hv
  · exact g18o_sound _ _ hv
  · exact g23o_sound _ _ hv
  · exact g22o_sound _ _ hv
theorem g21O_det : ODet (g21O realA) := orc_det _
def g21an : Ann := [(0, ([0, 1], [])), (1, ([2, 3, 4], [1000, 1001, 1002])), (2, ([2, 3, 4, 6], [1000, 1001, 1002, 2005])), (3, ([2, 3, 4, 6, 7], [1000, 1001, 1002, 2005, 3005])), (4, ([2, 3, 4, 8], [1000, 1001, 1002, 4009])), (5, ([3, 4, 8, 9], [1001, 1002, 4009, 5003])), (6, ([4], [1002])), (7, ([4, 8, 9, 36], [1002, 4009, 5003])), (8, ([4, 8, 9, 36], [1002, 4009, 5003])), (9, ([4, 8], [1002, 4009])), (10, ([4, 8], [1002, 4009])), (11, ([4, 8], [1002, 4009])), (12, ([4, 8], [1002, 4009]))]
def g21res : List ResultVar := [.cell 4 24, .tmp 5]
noncomputable def g21D {R : Type} (A : Ar) (n : Nat) (p : List Bool) (K : Ex → St → Option R) (s : St) : Option R := codeD A gtys (g21O A) g21an n (sub (bodyOf Try.f21) p) K s
noncomputable def g21Q {R : Type} (A : Ar) (n : Nat) (p : List Bool) (K : Ex → St → Option R) : Ex → St → Option R := seqC (g21D A n p K) K
noncomputable def g21T {R : Type} (kk : AV → Heap → Option R) : Ex → St → Option R := finD gtys g21res kk
theorem g21Qn {R : Type} (A : Ar) (n : Nat) (p : List Bool) (K : Ex → St → Option R) (s : St) : g21Q A n p K .normal s = g21D A n p K s := rfl
theorem g21Qr {R : Type} (A : Ar) (n : Nat) (p : List Bool) (K : Ex → St → Option R) (s : St) : g21Q A n p K .ret s = K .ret s := rfl
theorem g21F {R : Type} (A : Ar) (n : Nat) (p : List Bool) (i : Nat) (K : Ex → St → Option R) (s s' : St) (hf : firstReg (sub (bodyOf Try.f21) p) = some i) (h : keep g21an i s = keep g21an i s') : g21D A n p K s = g21D A n p K s' := codeD_first hf h K
section
variable {R : Type} (A : Ar) (n : Nat) (K : Ex → St → Option R) (s : St)
theorem g21p1 : g21D A n (pth 1) K s = g21D A n (pth 2) (g21Q A n (pth 3) K) s := by kernel_rfl
theorem g21p3 : g21D A n (pth 3) K s = g21D A n (pth 5) (g21Q A n (pth 7) K) s := by kernel_rfl
theorem g21p7 : g21D A n (pth 7) K s = g21D A n (pth 11) (g21Q A n (pth 15) K) s := by kernel_rfl
theorem g21p15 : g21D A n (pth 15) K s = g21D A n (pth 23) (g21Q A n (pth 31) K) s := by kernel_rfl
theorem g21p31 : g21D A n (pth 31) K s = g21D A n (pth 47) (g21Q A n (pth 63) K) s := by kernel_rfl
theorem g21p63 : g21D A n (pth 63) K s = g21D A n (pth 95) (g21Q A n (pth 127) K) s := by kernel_rfl
theorem g21p95 : g21D A n (pth 95) K s = g21D A n (pth 159) (g21Q A n (pth 223) K) s := by kernel_rfl
theorem g21p223 : g21D A n (pth 223) K s = g21D A n (pth 351) (blockK 0 K) s := by kernel_rfl
theorem g21p351 : g21D A n (pth 351) K s = g21D A n (pth 607) (g21Q A n (pth 863) K) s := by kernel_rfl
theorem g21p863 (t : Bool) : ev s (.tmp 38) = some (.v (.cell (.bool t))) → g21D A n (pth 863) K s = (match t with
    | true => g21D A n (pth 1375) K s
    | false => g21D A n (pth 1887) K s) := codeD_cond t
theorem g21p1375 : g21D A n (pth 1375) K s = K .normal s := by kernel_rfl
theorem g21p1887 : g21D A n (pth 1887) K s = g21D A n (pth 2911) (g21Q A n (pth 3935) K) s := by kernel_rfl
theorem g21p3935 (t : Bool) : ev s (.tmp 41) = some (.v (.cell (.bool t))) → g21D A n (pth 3935) K s = (match t with
    | true => g21D A n (pth 5983) K s
    | false => g21D A n (pth 8031) K s) := codeD_cond t
theorem g21p8031 : g21D A n (pth 8031) K s = g21D A n (pth 12127) (g21Q A n (pth 16223) K) s := by kernel_rfl
theorem g21p16223 : g21D A n (pth 16223) K s = K .ret s := by kernel_rfl
theorem g21p127 : g21D A n (pth 127) K s = g21D A n (pth 191) (g21Q A n (pth 255) K) s := by kernel_rfl
theorem g21p191 : g21D A n (pth 191) K s = g21D A n (pth 319) (g21Q A n (pth 447) K) s := by kernel_rfl
theorem g21p447 (t : Bool) : ev s (.tmp 51) = some (.v (.cell (.bool t))) → g21D A n (pth 447) K s = (match t with
    | true => g21D A n (pth 703) K s
    | false => g21D A n (pth 959) K s) := codeD_cond t
theorem g21p959 : g21D A n (pth 959) K s = K .normal s := by kernel_rfl
theorem g21p255 : g21D A n (pth 255) K s = g21D A n (pth 383) (g21Q A n (pth 511) K) s := by kernel_rfl
theorem g21p511 : g21D A n (pth 511) K s = K .ret s := by kernel_rfl
def g21R10s0 (A : Ar) (x0 x1 : List Nat) : St := ⟨[(51, (bO (g22r0 A x1))), (50, (aN .u64 4 x1)), (4, (pT 1002 0)), (8, (pT 4009 0))], [(1002, (bU 4 x0 24)), (4009, (bU 4 x1 24))]⟩
theorem g21R10 (x0 x1 : List Nat) : g21D A n (pth 319) K ⟨[(4, (pT 1002 0)), (8, (pT 4009 0))], [(1002, (bU 4 x0 24)), (4009, (bU 4 x1 24))]⟩ = match (generalizing := false) g22ok A x1 with
    | true => K .normal (g21R10s0 A x0 x1)
    | false => none := by kernel_rfl
def g21R11s0 (A : Ar) (x0 x1 : List Nat) : St := ⟨[(53, (aN .u64 4 (g18r0 A x1))), (52, (aN .u64 4 x1)), (4, (pT 1002 0)), (8, (pT 4009 0))], [(1002, (bU 4 x0 24)), (4009, (bU 4 (g18r0 A x1) 24))]⟩
theorem g21R11 (x0 x1 : List Nat) : g21D A n (pth 703) K ⟨[(4, (pT 1002 0)), (8, (pT 4009 0))], [(1002, (bU 4 x0 24)), (4009, (bU 4 x1 24))]⟩ = match (generalizing := false) g18ok A x1 with
    | true => K .normal (g21R11s0 A x0 x1)
    | false => none := by kernel_rfl
def g21R12s0 (A : Ar) (x0 x1 : List Nat) : St := ⟨[(5, (bO true)), (54, (aN .u64 4 x1)), (4, (pT 1002 0)), (8, (pT 4009 0))], [(1002, (bU 4 x1 24)), (4009, (bU 4 x1 24))]⟩
theorem g21R12 (x0 x1 : List Nat) : g21D A n (pth 383) K ⟨[(4, (pT 1002 0)), (8, (pT 4009 0))], [(1002, (bU 4 x0 24)), (4009, (bU 4 x1 24))]⟩ = K .normal (g21R12s0 A x0 x1) := by kernel_rfl
def g21R0s0 (A : Ar) (x0 x1 : List Nat) : St := ⟨[(5, (bO false)), (4, (pT 1002 0)), (3, (pT 1001 0)), (2, (pT 1000 0)), (0, (aN .u64 4 x0)), (1, (aN .u64 4 x1))], [(1002, (bU 4 [0, 0, 0, 0] 24)), (1001, (bU 4 x1 24)), (1000, (bU 4 x0 24))]⟩
theorem g21R0 (x0 x1 : List Nat) : g21D A n (pth 2) K ⟨[(0, (aN .u64 4 x0)), (1, (aN .u64 4 x1))], []⟩ = K .normal (g21R0s0 A x0 x1) := by kernel_rfl
def g21R1s0 (A : Ar) (x0 x1 x2 : List Nat) : St := ⟨[(6, (pT 2005 0)), (14, (aN .u64 4 (g16r0 A x1 (g16r0 A x1 x1)))), (13, (aN .u64 4 (g16r0 A x1 x1))), (12, (aN .u64 4 x1)), (11, (aN .u64 4 x1)), (10, (aN .u64 4 x1)), (2, (pT 1000 0)), (3, (pT 1001 0)), (4, (pT 1002 0))], [(2005, (bU 4 (g16r0 A x1 (g16r0 A x1 x1)) 24)), (1000, (bU 4 x0 24)), (1001, (bU 4 x1 24)), (1002, (bU 4 x2 24))]⟩
theorem g21R1 (x0 x1 x2 : List Nat) : g21D A n (pth 5) K ⟨[(2, (pT 1000 0)), (3, (pT 1001 0)), (4, (pT 1002 0))], [(1000, (bU 4 x0 24)), (1001, (bU 4 x1 24)), (1002, (bU 4 x2 24))]⟩ = match (generalizing := false) g16ok A x1 x1 with
    | true => match (generalizing := false) g16ok A x1 (g16r0 A x1 x1) with
      | true => K .normal (g21R1s0 A x0 x1 x2)
      | false => none
    | false => none := by kernel_rfl
def g21R2s0 (A : Ar) (x0 x1 : List Nat) (x2 x3 : List Nat) : St := ⟨[(7, (pT 3005 0)), (19, (aN .u64 4 (g16r0 A x1 (g16r0 A x3 x3)))), (18, (aN .u64 4 (g16r0 A x3 x3))), (17, (aN .u64 4 x3)), (16, (aN .u64 4 x3)), (15, (aN .u64 4 x1)), (2, (pT 1000 0)), (3, (pT 1001 0)), (4, (pT 1002 0)), (6, (pT 2005 0))], [(3005, (bU 4 (g16r0 A x1 (g16r0 A x3 x3)) 24)), (1000, (bU 4 x0 24)), (1001, (bU 4 x1 24)), (1002, (bU 4 x2 24)), (2005, (bU 4 x3 24))]⟩
theorem g21R2 (x0 x1 : List Nat) (x2 x3 : List Nat) : g21D A n (pth 11) K ⟨[(2, (pT 1000 0)), (3, (pT 1001 0)), (4, (pT 1002 0)), (6, (pT 2005 0))], [(1000, (bU 4 x0 24)), (1001, (bU 4 x1 24)), (1002, (bU 4 x2 24)), (2005, (bU 4 x3 24))]⟩ = match (generalizing := false) g16ok A x3 x3 with
    | true => match (generalizing := false) g16ok A x1 (g16r0 A x3 x3) with
      | true => K .normal (g21R2s0 A x0 x1 x2 x3)
      | false => none
    | false => none := by kernel_rfl
def g21R3s0 (A : Ar) (x0 x1 : List Nat) (x2 x3 x4 : List Nat) : St := ⟨[(8, (pT 4009 0)), (28, (aN .u64 4 (g16r0 A (g16r0 A x0 x3) (g24r0 A (g16r0 A x0 x4) (((([0, 0, 0, 0].set 0 18446744073709551613).set 1 18446744073709551615).set 2 18446744073709551615).set 3 1152921504606846975))))), (27, (aN .u64 4 (g24r0 A (g16r0 A x0 x4) (((([0, 0, 0, 0].set 0 18446744073709551613).set 1 18446744073709551615).set 2 18446744073709551615).set 3 1152921504606846975)))), (26, (aN .u64 4 (((([0, 0, 0, 0].set 0 18446744073709551613).set 1 18446744073709551615).set 2 18446744073709551615).set 3 1152921504606846975))), (25, (aN .u64 4 (g16r0 A x0 x4))), (24, (aN .u64 4 x4)), (23, (aN .u64 4 x0)), (22, (aN .u64 4 (g16r0 A x0 x3))), (21, (aN .u64 4 x3)), (20, (aN .u64 4 x0)), (2, (pT 1000 0)), (3, (pT 1001 0)), (4, (pT 1002 0)), (6, (pT 2005 0)), (7, (pT 3005 0))], [(4009, (bU 4 (g16r0 A (g16r0 A x0 x3) (g24r0 A (g16r0 A x0 x4) (((([0, 0, 0, 0].set 0 18446744073709551613).set 1 18446744073709551615).set 2 18446744073709551615).set 3 1152921504606846975))) 24)), (1000, (bU 4 x0 24)), (1001, (bU 4 x1 24)), (1002, (bU 4 x2 24)), (2005, (bU 4 x3 24)), (3005, (bU 4 x4 24))]⟩
theorem g21R3 (x0 x1 : List Nat) (x2 x3 x4 : List Nat) : g21D A n (pth 23) K ⟨[(2, (pT 1000 0)), (3, (pT 1001 0)), (4, (pT 1002 0)), (6, (pT 2005 0)), (7, (pT 3005 0))], [(1000, (bU 4 x0 24)), (1001, (bU 4 x1 24)), (1002, (bU 4 x2 24)), (2005, (bU 4 x3 24)), (3005, (bU 4 x4 24))]⟩ = match (generalizing := false) g16ok A x0 x3 with
    | true => match (generalizing := false) g16ok A x0 x4 with
      | true => match (generalizing := false) g24ok A (g16r0 A x0 x4) (((([0, 0, 0, 0].set 0 18446744073709551613).set 1 18446744073709551615).set 2 18446744073709551615).set 3 1152921504606846975) with
        | true => match (generalizing := false) g16ok A (g16r0 A x0 x3) (g24r0 A (g16r0 A x0 x4) (((([0, 0, 0, 0].set 0 18446744073709551613).set 1 18446744073709551615).set 2 18446744073709551615).set 3 1152921504606846975)) with
          | true => K .normal (g21R3s0 A x0 x1 x2 x3 x4)
          | false => none
        | false => none
      | false => none
    | false => none := by kernel_rfl
def g21R4s0 (A : Ar) (x0 x1 : List Nat) (x2 x3 : List Nat) : St := ⟨[(9, (pT 5003 0)), (31, (aN .u64 4 (g38r0 A (g37r0 A x0)))), (30, (aN .u64 5 (g37r0 A x0))), (29, (aN .u64 4 x0)), (2, (pT 1000 0)), (3, (pT 1001 0)), (4, (pT 1002 0)), (8, (pT 4009 0))], [(5003, (bU 4 (g38r0 A (g37r0 A x0)) 24)), (1000, (bU 4 x0 24)), (1001, (bU 4 x1 24)), (1002, (bU 4 x2 24)), (4009, (bU 4 x3 24))]⟩
theorem g21R4 (x0 x1 : List Nat) (x2 x3 : List Nat) : g21D A n (pth 47) K ⟨[(2, (pT 1000 0)), (3, (pT 1001 0)), (4, (pT 1002 0)), (8, (pT 4009 0))], [(1000, (bU 4 x0 24)), (1001, (bU 4 x1 24)), (1002, (bU 4 x2 24)), (4009, (bU 4 x3 24))]⟩ = match (generalizing := false) g37ok A x0 with
    | true => match (generalizing := false) g38ok A (g37r0 A x0) with
      | true => K .normal (g21R4s0 A x0 x1 x2 x3)
      | false => none
    | false => none := by kernel_rfl
def g21R5s0 (A : Ar) (x0 x1 : List Nat) (x2 x3 : List Nat) : St := ⟨[(36, (aN .u64 4 (g16r0 A x0 (g16r0 A x2 x2)))), (35, (aN .u64 4 (g16r0 A x2 x2))), (34, (aN .u64 4 x2)), (33, (aN .u64 4 x2)), (32, (aN .u64 4 x0)), (3, (pT 1001 0)), (4, (pT 1002 0)), (8, (pT 4009 0)), (9, (pT 5003 0))], [(1001, (bU 4 x0 24)), (1002, (bU 4 x1 24)), (4009, (bU 4 x2 24)), (5003, (bU 4 x3 24))]⟩
theorem g21R5 (x0 x1 : List Nat) (x2 x3 : List Nat) : g21D A n (pth 159) K ⟨[(3, (pT 1001 0)), (4, (pT 1002 0)), (8, (pT 4009 0)), (9, (pT 5003 0))], [(1001, (bU 4 x0 24)), (1002, (bU 4 x1 24)), (4009, (bU 4 x2 24)), (5003, (bU 4 x3 24))]⟩ = match (generalizing := false) g16ok A x2 x2 with
    | true => match (generalizing := false) g16ok A x0 (g16r0 A x2 x2) with
      | true => K .normal (g21R5s0 A x0 x1 x2 x3)
      | false => none
    | false => none := by kernel_rfl
def g21R7s0 (A : Ar) (x0 x1 : List Nat) (x2 x3 : List Nat) : St := ⟨[(38, (bO ((A.lq x0 x3) && true))), (40, (bO ((A.lq x0 x3) && true))), (39, (aN .u64 4 x3)), (4, (pT 1002 0)), (8, (pT 4009 0)), (9, (pT 5003 0)), (36, (aN .u64 4 x0))], [(1002, (bU 4 x1 24)), (4009, (bU 4 x2 24)), (5003, (bU 4 x3 24))]⟩
theorem g21R7 (x0 x1 : List Nat) (x2 x3 : List Nat) : g21D A n (pth 607) K ⟨[(4, (pT 1002 0)), (8, (pT 4009 0)), (9, (pT 5003 0)), (36, (aN .u64 4 x0))], [(1002, (bU 4 x1 24)), (4009, (bU 4 x2 24)), (5003, (bU 4 x3 24))]⟩ = K .normal (g21R7s0 A x0 x1 x2 x3) := by kernel_rfl
def g21R8s0 (A : Ar) (x0 x1 : List Nat) (x2 x3 : List Nat) : St := ⟨[(41, (bO ((A.lq x0 (g18r0 A x3)) && true))), (44, (bO ((A.lq x0 (g18r0 A x3)) && true))), (43, (aN .u64 4 (g18r0 A x3))), (42, (aN .u64 4 x3)), (4, (pT 1002 0)), (8, (pT 4009 0)), (9, (pT 5003 0)), (36, (aN .u64 4 x0))], [(1002, (bU 4 x1 24)), (4009, (bU 4 x2 24)), (5003, (bU 4 x3 24))]⟩
theorem g21R8 (x0 x1 : List Nat) (x2 x3 : List Nat) : g21D A n (pth 2911) K ⟨[(4, (pT 1002 0)), (8, (pT 4009 0)), (9, (pT 5003 0)), (36, (aN .u64 4 x0))], [(1002, (bU 4 x1 24)), (4009, (bU 4 x2 24)), (5003, (bU 4 x3 24))]⟩ = match (generalizing := false) g18ok A x3 with
    | true => K .normal (g21R8s0 A x0 x1 x2 x3)
    | false => none := by kernel_rfl
def g21R9s0 (A : Ar) (x0 x1 : List Nat) : St := ⟨[(49, (aN .u64 4 (g16r0 A x1 (g24r0 A (g23r0 A 2) (((([0, 0, 0, 0].set 0 18446744073709551611).set 1 18446744073709551615).set 2 18446744073709551615).set 3 2305843009213693951))))), (48, (aN .u64 4 (g24r0 A (g23r0 A 2) (((([0, 0, 0, 0].set 0 18446744073709551611).set 1 18446744073709551615).set 2 18446744073709551615).set 3 2305843009213693951)))), (47, (aN .u64 4 (((([0, 0, 0, 0].set 0 18446744073709551611).set 1 18446744073709551615).set 2 18446744073709551615).set 3 2305843009213693951))), (46, (aN .u64 4 (g23r0 A 2))), (45, (aN .u64 4 x1)), (4, (pT 1002 0)), (8, (pT 4009 0))], [(1002, (bU 4 x0 24)), (4009, (bU 4 (g16r0 A x1 (g24r0 A (g23r0 A 2) (((([0, 0, 0, 0].set 0 18446744073709551611).set 1 18446744073709551615).set 2 18446744073709551615).set 3 2305843009213693951))) 24))]⟩
theorem g21R9 (x0 x1 : List Nat) : g21D A n (pth 5983) K ⟨[(4, (pT 1002 0)), (8, (pT 4009 0))], [(1002, (bU 4 x0 24)), (4009, (bU 4 x1 24))]⟩ = match (generalizing := false) g23ok A 2 with
    | true => match (generalizing := false) g24ok A (g23r0 A 2) (((([0, 0, 0, 0].set 0 18446744073709551611).set 1 18446744073709551615).set 2 18446744073709551615).set 3 2305843009213693951) with
      | true => match (generalizing := false) g16ok A x1 (g24r0 A (g23r0 A 2) (((([0, 0, 0, 0].set 0 18446744073709551611).set 1 18446744073709551615).set 2 18446744073709551615).set 3 2305843009213693951)) with
        | true => K .normal (g21R9s0 A x0 x1)
        | false => none
      | false => none
    | false => none := by kernel_rfl
def g21R6s0 (A : Ar) (x0 : List Nat) : St := ⟨[(5, (bO false)), (37, (aN .u64 4 [0, 0, 0, 0])), (4, (pT 1002 0))], [(1002, (bU 4 [0, 0, 0, 0] 24))]⟩
theorem g21R6 (x0 : List Nat) : g21D A n (pth 12127) K ⟨[(4, (pT 1002 0))], [(1002, (bU 4 x0 24))]⟩ = K .normal (g21R6s0 A x0) := by kernel_rfl
end
def g21J10 {R : Type} (A : Ar) (n : Nat) (kk : AV → Heap → Option R)  (x0 x1 : List Nat) : Option R :=
  match (generalizing := false) g22ok A x1 with
  | true => match (generalizing := false) g22r0 A x1 with
    | true => match (generalizing := false) g18ok A x1 with
      | true => kk (.tup [(.agg [.nums .u64 4 (g18r0 A x1)]), (.cell (.bool true))]) [(1002, (bU 4 (g18r0 A x1) 24)), (4009, (bU 4 (g18r0 A x1) 24))]
      | false => none
    | false => kk (.tup [(.agg [.nums .u64 4 x1]), (.cell (.bool true))]) [(1002, (bU 4 x1 24)), (4009, (bU 4 x1 24))]
  | false => none
set_option maxRecDepth 100000 in
theorem g21J10_eq {R : Type} (A : Ar) (n : Nat) (kk : AV → Heap → Option R)    (s : St) (x0 x1 : List Nat) (h : keep g21an 10 s = ⟨[(4, (pT 1002 0)), (8, (pT 4009 0))], [(1002, (bU 4 x0 24)), (4009, (bU 4 x1 24))]⟩) :
    g21D A n (pth 127) (g21T kk) s = g21J10 A n kk  x0 x1 := by
  have h1 : (g21T kk) .ret (g21R12s0 A x0 (g18r0 A x1)) = kk (.tup [(.agg [.nums .u64 4 (g18r0 A x1)]), (.cell (.bool true))]) [(1002, (bU 4 (g18r0 A x1) 24)), (4009, (bU 4 (g18r0 A x1) 24))] := by kernel_rfl
  have h2 := (g21p511 A n _ _).trans h1
  have h3 := (g21Qn A n _ _ _).trans h2
  have h4 := (g21F A n _ 12 _ (g21R11s0 A x0 x1) _ (by kernel_rfl) (by kernel_rfl)).trans (g21R12 A n (g21Q A n (pth 511) (g21T kk)) x0 (g18r0 A x1))
  rw [h3] at h4
  have h5 := (g21p255 A n _ _).trans h4
  have h6 := (g21Qn A n _ _ _).trans h5
  have h7 := (g21F A n _ 11 _ (g21R10s0 A x0 x1) _ (by kernel_rfl) (by kernel_rfl)).trans (g21R11 A n (g21Q A n (pth 255) (g21T kk)) x0 x1)
  rw [h6] at h7
  have h8 : (g21T kk) .ret (g21R12s0 A x0 x1) = kk (.tup [(.agg [.nums .u64 4 x1]), (.cell (.bool true))]) [(1002, (bU 4 x1 24)), (4009, (bU 4 x1 24))] := by kernel_rfl
  have h9 := (g21p511 A n _ _).trans h8
  have h10 := (g21Qn A n _ _ _).trans h9
  have h11 := (g21F A n _ 12 _ (g21R10s0 A x0 x1) _ (by kernel_rfl) (by kernel_rfl)).trans (g21R12 A n (g21Q A n (pth 511) (g21T kk)) x0 x1)
  rw [h10] at h11
  have h12 := (g21p255 A n _ _).trans h11
  have h13 := (g21Qn A n _ _ _).trans h12
  have h14 := (g21p959 A n _ _).trans h13
  have h15 := g21p447 A n (g21Q A n (pth 255) (g21T kk)) (g21R10s0 A x0 x1) (g22r0 A x1) (by kernel_rfl)
  rw [h7, h14] at h15
  have h16 := (g21Qn A n _ _ _).trans h15
  have h17 := (g21F A n _ 10 _ ⟨[(4, (pT 1002 0)), (8, (pT 4009 0))], [(1002, (bU 4 x0 24)), (4009, (bU 4 x1 24))]⟩ _ (by kernel_rfl) (by kernel_rfl)).trans (g21R10 A n (g21Q A n (pth 447) (g21Q A n (pth 255) (g21T kk))) x0 x1)
  rw [h16] at h17
  have h18 := (g21p191 A n _ _).trans h17
  have h19 := (g21p127 A n _ _).trans h18
  exact (g21F A n _ 10 _ _ ⟨[(4, (pT 1002 0)), (8, (pT 4009 0))], [(1002, (bU 4 x0 24)), (4009, (bU 4 x1 24))]⟩ (by kernel_rfl) (h.trans (by kernel_rfl))).trans (h19.trans (by kernel_rfl))
def g21 {R : Type} (A : Ar) (n : Nat) (kk : AV → Heap → Option R) (a b : List Nat) : Option R :=
  match (generalizing := false) g16ok A b b with
  | true => match (generalizing := false) g16ok A b (g16r0 A b b) with
    | true => match (generalizing := false) g16ok A (g16r0 A b (g16r0 A b b)) (g16r0 A b (g16r0 A b b)) with
      | true => match (generalizing := false) g16ok A b (g16r0 A (g16r0 A b (g16r0 A b b)) (g16r0 A b (g16r0 A b b))) with
        | true => match (generalizing := false) g16ok A a (g16r0 A b (g16r0 A b b)) with
          | true => match (generalizing := false) g16ok A a (g16r0 A b (g16r0 A (g16r0 A b (g16r0 A b b)) (g16r0 A b (g16r0 A b b)))) with
            | true => match (generalizing := false) g24ok A (g16r0 A a (g16r0 A b (g16r0 A (g16r0 A b (g16r0 A b b)) (g16r0 A b (g16r0 A b b))))) (((([0, 0, 0, 0].set 0 18446744073709551613).set 1 18446744073709551615).set 2 18446744073709551615).set 3 1152921504606846975) with
              | true => match (generalizing := false) g16ok A (g16r0 A a (g16r0 A b (g16r0 A b b))) (g24r0 A (g16r0 A a (g16r0 A b (g16r0 A (g16r0 A b (g16r0 A b b)) (g16r0 A b (g16r0 A b b))))) (((([0, 0, 0, 0].set 0 18446744073709551613).set 1 18446744073709551615).set 2 18446744073709551615).set 3 1152921504606846975)) with
                | true => match (generalizing := false) g37ok A a with
                  | true => match (generalizing := false) g38ok A (g37r0 A a) with
                    | true => match (generalizing := false) g16ok A (g16r0 A (g16r0 A a (g16r0 A b (g16r0 A b b))) (g24r0 A (g16r0 A a (g16r0 A b (g16r0 A (g16r0 A b (g16r0 A b b)) (g16r0 A b (g16r0 A b b))))) (((([0, 0, 0, 0].set 0 18446744073709551613).set 1 18446744073709551615).set 2 18446744073709551615).set 3 1152921504606846975))) (g16r0 A (g16r0 A a (g16r0 A b (g16r0 A b b))) (g24r0 A (g16r0 A a (g16r0 A b (g16r0 A (g16r0 A b (g16r0 A b b)) (g16r0 A b (g16r0 A b b))))) (((([0, 0, 0, 0].set 0 18446744073709551613).set 1 18446744073709551615).set 2 18446744073709551615).set 3 1152921504606846975))) with
                      | true => match (generalizing := false) g16ok A b (g16r0 A (g16r0 A (g16r0 A a (g16r0 A b (g16r0 A b b))) (g24r0 A (g16r0 A a (g16r0 A b (g16r0 A (g16r0 A b (g16r0 A b b)) (g16r0 A b (g16r0 A b b))))) (((([0, 0, 0, 0].set 0 18446744073709551613).set 1 18446744073709551615).set 2 18446744073709551615).set 3 1152921504606846975))) (g16r0 A (g16r0 A a (g16r0 A b (g16r0 A b b))) (g24r0 A (g16r0 A a (g16r0 A b (g16r0 A (g16r0 A b (g16r0 A b b)) (g16r0 A b (g16r0 A b b))))) (((([0, 0, 0, 0].set 0 18446744073709551613).set 1 18446744073709551615).set 2 18446744073709551615).set 3 1152921504606846975)))) with
                        | true => match (generalizing := false) (A.lq (g16r0 A b (g16r0 A (g16r0 A (g16r0 A a (g16r0 A b (g16r0 A b b))) (g24r0 A (g16r0 A a (g16r0 A b (g16r0 A (g16r0 A b (g16r0 A b b)) (g16r0 A b (g16r0 A b b))))) (((([0, 0, 0, 0].set 0 18446744073709551613).set 1 18446744073709551615).set 2 18446744073709551615).set 3 1152921504606846975))) (g16r0 A (g16r0 A a (g16r0 A b (g16r0 A b b))) (g24r0 A (g16r0 A a (g16r0 A b (g16r0 A (g16r0 A b (g16r0 A b b)) (g16r0 A b (g16r0 A b b))))) (((([0, 0, 0, 0].set 0 18446744073709551613).set 1 18446744073709551615).set 2 18446744073709551615).set 3 1152921504606846975))))) (g38r0 A (g37r0 A a))) && true with
                          | true => g21J10 A n kk  [0, 0, 0, 0] (g16r0 A (g16r0 A a (g16r0 A b (g16r0 A b b))) (g24r0 A (g16r0 A a (g16r0 A b (g16r0 A (g16r0 A b (g16r0 A b b)) (g16r0 A b (g16r0 A b b))))) (((([0, 0, 0, 0].set 0 18446744073709551613).set 1 18446744073709551615).set 2 18446744073709551615).set 3 1152921504606846975)))
                          | false => match (generalizing := false) g18ok A (g38r0 A (g37r0 A a)) with
                            | true => match (generalizing := false) (A.lq (g16r0 A b (g16r0 A (g16r0 A (g16r0 A a (g16r0 A b (g16r0 A b b))) (g24r0 A (g16r0 A a (g16r0 A b (g16r0 A (g16r0 A b (g16r0 A b b)) (g16r0 A b (g16r0 A b b))))) (((([0, 0, 0, 0].set 0 18446744073709551613).set 1 18446744073709551615).set 2 18446744073709551615).set 3 1152921504606846975))) (g16r0 A (g16r0 A a (g16r0 A b (g16r0 A b b))) (g24r0 A (g16r0 A a (g16r0 A b (g16r0 A (g16r0 A b (g16r0 A b b)) (g16r0 A b (g16r0 A b b))))) (((([0, 0, 0, 0].set 0 18446744073709551613).set 1 18446744073709551615).set 2 18446744073709551615).set 3 1152921504606846975))))) (g18r0 A (g38r0 A (g37r0 A a)))) && true with
                              | true => match (generalizing := false) g23ok A 2 with
                                | true => match (generalizing := false) g24ok A (g23r0 A 2) (((([0, 0, 0, 0].set 0 18446744073709551611).set 1 18446744073709551615).set 2 18446744073709551615).set 3 2305843009213693951) with
                                  | true => match (generalizing := false) g16ok A (g16r0 A (g16r0 A a (g16r0 A b (g16r0 A b b))) (g24r0 A (g16r0 A a (g16r0 A b (g16r0 A (g16r0 A b (g16r0 A b b)) (g16r0 A b (g16r0 A b b))))) (((([0, 0, 0, 0].set 0 18446744073709551613).set 1 18446744073709551615).set 2 18446744073709551615).set 3 1152921504606846975))) (g24r0 A (g23r0 A 2) (((([0, 0, 0, 0].set 0 18446744073709551611).set 1 18446744073709551615).set 2 18446744073709551615).set 3 2305843009213693951)) with
                                    | true => g21J10 A n kk  [0, 0, 0, 0] (g16r0 A (g16r0 A (g16r0 A a (g16r0 A b (g16r0 A b b))) (g24r0 A (g16r0 A a (g16r0 A b (g16r0 A (g16r0 A b (g16r0 A b b)) (g16r0 A b (g16r0 A b b))))) (((([0, 0, 0, 0].set 0 18446744073709551613).set 1 18446744073709551615).set 2 18446744073709551615).set 3 1152921504606846975))) (g24r0 A (g23r0 A 2) (((([0, 0, 0, 0].set 0 18446744073709551611).set 1 18446744073709551615).set 2 18446744073709551615).set 3 2305843009213693951)))
                                    | false => none
                                  | false => none
                                | false => none
                              | false => kk (.tup [(.agg [.nums .u64 4 [0, 0, 0, 0]]), (.cell (.bool false))]) [(1002, (bU 4 [0, 0, 0, 0] 24))]
                            | false => none
                        | false => none
                      | false => none
                    | false => none
                  | false => none
                | false => none
              | false => none
            | false => none
          | false => none
        | false => none
      | false => none
    | false => none
  | false => none
set_option maxRecDepth 100000 in
theorem g21_eq {R : Type} (A : Ar) (n : Nat) (kk : AV → Heap → Option R) (a b : List Nat) :
    funD A gtys (g21O A) g21an n (bodyOf Try.f21) g21res [(aN .u64 4 a), (aN .u64 4 b)] [] kk = g21 A n kk a b := by
  have h1 := (g21Qn A n _ _ _).trans (g21J10_eq A n kk     (g21R7s0 A (g16r0 A b (g16r0 A (g16r0 A (g16r0 A a (g16r0 A b (g16r0 A b b))) (g24r0 A (g16r0 A a (g16r0 A b (g16r0 A (g16r0 A b (g16r0 A b b)) (g16r0 A b (g16r0 A b b))))) (((([0, 0, 0, 0].set 0 18446744073709551613).set 1 18446744073709551615).set 2 18446744073709551615).set 3 1152921504606846975))) (g16r0 A (g16r0 A a (g16r0 A b (g16r0 A b b))) (g24r0 A (g16r0 A a (g16r0 A b (g16r0 A (g16r0 A b (g16r0 A b b)) (g16r0 A b (g16r0 A b b))))) (((([0, 0, 0, 0].set 0 18446744073709551613).set 1 18446744073709551615).set 2 18446744073709551615).set 3 1152921504606846975))))) [0, 0, 0, 0] (g16r0 A (g16r0 A a (g16r0 A b (g16r0 A b b))) (g24r0 A (g16r0 A a (g16r0 A b (g16r0 A (g16r0 A b (g16r0 A b b)) (g16r0 A b (g16r0 A b b))))) (((([0, 0, 0, 0].set 0 18446744073709551613).set 1 18446744073709551615).set 2 18446744073709551615).set 3 1152921504606846975))) (g38r0 A (g37r0 A a))) [0, 0, 0, 0] (g16r0 A (g16r0 A a (g16r0 A b (g16r0 A b b))) (g24r0 A (g16r0 A a (g16r0 A b (g16r0 A (g16r0 A b (g16r0 A b b)) (g16r0 A b (g16r0 A b b))))) (((([0, 0, 0, 0].set 0 18446744073709551613).set 1 18446744073709551615).set 2 18446744073709551615).set 3 1152921504606846975))) (by kernel_rfl))
  have h2 := (blockK_n 0 _ _).trans h1
  have h3 := (g21p1375 A n _ _).trans h2
  have h4 := (g21Qn A n _ _ _).trans (g21J10_eq A n kk     (g21R9s0 A [0, 0, 0, 0] (g16r0 A (g16r0 A a (g16r0 A b (g16r0 A b b))) (g24r0 A (g16r0 A a (g16r0 A b (g16r0 A (g16r0 A b (g16r0 A b b)) (g16r0 A b (g16r0 A b b))))) (((([0, 0, 0, 0].set 0 18446744073709551613).set 1 18446744073709551615).set 2 18446744073709551615).set 3 1152921504606846975)))) [0, 0, 0, 0] (g16r0 A (g16r0 A (g16r0 A a (g16r0 A b (g16r0 A b b))) (g24r0 A (g16r0 A a (g16r0 A b (g16r0 A (g16r0 A b (g16r0 A b b)) (g16r0 A b (g16r0 A b b))))) (((([0, 0, 0, 0].set 0 18446744073709551613).set 1 18446744073709551615).set 2 18446744073709551615).set 3 1152921504606846975))) (g24r0 A (g23r0 A 2) (((([0, 0, 0, 0].set 0 18446744073709551611).set 1 18446744073709551615).set 2 18446744073709551615).set 3 2305843009213693951))) (by kernel_rfl))
  have h5 := (blockK_n 0 _ _).trans h4
  have h6 := (g21F A n _ 9 _ (g21R8s0 A (g16r0 A b (g16r0 A (g16r0 A (g16r0 A a (g16r0 A b (g16r0 A b b))) (g24r0 A (g16r0 A a (g16r0 A b (g16r0 A (g16r0 A b (g16r0 A b b)) (g16r0 A b (g16r0 A b b))))) (((([0, 0, 0, 0].set 0 18446744073709551613).set 1 18446744073709551615).set 2 18446744073709551615).set 3 1152921504606846975))) (g16r0 A (g16r0 A a (g16r0 A b (g16r0 A b b))) (g24r0 A (g16r0 A a (g16r0 A b (g16r0 A (g16r0 A b (g16r0 A b b)) (g16r0 A b (g16r0 A b b))))) (((([0, 0, 0, 0].set 0 18446744073709551613).set 1 18446744073709551615).set 2 18446744073709551615).set 3 1152921504606846975))))) [0, 0, 0, 0] (g16r0 A (g16r0 A a (g16r0 A b (g16r0 A b b))) (g24r0 A (g16r0 A a (g16r0 A b (g16r0 A (g16r0 A b (g16r0 A b b)) (g16r0 A b (g16r0 A b b))))) (((([0, 0, 0, 0].set 0 18446744073709551613).set 1 18446744073709551615).set 2 18446744073709551615).set 3 1152921504606846975))) (g38r0 A (g37r0 A a))) _ (by kernel_rfl) (by kernel_rfl)).trans (g21R9 A n (blockK 0 (g21Q A n (pth 127) (g21T kk))) [0, 0, 0, 0] (g16r0 A (g16r0 A a (g16r0 A b (g16r0 A b b))) (g24r0 A (g16r0 A a (g16r0 A b (g16r0 A (g16r0 A b (g16r0 A b b)) (g16r0 A b (g16r0 A b b))))) (((([0, 0, 0, 0].set 0 18446744073709551613).set 1 18446744073709551615).set 2 18446744073709551615).set 3 1152921504606846975))))
  rw [h5] at h6
  have h7 : (g21T kk) .ret (g21R6s0 A [0, 0, 0, 0]) = kk (.tup [(.agg [.nums .u64 4 [0, 0, 0, 0]]), (.cell (.bool false))]) [(1002, (bU 4 [0, 0, 0, 0] 24))] := by kernel_rfl
  have h8 := (g21Qr A n (pth 127) _ _).trans h7
  have h9 := (blockK_r 0 _ _).trans h8
  have h10 := (g21p16223 A n _ _).trans h9
  have h11 := (g21Qn A n _ _ _).trans h10
  have h12 := (g21F A n _ 6 _ (g21R8s0 A (g16r0 A b (g16r0 A (g16r0 A (g16r0 A a (g16r0 A b (g16r0 A b b))) (g24r0 A (g16r0 A a (g16r0 A b (g16r0 A (g16r0 A b (g16r0 A b b)) (g16r0 A b (g16r0 A b b))))) (((([0, 0, 0, 0].set 0 18446744073709551613).set 1 18446744073709551615).set 2 18446744073709551615).set 3 1152921504606846975))) (g16r0 A (g16r0 A a (g16r0 A b (g16r0 A b b))) (g24r0 A (g16r0 A a (g16r0 A b (g16r0 A (g16r0 A b (g16r0 A b b)) (g16r0 A b (g16r0 A b b))))) (((([0, 0, 0, 0].set 0 18446744073709551613).set 1 18446744073709551615).set 2 18446744073709551615).set 3 1152921504606846975))))) [0, 0, 0, 0] (g16r0 A (g16r0 A a (g16r0 A b (g16r0 A b b))) (g24r0 A (g16r0 A a (g16r0 A b (g16r0 A (g16r0 A b (g16r0 A b b)) (g16r0 A b (g16r0 A b b))))) (((([0, 0, 0, 0].set 0 18446744073709551613).set 1 18446744073709551615).set 2 18446744073709551615).set 3 1152921504606846975))) (g38r0 A (g37r0 A a))) _ (by kernel_rfl) (by kernel_rfl)).trans (g21R6 A n (g21Q A n (pth 16223) (blockK 0 (g21Q A n (pth 127) (g21T kk)))) [0, 0, 0, 0])
  rw [h11] at h12
  have h13 := (g21p8031 A n _ _).trans h12
  have h14 := g21p3935 A n (blockK 0 (g21Q A n (pth 127) (g21T kk))) (g21R8s0 A (g16r0 A b (g16r0 A (g16r0 A (g16r0 A a (g16r0 A b (g16r0 A b b))) (g24r0 A (g16r0 A a (g16r0 A b (g16r0 A (g16r0 A b (g16r0 A b b)) (g16r0 A b (g16r0 A b b))))) (((([0, 0, 0, 0].set 0 18446744073709551613).set 1 18446744073709551615).set 2 18446744073709551615).set 3 1152921504606846975))) (g16r0 A (g16r0 A a (g16r0 A b (g16r0 A b b))) (g24r0 A (g16r0 A a (g16r0 A b (g16r0 A (g16r0 A b (g16r0 A b b)) (g16r0 A b (g16r0 A b b))))) (((([0, 0, 0, 0].set 0 18446744073709551613).set 1 18446744073709551615).set 2 18446744073709551615).set 3 1152921504606846975))))) [0, 0, 0, 0] (g16r0 A (g16r0 A a (g16r0 A b (g16r0 A b b))) (g24r0 A (g16r0 A a (g16r0 A b (g16r0 A (g16r0 A b (g16r0 A b b)) (g16r0 A b (g16r0 A b b))))) (((([0, 0, 0, 0].set 0 18446744073709551613).set 1 18446744073709551615).set 2 18446744073709551615).set 3 1152921504606846975))) (g38r0 A (g37r0 A a))) ((A.lq (g16r0 A b (g16r0 A (g16r0 A (g16r0 A a (g16r0 A b (g16r0 A b b))) (g24r0 A (g16r0 A a (g16r0 A b (g16r0 A (g16r0 A b (g16r0 A b b)) (g16r0 A b (g16r0 A b b))))) (((([0, 0, 0, 0].set 0 18446744073709551613).set 1 18446744073709551615).set 2 18446744073709551615).set 3 1152921504606846975))) (g16r0 A (g16r0 A a (g16r0 A b (g16r0 A b b))) (g24r0 A (g16r0 A a (g16r0 A b (g16r0 A (g16r0 A b (g16r0 A b b)) (g16r0 A b (g16r0 A b b))))) (((([0, 0, 0, 0].set 0 18446744073709551613).set 1 18446744073709551615).set 2 18446744073709551615).set 3 1152921504606846975))))) (g18r0 A (g38r0 A (g37r0 A a)))) && true) (by kernel_rfl)
  rw [h6, h13] at h14
  have h15 := (g21Qn A n _ _ _).trans h14
  have h16 := (g21F A n _ 8 _ (g21R7s0 A (g16r0 A b (g16r0 A (g16r0 A (g16r0 A a (g16r0 A b (g16r0 A b b))) (g24r0 A (g16r0 A a (g16r0 A b (g16r0 A (g16r0 A b (g16r0 A b b)) (g16r0 A b (g16r0 A b b))))) (((([0, 0, 0, 0].set 0 18446744073709551613).set 1 18446744073709551615).set 2 18446744073709551615).set 3 1152921504606846975))) (g16r0 A (g16r0 A a (g16r0 A b (g16r0 A b b))) (g24r0 A (g16r0 A a (g16r0 A b (g16r0 A (g16r0 A b (g16r0 A b b)) (g16r0 A b (g16r0 A b b))))) (((([0, 0, 0, 0].set 0 18446744073709551613).set 1 18446744073709551615).set 2 18446744073709551615).set 3 1152921504606846975))))) [0, 0, 0, 0] (g16r0 A (g16r0 A a (g16r0 A b (g16r0 A b b))) (g24r0 A (g16r0 A a (g16r0 A b (g16r0 A (g16r0 A b (g16r0 A b b)) (g16r0 A b (g16r0 A b b))))) (((([0, 0, 0, 0].set 0 18446744073709551613).set 1 18446744073709551615).set 2 18446744073709551615).set 3 1152921504606846975))) (g38r0 A (g37r0 A a))) _ (by kernel_rfl) (by kernel_rfl)).trans (g21R8 A n (g21Q A n (pth 3935) (blockK 0 (g21Q A n (pth 127) (g21T kk)))) (g16r0 A b (g16r0 A (g16r0 A (g16r0 A a (g16r0 A b (g16r0 A b b))) (g24r0 A (g16r0 A a (g16r0 A b (g16r0 A (g16r0 A b (g16r0 A b b)) (g16r0 A b (g16r0 A b b))))) (((([0, 0, 0, 0].set 0 18446744073709551613).set 1 18446744073709551615).set 2 18446744073709551615).set 3 1152921504606846975))) (g16r0 A (g16r0 A a (g16r0 A b (g16r0 A b b))) (g24r0 A (g16r0 A a (g16r0 A b (g16r0 A (g16r0 A b (g16r0 A b b)) (g16r0 A b (g16r0 A b b))))) (((([0, 0, 0, 0].set 0 18446744073709551613).set 1 18446744073709551615).set 2 18446744073709551615).set 3 1152921504606846975))))) [0, 0, 0, 0] (g16r0 A (g16r0 A a (g16r0 A b (g16r0 A b b))) (g24r0 A (g16r0 A a (g16r0 A b (g16r0 A (g16r0 A b (g16r0 A b b)) (g16r0 A b (g16r0 A b b))))) (((([0, 0, 0, 0].set 0 18446744073709551613).set 1 18446744073709551615).set 2 18446744073709551615).set 3 1152921504606846975))) (g38r0 A (g37r0 A a)))
  rw [h15] at h16
  have h17 := (g21p1887 A n _ _).trans h16
  have h18 := g21p863 A n (blockK 0 (g21Q A n (pth 127) (g21T kk))) (g21R7s0 A (g16r0 A b (g16r0 A (g16r0 A (g16r0 A a (g16r0 A b (g16r0 A b b))) (g24r0 A (g16r0 A a (g16r0 A b (g16r0 A (g16r0 A b (g16r0 A b b)) (g16r0 A b (g16r0 A b b))))) (((([0, 0, 0, 0].set 0 18446744073709551613).set 1 18446744073709551615).set 2 18446744073709551615).set 3 1152921504606846975))) (g16r0 A (g16r0 A a (g16r0 A b (g16r0 A b b))) (g24r0 A (g16r0 A a (g16r0 A b (g16r0 A (g16r0 A b (g16r0 A b b)) (g16r0 A b (g16r0 A b b))))) (((([0, 0, 0, 0].set 0 18446744073709551613).set 1 18446744073709551615).set 2 18446744073709551615).set 3 1152921504606846975))))) [0, 0, 0, 0] (g16r0 A (g16r0 A a (g16r0 A b (g16r0 A b b))) (g24r0 A (g16r0 A a (g16r0 A b (g16r0 A (g16r0 A b (g16r0 A b b)) (g16r0 A b (g16r0 A b b))))) (((([0, 0, 0, 0].set 0 18446744073709551613).set 1 18446744073709551615).set 2 18446744073709551615).set 3 1152921504606846975))) (g38r0 A (g37r0 A a))) ((A.lq (g16r0 A b (g16r0 A (g16r0 A (g16r0 A a (g16r0 A b (g16r0 A b b))) (g24r0 A (g16r0 A a (g16r0 A b (g16r0 A (g16r0 A b (g16r0 A b b)) (g16r0 A b (g16r0 A b b))))) (((([0, 0, 0, 0].set 0 18446744073709551613).set 1 18446744073709551615).set 2 18446744073709551615).set 3 1152921504606846975))) (g16r0 A (g16r0 A a (g16r0 A b (g16r0 A b b))) (g24r0 A (g16r0 A a (g16r0 A b (g16r0 A (g16r0 A b (g16r0 A b b)) (g16r0 A b (g16r0 A b b))))) (((([0, 0, 0, 0].set 0 18446744073709551613).set 1 18446744073709551615).set 2 18446744073709551615).set 3 1152921504606846975))))) (g38r0 A (g37r0 A a))) && true) (by kernel_rfl)
  rw [h3, h17] at h18
  have h19 := (g21Qn A n _ _ _).trans h18
  have h20 := (g21F A n _ 7 _ (g21R5s0 A b [0, 0, 0, 0] (g16r0 A (g16r0 A a (g16r0 A b (g16r0 A b b))) (g24r0 A (g16r0 A a (g16r0 A b (g16r0 A (g16r0 A b (g16r0 A b b)) (g16r0 A b (g16r0 A b b))))) (((([0, 0, 0, 0].set 0 18446744073709551613).set 1 18446744073709551615).set 2 18446744073709551615).set 3 1152921504606846975))) (g38r0 A (g37r0 A a))) _ (by kernel_rfl) (by kernel_rfl)).trans (g21R7 A n (g21Q A n (pth 863) (blockK 0 (g21Q A n (pth 127) (g21T kk)))) (g16r0 A b (g16r0 A (g16r0 A (g16r0 A a (g16r0 A b (g16r0 A b b))) (g24r0 A (g16r0 A a (g16r0 A b (g16r0 A (g16r0 A b (g16r0 A b b)) (g16r0 A b (g16r0 A b b))))) (((([0, 0, 0, 0].set 0 18446744073709551613).set 1 18446744073709551615).set 2 18446744073709551615).set 3 1152921504606846975))) (g16r0 A (g16r0 A a (g16r0 A b (g16r0 A b b))) (g24r0 A (g16r0 A a (g16r0 A b (g16r0 A (g16r0 A b (g16r0 A b b)) (g16r0 A b (g16r0 A b b))))) (((([0, 0, 0, 0].set 0 18446744073709551613).set 1 18446744073709551615).set 2 18446744073709551615).set 3 1152921504606846975))))) [0, 0, 0, 0] (g16r0 A (g16r0 A a (g16r0 A b (g16r0 A b b))) (g24r0 A (g16r0 A a (g16r0 A b (g16r0 A (g16r0 A b (g16r0 A b b)) (g16r0 A b (g16r0 A b b))))) (((([0, 0, 0, 0].set 0 18446744073709551613).set 1 18446744073709551615).set 2 18446744073709551615).set 3 1152921504606846975))) (g38r0 A (g37r0 A a)))
  rw [h19] at h20
  have h21 := (g21p351 A n _ _).trans h20
  have h22 := (g21p223 A n _ _).trans h21
  have h23 := (g21Qn A n _ _ _).trans h22
  have h24 := (g21F A n _ 5 _ (g21R4s0 A a b [0, 0, 0, 0] (g16r0 A (g16r0 A a (g16r0 A b (g16r0 A b b))) (g24r0 A (g16r0 A a (g16r0 A b (g16r0 A (g16r0 A b (g16r0 A b b)) (g16r0 A b (g16r0 A b b))))) (((([0, 0, 0, 0].set 0 18446744073709551613).set 1 18446744073709551615).set 2 18446744073709551615).set 3 1152921504606846975)))) _ (by kernel_rfl) (by kernel_rfl)).trans (g21R5 A n (g21Q A n (pth 223) (g21Q A n (pth 127) (g21T kk))) b [0, 0, 0, 0] (g16r0 A (g16r0 A a (g16r0 A b (g16r0 A b b))) (g24r0 A (g16r0 A a (g16r0 A b (g16r0 A (g16r0 A b (g16r0 A b b)) (g16r0 A b (g16r0 A b b))))) (((([0, 0, 0, 0].set 0 18446744073709551613).set 1 18446744073709551615).set 2 18446744073709551615).set 3 1152921504606846975))) (g38r0 A (g37r0 A a)))
  rw [h23] at h24
  have h25 := (g21p95 A n _ _).trans h24
  have h26 := (g21p63 A n _ _).trans h25
  have h27 := (g21Qn A n _ _ _).trans h26
  have h28 := (g21F A n _ 4 _ (g21R3s0 A a b [0, 0, 0, 0] (g16r0 A b (g16r0 A b b)) (g16r0 A b (g16r0 A (g16r0 A b (g16r0 A b b)) (g16r0 A b (g16r0 A b b))))) _ (by kernel_rfl) (by kernel_rfl)).trans (g21R4 A n (g21Q A n (pth 63) (g21T kk)) a b [0, 0, 0, 0] (g16r0 A (g16r0 A a (g16r0 A b (g16r0 A b b))) (g24r0 A (g16r0 A a (g16r0 A b (g16r0 A (g16r0 A b (g16r0 A b b)) (g16r0 A b (g16r0 A b b))))) (((([0, 0, 0, 0].set 0 18446744073709551613).set 1 18446744073709551615).set 2 18446744073709551615).set 3 1152921504606846975))))
  rw [h27] at h28
  have h29 := (g21p31 A n _ _).trans h28
  have h30 := (g21Qn A n _ _ _).trans h29
  have h31 := (g21F A n _ 3 _ (g21R2s0 A a b [0, 0, 0, 0] (g16r0 A b (g16r0 A b b))) _ (by kernel_rfl) (by kernel_rfl)).trans (g21R3 A n (g21Q A n (pth 31) (g21T kk)) a b [0, 0, 0, 0] (g16r0 A b (g16r0 A b b)) (g16r0 A b (g16r0 A (g16r0 A b (g16r0 A b b)) (g16r0 A b (g16r0 A b b)))))
  rw [h30] at h31
  have h32 := (g21p15 A n _ _).trans h31
  have h33 := (g21Qn A n _ _ _).trans h32
  have h34 := (g21F A n _ 2 _ (g21R1s0 A a b [0, 0, 0, 0]) _ (by kernel_rfl) (by kernel_rfl)).trans (g21R2 A n (g21Q A n (pth 15) (g21T kk)) a b [0, 0, 0, 0] (g16r0 A b (g16r0 A b b)))
  rw [h33] at h34
  have h35 := (g21p7 A n _ _).trans h34
  have h36 := (g21Qn A n _ _ _).trans h35
  have h37 := (g21F A n _ 1 _ (g21R0s0 A a b) _ (by kernel_rfl) (by kernel_rfl)).trans (g21R1 A n (g21Q A n (pth 7) (g21T kk)) a b [0, 0, 0, 0])
  rw [h36] at h37
  have h38 := (g21p3 A n _ _).trans h37
  have h39 := (g21Qn A n _ _ _).trans h38
  have h40 := (g21F A n _ 0 _ ⟨[(0, (aN .u64 4 a)), (1, (aN .u64 4 b))], []⟩ _ (by kernel_rfl) (by kernel_rfl)).trans (g21R0 A n (g21Q A n (pth 3) (g21T kk)) a b)
  rw [h39] at h40
  have h41 := (g21p1 A n _ _).trans h40
  exact (show funD A gtys (g21O A) g21an n (bodyOf Try.f21) g21res [(aN .u64 4 a), (aN .u64 4 b)] [] kk = g21D A n (pth 1) (g21T kk) ⟨[(0, (aN .u64 4 a)), (1, (aN .u64 4 b))], []⟩ from by kernel_rfl).trans (h41.trans (by kernel_rfl))
def g21is (o : Option AV) : Bool := match o with
  | some (.tup [.agg [.nums .u64 4 _], .cell (.bool _)]) => true
  | _ => false
def g21g0 (o : Option AV) : List Nat := match o with
  | some (.tup [.agg [.nums .u64 4 x], .cell (.bool _)]) => x
  | _ => []
def g21g1 (o : Option AV) : Bool := match o with
  | some (.tup [.agg [.nums .u64 4 _], .cell (.bool x)]) => x
  | _ => false
theorem g21is_spec {o : Option AV} (h : g21is o = true) : o = some (.tup [.agg [.nums .u64 4 (g21g0 o)], .cell (.bool (g21g1 o))]) := by
  unfold g21is at h
  split at h
  · rfl
  · cases h
def g21v (A : Ar) (a b : List Nat) : Option AV := g21 A (100000) (fun v _ => some v) a b
def g21ok (A : Ar) (a b : List Nat) : Bool := g21is (g21v A a b)
def g21r0 (A : Ar) (a b : List Nat) : List Nat := g21g0 (g21v A a b)
def g21r1 (A : Ar) (a b : List Nat) : Bool := g21g1 (g21v A a b)
theorem g21ok_spec {A : Ar} {a b} (h : g21ok A a b = true) : g21v A a b = some (.tup [.agg [.nums .u64 4 (g21r0 A a b)], .cell (.bool (g21r1 A a b))]) := g21is_spec h
def g21o (A : Ar) (args : List AV) : Option (Bool × AV) := match args with
  | [.v (.agg [.nums .u64 n0 a]), .v (.agg [.nums .u64 n1 b])] => some (Nat.beq n0 4 && (Nat.beq n1 4 && (g21ok A a b)), .tup [.agg [.nums .u64 4 (g21r0 A a b)], .cell (.bool (g21r1 A a b))])
  | _ => none
theorem g21o_sound : ∀ args v, g21o realA args = some (true, v) → Fn1 Try.prog 21 args v := by
  intro args v h
  unfold g21o at h
  split at h
  · rename_i n0 a n1 b
    simp only [Option.some.injEq, Prod.mk.injEq] at h
    obtain ⟨hc, h⟩ := h
    subst h
    · skip
      simp only [Bool.and_eq_true] at hc
      have en0 := beq_true hc.1
      subst en0
      replace hc := hc.2
      have en1 := beq_true hc.1
      subst en1
      replace hc := hc.2
      exact fn1_of mixed gtysOK g21O_sound g21O_det (an := g21an) (n := 100000) Try.func21 (c := bodyOf Try.f21) rfl (by kernel_rfl) Try.call21 (Nat.le_of_ble_eq_true rfl) (fun b => rfl) (fun _ => (g21_eq realA (100000) (fun v _ => some v) a b).trans (show g21v realA a b = _ from g21ok_spec hc))
  · cases h
/- engrosser/engrosserlaw03.last -/
def g36O (A : Ar) : Orc := orcOf []
theorem g36O_sound : OSound Try.prog (g36O realA) := orc_sound fun f g hm args v hv => by
  cases hm
theorem g36O_det : ODet (g36O realA) := orc_det _
def g36an : Ann := [(0, ([], [])), (1, ([0], [1000]))]
def g36res : List ResultVar := [.cell 0 24]
noncomputable def g36D {R : Type} (A : Ar) (n : Nat) (p : List Bool) (K : Ex → St → Option R) (s : St) : Option R := codeD A gtys (g36O A) g36an n (sub (bodyOf Try.f36) p) K s
noncomputable def g36Q {R : Type} (A : Ar) (n : Nat) (p : List Bool) (K : Ex → St → Option R) : Ex → St → Option R := seqC (g36D A n p K) K
noncomputable def g36T {R : Type} (kk : AV → Heap → Option R) : Ex → St → Option R := finD gtys g36res kk
theorem g36Qn {R : Type} (A : Ar) (n : Nat) (p : List Bool) (K : Ex → St → Option R) (s : St) : g36Q A n p K .normal s = g36D A n p K s := rfl
theorem g36F {R : Type} (A : Ar) (n : Nat) (p : List Bool) (i : Nat) (K : Ex → St → Option R) (s s' : St) (hf : firstReg (sub (bodyOf Try.f36) p) = some i) (h : keep g36an i s = keep g36an i s') : g36D A n p K s = g36D A n p K s' := codeD_first hf h K
section
variable {R : Type} (A : Ar) (n : Nat) (K : Ex → St → Option R) (s : St)
theorem g36p1 : g36D A n (pth 1) K s = g36D A n (pth 2) (g36Q A n (pth 3) K) s := by kernel_rfl
theorem g36p3 : g36D A n (pth 3) K s = g36D A n (pth 5) (g36Q A n (pth 7) K) s := by kernel_rfl
theorem g36p7 : g36D A n (pth 7) K s = K .ret s := by kernel_rfl
def g36R0s0 (A : Ar)  : St := ⟨[(0, (pT 1000 0))], [(1000, (bU 4 [0, 0, 0, 0] 24))]⟩
theorem g36R0 : g36D A n (pth 2) K ⟨[], []⟩ = K .normal (g36R0s0 A) := by kernel_rfl
def g36R1s0 (A : Ar) (x0 : List Nat) : St := ⟨[(1, (aN .u64 4 (((([0, 0, 0, 0].set 0 18446744073709551596).set 1 18446744073709551615).set 2 18446744073709551615).set 3 9223372036854775807))), (0, (pT 1000 0))], [(1000, (bU 4 (((([0, 0, 0, 0].set 0 18446744073709551596).set 1 18446744073709551615).set 2 18446744073709551615).set 3 9223372036854775807) 24))]⟩
theorem g36R1 (x0 : List Nat) : g36D A n (pth 5) K ⟨[(0, (pT 1000 0))], [(1000, (bU 4 x0 24))]⟩ = K .normal (g36R1s0 A x0) := by kernel_rfl
end
def g36 {R : Type} (A : Ar) (n : Nat) (kk : AV → Heap → Option R)  : Option R :=
  kk (aN .u64 4 (((([0, 0, 0, 0].set 0 18446744073709551596).set 1 18446744073709551615).set 2 18446744073709551615).set 3 9223372036854775807)) [(1000, (bU 4 (((([0, 0, 0, 0].set 0 18446744073709551596).set 1 18446744073709551615).set 2 18446744073709551615).set 3 9223372036854775807) 24))]
set_option maxRecDepth 100000 in
theorem g36_eq {R : Type} (A : Ar) (n : Nat) (kk : AV → Heap → Option R)  :
    funD A gtys (g36O A) g36an n (bodyOf Try.f36) g36res [] [] kk = g36 A n kk  := by
  have h1 : (g36T kk) .ret (g36R1s0 A [0, 0, 0, 0]) = kk (aN .u64 4 (((([0, 0, 0, 0].set 0 18446744073709551596).set 1 18446744073709551615).set 2 18446744073709551615).set 3 9223372036854775807)) [(1000, (bU 4 (((([0, 0, 0, 0].set 0 18446744073709551596).set 1 18446744073709551615).set 2 18446744073709551615).set 3 9223372036854775807) 24))] := by kernel_rfl
  have h2 := (g36p7 A n _ _).trans h1
  have h3 := (g36Qn A n _ _ _).trans h2
  have h4 := (g36F A n _ 1 _ (g36R0s0 A) _ (by kernel_rfl) (by kernel_rfl)).trans (g36R1 A n (g36Q A n (pth 7) (g36T kk)) [0, 0, 0, 0])
  rw [h3] at h4
  have h5 := (g36p3 A n _ _).trans h4
  have h6 := (g36Qn A n _ _ _).trans h5
  have h7 := (g36F A n _ 0 _ ⟨[], []⟩ _ (by kernel_rfl) (by kernel_rfl)).trans (g36R0 A n (g36Q A n (pth 3) (g36T kk)) )
  rw [h6] at h7
  have h8 := (g36p1 A n _ _).trans h7
  exact (show funD A gtys (g36O A) g36an n (bodyOf Try.f36) g36res [] [] kk = g36D A n (pth 1) (g36T kk) ⟨[], []⟩ from by kernel_rfl).trans (h8.trans (by kernel_rfl))
def g36is (o : Option AV) : Bool := match o with
  | some (aN .u64 4 _) => true
  | _ => false
def g36g0 (o : Option AV) : List Nat := match o with
  | some (aN .u64 4 x) => x
  | _ => []
theorem g36is_spec {o : Option AV} (h : g36is o = true) : o = some (aN .u64 4 (g36g0 o)) := by
  unfold g36is at h
  split at h
  · rfl
  · cases h
def g36v (A : Ar)  : Option AV := g36 A (100000) (fun v _ => some v) 
def g36ok (A : Ar)  : Bool := g36is (g36v A )
def g36r0 (A : Ar)  : List Nat := g36g0 (g36v A )
theorem g36ok_spec {A : Ar} (h : g36ok A = true) : g36v A = some (aN .u64 4 (g36r0 A)) := g36is_spec h
def g36o (A : Ar) (args : List AV) : Option (Bool × AV) := match args with
  | [] => some (g36ok A , .v (.agg [.nums .u64 4 (g36r0 A)]))
  | _ => none
theorem g36o_sound : ∀ args v, g36o realA args = some (true, v) → Fn1 Try.prog 36 args v := by
  intro args v h
  unfold g36o at h
  split at h
  · simp only [Option.some.injEq, Prod.mk.injEq] at h
    obtain ⟨hc, h⟩ := h
    subst h
    · skip
      exact fn1_of mixed gtysOK g36O_sound g36O_det (an := g36an) (n := 100000) Try.func36 (c := bodyOf Try.f36) rfl (by kernel_rfl) Try.call36 (Nat.le_of_ble_eq_true rfl) (fun b => rfl) (fun _ => (g36_eq realA (100000) (fun v _ => some v) ).trans (show g36v realA  = _ from g36ok_spec hc))
  · cases h
/- engrosser/field.Add -/
def g12O (A : Ar) : Orc := orcOf [(37, g37o A), (38, g38o A)]
theorem g12O_sound : OSound Try.prog (g12O realA) := orc_sound fun f g hm args v hv => by
  simp only [List.mem_cons, List.not_mem_nil, or_false, Prod.mk.injEq] at hm
  rcases hm with ⟨rfl, rfl⟩ | ⟨rfl, rfl⟩
  · exact g37o_sound _ _ hv
  · exact g38o_sound _ _ hv
theorem g12O_det : ODet (g12O realA) := orc_det _
def g12an : Ann := [(0, ([0, 1], [])), (1, ([2, 3, 4], [1000, 1001, 1002])), (2, ([4, 5, 6], [1002, 2004, 2005])), (3, ([4, 5, 6, 12], [1002, 2004, 2005])), (4, ([4, 5, 6, 12], [1002, 2004, 2005])), (5, ([4, 5, 6, 7, 12], [1002, 2004, 2005])), (6, ([4, 5, 6, 12], [1002, 2004, 2005])), (7, ([4, 5], [1002, 2004]))]
def g12res : List ResultVar := [.cell 4 24]
noncomputable def g12D {R : Type} (A : Ar) (n : Nat) (p : List Bool) (K : Ex → St → Option R) (s : St) : Option R := codeD A gtys (g12O A) g12an n (sub (bodyOf Try.f12) p) K s
noncomputable def g12V {R : Type} (A : Ar) (n : Nat) (p : List Bool) (m : Nat) (K : Ex → St → Option R) (s : St) : Option R := loopD (fun K' s'' => codeD A gtys (g12O A) g12an n (sub (bodyOf Try.f12) p) K' s'') m K s
noncomputable def g12Q {R : Type} (A : Ar) (n : Nat) (p : List Bool) (K : Ex → St → Option R) : Ex → St → Option R := seqC (g12D A n p K) K
noncomputable def g12W {R : Type} (A : Ar) (n : Nat) (p : List Bool) (m : Nat) (K : Ex → St → Option R) : Ex → St → Option R := seqC (g12V A n p m K) K
noncomputable def g12T {R : Type} (kk : AV → Heap → Option R) : Ex → St → Option R := finD gtys g12res kk
theorem g12Qn {R : Type} (A : Ar) (n : Nat) (p : List Bool) (K : Ex → St → Option R) (s : St) : g12Q A n p K .normal s = g12D A n p K s := rfl
theorem g12Qe {R : Type} (A : Ar) (n : Nat) (p : List Bool) (K : Ex → St → Option R) (i : Nat) (s : St) : g12Q A n p K (.exit i) s = K (.exit i) s := rfl
theorem g12Wn {R : Type} (A : Ar) (n : Nat) (p : List Bool) (m : Nat) (K : Ex → St → Option R) (s : St) : g12W A n p m K .normal s = g12V A n p m K s := rfl
theorem g12We {R : Type} (A : Ar) (n : Nat) (p : List Bool) (m : Nat) (K : Ex → St → Option R) (i : Nat) (s : St) : g12W A n p m K (.exit i) s = K (.exit i) s := rfl
theorem g12Vs {R : Type} (A : Ar) (n : Nat) (p : List Bool) (m : Nat) (K : Ex → St → Option R) (s : St) : g12V A n p (m + 1) K s = g12D A n p (g12W A n p m K) s := rfl
theorem g12F {R : Type} (A : Ar) (n : Nat) (p : List Bool) (i : Nat) (K : Ex → St → Option R) (s s' : St) (hf : firstReg (sub (bodyOf Try.f12) p) = some i) (h : keep g12an i s = keep g12an i s') : g12D A n p K s = g12D A n p K s' := codeD_first hf h K
section
variable {R : Type} (A : Ar) (n : Nat) (K : Ex → St → Option R) (s : St)
theorem g12p1 : g12D A n (pth 1) K s = g12D A n (pth 2) (g12Q A n (pth 3) K) s := by kernel_rfl
theorem g12p3 : g12D A n (pth 3) K s = g12D A n (pth 5) (g12Q A n (pth 7) K) s := by kernel_rfl
theorem g12p7 : g12D A n (pth 7) K s = g12D A n (pth 11) (g12Q A n (pth 15) K) s := by kernel_rfl
theorem g12p11 : g12D A n (pth 11) K s = g12D A n (pth 19) (g12Q A n (pth 27) K) s := by kernel_rfl
theorem g12p27 : g12D A n (pth 27) K s = g12D A n (pth 43) (blockK 0 K) s := by kernel_rfl
theorem g12p43 : g12D A n (pth 43) K s = g12V A n (pth 75) n K s := by kernel_rfl
theorem g12p75 : g12D A n (pth 75) K s = g12D A n (pth 139) (g12Q A n (pth 203) K) s := by kernel_rfl
theorem g12p203 : g12D A n (pth 203) K s = g12D A n (pth 331) (g12Q A n (pth 459) K) s := by kernel_rfl
theorem g12p331 (t : Bool) : ev s (.tmp 13) = some (.v (.cell (.bool t))) → g12D A n (pth 331) K s = (match t with
    | true => g12D A n (pth 587) K s
    | false => g12D A n (pth 843) K s) := codeD_cond t
theorem g12p587 : g12D A n (pth 587) K s = K .normal s := by kernel_rfl
theorem g12p843 : g12D A n (pth 843) K s = K (.exit 0) s := by kernel_rfl
theorem g12p459 : g12D A n (pth 459) K s = g12D A n (pth 715) (g12Q A n (pth 971) K) s := by kernel_rfl
theorem g12p715 : g12D A n (pth 715) K s = g12D A n (pth 1227) (blockK 1 K) s := by kernel_rfl
theorem g12p1227 : g12D A n (pth 1227) K s = g12D A n (pth 2251) (g12Q A n (pth 3275) K) s := by kernel_rfl
theorem g12p15 : g12D A n (pth 15) K s = g12D A n (pth 23) (g12Q A n (pth 31) K) s := by kernel_rfl
theorem g12p31 : g12D A n (pth 31) K s = K .ret s := by kernel_rfl
def g12R4s0 (A : Ar) (x0 : Int) (x1 x2 x3 : List Nat) : St := ⟨[(7, (i6 x0)), (14, (i6 x0)), (4, (pT 1002 0)), (5, (pT 2004 0)), (6, (pT 2005 0)), (12, (i6 x0))], [(1002, (bU 4 x1 24)), (2004, (bU 5 x2 44)), (2005, (bU 5 x3 44))]⟩
theorem g12R4 (x0 : Int) (x1 x2 x3 : List Nat) : g12D A n (pth 2251) K ⟨[(4, (pT 1002 0)), (5, (pT 2004 0)), (6, (pT 2005 0)), (12, (i6 x0))], [(1002, (bU 4 x1 24)), (2004, (bU 5 x2 44)), (2005, (bU 5 x3 44))]⟩ = K .normal (g12R4s0 A x0 x1 x2 x3) := by kernel_rfl
def g12R5s0 (A : Ar) (x0 x1 : Int) (x2 x3 x4 : List Nat) : St := ⟨[(22, (.v (.cell (.ptr 2004 0 (some ⟨A.toN x0, 1, 5, 0, 0, 0⟩))))), (21, (u64v (A.nb .add .u64 (x3.getD (A.toN x0) 0) (x4.getD (A.toN x0) 0)))), (20, (u64v (x4.getD (A.toN x0) 0))), (19, (.v (.cell (.ptr 2005 0 (some ⟨A.toN x0, 1, 5, 0, 0, 0⟩))))), (18, (i6 x0)), (17, (u64v (x3.getD (A.toN x0) 0))), (16, (.v (.cell (.ptr 2004 0 (some ⟨A.toN x0, 1, 5, 0, 0, 0⟩))))), (15, (i6 x0)), (4, (pT 1002 0)), (5, (pT 2004 0)), (6, (pT 2005 0)), (7, (i6 x0)), (12, (i6 x1))], [(1002, (bU 4 x2 24)), (2004, (bU 5 (x3.set (A.toN x0) (A.nb .add .u64 (x3.getD (A.toN x0) 0) (x4.getD (A.toN x0) 0))) 44)), (2005, (bU 5 x4 44))]⟩
theorem g12R5 (x0 x1 : Int) (x2 x3 x4 : List Nat) : g12D A n (pth 3275) K ⟨[(4, (pT 1002 0)), (5, (pT 2004 0)), (6, (pT 2005 0)), (7, (i6 x0)), (12, (i6 x1))], [(1002, (bU 4 x2 24)), (2004, (bU 5 x3 44)), (2005, (bU 5 x4 44))]⟩ = match (generalizing := false) A.neg x0 with
    | true => none
    | false => match (generalizing := false) A.lt (A.toN x0) 5 with
      | true => match (generalizing := false) A.neg x0 with
        | true => none
        | false => match (generalizing := false) A.lt (A.toN x0) 5 with
          | true => match (generalizing := false) A.neg x0 with
            | true => none
            | false => match (generalizing := false) A.lt (A.toN x0) 5 with
              | true => K .normal (g12R5s0 A x0 x1 x2 x3 x4)
              | false => none
          | false => none
      | false => none := by kernel_rfl
def g12R6s0 (A : Ar) (x0 : Int) (x1 x2 x3 : List Nat) : St := ⟨[(12, (i6 (A.ib .add .i64 x0 1))), (23, (i6 (A.ib .add .i64 x0 1))), (4, (pT 1002 0)), (5, (pT 2004 0)), (6, (pT 2005 0)), (12, (i6 x0))], [(1002, (bU 4 x1 24)), (2004, (bU 5 x2 44)), (2005, (bU 5 x3 44))]⟩
theorem g12R6 (x0 : Int) (x1 x2 x3 : List Nat) : g12D A n (pth 971) K ⟨[(4, (pT 1002 0)), (5, (pT 2004 0)), (6, (pT 2005 0)), (12, (i6 x0))], [(1002, (bU 4 x1 24)), (2004, (bU 5 x2 44)), (2005, (bU 5 x3 44))]⟩ = K .normal (g12R6s0 A x0 x1 x2 x3) := by kernel_rfl
def g12R3s0 (A : Ar) (x0 : Int) (x1 x2 x3 : List Nat) : St := ⟨[(13, (bO (A.ic .lss x0 5))), (4, (pT 1002 0)), (5, (pT 2004 0)), (6, (pT 2005 0)), (12, (i6 x0))], [(1002, (bU 4 x1 24)), (2004, (bU 5 x2 44)), (2005, (bU 5 x3 44))]⟩
theorem g12R3 (x0 : Int) (x1 x2 x3 : List Nat) : g12D A n (pth 139) K ⟨[(4, (pT 1002 0)), (5, (pT 2004 0)), (6, (pT 2005 0)), (12, (i6 x0))], [(1002, (bU 4 x1 24)), (2004, (bU 5 x2 44)), (2005, (bU 5 x3 44))]⟩ = K .normal (g12R3s0 A x0 x1 x2 x3) := by kernel_rfl
def g12R7s0 (A : Ar) (x0 x1 : List Nat) : St := ⟨[(25, (aN .u64 4 (g38r0 A x1))), (24, (aN .u64 5 x1)), (4, (pT 1002 0)), (5, (pT 2004 0))], [(1002, (bU 4 (g38r0 A x1) 24)), (2004, (bU 5 x1 44))]⟩
theorem g12R7 (x0 x1 : List Nat) : g12D A n (pth 23) K ⟨[(4, (pT 1002 0)), (5, (pT 2004 0))], [(1002, (bU 4 x0 24)), (2004, (bU 5 x1 44))]⟩ = match (generalizing := false) g38ok A x1 with
    | true => K .normal (g12R7s0 A x0 x1)
    | false => none := by kernel_rfl
def g12R0s0 (A : Ar) (x0 x1 : List Nat) : St := ⟨[(4, (pT 1002 0)), (3, (pT 1001 0)), (2, (pT 1000 0)), (0, (aN .u64 4 x0)), (1, (aN .u64 4 x1))], [(1002, (bU 4 [0, 0, 0, 0] 24)), (1001, (bU 4 x1 24)), (1000, (bU 4 x0 24))]⟩
theorem g12R0 (x0 x1 : List Nat) : g12D A n (pth 2) K ⟨[(0, (aN .u64 4 x0)), (1, (aN .u64 4 x1))], []⟩ = K .normal (g12R0s0 A x0 x1) := by kernel_rfl
def g12R1s0 (A : Ar) (x0 x1 x2 : List Nat) : St := ⟨[(6, (pT 2005 0)), (5, (pT 2004 0)), (11, (aN .u64 5 (g37r0 A x1))), (10, (aN .u64 4 x1)), (9, (aN .u64 5 (g37r0 A x0))), (8, (aN .u64 4 x0)), (2, (pT 1000 0)), (3, (pT 1001 0)), (4, (pT 1002 0))], [(2005, (bU 5 (g37r0 A x1) 44)), (2004, (bU 5 (g37r0 A x0) 44)), (1000, (bU 4 x0 24)), (1001, (bU 4 x1 24)), (1002, (bU 4 x2 24))]⟩
theorem g12R1 (x0 x1 x2 : List Nat) : g12D A n (pth 5) K ⟨[(2, (pT 1000 0)), (3, (pT 1001 0)), (4, (pT 1002 0))], [(1000, (bU 4 x0 24)), (1001, (bU 4 x1 24)), (1002, (bU 4 x2 24))]⟩ = match (generalizing := false) g37ok A x0 with
    | true => match (generalizing := false) g37ok A x1 with
      | true => K .normal (g12R1s0 A x0 x1 x2)
      | false => none
    | false => none := by kernel_rfl
def g12R2s0 (A : Ar) (x0 x1 x2 : List Nat) : St := ⟨[(12, (i6 0)), (4, (pT 1002 0)), (5, (pT 2004 0)), (6, (pT 2005 0))], [(1002, (bU 4 x0 24)), (2004, (bU 5 x1 44)), (2005, (bU 5 x2 44))]⟩
theorem g12R2 (x0 x1 x2 : List Nat) : g12D A n (pth 19) K ⟨[(4, (pT 1002 0)), (5, (pT 2004 0)), (6, (pT 2005 0))], [(1002, (bU 4 x0 24)), (2004, (bU 5 x1 44)), (2005, (bU 5 x2 44))]⟩ = K .normal (g12R2s0 A x0 x1 x2) := by kernel_rfl
end
def g12J4 {R : Type} (A : Ar) (n : Nat) (kk : AV → Heap → Option R) (lg12L3 : Int → List Nat → List Nat → List Nat → Option R) (x0 : Int) (x1 x2 x3 : List Nat) : Option R :=
  match (generalizing := false) A.neg x0 with
  | true => none
  | false => match (generalizing := false) A.lt (A.toN x0) 5 with
    | true => match (generalizing := false) A.neg x0 with
      | true => none
      | false => match (generalizing := false) A.lt (A.toN x0) 5 with
        | true => match (generalizing := false) A.neg x0 with
          | true => none
          | false => match (generalizing := false) A.lt (A.toN x0) 5 with
            | true => lg12L3 (A.ib .add .i64 x0 1) x1 (x2.set (A.toN x0) (A.nb .add .u64 (x2.getD (A.toN x0) 0) (x3.getD (A.toN x0) 0))) x3
            | false => none
        | false => none
    | false => none
set_option maxRecDepth 100000 in
theorem g12J4_eq {R : Type} (A : Ar) (n : Nat) (kk : AV → Heap → Option R) (m0 : Nat) (lg12L3 : Int → List Nat → List Nat → List Nat → Option R) 
    (hg12L3 : ∀ (s : St) (x0 : Int) (x1 x2 x3 : List Nat), keep g12an 3 s = ⟨[(4, (pT 1002 0)), (5, (pT 2004 0)), (6, (pT 2005 0)), (12, (i6 x0))], [(1002, (bU 4 x1 24)), (2004, (bU 5 x2 44)), (2005, (bU 5 x3 44))]⟩ → g12V A n (pth 75) m0 (blockK 0 (g12Q A n (pth 15) (g12T kk))) s = lg12L3 x0 x1 x2 x3) (s : St) (x0 : Int) (x1 x2 x3 : List Nat) (h : keep g12an 4 s = ⟨[(4, (pT 1002 0)), (5, (pT 2004 0)), (6, (pT 2005 0)), (12, (i6 x0))], [(1002, (bU 4 x1 24)), (2004, (bU 5 x2 44)), (2005, (bU 5 x3 44))]⟩) :
    g12D A n (pth 459) (g12W A n (pth 75) m0 (blockK 0 (g12Q A n (pth 15) (g12T kk)))) s = g12J4 A n kk lg12L3 x0 x1 x2 x3 := by
  have h1 := (g12Wn A n _ _ _ _).trans (hg12L3 (g12R6s0 A x0 x1 (x2.set (A.toN x0) (A.nb .add .u64 (x2.getD (A.toN x0) 0) (x3.getD (A.toN x0) 0))) x3) (A.ib .add .i64 x0 1) x1 (x2.set (A.toN x0) (A.nb .add .u64 (x2.getD (A.toN x0) 0) (x3.getD (A.toN x0) 0))) x3 (by kernel_rfl))
  have h2 := (g12F A n _ 6 _ (g12R5s0 A x0 x0 x1 x2 x3) _ (by kernel_rfl) (by kernel_rfl)).trans (g12R6 A n (g12W A n (pth 75) m0 (blockK 0 (g12Q A n (pth 15) (g12T kk)))) x0 x1 (x2.set (A.toN x0) (A.nb .add .u64 (x2.getD (A.toN x0) 0) (x3.getD (A.toN x0) 0))) x3)
  rw [h1] at h2
  have h3 := (g12Qn A n _ _ _).trans h2
  have h4 := (blockK_n 1 _ _).trans h3
  have h5 := (g12F A n _ 5 _ (g12R4s0 A x0 x1 x2 x3) _ (by kernel_rfl) (by kernel_rfl)).trans (g12R5 A n (blockK 1 (g12Q A n (pth 971) (g12W A n (pth 75) m0 (blockK 0 (g12Q A n (pth 15) (g12T kk)))))) x0 x0 x1 x2 x3)
  rw [h4] at h5
  have h6 := (g12Qn A n _ _ _).trans h5
  have h7 := (g12F A n _ 4 _ ⟨[(4, (pT 1002 0)), (5, (pT 2004 0)), (6, (pT 2005 0)), (12, (i6 x0))], [(1002, (bU 4 x1 24)), (2004, (bU 5 x2 44)), (2005, (bU 5 x3 44))]⟩ _ (by kernel_rfl) (by kernel_rfl)).trans (g12R4 A n (g12Q A n (pth 3275) (blockK 1 (g12Q A n (pth 971) (g12W A n (pth 75) m0 (blockK 0 (g12Q A n (pth 15) (g12T kk))))))) x0 x1 x2 x3)
  rw [h6] at h7
  have h8 := (g12p1227 A n _ _).trans h7
  have h9 := (g12p715 A n _ _).trans h8
  have h10 := (g12p459 A n _ _).trans h9
  exact (g12F A n _ 4 _ _ ⟨[(4, (pT 1002 0)), (5, (pT 2004 0)), (6, (pT 2005 0)), (12, (i6 x0))], [(1002, (bU 4 x1 24)), (2004, (bU 5 x2 44)), (2005, (bU 5 x3 44))]⟩ (by kernel_rfl) (h.trans (by kernel_rfl))).trans (h10.trans (by kernel_rfl))
def g12L3 {R : Type} (A : Ar) (n : Nat) (kk : AV → Heap → Option R)  : Nat → Int → List Nat → List Nat → List Nat → Option R
  | 0, _, _, _, _ => none
  | m + 1, x0, x1, x2, x3 => match (generalizing := false) A.ic .lss x0 5 with
  | true => g12J4 A n kk (g12L3 A n kk  m) x0 x1 x2 x3
  | false => match (generalizing := false) g38ok A x2 with
    | true => kk (aN .u64 4 (g38r0 A x2)) [(1002, (bU 4 (g38r0 A x2) 24)), (2004, (bU 5 x2 44))]
    | false => none
set_option maxRecDepth 100000 in
theorem g12L3_eq {R : Type} (A : Ar) (n : Nat) (kk : AV → Heap → Option R)    (m : Nat) (s : St) (x0 : Int) (x1 x2 x3 : List Nat) (h : keep g12an 3 s = ⟨[(4, (pT 1002 0)), (5, (pT 2004 0)), (6, (pT 2005 0)), (12, (i6 x0))], [(1002, (bU 4 x1 24)), (2004, (bU 5 x2 44)), (2005, (bU 5 x3 44))]⟩) :
    g12V A n (pth 75) m (blockK 0 (g12Q A n (pth 15) (g12T kk))) s = g12L3 A n kk  m x0 x1 x2 x3 := by
  induction m generalizing s x0 x1 x2 x3 with
  | zero => rfl
  | succ m ih =>
    have h1 := (g12Qn A n _ _ _).trans (g12J4_eq A n kk m (g12L3 A n kk  m) ih  (g12R3s0 A x0 x1 x2 x3) x0 x1 x2 x3 (by kernel_rfl))
    have h2 := (g12p587 A n _ _).trans h1
    have h3 : (g12T kk) .ret (g12R7s0 A x1 x2) = kk (aN .u64 4 (g38r0 A x2)) [(1002, (bU 4 (g38r0 A x2) 24)), (2004, (bU 5 x2 44))] := by kernel_rfl
    have h4 := (g12p31 A n _ _).trans h3
    have h5 := (g12Qn A n _ _ _).trans h4
    have h6 := (g12F A n _ 7 _ (g12R3s0 A x0 x1 x2 x3) _ (by kernel_rfl) (by kernel_rfl)).trans (g12R7 A n (g12Q A n (pth 31) (g12T kk)) x1 x2)
    rw [h5] at h6
    have h7 := (g12p15 A n _ _).trans h6
    have h8 := (g12Qn A n _ _ _).trans h7
    have h9 := (blockK_hit 0 _ _).trans h8
    have h10 := (g12We A n (pth 75) m _ _ _).trans h9
    have h11 := (g12Qe A n (pth 459) _ _ _).trans h10
    have h12 := (g12p843 A n _ _).trans h11
    have h13 := g12p331 A n (g12Q A n (pth 459) (g12W A n (pth 75) m (blockK 0 (g12Q A n (pth 15) (g12T kk))))) (g12R3s0 A x0 x1 x2 x3) (A.ic .lss x0 5) (by kernel_rfl)
    rw [h2, h12] at h13
    have h14 := (g12p203 A n _ _).trans h13
    have h15 := (g12Qn A n _ _ _).trans h14
    have h16 := (g12F A n _ 3 _ ⟨[(4, (pT 1002 0)), (5, (pT 2004 0)), (6, (pT 2005 0)), (12, (i6 x0))], [(1002, (bU 4 x1 24)), (2004, (bU 5 x2 44)), (2005, (bU 5 x3 44))]⟩ _ (by kernel_rfl) (by kernel_rfl)).trans (g12R3 A n (g12Q A n (pth 203) (g12W A n (pth 75) m (blockK 0 (g12Q A n (pth 15) (g12T kk))))) x0 x1 x2 x3)
    rw [h15] at h16
    have h17 := (g12p75 A n _ _).trans h16
    exact (loopD_first (s' := ⟨[(4, (pT 1002 0)), (5, (pT 2004 0)), (6, (pT 2005 0)), (12, (i6 x0))], [(1002, (bU 4 x1 24)), (2004, (bU 5 x2 44)), (2005, (bU 5 x3 44))]⟩) (id := 3) (by kernel_rfl) (h.trans (by kernel_rfl)) _).trans ((g12Vs A n _ m _ _).trans (h17.trans (by kernel_rfl)))
def g12 {R : Type} (A : Ar) (n : Nat) (kk : AV → Heap → Option R) (a b : List Nat) : Option R :=
  match (generalizing := false) g37ok A a with
  | true => match (generalizing := false) g37ok A b with
    | true => g12L3 A n kk  n 0 [0, 0, 0, 0] (g37r0 A a) (g37r0 A b)
    | false => none
  | false => none
set_option maxRecDepth 100000 in
theorem g12_eq {R : Type} (A : Ar) (n : Nat) (kk : AV → Heap → Option R) (a b : List Nat) :
    funD A gtys (g12O A) g12an n (bodyOf Try.f12) g12res [(aN .u64 4 a), (aN .u64 4 b)] [] kk = g12 A n kk a b := by
  have h1 := (g12p43 A n _ _).trans (g12L3_eq A n kk    n (g12R2s0 A [0, 0, 0, 0] (g37r0 A a) (g37r0 A b)) 0 [0, 0, 0, 0] (g37r0 A a) (g37r0 A b) (by kernel_rfl))
  have h2 := (g12p27 A n _ _).trans h1
  have h3 := (g12Qn A n _ _ _).trans h2
  have h4 := (g12F A n _ 2 _ (g12R1s0 A a b [0, 0, 0, 0]) _ (by kernel_rfl) (by kernel_rfl)).trans (g12R2 A n (g12Q A n (pth 27) (g12Q A n (pth 15) (g12T kk))) [0, 0, 0, 0] (g37r0 A a) (g37r0 A b))
  rw [h3] at h4
  have h5 := (g12p11 A n _ _).trans h4
  have h6 := (g12p7 A n _ _).trans h5
  have h7 := (g12Qn A n _ _ _).trans h6
  have h8 := (g12F A n _ 1 _ (g12R0s0 A a b) _ (by kernel_rfl) (by kernel_rfl)).trans (g12R1 A n (g12Q A n (pth 7) (g12T kk)) a b [0, 0, 0, 0])
  rw [h7] at h8
  have h9 := (g12p3 A n _ _).trans h8
  have h10 := (g12Qn A n _ _ _).trans h9
  have h11 := (g12F A n _ 0 _ ⟨[(0, (aN .u64 4 a)), (1, (aN .u64 4 b))], []⟩ _ (by kernel_rfl) (by kernel_rfl)).trans (g12R0 A n (g12Q A n (pth 3) (g12T kk)) a b)
  rw [h10] at h11
  have h12 := (g12p1 A n _ _).trans h11
  exact (show funD A gtys (g12O A) g12an n (bodyOf Try.f12) g12res [(aN .u64 4 a), (aN .u64 4 b)] [] kk = g12D A n (pth 1) (g12T kk) ⟨[(0, (aN .u64 4 a)), (1, (aN .u64 4 b))], []⟩ from by kernel_rfl).trans (h12.trans (by kernel_rfl))
def g12is (o : Option AV) : Bool := match o with
  | some (aN .u64 4 _) => true
  | _ => false
def g12g0 (o : Option AV) : List Nat := match o with
  | some (aN .u64 4 x) => x
  | _ => []
theorem g12is_spec {o : Option AV} (h : g12is o = true) : o = some (aN .u64 4 (g12g0 o)) := by
  unfold g12is at h
  split at h
  · rfl
  · cases h
def g12v (A : Ar) (a b : List Nat) : Option AV := g12 A (100000) (fun v _ => some v) a b
def g12ok (A : Ar) (a b : List Nat) : Bool := g12is (g12v A a b)
def g12r0 (A : Ar) (a b : List Nat) : List Nat := g12g0 (g12v A a b)
theorem g12ok_spec {A : Ar} {a b} (h : g12ok A a b = true) : g12v A a b = some (aN .u64 4 (g12r0 A a b)) := g12is_spec h
def g12o (A : Ar) (args : List AV) : Option (Bool × AV) := match args with
  | [.v (.agg [.nums .u64 n0 a]), .v (.agg [.nums .u64 n1 b])] => some (Nat.beq n0 4 && (Nat.beq n1 4 && (g12ok A a b)), .v (.agg [.nums .u64 4 (g12r0 A a b)]))
  | _ => none
theorem g12o_sound : ∀ args v, g12o realA args = some (true, v) → Fn1 Try.prog 12 args v := by
  intro args v h
  unfold g12o at h
  split at h
  · rename_i n0 a n1 b
    simp only [Option.some.injEq, Prod.mk.injEq] at h
    obtain ⟨hc, h⟩ := h
    subst h
    · skip
      simp only [Bool.and_eq_true] at hc
      have en0 := beq_true hc.1
      subst en0
      replace hc := hc.2
      have en1 := beq_true hc.1
      subst en1
      replace hc := hc.2
      exact fn1_of mixed gtysOK g12O_sound g12O_det (an := g12an) (n := 100000) Try.func12 (c := bodyOf Try.f12) rfl (by kernel_rfl) Try.call12 (Nat.le_of_ble_eq_true rfl) (fun b => rfl) (fun _ => (g12_eq realA (100000) (fun v _ => some v) a b).trans (show g12v realA a b = _ from g12ok_spec hc))
  · cases h
/- engrosser/field.Right -/
def g20O (A : Ar) : Orc := orcOf [(37, g37o A), (38, g38o A)]
theorem g20O_sound : OSound Try.prog (g20O realA) := orc_sound fun f g hm args v hv => by
  simp only [List.mem_cons, List.not_mem_nil, or_false, Prod.mk.injEq] at hm
  rcases hm with ⟨rfl, rfl⟩ | ⟨rfl, rfl⟩
  · exact g37o_sound _ _ hv
  · exact g38o_sound _ _ hv
theorem g20O_det : ODet (g20O realA) := orc_det _
def g20an : Ann := [(0, ([0], [])), (1, ([1], [1000]))]
def g20res : List ResultVar := [.tmp 2]
noncomputable def g20D {R : Type} (A : Ar) (n : Nat) (p : List Bool) (K : Ex → St → Option R) (s : St) : Option R := codeD A gtys (g20O A) g20an n (sub (bodyOf Try.f20) p) K s
noncomputable def g20Q {R : Type} (A : Ar) (n : Nat) (p : List Bool) (K : Ex → St → Option R) : Ex → St → Option R := seqC (g20D A n p K) K
noncomputable def g20T {R : Type} (kk : AV → Heap → Option R) : Ex → St → Option R := finD gtys g20res kk
theorem g20Qn {R : Type} (A : Ar) (n : Nat) (p : List Bool) (K : Ex → St → Option R) (s : St) : g20Q A n p K .normal s = g20D A n p K s := rfl
theorem g20F {R : Type} (A : Ar) (n : Nat) (p : List Bool) (i : Nat) (K : Ex → St → Option R) (s s' : St) (hf : firstReg (sub (bodyOf Try.f20) p) = some i) (h : keep g20an i s = keep g20an i s') : g20D A n p K s = g20D A n p K s' := codeD_first hf h K
section
variable {R : Type} (A : Ar) (n : Nat) (K : Ex → St → Option R) (s : St)
theorem g20p1 : g20D A n (pth 1) K s = g20D A n (pth 2) (g20Q A n (pth 3) K) s := by kernel_rfl
theorem g20p3 : g20D A n (pth 3) K s = g20D A n (pth 5) (g20Q A n (pth 7) K) s := by kernel_rfl
theorem g20p7 : g20D A n (pth 7) K s = K .ret s := by kernel_rfl
def g20R0s0 (A : Ar) (x0 : List Nat) : St := ⟨[(2, (bO false)), (1, (pT 1000 0)), (0, (aN .u64 4 x0))], [(1000, (bU 4 x0 24))]⟩
theorem g20R0 (x0 : List Nat) : g20D A n (pth 2) K ⟨[(0, (aN .u64 4 x0))], []⟩ = K .normal (g20R0s0 A x0) := by kernel_rfl
def g20R1s0 (A : Ar) (x0 : List Nat) : St := ⟨[(2, (bO ((A.lq (g38r0 A (g37r0 A x0)) x0) && true))), (7, (bO ((A.lq (g38r0 A (g37r0 A x0)) x0) && true))), (6, (aN .u64 4 x0)), (5, (aN .u64 4 (g38r0 A (g37r0 A x0)))), (4, (aN .u64 5 (g37r0 A x0))), (3, (aN .u64 4 x0)), (1, (pT 1000 0))], [(1000, (bU 4 x0 24))]⟩
theorem g20R1 (x0 : List Nat) : g20D A n (pth 5) K ⟨[(1, (pT 1000 0))], [(1000, (bU 4 x0 24))]⟩ = match (generalizing := false) g37ok A x0 with
    | true => match (generalizing := false) g38ok A (g37r0 A x0) with
      | true => K .normal (g20R1s0 A x0)
      | false => none
    | false => none := by kernel_rfl
end
def g20 {R : Type} (A : Ar) (n : Nat) (kk : AV → Heap → Option R) (a : List Nat) : Option R :=
  match (generalizing := false) g37ok A a with
  | true => match (generalizing := false) g38ok A (g37r0 A a) with
    | true => kk (bO ((A.lq (g38r0 A (g37r0 A a)) a) && true)) [(1000, (bU 4 a 24))]
    | false => none
  | false => none
set_option maxRecDepth 100000 in
theorem g20_eq {R : Type} (A : Ar) (n : Nat) (kk : AV → Heap → Option R) (a : List Nat) :
    funD A gtys (g20O A) g20an n (bodyOf Try.f20) g20res [(aN .u64 4 a)] [] kk = g20 A n kk a := by
  have h1 : (g20T kk) .ret (g20R1s0 A a) = kk (bO ((A.lq (g38r0 A (g37r0 A a)) a) && true)) [(1000, (bU 4 a 24))] := by kernel_rfl
  have h2 := (g20p7 A n _ _).trans h1
  have h3 := (g20Qn A n _ _ _).trans h2
  have h4 := (g20F A n _ 1 _ (g20R0s0 A a) _ (by kernel_rfl) (by kernel_rfl)).trans (g20R1 A n (g20Q A n (pth 7) (g20T kk)) a)
  rw [h3] at h4
  have h5 := (g20p3 A n _ _).trans h4
  have h6 := (g20Qn A n _ _ _).trans h5
  have h7 := (g20F A n _ 0 _ ⟨[(0, (aN .u64 4 a))], []⟩ _ (by kernel_rfl) (by kernel_rfl)).trans (g20R0 A n (g20Q A n (pth 3) (g20T kk)) a)
  rw [h6] at h7
  have h8 := (g20p1 A n _ _).trans h7
  exact (show funD A gtys (g20O A) g20an n (bodyOf Try.f20) g20res [(aN .u64 4 a)] [] kk = g20D A n (pth 1) (g20T kk) ⟨[(0, (aN .u64 4 a))], []⟩ from by kernel_rfl).trans (h8.trans (by kernel_rfl))
def g20is (o : Option AV) : Bool := match o with
  | some (.v (.cell (.bool _))) => true
  | _ => false
def g20g0 (o : Option AV) : Bool := match o with
  | some (.v (.cell (.bool x))) => x
  | _ => false
theorem g20is_spec {o : Option AV} (h : g20is o = true) : o = some (.v (.cell (.bool (g20g0 o)))) := by
  unfold g20is at h
  split at h
  · rfl
  · cases h
def g20v (A : Ar) (a : List Nat) : Option AV := g20 A (100000) (fun v _ => some v) a
def g20ok (A : Ar) (a : List Nat) : Bool := g20is (g20v A a)
def g20r0 (A : Ar) (a : List Nat) : Bool := g20g0 (g20v A a)
theorem g20ok_spec {A : Ar} {a} (h : g20ok A a = true) : g20v A a = some (.v (.cell (.bool (g20r0 A a)))) := g20is_spec h
def g20o (A : Ar) (args : List AV) : Option (Bool × AV) := match args with
  | [.v (.agg [.nums .u64 n0 a])] => some (Nat.beq n0 4 && (g20ok A a), .v (.cell (.bool (g20r0 A a))))
  | _ => none
theorem g20o_sound : ∀ args v, g20o realA args = some (true, v) → Fn1 Try.prog 20 args v := by
  intro args v h
  unfold g20o at h
  split at h
  · rename_i n0 a
    simp only [Option.some.injEq, Prod.mk.injEq] at h
    obtain ⟨hc, h⟩ := h
    subst h
    · skip
      simp only [Bool.and_eq_true] at hc
      have en0 := beq_true hc.1
      subst en0
      replace hc := hc.2
      exact fn1_of mixed gtysOK g20O_sound g20O_det (an := g20an) (n := 100000) Try.func20 (c := bodyOf Try.f20) rfl (by kernel_rfl) Try.call20 (Nat.le_of_ble_eq_true rfl) (fun b => rfl) (fun _ => (g20_eq realA (100000) (fun v _ => some v) a).trans (show g20v realA a = _ from g20ok_spec hc))
  · cases h
/- engrosser/engrosserlaw03.examples -/
def g11O (A : Ar) : Orc := orcOf [(23, g23o A), (21, g21o A), (36, g36o A), (12, g12o A), (16, g16o A), (20, g20o A)]
theorem g11O_sound : OSound Try.prog (g11O realA) := orc_sound fun f g hm args v hv => by
  simp only [List.mem_cons, List.not_mem_nil, or_false, Prod.mk.injEq] at hm
  rcases hm with ⟨rfl, rfl⟩ | ⟨rfl, rfl⟩ | ⟨rfl, rfl⟩ | ⟨rfl, rfl⟩ | ⟨rfl, rfl⟩ | ⟨rfl, rfl⟩
  · exact g23o_sound _ _ hv
  · exact g21o_sound _ _ hv
  · exact g36o_sound _ _ hv
  · exact g12o_sound _ _ hv
  · exact g16o_sound _ _ hv
  · exact g20o_sound _ _ hv
theorem g11O_det : ODet (g11O realA) := orc_det _
def g11an : Ann := [(0, ([], [])), (1, ([], [])), (2, ([1], [2001])), (3, ([1, 2, 3], [2001, 3006]))]
def g11res : List ResultVar := [.tmp 0]
noncomputable def g11D {R : Type} (A : Ar) (n : Nat) (p : List Bool) (K : Ex → St → Option R) (s : St) : Option R := codeD A gtys (g11O A) g11an n (sub (bodyOf Try.f11) p) K s
noncomputable def g11Q {R : Type} (A : Ar) (n : Nat) (p : List Bool) (K : Ex → St → Option R) : Ex → St → Option R := seqC (g11D A n p K) K
noncomputable def g11T {R : Type} (kk : AV → Heap → Option R) : Ex → St → Option R := finD gtys g11res kk
theorem g11Qn {R : Type} (A : Ar) (n : Nat) (p : List Bool) (K : Ex → St → Option R) (s : St) : g11Q A n p K .normal s = g11D A n p K s := rfl
theorem g11F {R : Type} (A : Ar) (n : Nat) (p : List Bool) (i : Nat) (K : Ex → St → Option R) (s s' : St) (hf : firstReg (sub (bodyOf Try.f11) p) = some i) (h : keep g11an i s = keep g11an i s') : g11D A n p K s = g11D A n p K s' := codeD_first hf h K
section
variable {R : Type} (A : Ar) (n : Nat) (K : Ex → St → Option R) (s : St)
theorem g11p1 : g11D A n (pth 1) K s = g11D A n (pth 2) (g11Q A n (pth 3) K) s := by kernel_rfl
theorem g11p3 : g11D A n (pth 3) K s = g11D A n (pth 5) (g11Q A n (pth 7) K) s := by kernel_rfl
theorem g11p7 : g11D A n (pth 7) K s = g11D A n (pth 11) (g11Q A n (pth 15) K) s := by kernel_rfl
theorem g11p15 : g11D A n (pth 15) K s = g11D A n (pth 23) (g11Q A n (pth 31) K) s := by kernel_rfl
theorem g11p31 : g11D A n (pth 31) K s = K .ret s := by kernel_rfl
def g11R0s0 (A : Ar)  : St := ⟨[(0, (bO false))], []⟩
theorem g11R0 : g11D A n (pth 2) K ⟨[], []⟩ = K .normal (g11R0s0 A) := by kernel_rfl
def g11R1s0 (A : Ar)  : St := ⟨[(1, (pT 2001 0)), (4, (aN .u64 4 (g23r0 A 2)))], [(2001, (bU 4 (g23r0 A 2) 24))]⟩
theorem g11R1 : g11D A n (pth 5) K ⟨[], []⟩ = match (generalizing := false) g23ok A 2 with
    | true => K .normal (g11R1s0 A)
    | false => none := by kernel_rfl
def g11R2s0 (A : Ar) (x0 : List Nat) : St := ⟨[(3, (bO (g21r1 A (g23r0 A 4) (g23r0 A 1)))), (2, (pT 3006 0)), (10, (bO (g21r1 A (g23r0 A 4) (g23r0 A 1)))), (9, (aN .u64 4 (g21r0 A (g23r0 A 4) (g23r0 A 1)))), (5, (.tup [(.agg [.nums .u64 4 (g21r0 A (g23r0 A 4) (g23r0 A 1))]), (.cell (.bool (g21r1 A (g23r0 A 4) (g23r0 A 1))))])), (8, (.tup [(.agg [.nums .u64 4 (g21r0 A (g23r0 A 4) (g23r0 A 1))]), (.cell (.bool (g21r1 A (g23r0 A 4) (g23r0 A 1))))])), (7, (aN .u64 4 (g23r0 A 1))), (6, (aN .u64 4 (g23r0 A 4))), (1, (pT 2001 0))], [(3006, (bU 4 (g21r0 A (g23r0 A 4) (g23r0 A 1)) 24)), (2001, (bU 4 x0 24))]⟩
theorem g11R2 (x0 : List Nat) : g11D A n (pth 11) K ⟨[(1, (pT 2001 0))], [(2001, (bU 4 x0 24))]⟩ = match (generalizing := false) g23ok A 4 with
    | true => match (generalizing := false) g23ok A 1 with
      | true => match (generalizing := false) g21ok A (g23r0 A 4) (g23r0 A 1) with
        | true => K .normal (g11R2s0 A x0)
        | false => none
      | false => none
    | false => none := by kernel_rfl
def g11R3s0 (A : Ar) (x0 : Bool) (x1 x2 : List Nat) : St := ⟨[(0, (bO x0)), (39, (bO x0)), (38, (bO x0)), (37, (bO true)), (36, (bO ((A.lq x2 x1) && true))), (35, (bO ((A.lq x2 x1) && true))), (34, (aN .u64 4 x1)), (33, (aN .u64 4 x2)), (32, (bO true)), (31, (bO (!(g20r0 A (((([0, 0, 0, 0].set 0 18446744073709551597).set 1 18446744073709551615).set 2 18446744073709551615).set 3 9223372036854775807))))), (30, (bO (!(g20r0 A (((([0, 0, 0, 0].set 0 18446744073709551597).set 1 18446744073709551615).set 2 18446744073709551615).set 3 9223372036854775807))))), (29, (bO (g20r0 A (((([0, 0, 0, 0].set 0 18446744073709551597).set 1 18446744073709551615).set 2 18446744073709551615).set 3 9223372036854775807)))), (28, (aN .u64 4 (((([0, 0, 0, 0].set 0 18446744073709551597).set 1 18446744073709551615).set 2 18446744073709551615).set 3 9223372036854775807))), (27, (bO true)), (26, (bO (g20r0 A (g36r0 A)))), (25, (bO (g20r0 A (g36r0 A)))), (24, (aN .u64 4 (g36r0 A))), (23, (bO true)), (22, (bO ((A.lq (g16r0 A (g36r0 A) (g36r0 A)) (g23r0 A 1)) && true))), (21, (bO ((A.lq (g16r0 A (g36r0 A) (g36r0 A)) (g23r0 A 1)) && true))), (20, (aN .u64 4 (g23r0 A 1))), (19, (aN .u64 4 (g16r0 A (g36r0 A) (g36r0 A)))), (18, (aN .u64 4 (g36r0 A))), (17, (aN .u64 4 (g36r0 A))), (16, (bO true)), (15, (bO ((A.lq (g12r0 A (g36r0 A) x1) (g23r0 A 1)) && true))), (14, (aN .u64 4 (g23r0 A 1))), (13, (aN .u64 4 (g12r0 A (g36r0 A) x1))), (12, (aN .u64 4 x1)), (11, (aN .u64 4 (g36r0 A))), (1, (pT 2001 0)), (2, (pT 3006 0)), (3, (bO x0))], [(2001, (bU 4 x1 24)), (3006, (bU 4 x2 24))]⟩
def g11R3s1 (A : Ar) (x0 : Bool) (x1 x2 : List Nat) : St := ⟨[(0, (bO false)), (39, (bO false)), (38, uN), (37, (bO false)), (36, (bO ((A.lq x2 x1) && true))), (35, (bO ((A.lq x2 x1) && true))), (34, (aN .u64 4 x1)), (33, (aN .u64 4 x2)), (32, (bO true)), (31, (bO (!(g20r0 A (((([0, 0, 0, 0].set 0 18446744073709551597).set 1 18446744073709551615).set 2 18446744073709551615).set 3 9223372036854775807))))), (30, (bO (!(g20r0 A (((([0, 0, 0, 0].set 0 18446744073709551597).set 1 18446744073709551615).set 2 18446744073709551615).set 3 9223372036854775807))))), (29, (bO (g20r0 A (((([0, 0, 0, 0].set 0 18446744073709551597).set 1 18446744073709551615).set 2 18446744073709551615).set 3 9223372036854775807)))), (28, (aN .u64 4 (((([0, 0, 0, 0].set 0 18446744073709551597).set 1 18446744073709551615).set 2 18446744073709551615).set 3 9223372036854775807))), (27, (bO true)), (26, (bO (g20r0 A (g36r0 A)))), (25, (bO (g20r0 A (g36r0 A)))), (24, (aN .u64 4 (g36r0 A))), (23, (bO true)), (22, (bO ((A.lq (g16r0 A (g36r0 A) (g36r0 A)) (g23r0 A 1)) && true))), (21, (bO ((A.lq (g16r0 A (g36r0 A) (g36r0 A)) (g23r0 A 1)) && true))), (20, (aN .u64 4 (g23r0 A 1))), (19, (aN .u64 4 (g16r0 A (g36r0 A) (g36r0 A)))), (18, (aN .u64 4 (g36r0 A))), (17, (aN .u64 4 (g36r0 A))), (16, (bO true)), (15, (bO ((A.lq (g12r0 A (g36r0 A) x1) (g23r0 A 1)) && true))), (14, (aN .u64 4 (g23r0 A 1))), (13, (aN .u64 4 (g12r0 A (g36r0 A) x1))), (12, (aN .u64 4 x1)), (11, (aN .u64 4 (g36r0 A))), (1, (pT 2001 0)), (2, (pT 3006 0)), (3, (bO x0))], [(2001, (bU 4 x1 24)), (3006, (bU 4 x2 24))]⟩
def g11R3s2 (A : Ar) (x0 : Bool) (x1 x2 : List Nat) : St := ⟨[(0, (bO false)), (39, (bO false)), (38, uN), (37, (bO false)), (36, (bO false)), (35, uN), (34, uN), (33, uN), (32, (bO false)), (31, (bO (!(g20r0 A (((([0, 0, 0, 0].set 0 18446744073709551597).set 1 18446744073709551615).set 2 18446744073709551615).set 3 9223372036854775807))))), (30, (bO (!(g20r0 A (((([0, 0, 0, 0].set 0 18446744073709551597).set 1 18446744073709551615).set 2 18446744073709551615).set 3 9223372036854775807))))), (29, (bO (g20r0 A (((([0, 0, 0, 0].set 0 18446744073709551597).set 1 18446744073709551615).set 2 18446744073709551615).set 3 9223372036854775807)))), (28, (aN .u64 4 (((([0, 0, 0, 0].set 0 18446744073709551597).set 1 18446744073709551615).set 2 18446744073709551615).set 3 9223372036854775807))), (27, (bO true)), (26, (bO (g20r0 A (g36r0 A)))), (25, (bO (g20r0 A (g36r0 A)))), (24, (aN .u64 4 (g36r0 A))), (23, (bO true)), (22, (bO ((A.lq (g16r0 A (g36r0 A) (g36r0 A)) (g23r0 A 1)) && true))), (21, (bO ((A.lq (g16r0 A (g36r0 A) (g36r0 A)) (g23r0 A 1)) && true))), (20, (aN .u64 4 (g23r0 A 1))), (19, (aN .u64 4 (g16r0 A (g36r0 A) (g36r0 A)))), (18, (aN .u64 4 (g36r0 A))), (17, (aN .u64 4 (g36r0 A))), (16, (bO true)), (15, (bO ((A.lq (g12r0 A (g36r0 A) x1) (g23r0 A 1)) && true))), (14, (aN .u64 4 (g23r0 A 1))), (13, (aN .u64 4 (g12r0 A (g36r0 A) x1))), (12, (aN .u64 4 x1)), (11, (aN .u64 4 (g36r0 A))), (1, (pT 2001 0)), (2, (pT 3006 0)), (3, (bO x0))], [(2001, (bU 4 x1 24)), (3006, (bU 4 x2 24))]⟩
def g11R3s3 (A : Ar) (x0 : Bool) (x1 x2 : List Nat) : St := ⟨[(0, (bO false)), (39, (bO false)), (38, uN), (37, (bO false)), (36, (bO false)), (35, uN), (34, uN), (33, uN), (32, (bO false)), (31, (bO false)), (30, uN), (29, uN), (28, uN), (27, (bO false)), (26, (bO (g20r0 A (g36r0 A)))), (25, (bO (g20r0 A (g36r0 A)))), (24, (aN .u64 4 (g36r0 A))), (23, (bO true)), (22, (bO ((A.lq (g16r0 A (g36r0 A) (g36r0 A)) (g23r0 A 1)) && true))), (21, (bO ((A.lq (g16r0 A (g36r0 A) (g36r0 A)) (g23r0 A 1)) && true))), (20, (aN .u64 4 (g23r0 A 1))), (19, (aN .u64 4 (g16r0 A (g36r0 A) (g36r0 A)))), (18, (aN .u64 4 (g36r0 A))), (17, (aN .u64 4 (g36r0 A))), (16, (bO true)), (15, (bO ((A.lq (g12r0 A (g36r0 A) x1) (g23r0 A 1)) && true))), (14, (aN .u64 4 (g23r0 A 1))), (13, (aN .u64 4 (g12r0 A (g36r0 A) x1))), (12, (aN .u64 4 x1)), (11, (aN .u64 4 (g36r0 A))), (1, (pT 2001 0)), (2, (pT 3006 0)), (3, (bO x0))], [(2001, (bU 4 x1 24)), (3006, (bU 4 x2 24))]⟩
def g11R3s4 (A : Ar) (x0 : Bool) (x1 x2 : List Nat) : St := ⟨[(0, (bO false)), (39, (bO false)), (38, uN), (37, (bO false)), (36, (bO false)), (35, uN), (34, uN), (33, uN), (32, (bO false)), (31, (bO false)), (30, uN), (29, uN), (28, uN), (27, (bO false)), (26, (bO false)), (25, uN), (24, uN), (23, (bO false)), (22, (bO ((A.lq (g16r0 A (g36r0 A) (g36r0 A)) (g23r0 A 1)) && true))), (21, (bO ((A.lq (g16r0 A (g36r0 A) (g36r0 A)) (g23r0 A 1)) && true))), (20, (aN .u64 4 (g23r0 A 1))), (19, (aN .u64 4 (g16r0 A (g36r0 A) (g36r0 A)))), (18, (aN .u64 4 (g36r0 A))), (17, (aN .u64 4 (g36r0 A))), (16, (bO true)), (15, (bO ((A.lq (g12r0 A (g36r0 A) x1) (g23r0 A 1)) && true))), (14, (aN .u64 4 (g23r0 A 1))), (13, (aN .u64 4 (g12r0 A (g36r0 A) x1))), (12, (aN .u64 4 x1)), (11, (aN .u64 4 (g36r0 A))), (1, (pT 2001 0)), (2, (pT 3006 0)), (3, (bO x0))], [(2001, (bU 4 x1 24)), (3006, (bU 4 x2 24))]⟩
def g11R3s5 (A : Ar) (x0 : Bool) (x1 x2 : List Nat) : St := ⟨[(0, (bO false)), (39, (bO false)), (38, uN), (37, (bO false)), (36, (bO false)), (35, uN), (34, uN), (33, uN), (32, (bO false)), (31, (bO false)), (30, uN), (29, uN), (28, uN), (27, (bO false)), (26, (bO false)), (25, uN), (24, uN), (23, (bO false)), (22, (bO false)), (21, uN), (20, uN), (19, uN), (18, uN), (17, uN), (16, (bO false)), (15, (bO ((A.lq (g12r0 A (g36r0 A) x1) (g23r0 A 1)) && true))), (14, (aN .u64 4 (g23r0 A 1))), (13, (aN .u64 4 (g12r0 A (g36r0 A) x1))), (12, (aN .u64 4 x1)), (11, (aN .u64 4 (g36r0 A))), (1, (pT 2001 0)), (2, (pT 3006 0)), (3, (bO x0))], [(2001, (bU 4 x1 24)), (3006, (bU 4 x2 24))]⟩
theorem g11R3 (x0 : Bool) (x1 x2 : List Nat) : g11D A n (pth 23) K ⟨[(1, (pT 2001 0)), (2, (pT 3006 0)), (3, (bO x0))], [(2001, (bU 4 x1 24)), (3006, (bU 4 x2 24))]⟩ = match (generalizing := false) g36ok A with
    | true => match (generalizing := false) g12ok A (g36r0 A) x1 with
      | true => match (generalizing := false) g23ok A 1 with
        | true => match (generalizing := false) (A.lq (g12r0 A (g36r0 A) x1) (g23r0 A 1)) && true with
          | true => match (generalizing := false) g36ok A with
            | true => match (generalizing := false) g36ok A with
              | true => match (generalizing := false) g16ok A (g36r0 A) (g36r0 A) with
                | true => match (generalizing := false) g23ok A 1 with
                  | true => match (generalizing := false) (A.lq (g16r0 A (g36r0 A) (g36r0 A)) (g23r0 A 1)) && true with
                    | true => match (generalizing := false) g36ok A with
                      | true => match (generalizing := false) g20ok A (g36r0 A) with
                        | true => match (generalizing := false) g20r0 A (g36r0 A) with
                          | true => match (generalizing := false) g20ok A (((([0, 0, 0, 0].set 0 18446744073709551597).set 1 18446744073709551615).set 2 18446744073709551615).set 3 9223372036854775807) with
                            | true => match (generalizing := false) !(g20r0 A (((([0, 0, 0, 0].set 0 18446744073709551597).set 1 18446744073709551615).set 2 18446744073709551615).set 3 9223372036854775807)) with
                              | true => match (generalizing := false) (A.lq x2 x1) && true with
                                | true => K .normal (g11R3s0 A x0 x1 x2)
                                | false => K .normal (g11R3s1 A x0 x1 x2)
                              | false => K .normal (g11R3s2 A x0 x1 x2)
                            | false => none
                          | false => K .normal (g11R3s3 A x0 x1 x2)
                        | false => none
                      | false => none
                    | false => K .normal (g11R3s4 A x0 x1 x2)
                  | false => none
                | false => none
              | false => none
            | false => none
          | false => K .normal (g11R3s5 A x0 x1 x2)
        | false => none
      | false => none
    | false => none := by kernel_rfl
end
def g11 {R : Type} (A : Ar) (n : Nat) (kk : AV → Heap → Option R)  : Option R :=
  match (generalizing := false) g23ok A 2 with
  | true => match (generalizing := false) g23ok A 4 with
    | true => match (generalizing := false) g23ok A 1 with
      | true => match (generalizing := false) g21ok A (g23r0 A 4) (g23r0 A 1) with
        | true => match (generalizing := false) g36ok A with
          | true => match (generalizing := false) g12ok A (g36r0 A) (g23r0 A 2) with
            | true => match (generalizing := false) g23ok A 1 with
              | true => match (generalizing := false) (A.lq (g12r0 A (g36r0 A) (g23r0 A 2)) (g23r0 A 1)) && true with
                | true => match (generalizing := false) g36ok A with
                  | true => match (generalizing := false) g36ok A with
                    | true => match (generalizing := false) g16ok A (g36r0 A) (g36r0 A) with
                      | true => match (generalizing := false) g23ok A 1 with
                        | true => match (generalizing := false) (A.lq (g16r0 A (g36r0 A) (g36r0 A)) (g23r0 A 1)) && true with
                          | true => match (generalizing := false) g36ok A with
                            | true => match (generalizing := false) g20ok A (g36r0 A) with
                              | true => match (generalizing := false) g20r0 A (g36r0 A) with
                                | true => match (generalizing := false) g20ok A (((([0, 0, 0, 0].set 0 18446744073709551597).set 1 18446744073709551615).set 2 18446744073709551615).set 3 9223372036854775807) with
                                  | true => match (generalizing := false) !(g20r0 A (((([0, 0, 0, 0].set 0 18446744073709551597).set 1 18446744073709551615).set 2 18446744073709551615).set 3 9223372036854775807)) with
                                    | true => match (generalizing := false) (A.lq (g21r0 A (g23r0 A 4) (g23r0 A 1)) (g23r0 A 2)) && true with
                                      | true => kk (bO (g21r1 A (g23r0 A 4) (g23r0 A 1))) [(2001, (bU 4 (g23r0 A 2) 24)), (3006, (bU 4 (g21r0 A (g23r0 A 4) (g23r0 A 1)) 24))]
                                      | false => kk (bO false) [(2001, (bU 4 (g23r0 A 2) 24)), (3006, (bU 4 (g21r0 A (g23r0 A 4) (g23r0 A 1)) 24))]
                                    | false => kk (bO false) [(2001, (bU 4 (g23r0 A 2) 24)), (3006, (bU 4 (g21r0 A (g23r0 A 4) (g23r0 A 1)) 24))]
                                  | false => none
                                | false => kk (bO false) [(2001, (bU 4 (g23r0 A 2) 24)), (3006, (bU 4 (g21r0 A (g23r0 A 4) (g23r0 A 1)) 24))]
                              | false => none
                            | false => none
                          | false => kk (bO false) [(2001, (bU 4 (g23r0 A 2) 24)), (3006, (bU 4 (g21r0 A (g23r0 A 4) (g23r0 A 1)) 24))]
                        | false => none
                      | false => none
                    | false => none
                  | false => none
                | false => kk (bO false) [(2001, (bU 4 (g23r0 A 2) 24)), (3006, (bU 4 (g21r0 A (g23r0 A 4) (g23r0 A 1)) 24))]
              | false => none
            | false => none
          | false => none
        | false => none
      | false => none
    | false => none
  | false => none
set_option maxRecDepth 100000 in
theorem g11_eq {R : Type} (A : Ar) (n : Nat) (kk : AV → Heap → Option R)  :
    funD A gtys (g11O A) g11an n (bodyOf Try.f11) g11res [] [] kk = g11 A n kk  := by
  have h1 : (g11T kk) .ret (g11R3s0 A (g21r1 A (g23r0 A 4) (g23r0 A 1)) (g23r0 A 2) (g21r0 A (g23r0 A 4) (g23r0 A 1))) = kk (bO (g21r1 A (g23r0 A 4) (g23r0 A 1))) [(2001, (bU 4 (g23r0 A 2) 24)), (3006, (bU 4 (g21r0 A (g23r0 A 4) (g23r0 A 1)) 24))] := by kernel_rfl
  have h2 := (g11p31 A n _ _).trans h1
  have h3 := (g11Qn A n _ _ _).trans h2
  have h4 : (g11T kk) .ret (g11R3s1 A (g21r1 A (g23r0 A 4) (g23r0 A 1)) (g23r0 A 2) (g21r0 A (g23r0 A 4) (g23r0 A 1))) = kk (bO false) [(2001, (bU 4 (g23r0 A 2) 24)), (3006, (bU 4 (g21r0 A (g23r0 A 4) (g23r0 A 1)) 24))] := by kernel_rfl
  have h5 := (g11p31 A n _ _).trans h4
  have h6 := (g11Qn A n _ _ _).trans h5
  have h7 : (g11T kk) .ret (g11R3s2 A (g21r1 A (g23r0 A 4) (g23r0 A 1)) (g23r0 A 2) (g21r0 A (g23r0 A 4) (g23r0 A 1))) = kk (bO false) [(2001, (bU 4 (g23r0 A 2) 24)), (3006, (bU 4 (g21r0 A (g23r0 A 4) (g23r0 A 1)) 24))] := by kernel_rfl
  have h8 := (g11p31 A n _ _).trans h7
  have h9 := (g11Qn A n _ _ _).trans h8
  have h10 : (g11T kk) .ret (g11R3s3 A (g21r1 A (g23r0 A 4) (g23r0 A 1)) (g23r0 A 2) (g21r0 A (g23r0 A 4) (g23r0 A 1))) = kk (bO false) [(2001, (bU 4 (g23r0 A 2) 24)), (3006, (bU 4 (g21r0 A (g23r0 A 4) (g23r0 A 1)) 24))] := by kernel_rfl
  have h11 := (g11p31 A n _ _).trans h10
  have h12 := (g11Qn A n _ _ _).trans h11
  have h13 : (g11T kk) .ret (g11R3s4 A (g21r1 A (g23r0 A 4) (g23r0 A 1)) (g23r0 A 2) (g21r0 A (g23r0 A 4) (g23r0 A 1))) = kk (bO false) [(2001, (bU 4 (g23r0 A 2) 24)), (3006, (bU 4 (g21r0 A (g23r0 A 4) (g23r0 A 1)) 24))] := by kernel_rfl
  have h14 := (g11p31 A n _ _).trans h13
  have h15 := (g11Qn A n _ _ _).trans h14
  have h16 : (g11T kk) .ret (g11R3s5 A (g21r1 A (g23r0 A 4) (g23r0 A 1)) (g23r0 A 2) (g21r0 A (g23r0 A 4) (g23r0 A 1))) = kk (bO false) [(2001, (bU 4 (g23r0 A 2) 24)), (3006, (bU 4 (g21r0 A (g23r0 A 4) (g23r0 A 1)) 24))] := by kernel_rfl
  have h17 := (g11p31 A n _ _).trans h16
  have h18 := (g11Qn A n _ _ _).trans h17
  have h19 := (g11F A n _ 3 _ (g11R2s0 A (g23r0 A 2)) _ (by kernel_rfl) (by kernel_rfl)).trans (g11R3 A n (g11Q A n (pth 31) (g11T kk)) (g21r1 A (g23r0 A 4) (g23r0 A 1)) (g23r0 A 2) (g21r0 A (g23r0 A 4) (g23r0 A 1)))
  rw [h3, h6, h9, h12, h15, h18] at h19
  have h20 := (g11p15 A n _ _).trans h19
  have h21 := (g11Qn A n _ _ _).trans h20
  have h22 := (g11F A n _ 2 _ (g11R1s0 A) _ (by kernel_rfl) (by kernel_rfl)).trans (g11R2 A n (g11Q A n (pth 15) (g11T kk)) (g23r0 A 2))
  rw [h21] at h22
  have h23 := (g11p7 A n _ _).trans h22
  have h24 := (g11Qn A n _ _ _).trans h23
  have h25 := (g11F A n _ 1 _ (g11R0s0 A) _ (by kernel_rfl) (by kernel_rfl)).trans (g11R1 A n (g11Q A n (pth 7) (g11T kk)) )
  rw [h24] at h25
  have h26 := (g11p3 A n _ _).trans h25
  have h27 := (g11Qn A n _ _ _).trans h26
  have h28 := (g11F A n _ 0 _ ⟨[], []⟩ _ (by kernel_rfl) (by kernel_rfl)).trans (g11R0 A n (g11Q A n (pth 3) (g11T kk)) )
  rw [h27] at h28
  have h29 := (g11p1 A n _ _).trans h28
  exact (show funD A gtys (g11O A) g11an n (bodyOf Try.f11) g11res [] [] kk = g11D A n (pth 1) (g11T kk) ⟨[], []⟩ from by kernel_rfl).trans (h29.trans (by kernel_rfl))
def g11is (o : Option AV) : Bool := match o with
  | some (.v (.cell (.bool _))) => true
  | _ => false
def g11g0 (o : Option AV) : Bool := match o with
  | some (.v (.cell (.bool x))) => x
  | _ => false
theorem g11is_spec {o : Option AV} (h : g11is o = true) : o = some (.v (.cell (.bool (g11g0 o)))) := by
  unfold g11is at h
  split at h
  · rfl
  · cases h
def g11v (A : Ar)  : Option AV := g11 A (100000) (fun v _ => some v) 
def g11ok (A : Ar)  : Bool := g11is (g11v A )
def g11r0 (A : Ar)  : Bool := g11g0 (g11v A )
theorem g11ok_spec {A : Ar} (h : g11ok A = true) : g11v A = some (.v (.cell (.bool (g11r0 A)))) := g11is_spec h
def g11o (A : Ar) (args : List AV) : Option (Bool × AV) := match args with
  | [] => some (g11ok A , .v (.cell (.bool (g11r0 A))))
  | _ => none
theorem g11o_sound : ∀ args v, g11o realA args = some (true, v) → Fn1 Try.prog 11 args v := by
  intro args v h
  unfold g11o at h
  split at h
  · simp only [Option.some.injEq, Prod.mk.injEq] at h
    obtain ⟨hc, h⟩ := h
    subst h
    · skip
      exact fn1_of mixed gtysOK g11O_sound g11O_det (an := g11an) (n := 100000) Try.func11 (c := bodyOf Try.f11) rfl (by kernel_rfl) Try.call11 (Nat.le_of_ble_eq_true rfl) (fun b => rfl) (fun _ => (g11_eq realA (100000) (fun v _ => some v) ).trans (show g11v realA  = _ from g11ok_spec hc))
  · cases h
end Go.Sx
