import Derived.Test.YtnnepclpggbjgaaSxS03b
/- printed by sxgen -/
namespace Go.Sx
open Go.Proofs
set_option linter.unusedVariables false
/- engrosser/field.Bytes -/
def g33O (A : Ar) : Orc := orcOf [(37, g37o A), (38, g38o A)]
theorem g33O_sound : OSound Try.prog (g33O realA) := orc_sound fun f g hm args v hv => by
  simp only [List.mem_cons, List.not_mem_nil, or_false, Prod.mk.injEq] at hm
  rcases hm with ⟨rfl, rfl⟩ | ⟨rfl, rfl⟩
  · exact g37o_sound _ _ hv
  · exact g38o_sound _ _ hv
theorem g33O_det : ODet (g33O realA) := orc_det _
def g33an : Ann := [(0, ([0], [])), (1, ([1], [1000])), (2, ([1], [1000])), (3, ([1, 3], [1000, 3000])), (4, ([3, 11, 12], [3000])), (5, ([3, 11, 12], [3000])), (6, ([3, 5, 11, 12], [3000])), (7, ([3, 5, 11, 12, 15], [3000])), (8, ([3, 5, 11, 12, 15], [3000])), (9, ([3, 5, 6, 11, 12, 15], [3000])), (10, ([3, 5, 11, 12, 15], [3000])), (11, ([3, 11, 12], [3000])), (12, ([3], [3000]))]
def g33res : List ResultVar := [.tmp 2]
noncomputable def g33D {R : Type} (A : Ar) (n : Nat) (p : List Bool) (K : Ex → St → Option R) (s : St) : Option R := codeD A gtys (g33O A) g33an n (sub (bodyOf Try.f33) p) K s
noncomputable def g33V {R : Type} (A : Ar) (n : Nat) (p : List Bool) (m : Nat) (K : Ex → St → Option R) (s : St) : Option R := loopD (fun K' s'' => codeD A gtys (g33O A) g33an n (sub (bodyOf Try.f33) p) K' s'') m K s
noncomputable def g33Q {R : Type} (A : Ar) (n : Nat) (p : List Bool) (K : Ex → St → Option R) : Ex → St → Option R := seqC (g33D A n p K) K
noncomputable def g33W {R : Type} (A : Ar) (n : Nat) (p : List Bool) (m : Nat) (K : Ex → St → Option R) : Ex → St → Option R := seqC (g33V A n p m K) K
noncomputable def g33T {R : Type} (kk : AV → Heap → Option R) : Ex → St → Option R := finD gtys g33res kk
theorem g33Qn {R : Type} (A : Ar) (n : Nat) (p : List Bool) (K : Ex → St → Option R) (s : St) : g33Q A n p K .normal s = g33D A n p K s := rfl
theorem g33Qe {R : Type} (A : Ar) (n : Nat) (p : List Bool) (K : Ex → St → Option R) (i : Nat) (s : St) : g33Q A n p K (.exit i) s = K (.exit i) s := rfl
theorem g33Wn {R : Type} (A : Ar) (n : Nat) (p : List Bool) (m : Nat) (K : Ex → St → Option R) (s : St) : g33W A n p m K .normal s = g33V A n p m K s := rfl
theorem g33We {R : Type} (A : Ar) (n : Nat) (p : List Bool) (m : Nat) (K : Ex → St → Option R) (i : Nat) (s : St) : g33W A n p m K (.exit i) s = K (.exit i) s := rfl
theorem g33Vs {R : Type} (A : Ar) (n : Nat) (p : List Bool) (m : Nat) (K : Ex → St → Option R) (s : St) : g33V A n p (m + 1) K s = g33D A n p (g33W A n p m K) s := rfl
theorem g33F {R : Type} (A : Ar) (n : Nat) (p : List Bool) (i : Nat) (K : Ex → St → Option R) (s s' : St) (hf : firstReg (sub (bodyOf Try.f33) p) = some i) (h : keep g33an i s = keep g33an i s') : g33D A n p K s = g33D A n p K s' := codeD_first hf h K
section
variable {R : Type} (A : Ar) (n : Nat) (K : Ex → St → Option R) (s : St)
theorem g33p1 : g33D A n (pth 1) K s = g33D A n (pth 2) (g33Q A n (pth 3) K) s := by kernel_rfl
theorem g33p3 : g33D A n (pth 3) K s = g33D A n (pth 5) (g33Q A n (pth 7) K) s := by kernel_rfl
theorem g33p7 : g33D A n (pth 7) K s = g33D A n (pth 11) (g33Q A n (pth 15) K) s := by kernel_rfl
theorem g33p15 : g33D A n (pth 15) K s = g33D A n (pth 23) (g33Q A n (pth 31) K) s := by kernel_rfl
theorem g33p23 : g33D A n (pth 23) K s = g33D A n (pth 39) (g33Q A n (pth 55) K) s := by kernel_rfl
theorem g33p55 : g33D A n (pth 55) K s = g33D A n (pth 87) (blockK 0 K) s := by kernel_rfl
theorem g33p87 : g33D A n (pth 87) K s = g33V A n (pth 151) n K s := by kernel_rfl
theorem g33p151 : g33D A n (pth 151) K s = g33D A n (pth 279) (g33Q A n (pth 407) K) s := by kernel_rfl
theorem g33p407 : g33D A n (pth 407) K s = g33D A n (pth 663) (g33Q A n (pth 919) K) s := by kernel_rfl
theorem g33p663 (t : Bool) : ev s (.tmp 13) = some (.v (.cell (.bool t))) → g33D A n (pth 663) K s = (match t with
    | true => g33D A n (pth 1175) K s
    | false => g33D A n (pth 1687) K s) := codeD_cond t
theorem g33p1175 : g33D A n (pth 1175) K s = K .normal s := by kernel_rfl
theorem g33p1687 : g33D A n (pth 1687) K s = K (.exit 0) s := by kernel_rfl
theorem g33p919 : g33D A n (pth 919) K s = g33D A n (pth 1431) (g33Q A n (pth 1943) K) s := by kernel_rfl
theorem g33p1431 : g33D A n (pth 1431) K s = g33D A n (pth 2455) (blockK 1 K) s := by kernel_rfl
theorem g33p2455 : g33D A n (pth 2455) K s = g33D A n (pth 4503) (g33Q A n (pth 6551) K) s := by kernel_rfl
theorem g33p6551 : g33D A n (pth 6551) K s = g33D A n (pth 10647) (g33Q A n (pth 14743) K) s := by kernel_rfl
theorem g33p14743 : g33D A n (pth 14743) K s = g33D A n (pth 22935) (blockK 2 K) s := by kernel_rfl
theorem g33p22935 : g33D A n (pth 22935) K s = g33V A n (pth 39319) n K s := by kernel_rfl
theorem g33p39319 : g33D A n (pth 39319) K s = g33D A n (pth 72087) (g33Q A n (pth 104855) K) s := by kernel_rfl
theorem g33p104855 : g33D A n (pth 104855) K s = g33D A n (pth 170391) (g33Q A n (pth 235927) K) s := by kernel_rfl
theorem g33p170391 (t : Bool) : ev s (.tmp 16) = some (.v (.cell (.bool t))) → g33D A n (pth 170391) K s = (match t with
    | true => g33D A n (pth 301463) K s
    | false => g33D A n (pth 432535) K s) := codeD_cond t
theorem g33p301463 : g33D A n (pth 301463) K s = K .normal s := by kernel_rfl
theorem g33p432535 : g33D A n (pth 432535) K s = K (.exit 2) s := by kernel_rfl
theorem g33p235927 : g33D A n (pth 235927) K s = g33D A n (pth 366999) (g33Q A n (pth 498071) K) s := by kernel_rfl
theorem g33p366999 : g33D A n (pth 366999) K s = g33D A n (pth 629143) (blockK 3 K) s := by kernel_rfl
theorem g33p629143 : g33D A n (pth 629143) K s = g33D A n (pth 1153431) (g33Q A n (pth 1677719) K) s := by kernel_rfl
theorem g33p31 : g33D A n (pth 31) K s = g33D A n (pth 47) (g33Q A n (pth 63) K) s := by kernel_rfl
theorem g33p63 : g33D A n (pth 63) K s = K .ret s := by kernel_rfl
def g33R8s0 (A : Ar) (x0 x1 : Nat) (x2 : List Nat) (x3 x4 : Int) (x5 : Nat) (x6 : List Nat) : St := ⟨[(6, (i6 x4)), (17, (i6 x4)), (3, (sL 3000 none x0 1)), (5, (u64v x1)), (11, (aN .u64 4 x2)), (12, (i6 x3)), (15, (i6 x4))], [(3000, ⟨[.nums .u8 x5 x6], 5, 2⟩)]⟩
theorem g33R8 (x0 x1 : Nat) (x2 : List Nat) (x3 x4 : Int) (x5 : Nat) (x6 : List Nat) : g33D A n (pth 1153431) K ⟨[(3, (sL 3000 none x0 1)), (5, (u64v x1)), (11, (aN .u64 4 x2)), (12, (i6 x3)), (15, (i6 x4))], [(3000, ⟨[.nums .u8 x5 x6], 5, 2⟩)]⟩ = K .normal (g33R8s0 A x0 x1 x2 x3 x4 x5 x6) := by kernel_rfl
def g33R9s0 (A : Ar) (x0 x1 : Nat) (x2 : Int) (x3 : List Nat) (x4 x5 : Int) (x6 : Nat) (x7 : List Nat) : St := ⟨[(3, (sL 3000 none ((x7 ++ ([A.n2n .u8 (A.nsh .shr .u64 x1 (A.toN (A.ib .mul .i64 8 x2)))].take 1)).length) 1)), (25, (sL 3000 none ((x7 ++ ([A.n2n .u8 (A.nsh .shr .u64 x1 (A.toN (A.ib .mul .i64 8 x2)))].take 1)).length) 1)), (24, (sL 10006 none 1 1)), (23, (u8v (A.n2n .u8 (A.nsh .shr .u64 x1 (A.toN (A.ib .mul .i64 8 x2)))))), (22, (u64v (A.nsh .shr .u64 x1 (A.toN (A.ib .mul .i64 8 x2))))), (21, (i6 (A.ib .mul .i64 8 x2))), (20, (i6 x2)), (19, (u64v x1)), (18, (.v (.cell .top))), (3, (.v (.cell .top))), (5, (u64v x1)), (6, (i6 x2)), (11, (aN .u64 4 x3)), (12, (i6 x4)), (15, (i6 x5))], [(3000, ⟨[.nums .u8 ((x7 ++ ([A.n2n .u8 (A.nsh .shr .u64 x1 (A.toN (A.ib .mul .i64 8 x2)))].take 1)).length) (x7 ++ ([A.n2n .u8 (A.nsh .shr .u64 x1 (A.toN (A.ib .mul .i64 8 x2)))].take 1))], 5, 2⟩), (10006, ⟨[.nums .u8 1 [A.n2n .u8 (A.nsh .shr .u64 x1 (A.toN (A.ib .mul .i64 8 x2)))]], 5, 2⟩)]⟩
theorem g33R9 (x0 x1 : Nat) (x2 : Int) (x3 : List Nat) (x4 x5 : Int) (x6 : Nat) (x7 : List Nat) : g33D A n (pth 1677719) K ⟨[(3, (sL 3000 none x0 1)), (5, (u64v x1)), (6, (i6 x2)), (11, (aN .u64 4 x3)), (12, (i6 x4)), (15, (i6 x5))], [(3000, ⟨[.nums .u8 x6 x7], 5, 2⟩)]⟩ = match (generalizing := false) A.neg (A.ib .mul .i64 8 x2) with
    | true => none
    | false => match (generalizing := false) A.eq x0 (x6 + 0) with
      | true => match (generalizing := false) A.le ((x7 ++ ([A.n2n .u8 (A.nsh .shr .u64 x1 (A.toN (A.ib .mul .i64 8 x2)))].take 1)).length) 140737488355328 with
        | true => K .normal (g33R9s0 A x0 x1 x2 x3 x4 x5 x6 x7)
        | false => none
      | false => none := by kernel_rfl
def g33R10s0 (A : Ar) (x0 x1 : Nat) (x2 : List Nat) (x3 x4 : Int) (x5 : Nat) (x6 : List Nat) : St := ⟨[(15, (i6 (A.ib .add .i64 x4 1))), (26, (i6 (A.ib .add .i64 x4 1))), (3, (sL 3000 none x0 1)), (5, (u64v x1)), (11, (aN .u64 4 x2)), (12, (i6 x3)), (15, (i6 x4))], [(3000, ⟨[.nums .u8 x5 x6], 5, 2⟩)]⟩
theorem g33R10 (x0 x1 : Nat) (x2 : List Nat) (x3 x4 : Int) (x5 : Nat) (x6 : List Nat) : g33D A n (pth 498071) K ⟨[(3, (sL 3000 none x0 1)), (5, (u64v x1)), (11, (aN .u64 4 x2)), (12, (i6 x3)), (15, (i6 x4))], [(3000, ⟨[.nums .u8 x5 x6], 5, 2⟩)]⟩ = K .normal (g33R10s0 A x0 x1 x2 x3 x4 x5 x6) := by kernel_rfl
def g33R7s0 (A : Ar) (x0 x1 : Nat) (x2 : List Nat) (x3 x4 : Int) (x5 : Nat) (x6 : List Nat) : St := ⟨[(16, (bO (A.ic .lss x4 8))), (3, (sL 3000 none x0 1)), (5, (u64v x1)), (11, (aN .u64 4 x2)), (12, (i6 x3)), (15, (i6 x4))], [(3000, ⟨[.nums .u8 x5 x6], 5, 2⟩)]⟩
theorem g33R7 (x0 x1 : Nat) (x2 : List Nat) (x3 x4 : Int) (x5 : Nat) (x6 : List Nat) : g33D A n (pth 72087) K ⟨[(3, (sL 3000 none x0 1)), (5, (u64v x1)), (11, (aN .u64 4 x2)), (12, (i6 x3)), (15, (i6 x4))], [(3000, ⟨[.nums .u8 x5 x6], 5, 2⟩)]⟩ = K .normal (g33R7s0 A x0 x1 x2 x3 x4 x5 x6) := by kernel_rfl
def g33R11s0 (A : Ar) (x0 : Nat) (x1 : List Nat) (x2 : Int) (x3 : Nat) (x4 : List Nat) : St := ⟨[(12, (i6 (A.ib .add .i64 x2 1))), (27, (i6 (A.ib .add .i64 x2 1))), (3, (sL 3000 none x0 1)), (11, (aN .u64 4 x1)), (12, (i6 x2))], [(3000, ⟨[.nums .u8 x3 x4], 5, 2⟩)]⟩
theorem g33R11 (x0 : Nat) (x1 : List Nat) (x2 : Int) (x3 : Nat) (x4 : List Nat) : g33D A n (pth 1943) K ⟨[(3, (sL 3000 none x0 1)), (11, (aN .u64 4 x1)), (12, (i6 x2))], [(3000, ⟨[.nums .u8 x3 x4], 5, 2⟩)]⟩ = K .normal (g33R11s0 A x0 x1 x2 x3 x4) := by kernel_rfl
def g33R5s0 (A : Ar) (x0 : Nat) (x1 : List Nat) (x2 : Int) (x3 : Nat) (x4 : List Nat) : St := ⟨[(5, (u64v (x1.getD (A.toN x2) 0))), (14, (u64v (x1.getD (A.toN x2) 0))), (3, (sL 3000 none x0 1)), (11, (aN .u64 4 x1)), (12, (i6 x2))], [(3000, ⟨[.nums .u8 x3 x4], 5, 2⟩)]⟩
theorem g33R5 (x0 : Nat) (x1 : List Nat) (x2 : Int) (x3 : Nat) (x4 : List Nat) : g33D A n (pth 4503) K ⟨[(3, (sL 3000 none x0 1)), (11, (aN .u64 4 x1)), (12, (i6 x2))], [(3000, ⟨[.nums .u8 x3 x4], 5, 2⟩)]⟩ = match (generalizing := false) A.neg x2 with
    | true => none
    | false => match (generalizing := false) A.lt (A.toN x2) 4 with
      | true => K .normal (g33R5s0 A x0 x1 x2 x3 x4)
      | false => none := by kernel_rfl
def g33R6s0 (A : Ar) (x0 x1 : Nat) (x2 : List Nat) (x3 : Int) (x4 : Nat) (x5 : List Nat) : St := ⟨[(15, (i6 0)), (3, (sL 3000 none x0 1)), (5, (u64v x1)), (11, (aN .u64 4 x2)), (12, (i6 x3))], [(3000, ⟨[.nums .u8 x4 x5], 5, 2⟩)]⟩
theorem g33R6 (x0 x1 : Nat) (x2 : List Nat) (x3 : Int) (x4 : Nat) (x5 : List Nat) : g33D A n (pth 10647) K ⟨[(3, (sL 3000 none x0 1)), (5, (u64v x1)), (11, (aN .u64 4 x2)), (12, (i6 x3))], [(3000, ⟨[.nums .u8 x4 x5], 5, 2⟩)]⟩ = K .normal (g33R6s0 A x0 x1 x2 x3 x4 x5) := by kernel_rfl
def g33R4s0 (A : Ar) (x0 : Nat) (x1 : List Nat) (x2 : Int) (x3 : Nat) (x4 : List Nat) : St := ⟨[(13, (bO (A.ic .lss x2 4))), (3, (sL 3000 none x0 1)), (11, (aN .u64 4 x1)), (12, (i6 x2))], [(3000, ⟨[.nums .u8 x3 x4], 5, 2⟩)]⟩
theorem g33R4 (x0 : Nat) (x1 : List Nat) (x2 : Int) (x3 : Nat) (x4 : List Nat) : g33D A n (pth 279) K ⟨[(3, (sL 3000 none x0 1)), (11, (aN .u64 4 x1)), (12, (i6 x2))], [(3000, ⟨[.nums .u8 x3 x4], 5, 2⟩)]⟩ = K .normal (g33R4s0 A x0 x1 x2 x3 x4) := by kernel_rfl
def g33R12s0 (A : Ar) (x0 x1 : Nat) (x2 : List Nat) : St := ⟨[(2, (tS (x2.take x0))), (29, (tS (x2.take x0))), (28, (sL 3000 none x0 1)), (3, (sL 3000 none x0 1))], [(3000, ⟨[.nums .u8 x1 x2], 5, 2⟩)]⟩
theorem g33R12 (x0 x1 : Nat) (x2 : List Nat) : g33D A n (pth 47) K ⟨[(3, (sL 3000 none x0 1))], [(3000, ⟨[.nums .u8 x1 x2], 5, 2⟩)]⟩ = K .normal (g33R12s0 A x0 x1 x2) := by kernel_rfl
def g33R0s0 (A : Ar) (x0 : List Nat) : St := ⟨[(2, (tS [])), (1, (pT 1000 0)), (0, (aN .u64 4 x0))], [(1000, (bU 4 x0 24))]⟩
theorem g33R0 (x0 : List Nat) : g33D A n (pth 2) K ⟨[(0, (aN .u64 4 x0))], []⟩ = K .normal (g33R0s0 A x0) := by kernel_rfl
def g33R1s0 (A : Ar) (x0 : List Nat) : St := ⟨[(9, (aN .u64 4 (g38r0 A (g37r0 A x0)))), (8, (aN .u64 5 (g37r0 A x0))), (7, (aN .u64 4 x0)), (1, (pT 1000 0))], [(1000, (bU 4 (g38r0 A (g37r0 A x0)) 24))]⟩
theorem g33R1 (x0 : List Nat) : g33D A n (pth 5) K ⟨[(1, (pT 1000 0))], [(1000, (bU 4 x0 24))]⟩ = match (generalizing := false) g37ok A x0 with
    | true => match (generalizing := false) g38ok A (g37r0 A x0) with
      | true => K .normal (g33R1s0 A x0)
      | false => none
    | false => none := by kernel_rfl
def g33R2s0 (A : Ar) (x0 : List Nat) : St := ⟨[(3, (sL 3000 none 0 1)), (10, (sL 3000 none 0 1)), (1, (pT 1000 0))], [(3000, ⟨[.nums .u8 0 (List.replicate 0 0)], 5, 2⟩), (1000, (bU 4 x0 24))]⟩
theorem g33R2 (x0 : List Nat) : g33D A n (pth 11) K ⟨[(1, (pT 1000 0))], [(1000, (bU 4 x0 24))]⟩ = match (generalizing := false) A.le 0 32 with
    | true => match (generalizing := false) A.le 32 140737488355328 with
      | true => K .normal (g33R2s0 A x0)
      | false => none
    | false => none := by kernel_rfl
def g33R3s0 (A : Ar) (x0 : Nat) (x1 : List Nat) (x2 : Nat) (x3 : List Nat) : St := ⟨[(12, (i6 0)), (11, (aN .u64 4 x1)), (1, (pT 1000 0)), (3, (sL 3000 none x0 1))], [(1000, (bU 4 x1 24)), (3000, ⟨[.nums .u8 x2 x3], 5, 2⟩)]⟩
theorem g33R3 (x0 : Nat) (x1 : List Nat) (x2 : Nat) (x3 : List Nat) : g33D A n (pth 39) K ⟨[(1, (pT 1000 0)), (3, (sL 3000 none x0 1))], [(1000, (bU 4 x1 24)), (3000, ⟨[.nums .u8 x2 x3], 5, 2⟩)]⟩ = K .normal (g33R3s0 A x0 x1 x2 x3) := by kernel_rfl
end
def g33J8 {R : Type} (A : Ar) (n : Nat) (kk : AV → Heap → Option R) (lg33L4 : Nat → List Nat → Int → Nat → List Nat → Option R) (lg33L7 : Nat → Nat → List Nat → Int → Int → Nat → List Nat → Option R) (x0 x1 : Nat) (x2 : List Nat) (x3 x4 : Int) (x5 : Nat) (x6 : List Nat) : Option R :=
  match (generalizing := false) A.neg (A.ib .mul .i64 8 x4) with
  | true => none
  | false => match (generalizing := false) A.eq x0 (x5 + 0) with
    | true => match (generalizing := false) A.le ((x6 ++ ([A.n2n .u8 (A.nsh .shr .u64 x1 (A.toN (A.ib .mul .i64 8 x4)))].take 1)).length) 140737488355328 with
      | true => lg33L7 ((x6 ++ ([A.n2n .u8 (A.nsh .shr .u64 x1 (A.toN (A.ib .mul .i64 8 x4)))].take 1)).length) x1 x2 x3 (A.ib .add .i64 x4 1) ((x6 ++ ([A.n2n .u8 (A.nsh .shr .u64 x1 (A.toN (A.ib .mul .i64 8 x4)))].take 1)).length) (x6 ++ ([A.n2n .u8 (A.nsh .shr .u64 x1 (A.toN (A.ib .mul .i64 8 x4)))].take 1))
      | false => none
    | false => none
set_option maxRecDepth 100000 in
theorem g33J8_eq {R : Type} (A : Ar) (n : Nat) (kk : AV → Heap → Option R) (m0 m1 : Nat) (lg33L4 : Nat → List Nat → Int → Nat → List Nat → Option R) (lg33L7 : Nat → Nat → List Nat → Int → Int → Nat → List Nat → Option R) 
    (hg33L4 : ∀ (s : St) (x0 : Nat) (x1 : List Nat) (x2 : Int) (x3 : Nat) (x4 : List Nat), keep g33an 4 s = ⟨[(3, (sL 3000 none x0 1)), (11, (aN .u64 4 x1)), (12, (i6 x2))], [(3000, ⟨[.nums .u8 x3 x4], 5, 2⟩)]⟩ → g33V A n (pth 151) m0 (blockK 0 (g33Q A n (pth 31) (g33T kk))) s = lg33L4 x0 x1 x2 x3 x4)
    (hg33L7 : ∀ (s : St) (x0 x1 : Nat) (x2 : List Nat) (x3 x4 : Int) (x5 : Nat) (x6 : List Nat), keep g33an 7 s = ⟨[(3, (sL 3000 none x0 1)), (5, (u64v x1)), (11, (aN .u64 4 x2)), (12, (i6 x3)), (15, (i6 x4))], [(3000, ⟨[.nums .u8 x5 x6], 5, 2⟩)]⟩ → g33V A n (pth 39319) m1 (blockK 2 (blockK 1 (g33Q A n (pth 1943) (g33W A n (pth 151) m0 (blockK 0 (g33Q A n (pth 31) (g33T kk))))))) s = lg33L7 x0 x1 x2 x3 x4 x5 x6) (s : St) (x0 x1 : Nat) (x2 : List Nat) (x3 x4 : Int) (x5 : Nat) (x6 : List Nat) (h : keep g33an 8 s = ⟨[(3, (sL 3000 none x0 1)), (5, (u64v x1)), (11, (aN .u64 4 x2)), (12, (i6 x3)), (15, (i6 x4))], [(3000, ⟨[.nums .u8 x5 x6], 5, 2⟩)]⟩) :
    g33D A n (pth 235927) (g33W A n (pth 39319) m1 (blockK 2 (blockK 1 (g33Q A n (pth 1943) (g33W A n (pth 151) m0 (blockK 0 (g33Q A n (pth 31) (g33T kk)))))))) s = g33J8 A n kk lg33L4 lg33L7 x0 x1 x2 x3 x4 x5 x6 := by
  have h1 := (g33Wn A n _ _ _ _).trans (hg33L7 (g33R10s0 A ((x6 ++ ([A.n2n .u8 (A.nsh .shr .u64 x1 (A.toN (A.ib .mul .i64 8 x4)))].take 1)).length) x1 x2 x3 x4 ((x6 ++ ([A.n2n .u8 (A.nsh .shr .u64 x1 (A.toN (A.ib .mul .i64 8 x4)))].take 1)).length) (x6 ++ ([A.n2n .u8 (A.nsh .shr .u64 x1 (A.toN (A.ib .mul .i64 8 x4)))].take 1))) ((x6 ++ ([A.n2n .u8 (A.nsh .shr .u64 x1 (A.toN (A.ib .mul .i64 8 x4)))].take 1)).length) x1 x2 x3 (A.ib .add .i64 x4 1) ((x6 ++ ([A.n2n .u8 (A.nsh .shr .u64 x1 (A.toN (A.ib .mul .i64 8 x4)))].take 1)).length) (x6 ++ ([A.n2n .u8 (A.nsh .shr .u64 x1 (A.toN (A.ib .mul .i64 8 x4)))].take 1)) (by kernel_rfl))
  have h2 := (g33F A n _ 10 _ (g33R9s0 A x0 x1 x4 x2 x3 x4 x5 x6) _ (by kernel_rfl) (by kernel_rfl)).trans (g33R10 A n (g33W A n (pth 39319) m1 (blockK 2 (blockK 1 (g33Q A n (pth 1943) (g33W A n (pth 151) m0 (blockK 0 (g33Q A n (pth 31) (g33T kk)))))))) ((x6 ++ ([A.n2n .u8 (A.nsh .shr .u64 x1 (A.toN (A.ib .mul .i64 8 x4)))].take 1)).length) x1 x2 x3 x4 ((x6 ++ ([A.n2n .u8 (A.nsh .shr .u64 x1 (A.toN (A.ib .mul .i64 8 x4)))].take 1)).length) (x6 ++ ([A.n2n .u8 (A.nsh .shr .u64 x1 (A.toN (A.ib .mul .i64 8 x4)))].take 1)))
  rw [h1] at h2
  have h3 := (g33Qn A n _ _ _).trans h2
  have h4 := (blockK_n 3 _ _).trans h3
  have h5 := (g33F A n _ 9 _ (g33R8s0 A x0 x1 x2 x3 x4 x5 x6) _ (by kernel_rfl) (by kernel_rfl)).trans (g33R9 A n (blockK 3 (g33Q A n (pth 498071) (g33W A n (pth 39319) m1 (blockK 2 (blockK 1 (g33Q A n (pth 1943) (g33W A n (pth 151) m0 (blockK 0 (g33Q A n (pth 31) (g33T kk)))))))))) x0 x1 x4 x2 x3 x4 x5 x6)
  rw [h4] at h5
  have h6 := (g33Qn A n _ _ _).trans h5
  have h7 := (g33F A n _ 8 _ ⟨[(3, (sL 3000 none x0 1)), (5, (u64v x1)), (11, (aN .u64 4 x2)), (12, (i6 x3)), (15, (i6 x4))], [(3000, ⟨[.nums .u8 x5 x6], 5, 2⟩)]⟩ _ (by kernel_rfl) (by kernel_rfl)).trans (g33R8 A n (g33Q A n (pth 1677719) (blockK 3 (g33Q A n (pth 498071) (g33W A n (pth 39319) m1 (blockK 2 (blockK 1 (g33Q A n (pth 1943) (g33W A n (pth 151) m0 (blockK 0 (g33Q A n (pth 31) (g33T kk))))))))))) x0 x1 x2 x3 x4 x5 x6)
  rw [h6] at h7
  have h8 := (g33p629143 A n _ _).trans h7
  have h9 := (g33p366999 A n _ _).trans h8
  have h10 := (g33p235927 A n _ _).trans h9
  exact (g33F A n _ 8 _ _ ⟨[(3, (sL 3000 none x0 1)), (5, (u64v x1)), (11, (aN .u64 4 x2)), (12, (i6 x3)), (15, (i6 x4))], [(3000, ⟨[.nums .u8 x5 x6], 5, 2⟩)]⟩ (by kernel_rfl) (h.trans (by kernel_rfl))).trans (h10.trans (by kernel_rfl))
def g33L7 {R : Type} (A : Ar) (n : Nat) (kk : AV → Heap → Option R) (lg33L4 : Nat → List Nat → Int → Nat → List Nat → Option R) : Nat → Nat → Nat → List Nat → Int → Int → Nat → List Nat → Option R
  | 0, _, _, _, _, _, _, _ => none
  | m + 1, x0, x1, x2, x3, x4, x5, x6 => match (generalizing := false) A.ic .lss x4 8 with
  | true => g33J8 A n kk lg33L4 (g33L7 A n kk lg33L4 m) x0 x1 x2 x3 x4 x5 x6
  | false => lg33L4 x0 x2 (A.ib .add .i64 x3 1) x5 x6
set_option maxRecDepth 100000 in
theorem g33L7_eq {R : Type} (A : Ar) (n : Nat) (kk : AV → Heap → Option R) (m0 : Nat) (lg33L4 : Nat → List Nat → Int → Nat → List Nat → Option R) 
    (hg33L4 : ∀ (s : St) (x0 : Nat) (x1 : List Nat) (x2 : Int) (x3 : Nat) (x4 : List Nat), keep g33an 4 s = ⟨[(3, (sL 3000 none x0 1)), (11, (aN .u64 4 x1)), (12, (i6 x2))], [(3000, ⟨[.nums .u8 x3 x4], 5, 2⟩)]⟩ → g33V A n (pth 151) m0 (blockK 0 (g33Q A n (pth 31) (g33T kk))) s = lg33L4 x0 x1 x2 x3 x4) (m : Nat) (s : St) (x0 x1 : Nat) (x2 : List Nat) (x3 x4 : Int) (x5 : Nat) (x6 : List Nat) (h : keep g33an 7 s = ⟨[(3, (sL 3000 none x0 1)), (5, (u64v x1)), (11, (aN .u64 4 x2)), (12, (i6 x3)), (15, (i6 x4))], [(3000, ⟨[.nums .u8 x5 x6], 5, 2⟩)]⟩) :
    g33V A n (pth 39319) m (blockK 2 (blockK 1 (g33Q A n (pth 1943) (g33W A n (pth 151) m0 (blockK 0 (g33Q A n (pth 31) (g33T kk))))))) s = g33L7 A n kk lg33L4 m x0 x1 x2 x3 x4 x5 x6 := by
  induction m generalizing s x0 x1 x2 x3 x4 x5 x6 with
  | zero => rfl
  | succ m ih =>
    have h1 := (g33Qn A n _ _ _).trans (g33J8_eq A n kk m0 m lg33L4 (g33L7 A n kk lg33L4 m) hg33L4 ih  (g33R7s0 A x0 x1 x2 x3 x4 x5 x6) x0 x1 x2 x3 x4 x5 x6 (by kernel_rfl))
    have h2 := (g33p301463 A n _ _).trans h1
    have h3 := (g33Wn A n _ _ _ _).trans (hg33L4 (g33R11s0 A x0 x2 x3 x5 x6) x0 x2 (A.ib .add .i64 x3 1) x5 x6 (by kernel_rfl))
    have h4 := (g33F A n _ 11 _ (g33R7s0 A x0 x1 x2 x3 x4 x5 x6) _ (by kernel_rfl) (by kernel_rfl)).trans (g33R11 A n (g33W A n (pth 151) m0 (blockK 0 (g33Q A n (pth 31) (g33T kk)))) x0 x2 x3 x5 x6)
    rw [h3] at h4
    have h5 := (g33Qn A n _ _ _).trans h4
    have h6 := (blockK_n 1 _ _).trans h5
    have h7 := (blockK_hit 2 _ _).trans h6
    have h8 := (g33We A n (pth 39319) m _ _ _).trans h7
    have h9 := (g33Qe A n (pth 235927) _ _ _).trans h8
    have h10 := (g33p432535 A n _ _).trans h9
    have h11 := g33p170391 A n (g33Q A n (pth 235927) (g33W A n (pth 39319) m (blockK 2 (blockK 1 (g33Q A n (pth 1943) (g33W A n (pth 151) m0 (blockK 0 (g33Q A n (pth 31) (g33T kk))))))))) (g33R7s0 A x0 x1 x2 x3 x4 x5 x6) (A.ic .lss x4 8) (by kernel_rfl)
    rw [h2, h10] at h11
    have h12 := (g33p104855 A n _ _).trans h11
    have h13 := (g33Qn A n _ _ _).trans h12
    have h14 := (g33F A n _ 7 _ ⟨[(3, (sL 3000 none x0 1)), (5, (u64v x1)), (11, (aN .u64 4 x2)), (12, (i6 x3)), (15, (i6 x4))], [(3000, ⟨[.nums .u8 x5 x6], 5, 2⟩)]⟩ _ (by kernel_rfl) (by kernel_rfl)).trans (g33R7 A n (g33Q A n (pth 104855) (g33W A n (pth 39319) m (blockK 2 (blockK 1 (g33Q A n (pth 1943) (g33W A n (pth 151) m0 (blockK 0 (g33Q A n (pth 31) (g33T kk))))))))) x0 x1 x2 x3 x4 x5 x6)
    rw [h13] at h14
    have h15 := (g33p39319 A n _ _).trans h14
    exact (loopD_first (s' := ⟨[(3, (sL 3000 none x0 1)), (5, (u64v x1)), (11, (aN .u64 4 x2)), (12, (i6 x3)), (15, (i6 x4))], [(3000, ⟨[.nums .u8 x5 x6], 5, 2⟩)]⟩) (id := 7) (by kernel_rfl) (h.trans (by kernel_rfl)) _).trans ((g33Vs A n _ m _ _).trans (h15.trans (by kernel_rfl)))
def g33J5 {R : Type} (A : Ar) (n : Nat) (kk : AV → Heap → Option R) (lg33L4 : Nat → List Nat → Int → Nat → List Nat → Option R) (x0 : Nat) (x1 : List Nat) (x2 : Int) (x3 : Nat) (x4 : List Nat) : Option R :=
  match (generalizing := false) A.neg x2 with
  | true => none
  | false => match (generalizing := false) A.lt (A.toN x2) 4 with
    | true => g33L7 A n kk lg33L4 n x0 (x1.getD (A.toN x2) 0) x1 x2 0 x3 x4
    | false => none
set_option maxRecDepth 100000 in
theorem g33J5_eq {R : Type} (A : Ar) (n : Nat) (kk : AV → Heap → Option R) (m0 : Nat) (lg33L4 : Nat → List Nat → Int → Nat → List Nat → Option R) 
    (hg33L4 : ∀ (s : St) (x0 : Nat) (x1 : List Nat) (x2 : Int) (x3 : Nat) (x4 : List Nat), keep g33an 4 s = ⟨[(3, (sL 3000 none x0 1)), (11, (aN .u64 4 x1)), (12, (i6 x2))], [(3000, ⟨[.nums .u8 x3 x4], 5, 2⟩)]⟩ → g33V A n (pth 151) m0 (blockK 0 (g33Q A n (pth 31) (g33T kk))) s = lg33L4 x0 x1 x2 x3 x4) (s : St) (x0 : Nat) (x1 : List Nat) (x2 : Int) (x3 : Nat) (x4 : List Nat) (h : keep g33an 5 s = ⟨[(3, (sL 3000 none x0 1)), (11, (aN .u64 4 x1)), (12, (i6 x2))], [(3000, ⟨[.nums .u8 x3 x4], 5, 2⟩)]⟩) :
    g33D A n (pth 919) (g33W A n (pth 151) m0 (blockK 0 (g33Q A n (pth 31) (g33T kk)))) s = g33J5 A n kk lg33L4 x0 x1 x2 x3 x4 := by
  have h1 := (g33p22935 A n _ _).trans (g33L7_eq A n kk m0 lg33L4 hg33L4 n (g33R6s0 A x0 (x1.getD (A.toN x2) 0) x1 x2 x3 x4) x0 (x1.getD (A.toN x2) 0) x1 x2 0 x3 x4 (by kernel_rfl))
  have h2 := (g33p14743 A n _ _).trans h1
  have h3 := (g33Qn A n _ _ _).trans h2
  have h4 := (g33F A n _ 6 _ (g33R5s0 A x0 x1 x2 x3 x4) _ (by kernel_rfl) (by kernel_rfl)).trans (g33R6 A n (g33Q A n (pth 14743) (blockK 1 (g33Q A n (pth 1943) (g33W A n (pth 151) m0 (blockK 0 (g33Q A n (pth 31) (g33T kk))))))) x0 (x1.getD (A.toN x2) 0) x1 x2 x3 x4)
  rw [h3] at h4
  have h5 := (g33p6551 A n _ _).trans h4
  have h6 := (g33Qn A n _ _ _).trans h5
  have h7 := (g33F A n _ 5 _ ⟨[(3, (sL 3000 none x0 1)), (11, (aN .u64 4 x1)), (12, (i6 x2))], [(3000, ⟨[.nums .u8 x3 x4], 5, 2⟩)]⟩ _ (by kernel_rfl) (by kernel_rfl)).trans (g33R5 A n (g33Q A n (pth 6551) (blockK 1 (g33Q A n (pth 1943) (g33W A n (pth 151) m0 (blockK 0 (g33Q A n (pth 31) (g33T kk))))))) x0 x1 x2 x3 x4)
  rw [h6] at h7
  have h8 := (g33p2455 A n _ _).trans h7
  have h9 := (g33p1431 A n _ _).trans h8
  have h10 := (g33p919 A n _ _).trans h9
  exact (g33F A n _ 5 _ _ ⟨[(3, (sL 3000 none x0 1)), (11, (aN .u64 4 x1)), (12, (i6 x2))], [(3000, ⟨[.nums .u8 x3 x4], 5, 2⟩)]⟩ (by kernel_rfl) (h.trans (by kernel_rfl))).trans (h10.trans (by kernel_rfl))
def g33L4 {R : Type} (A : Ar) (n : Nat) (kk : AV → Heap → Option R)  : Nat → Nat → List Nat → Int → Nat → List Nat → Option R
  | 0, _, _, _, _, _ => none
  | m + 1, x0, x1, x2, x3, x4 => match (generalizing := false) A.ic .lss x2 4 with
  | true => g33J5 A n kk (g33L4 A n kk  m) x0 x1 x2 x3 x4
  | false => kk (tS (x4.take x0)) [(3000, ⟨[.nums .u8 x3 x4], 5, 2⟩)]
set_option maxRecDepth 100000 in
theorem g33L4_eq {R : Type} (A : Ar) (n : Nat) (kk : AV → Heap → Option R)    (m : Nat) (s : St) (x0 : Nat) (x1 : List Nat) (x2 : Int) (x3 : Nat) (x4 : List Nat) (h : keep g33an 4 s = ⟨[(3, (sL 3000 none x0 1)), (11, (aN .u64 4 x1)), (12, (i6 x2))], [(3000, ⟨[.nums .u8 x3 x4], 5, 2⟩)]⟩) :
    g33V A n (pth 151) m (blockK 0 (g33Q A n (pth 31) (g33T kk))) s = g33L4 A n kk  m x0 x1 x2 x3 x4 := by
  induction m generalizing s x0 x1 x2 x3 x4 with
  | zero => rfl
  | succ m ih =>
    have h1 := (g33Qn A n _ _ _).trans (g33J5_eq A n kk m (g33L4 A n kk  m) ih  (g33R4s0 A x0 x1 x2 x3 x4) x0 x1 x2 x3 x4 (by kernel_rfl))
    have h2 := (g33p1175 A n _ _).trans h1
    have h3 : (g33T kk) .ret (g33R12s0 A x0 x3 x4) = kk (tS (x4.take x0)) [(3000, ⟨[.nums .u8 x3 x4], 5, 2⟩)] := by kernel_rfl
    have h4 := (g33p63 A n _ _).trans h3
    have h5 := (g33Qn A n _ _ _).trans h4
    have h6 := (g33F A n _ 12 _ (g33R4s0 A x0 x1 x2 x3 x4) _ (by kernel_rfl) (by kernel_rfl)).trans (g33R12 A n (g33Q A n (pth 63) (g33T kk)) x0 x3 x4)
    rw [h5] at h6
    have h7 := (g33p31 A n _ _).trans h6
    have h8 := (g33Qn A n _ _ _).trans h7
    have h9 := (blockK_hit 0 _ _).trans h8
    have h10 := (g33We A n (pth 151) m _ _ _).trans h9
    have h11 := (g33Qe A n (pth 919) _ _ _).trans h10
    have h12 := (g33p1687 A n _ _).trans h11
    have h13 := g33p663 A n (g33Q A n (pth 919) (g33W A n (pth 151) m (blockK 0 (g33Q A n (pth 31) (g33T kk))))) (g33R4s0 A x0 x1 x2 x3 x4) (A.ic .lss x2 4) (by kernel_rfl)
    rw [h2, h12] at h13
    have h14 := (g33p407 A n _ _).trans h13
    have h15 := (g33Qn A n _ _ _).trans h14
    have h16 := (g33F A n _ 4 _ ⟨[(3, (sL 3000 none x0 1)), (11, (aN .u64 4 x1)), (12, (i6 x2))], [(3000, ⟨[.nums .u8 x3 x4], 5, 2⟩)]⟩ _ (by kernel_rfl) (by kernel_rfl)).trans (g33R4 A n (g33Q A n (pth 407) (g33W A n (pth 151) m (blockK 0 (g33Q A n (pth 31) (g33T kk))))) x0 x1 x2 x3 x4)
    rw [h15] at h16
    have h17 := (g33p151 A n _ _).trans h16
    exact (loopD_first (s' := ⟨[(3, (sL 3000 none x0 1)), (11, (aN .u64 4 x1)), (12, (i6 x2))], [(3000, ⟨[.nums .u8 x3 x4], 5, 2⟩)]⟩) (id := 4) (by kernel_rfl) (h.trans (by kernel_rfl)) _).trans ((g33Vs A n _ m _ _).trans (h17.trans (by kernel_rfl)))
def g33 {R : Type} (A : Ar) (n : Nat) (kk : AV → Heap → Option R) (a : List Nat) : Option R :=
  match (generalizing := false) g37ok A a with
  | true => match (generalizing := false) g38ok A (g37r0 A a) with
    | true => match (generalizing := false) A.le 0 32 with
      | true => match (generalizing := false) A.le 32 140737488355328 with
        | true => g33L4 A n kk  n 0 (g38r0 A (g37r0 A a)) 0 0 (List.replicate 0 0)
        | false => none
      | false => none
    | false => none
  | false => none
set_option maxRecDepth 100000 in
theorem g33_eq {R : Type} (A : Ar) (n : Nat) (kk : AV → Heap → Option R) (a : List Nat) :
    funD A gtys (g33O A) g33an n (bodyOf Try.f33) g33res [(aN .u64 4 a)] [] kk = g33 A n kk a := by
  have h1 := (g33p87 A n _ _).trans (g33L4_eq A n kk    n (g33R3s0 A 0 (g38r0 A (g37r0 A a)) 0 (List.replicate 0 0)) 0 (g38r0 A (g37r0 A a)) 0 0 (List.replicate 0 0) (by kernel_rfl))
  have h2 := (g33p55 A n _ _).trans h1
  have h3 := (g33Qn A n _ _ _).trans h2
  have h4 := (g33F A n _ 3 _ (g33R2s0 A (g38r0 A (g37r0 A a))) _ (by kernel_rfl) (by kernel_rfl)).trans (g33R3 A n (g33Q A n (pth 55) (g33Q A n (pth 31) (g33T kk))) 0 (g38r0 A (g37r0 A a)) 0 (List.replicate 0 0))
  rw [h3] at h4
  have h5 := (g33p23 A n _ _).trans h4
  have h6 := (g33p15 A n _ _).trans h5
  have h7 := (g33Qn A n _ _ _).trans h6
  have h8 := (g33F A n _ 2 _ (g33R1s0 A a) _ (by kernel_rfl) (by kernel_rfl)).trans (g33R2 A n (g33Q A n (pth 15) (g33T kk)) (g38r0 A (g37r0 A a)))
  rw [h7] at h8
  have h9 := (g33p7 A n _ _).trans h8
  have h10 := (g33Qn A n _ _ _).trans h9
  have h11 := (g33F A n _ 1 _ (g33R0s0 A a) _ (by kernel_rfl) (by kernel_rfl)).trans (g33R1 A n (g33Q A n (pth 7) (g33T kk)) a)
  rw [h10] at h11
  have h12 := (g33p3 A n _ _).trans h11
  have h13 := (g33Qn A n _ _ _).trans h12
  have h14 := (g33F A n _ 0 _ ⟨[(0, (aN .u64 4 a))], []⟩ _ (by kernel_rfl) (by kernel_rfl)).trans (g33R0 A n (g33Q A n (pth 3) (g33T kk)) a)
  rw [h13] at h14
  have h15 := (g33p1 A n _ _).trans h14
  exact (show funD A gtys (g33O A) g33an n (bodyOf Try.f33) g33res [(aN .u64 4 a)] [] kk = g33D A n (pth 1) (g33T kk) ⟨[(0, (aN .u64 4 a))], []⟩ from by kernel_rfl).trans (h15.trans (by kernel_rfl))
def g33is (o : Option AV) : Bool := match o with
  | some (.v (.cell (.str _))) => true
  | _ => false
def g33g0 (o : Option AV) : List Nat := match o with
  | some (.v (.cell (.str x))) => x
  | _ => []
theorem g33is_spec {o : Option AV} (h : g33is o = true) : o = some (.v (.cell (.str (g33g0 o)))) := by
  unfold g33is at h
  split at h
  · rfl
  · cases h
def g33v (A : Ar) (a : List Nat) : Option AV := g33 A (100000) (fun v _ => some v) a
def g33ok (A : Ar) (a : List Nat) : Bool := g33is (g33v A a)
def g33r0 (A : Ar) (a : List Nat) : List Nat := g33g0 (g33v A a)
theorem g33ok_spec {A : Ar} {a} (h : g33ok A a = true) : g33v A a = some (.v (.cell (.str (g33r0 A a)))) := g33is_spec h
def g33o (A : Ar) (args : List AV) : Option (Bool × AV) := match args with
  | [.v (.agg [.nums .u64 n0 a])] => some (Nat.beq n0 4 && (g33ok A a), .v (.cell (.str (g33r0 A a))))
  | _ => none
theorem g33o_sound : ∀ args v, g33o realA args = some (true, v) → Fn1 Try.prog 33 args v := by
  intro args v h
  unfold g33o at h
  split at h
  · rename_i n0 a
    simp only [Option.some.injEq, Prod.mk.injEq] at h
    obtain ⟨hc, h⟩ := h
    subst h
    · skip
      simp only [Bool.and_eq_true] at hc
      have en0 := beq_true hc.1
      subst en0
      replace hc := hc.2
      exact fn1_of mixed gtysOK g33O_sound g33O_det (an := g33an) (n := 100000) Try.func33 (c := bodyOf Try.f33) rfl (by kernel_rfl) Try.call33 (Nat.le_of_ble_eq_true rfl) (fun b => rfl) (fun _ => (g33_eq realA (100000) (fun v _ => some v) a).trans (show g33v realA a = _ from g33ok_spec hc))
  · cases h
/- engrosser/field.Make -/
def g29O (A : Ar) : Orc := orcOf [(20, g20o A)]
theorem g29O_sound : OSound Try.prog (g29O realA) := orc_sound fun f g hm args v hv => by
  simp only [List.mem_cons, List.not_mem_nil, or_false, Prod.mk.injEq] at hm
  rcases hm with ⟨rfl, rfl⟩
  · exact g20o_sound _ _ hv
theorem g29O_det : ODet (g29O realA) := orc_det _
def g29an : Ann := [(0, ([0], [])), (1, ([0, 2], [1000])), (2, ([2], [1000])), (3, ([0, 2], [1000])), (4, ([0, 2, 4], [1000, 4000])), (5, ([0, 2, 4, 11], [1000, 4000])), (6, ([0, 2, 4, 11], [1000, 4000])), (7, ([0, 2, 4, 5, 11], [1000, 4000])), (8, ([0, 2, 4, 5, 11, 14], [1000, 4000])), (9, ([0, 2, 4, 5, 11, 14], [1000, 4000])), (10, ([0, 2, 4, 5, 6, 11, 14], [1000, 4000])), (11, ([0, 2, 4, 5, 11, 14], [1000, 4000])), (12, ([0, 2, 4, 11], [1000, 4000])), (13, ([2, 4], [1000, 4000])), (14, ([2], [1000])), (15, ([2, 4], [1000, 4000]))]
def g29res : List ResultVar := [.cell 2 24, .tmp 3]
noncomputable def g29D {R : Type} (A : Ar) (n : Nat) (p : List Bool) (K : Ex → St → Option R) (s : St) : Option R := codeD A gtys (g29O A) g29an n (sub (bodyOf Try.f29) p) K s
noncomputable def g29V {R : Type} (A : Ar) (n : Nat) (p : List Bool) (m : Nat) (K : Ex → St → Option R) (s : St) : Option R := loopD (fun K' s'' => codeD A gtys (g29O A) g29an n (sub (bodyOf Try.f29) p) K' s'') m K s
noncomputable def g29Q {R : Type} (A : Ar) (n : Nat) (p : List Bool) (K : Ex → St → Option R) : Ex → St → Option R := seqC (g29D A n p K) K
noncomputable def g29W {R : Type} (A : Ar) (n : Nat) (p : List Bool) (m : Nat) (K : Ex → St → Option R) : Ex → St → Option R := seqC (g29V A n p m K) K
noncomputable def g29T {R : Type} (kk : AV → Heap → Option R) : Ex → St → Option R := finD gtys g29res kk
theorem g29Qn {R : Type} (A : Ar) (n : Nat) (p : List Bool) (K : Ex → St → Option R) (s : St) : g29Q A n p K .normal s = g29D A n p K s := rfl
theorem g29Qe {R : Type} (A : Ar) (n : Nat) (p : List Bool) (K : Ex → St → Option R) (i : Nat) (s : St) : g29Q A n p K (.exit i) s = K (.exit i) s := rfl
theorem g29Qr {R : Type} (A : Ar) (n : Nat) (p : List Bool) (K : Ex → St → Option R) (s : St) : g29Q A n p K .ret s = K .ret s := rfl
theorem g29Wn {R : Type} (A : Ar) (n : Nat) (p : List Bool) (m : Nat) (K : Ex → St → Option R) (s : St) : g29W A n p m K .normal s = g29V A n p m K s := rfl
theorem g29We {R : Type} (A : Ar) (n : Nat) (p : List Bool) (m : Nat) (K : Ex → St → Option R) (i : Nat) (s : St) : g29W A n p m K (.exit i) s = K (.exit i) s := rfl
theorem g29Vs {R : Type} (A : Ar) (n : Nat) (p : List Bool) (m : Nat) (K : Ex → St → Option R) (s : St) : g29V A n p (m + 1) K s = g29D A n p (g29W A n p m K) s := rfl
theorem g29F {R : Type} (A : Ar) (n : Nat) (p : List Bool) (i : Nat) (K : Ex → St → Option R) (s s' : St) (hf : firstReg (sub (bodyOf Try.f29) p) = some i) (h : keep g29an i s = keep g29an i s') : g29D A n p K s = g29D A n p K s' := codeD_first hf h K
section
variable {R : Type} (A : Ar) (n : Nat) (K : Ex → St → Option R) (s : St)
theorem g29p1 : g29D A n (pth 1) K s = g29D A n (pth 2) (g29Q A n (pth 3) K) s := by kernel_rfl
theorem g29p3 : g29D A n (pth 3) K s = g29D A n (pth 5) (g29Q A n (pth 7) K) s := by kernel_rfl
theorem g29p5 : g29D A n (pth 5) K s = g29D A n (pth 9) (g29Q A n (pth 13) K) s := by kernel_rfl
theorem g29p13 (t : Bool) : ev s (.tmp 9) = some (.v (.cell (.bool t))) → g29D A n (pth 13) K s = (match t with
    | true => g29D A n (pth 21) K s
    | false => g29D A n (pth 29) K s) := codeD_cond t
theorem g29p21 : g29D A n (pth 21) K s = g29D A n (pth 37) (g29Q A n (pth 53) K) s := by kernel_rfl
theorem g29p53 : g29D A n (pth 53) K s = K .ret s := by kernel_rfl
theorem g29p29 : g29D A n (pth 29) K s = K .normal s := by kernel_rfl
theorem g29p7 : g29D A n (pth 7) K s = g29D A n (pth 11) (g29Q A n (pth 15) K) s := by kernel_rfl
theorem g29p15 : g29D A n (pth 15) K s = g29D A n (pth 23) (g29Q A n (pth 31) K) s := by kernel_rfl
theorem g29p23 : g29D A n (pth 23) K s = g29D A n (pth 39) (g29Q A n (pth 55) K) s := by kernel_rfl
theorem g29p55 : g29D A n (pth 55) K s = g29D A n (pth 87) (blockK 0 K) s := by kernel_rfl
theorem g29p87 : g29D A n (pth 87) K s = g29V A n (pth 151) n K s := by kernel_rfl
theorem g29p151 : g29D A n (pth 151) K s = g29D A n (pth 279) (g29Q A n (pth 407) K) s := by kernel_rfl
theorem g29p407 : g29D A n (pth 407) K s = g29D A n (pth 663) (g29Q A n (pth 919) K) s := by kernel_rfl
theorem g29p663 (t : Bool) : ev s (.tmp 12) = some (.v (.cell (.bool t))) → g29D A n (pth 663) K s = (match t with
    | true => g29D A n (pth 1175) K s
    | false => g29D A n (pth 1687) K s) := codeD_cond t
theorem g29p1175 : g29D A n (pth 1175) K s = K .normal s := by kernel_rfl
theorem g29p1687 : g29D A n (pth 1687) K s = K (.exit 0) s := by kernel_rfl
theorem g29p919 : g29D A n (pth 919) K s = g29D A n (pth 1431) (g29Q A n (pth 1943) K) s := by kernel_rfl
theorem g29p1431 : g29D A n (pth 1431) K s = g29D A n (pth 2455) (blockK 1 K) s := by kernel_rfl
theorem g29p2455 : g29D A n (pth 2455) K s = g29D A n (pth 4503) (g29Q A n (pth 6551) K) s := by kernel_rfl
theorem g29p6551 : g29D A n (pth 6551) K s = g29D A n (pth 10647) (g29Q A n (pth 14743) K) s := by kernel_rfl
theorem g29p14743 : g29D A n (pth 14743) K s = g29D A n (pth 22935) (blockK 2 K) s := by kernel_rfl
theorem g29p22935 : g29D A n (pth 22935) K s = g29V A n (pth 39319) n K s := by kernel_rfl
theorem g29p39319 : g29D A n (pth 39319) K s = g29D A n (pth 72087) (g29Q A n (pth 104855) K) s := by kernel_rfl
theorem g29p104855 : g29D A n (pth 104855) K s = g29D A n (pth 170391) (g29Q A n (pth 235927) K) s := by kernel_rfl
theorem g29p170391 (t : Bool) : ev s (.tmp 15) = some (.v (.cell (.bool t))) → g29D A n (pth 170391) K s = (match t with
    | true => g29D A n (pth 301463) K s
    | false => g29D A n (pth 432535) K s) := codeD_cond t
theorem g29p301463 : g29D A n (pth 301463) K s = K .normal s := by kernel_rfl
theorem g29p432535 : g29D A n (pth 432535) K s = K (.exit 2) s := by kernel_rfl
theorem g29p235927 : g29D A n (pth 235927) K s = g29D A n (pth 366999) (g29Q A n (pth 498071) K) s := by kernel_rfl
theorem g29p366999 : g29D A n (pth 366999) K s = g29D A n (pth 629143) (blockK 3 K) s := by kernel_rfl
theorem g29p629143 : g29D A n (pth 629143) K s = g29D A n (pth 1153431) (g29Q A n (pth 1677719) K) s := by kernel_rfl
theorem g29p31 : g29D A n (pth 31) K s = g29D A n (pth 47) (g29Q A n (pth 63) K) s := by kernel_rfl
theorem g29p47 : g29D A n (pth 47) K s = g29D A n (pth 79) (g29Q A n (pth 111) K) s := by kernel_rfl
theorem g29p111 (t : Bool) : ev s (.tmp 36) = some (.v (.cell (.bool t))) → g29D A n (pth 111) K s = (match t with
    | true => g29D A n (pth 175) K s
    | false => g29D A n (pth 239) K s) := codeD_cond t
theorem g29p175 : g29D A n (pth 175) K s = g29D A n (pth 303) (g29Q A n (pth 431) K) s := by kernel_rfl
theorem g29p431 : g29D A n (pth 431) K s = K .ret s := by kernel_rfl
theorem g29p239 : g29D A n (pth 239) K s = K .normal s := by kernel_rfl
theorem g29p63 : g29D A n (pth 63) K s = g29D A n (pth 95) (g29Q A n (pth 127) K) s := by kernel_rfl
theorem g29p127 : g29D A n (pth 127) K s = K .ret s := by kernel_rfl
def g29R9s0 (A : Ar) (x0 : List Nat) (x1 x2 x3 : Int) (x4 x5 : List Nat) : St := ⟨[(6, (i6 x3)), (16, (i6 x3)), (0, (tS x0)), (2, (pT 1000 0)), (4, (pT 4000 0)), (5, (i6 x1)), (11, (i6 x2)), (14, (i6 x3))], [(1000, (bU 4 x4 24)), (4000, (bU 4 x5 24))]⟩
theorem g29R9 (x0 : List Nat) (x1 x2 x3 : Int) (x4 x5 : List Nat) : g29D A n (pth 1153431) K ⟨[(0, (tS x0)), (2, (pT 1000 0)), (4, (pT 4000 0)), (5, (i6 x1)), (11, (i6 x2)), (14, (i6 x3))], [(1000, (bU 4 x4 24)), (4000, (bU 4 x5 24))]⟩ = K .normal (g29R9s0 A x0 x1 x2 x3 x4 x5) := by kernel_rfl
def g29R10s0 (A : Ar) (x0 : List Nat) (x1 x2 : Int) (x3 x4 : Int) (x5 x6 : List Nat) : St := ⟨[(31, (.v (.cell (.ptr 4000 0 (some ⟨A.toN x1, 1, 4, 0, 0, 0⟩))))), (30, (u64v (A.nb .or .u64 (x6.getD (A.toN x1) 0) (A.nsh .shl .u64 (x0.getD (A.toN (A.ib .add .i64 (A.ib .mul .i64 8 x1) x2)) 0) (A.toN (A.ib .mul .i64 8 x2)))))), (29, (u64v (A.nsh .shl .u64 (x0.getD (A.toN (A.ib .add .i64 (A.ib .mul .i64 8 x1) x2)) 0) (A.toN (A.ib .mul .i64 8 x2))))), (28, (i6 (A.ib .mul .i64 8 x2))), (27, (i6 x2)), (26, (u64v (x0.getD (A.toN (A.ib .add .i64 (A.ib .mul .i64 8 x1) x2)) 0))), (25, (u8v (x0.getD (A.toN (A.ib .add .i64 (A.ib .mul .i64 8 x1) x2)) 0))), (24, (i6 (A.ib .add .i64 (A.ib .mul .i64 8 x1) x2))), (23, (i6 x2)), (22, (i6 (A.ib .mul .i64 8 x1))), (21, (i6 x1)), (20, (tS x0)), (19, (u64v (x6.getD (A.toN x1) 0))), (18, (.v (.cell (.ptr 4000 0 (some ⟨A.toN x1, 1, 4, 0, 0, 0⟩))))), (17, (i6 x1)), (0, (tS x0)), (2, (pT 1000 0)), (4, (pT 4000 0)), (5, (i6 x1)), (6, (i6 x2)), (11, (i6 x3)), (14, (i6 x4))], [(1000, (bU 4 x5 24)), (4000, (bU 4 (x6.set (A.toN x1) (A.nb .or .u64 (x6.getD (A.toN x1) 0) (A.nsh .shl .u64 (x0.getD (A.toN (A.ib .add .i64 (A.ib .mul .i64 8 x1) x2)) 0) (A.toN (A.ib .mul .i64 8 x2))))) 24))]⟩
theorem g29R10 (x0 : List Nat) (x1 x2 : Int) (x3 x4 : Int) (x5 x6 : List Nat) : g29D A n (pth 1677719) K ⟨[(0, (tS x0)), (2, (pT 1000 0)), (4, (pT 4000 0)), (5, (i6 x1)), (6, (i6 x2)), (11, (i6 x3)), (14, (i6 x4))], [(1000, (bU 4 x5 24)), (4000, (bU 4 x6 24))]⟩ = match (generalizing := false) A.neg x1 with
    | true => none
    | false => match (generalizing := false) A.lt (A.toN x1) 4 with
      | true => match (generalizing := false) A.neg (A.ib .add .i64 (A.ib .mul .i64 8 x1) x2) with
        | true => none
        | false => match (generalizing := false) A.lt (A.toN (A.ib .add .i64 (A.ib .mul .i64 8 x1) x2)) x0.length with
          | true => match (generalizing := false) A.neg (A.ib .mul .i64 8 x2) with
            | true => none
            | false => match (generalizing := false) A.neg x1 with
              | true => none
              | false => match (generalizing := false) A.lt (A.toN x1) 4 with
                | true => K .normal (g29R10s0 A x0 x1 x2 x3 x4 x5 x6)
                | false => none
          | false => none
      | false => none := by kernel_rfl
def g29R11s0 (A : Ar) (x0 : List Nat) (x1 x2 x3 : Int) (x4 x5 : List Nat) : St := ⟨[(14, (i6 (A.ib .add .i64 x3 1))), (32, (i6 (A.ib .add .i64 x3 1))), (0, (tS x0)), (2, (pT 1000 0)), (4, (pT 4000 0)), (5, (i6 x1)), (11, (i6 x2)), (14, (i6 x3))], [(1000, (bU 4 x4 24)), (4000, (bU 4 x5 24))]⟩
theorem g29R11 (x0 : List Nat) (x1 x2 x3 : Int) (x4 x5 : List Nat) : g29D A n (pth 498071) K ⟨[(0, (tS x0)), (2, (pT 1000 0)), (4, (pT 4000 0)), (5, (i6 x1)), (11, (i6 x2)), (14, (i6 x3))], [(1000, (bU 4 x4 24)), (4000, (bU 4 x5 24))]⟩ = K .normal (g29R11s0 A x0 x1 x2 x3 x4 x5) := by kernel_rfl
def g29R8s0 (A : Ar) (x0 : List Nat) (x1 x2 x3 : Int) (x4 x5 : List Nat) : St := ⟨[(15, (bO (A.ic .lss x3 8))), (0, (tS x0)), (2, (pT 1000 0)), (4, (pT 4000 0)), (5, (i6 x1)), (11, (i6 x2)), (14, (i6 x3))], [(1000, (bU 4 x4 24)), (4000, (bU 4 x5 24))]⟩
theorem g29R8 (x0 : List Nat) (x1 x2 x3 : Int) (x4 x5 : List Nat) : g29D A n (pth 72087) K ⟨[(0, (tS x0)), (2, (pT 1000 0)), (4, (pT 4000 0)), (5, (i6 x1)), (11, (i6 x2)), (14, (i6 x3))], [(1000, (bU 4 x4 24)), (4000, (bU 4 x5 24))]⟩ = K .normal (g29R8s0 A x0 x1 x2 x3 x4 x5) := by kernel_rfl
def g29R12s0 (A : Ar) (x0 : List Nat) (x1 : Int) (x2 x3 : List Nat) : St := ⟨[(11, (i6 (A.ib .add .i64 x1 1))), (33, (i6 (A.ib .add .i64 x1 1))), (0, (tS x0)), (2, (pT 1000 0)), (4, (pT 4000 0)), (11, (i6 x1))], [(1000, (bU 4 x2 24)), (4000, (bU 4 x3 24))]⟩
theorem g29R12 (x0 : List Nat) (x1 : Int) (x2 x3 : List Nat) : g29D A n (pth 1943) K ⟨[(0, (tS x0)), (2, (pT 1000 0)), (4, (pT 4000 0)), (11, (i6 x1))], [(1000, (bU 4 x2 24)), (4000, (bU 4 x3 24))]⟩ = K .normal (g29R12s0 A x0 x1 x2 x3) := by kernel_rfl
def g29R6s0 (A : Ar) (x0 : List Nat) (x1 : Int) (x2 x3 : List Nat) : St := ⟨[(5, (i6 x1)), (13, (i6 x1)), (0, (tS x0)), (2, (pT 1000 0)), (4, (pT 4000 0)), (11, (i6 x1))], [(1000, (bU 4 x2 24)), (4000, (bU 4 x3 24))]⟩
theorem g29R6 (x0 : List Nat) (x1 : Int) (x2 x3 : List Nat) : g29D A n (pth 4503) K ⟨[(0, (tS x0)), (2, (pT 1000 0)), (4, (pT 4000 0)), (11, (i6 x1))], [(1000, (bU 4 x2 24)), (4000, (bU 4 x3 24))]⟩ = K .normal (g29R6s0 A x0 x1 x2 x3) := by kernel_rfl
def g29R7s0 (A : Ar) (x0 : List Nat) (x1 x2 : Int) (x3 x4 : List Nat) : St := ⟨[(14, (i6 0)), (0, (tS x0)), (2, (pT 1000 0)), (4, (pT 4000 0)), (5, (i6 x1)), (11, (i6 x2))], [(1000, (bU 4 x3 24)), (4000, (bU 4 x4 24))]⟩
theorem g29R7 (x0 : List Nat) (x1 x2 : Int) (x3 x4 : List Nat) : g29D A n (pth 10647) K ⟨[(0, (tS x0)), (2, (pT 1000 0)), (4, (pT 4000 0)), (5, (i6 x1)), (11, (i6 x2))], [(1000, (bU 4 x3 24)), (4000, (bU 4 x4 24))]⟩ = K .normal (g29R7s0 A x0 x1 x2 x3 x4) := by kernel_rfl
def g29R13s0 (A : Ar) (x0 x1 : List Nat) : St := ⟨[(36, (bO (!(g20r0 A x1)))), (35, (bO (g20r0 A x1))), (34, (aN .u64 4 x1)), (2, (pT 1000 0)), (4, (pT 4000 0))], [(1000, (bU 4 x0 24)), (4000, (bU 4 x1 24))]⟩
theorem g29R13 (x0 x1 : List Nat) : g29D A n (pth 79) K ⟨[(2, (pT 1000 0)), (4, (pT 4000 0))], [(1000, (bU 4 x0 24)), (4000, (bU 4 x1 24))]⟩ = match (generalizing := false) g20ok A x1 with
    | true => K .normal (g29R13s0 A x0 x1)
    | false => none := by kernel_rfl
def g29R14s0 (A : Ar) (x0 : List Nat) : St := ⟨[(3, (bO false)), (37, (aN .u64 4 [0, 0, 0, 0])), (2, (pT 1000 0))], [(1000, (bU 4 [0, 0, 0, 0] 24))]⟩
theorem g29R14 (x0 : List Nat) : g29D A n (pth 303) K ⟨[(2, (pT 1000 0))], [(1000, (bU 4 x0 24))]⟩ = K .normal (g29R14s0 A x0) := by kernel_rfl
def g29R15s0 (A : Ar) (x0 x1 : List Nat) : St := ⟨[(3, (bO true)), (38, (aN .u64 4 x1)), (2, (pT 1000 0)), (4, (pT 4000 0))], [(1000, (bU 4 x1 24)), (4000, (bU 4 x1 24))]⟩
theorem g29R15 (x0 x1 : List Nat) : g29D A n (pth 95) K ⟨[(2, (pT 1000 0)), (4, (pT 4000 0))], [(1000, (bU 4 x0 24)), (4000, (bU 4 x1 24))]⟩ = K .normal (g29R15s0 A x0 x1) := by kernel_rfl
def g29R5s0 (A : Ar) (x0 : List Nat) (x1 : Int) (x2 x3 : List Nat) : St := ⟨[(12, (bO (A.ic .lss x1 4))), (0, (tS x0)), (2, (pT 1000 0)), (4, (pT 4000 0)), (11, (i6 x1))], [(1000, (bU 4 x2 24)), (4000, (bU 4 x3 24))]⟩
theorem g29R5 (x0 : List Nat) (x1 : Int) (x2 x3 : List Nat) : g29D A n (pth 279) K ⟨[(0, (tS x0)), (2, (pT 1000 0)), (4, (pT 4000 0)), (11, (i6 x1))], [(1000, (bU 4 x2 24)), (4000, (bU 4 x3 24))]⟩ = K .normal (g29R5s0 A x0 x1 x2 x3) := by kernel_rfl
def g29R3s0 (A : Ar) (x0 x1 : List Nat) : St := ⟨[(4, (pT 4000 0)), (0, (tS x0)), (2, (pT 1000 0))], [(4000, (bU 4 [0, 0, 0, 0] 24)), (1000, (bU 4 x1 24))]⟩
theorem g29R3 (x0 x1 : List Nat) : g29D A n (pth 11) K ⟨[(0, (tS x0)), (2, (pT 1000 0))], [(1000, (bU 4 x1 24))]⟩ = K .normal (g29R3s0 A x0 x1) := by kernel_rfl
def g29R4s0 (A : Ar) (x0 x1 x2 : List Nat) : St := ⟨[(11, (i6 0)), (0, (tS x0)), (2, (pT 1000 0)), (4, (pT 4000 0))], [(1000, (bU 4 x1 24)), (4000, (bU 4 x2 24))]⟩
theorem g29R4 (x0 x1 x2 : List Nat) : g29D A n (pth 39) K ⟨[(0, (tS x0)), (2, (pT 1000 0)), (4, (pT 4000 0))], [(1000, (bU 4 x1 24)), (4000, (bU 4 x2 24))]⟩ = K .normal (g29R4s0 A x0 x1 x2) := by kernel_rfl
def g29R0s0 (A : Ar) (x0 : List Nat) : St := ⟨[(3, (bO false)), (2, (pT 1000 0)), (0, (tS x0))], [(1000, (bU 4 [0, 0, 0, 0] 24))]⟩
theorem g29R0 (x0 : List Nat) : g29D A n (pth 2) K ⟨[(0, (tS x0))], []⟩ = K .normal (g29R0s0 A x0) := by kernel_rfl
def g29R1s0 (A : Ar) (x0 x1 : List Nat) : St := ⟨[(9, (bO (A.ic .neq (A.ofN x0.length) 32))), (8, (i6 (A.ofN x0.length))), (7, (tS x0)), (0, (tS x0)), (2, (pT 1000 0))], [(1000, (bU 4 x1 24))]⟩
theorem g29R1 (x0 x1 : List Nat) : g29D A n (pth 9) K ⟨[(0, (tS x0)), (2, (pT 1000 0))], [(1000, (bU 4 x1 24))]⟩ = K .normal (g29R1s0 A x0 x1) := by kernel_rfl
def g29R2s0 (A : Ar) (x0 : List Nat) : St := ⟨[(3, (bO false)), (10, (aN .u64 4 [0, 0, 0, 0])), (2, (pT 1000 0))], [(1000, (bU 4 [0, 0, 0, 0] 24))]⟩
theorem g29R2 (x0 : List Nat) : g29D A n (pth 37) K ⟨[(2, (pT 1000 0))], [(1000, (bU 4 x0 24))]⟩ = K .normal (g29R2s0 A x0) := by kernel_rfl
end
def g29J9 {R : Type} (A : Ar) (n : Nat) (kk : AV → Heap → Option R) (lg29L5 : List Nat → Int → List Nat → List Nat → Option R) (lg29L8 : List Nat → Int → Int → Int → List Nat → List Nat → Option R) (x0 : List Nat) (x1 x2 x3 : Int) (x4 x5 : List Nat) : Option R :=
  match (generalizing := false) A.neg x1 with
  | true => none
  | false => match (generalizing := false) A.lt (A.toN x1) 4 with
    | true => match (generalizing := false) A.neg (A.ib .add .i64 (A.ib .mul .i64 8 x1) x3) with
      | true => none
      | false => match (generalizing := false) A.lt (A.toN (A.ib .add .i64 (A.ib .mul .i64 8 x1) x3)) x0.length with
        | true => match (generalizing := false) A.neg (A.ib .mul .i64 8 x3) with
          | true => none
          | false => match (generalizing := false) A.neg x1 with
            | true => none
            | false => match (generalizing := false) A.lt (A.toN x1) 4 with
              | true => lg29L8 x0 x1 x2 (A.ib .add .i64 x3 1) x4 (x5.set (A.toN x1) (A.nb .or .u64 (x5.getD (A.toN x1) 0) (A.nsh .shl .u64 (x0.getD (A.toN (A.ib .add .i64 (A.ib .mul .i64 8 x1) x3)) 0) (A.toN (A.ib .mul .i64 8 x3)))))
              | false => none
        | false => none
    | false => none
set_option maxRecDepth 100000 in
theorem g29J9_eq {R : Type} (A : Ar) (n : Nat) (kk : AV → Heap → Option R) (m0 m1 : Nat) (lg29L5 : List Nat → Int → List Nat → List Nat → Option R) (lg29L8 : List Nat → Int → Int → Int → List Nat → List Nat → Option R) 
    (hg29L5 : ∀ (s : St) (x0 : List Nat) (x1 : Int) (x2 x3 : List Nat), keep g29an 5 s = ⟨[(0, (tS x0)), (2, (pT 1000 0)), (4, (pT 4000 0)), (11, (i6 x1))], [(1000, (bU 4 x2 24)), (4000, (bU 4 x3 24))]⟩ → g29V A n (pth 151) m0 (blockK 0 (g29Q A n (pth 31) (g29T kk))) s = lg29L5 x0 x1 x2 x3)
    (hg29L8 : ∀ (s : St) (x0 : List Nat) (x1 x2 x3 : Int) (x4 x5 : List Nat), keep g29an 8 s = ⟨[(0, (tS x0)), (2, (pT 1000 0)), (4, (pT 4000 0)), (5, (i6 x1)), (11, (i6 x2)), (14, (i6 x3))], [(1000, (bU 4 x4 24)), (4000, (bU 4 x5 24))]⟩ → g29V A n (pth 39319) m1 (blockK 2 (blockK 1 (g29Q A n (pth 1943) (g29W A n (pth 151) m0 (blockK 0 (g29Q A n (pth 31) (g29T kk))))))) s = lg29L8 x0 x1 x2 x3 x4 x5) (s : St) (x0 : List Nat) (x1 x2 x3 : Int) (x4 x5 : List Nat) (h : keep g29an 9 s = ⟨[(0, (tS x0)), (2, (pT 1000 0)), (4, (pT 4000 0)), (5, (i6 x1)), (11, (i6 x2)), (14, (i6 x3))], [(1000, (bU 4 x4 24)), (4000, (bU 4 x5 24))]⟩) :
    g29D A n (pth 235927) (g29W A n (pth 39319) m1 (blockK 2 (blockK 1 (g29Q A n (pth 1943) (g29W A n (pth 151) m0 (blockK 0 (g29Q A n (pth 31) (g29T kk)))))))) s = g29J9 A n kk lg29L5 lg29L8 x0 x1 x2 x3 x4 x5 := by
  have h1 := (g29Wn A n _ _ _ _).trans (hg29L8 (g29R11s0 A x0 x1 x2 x3 x4 (x5.set (A.toN x1) (A.nb .or .u64 (x5.getD (A.toN x1) 0) (A.nsh .shl .u64 (x0.getD (A.toN (A.ib .add .i64 (A.ib .mul .i64 8 x1) x3)) 0) (A.toN (A.ib .mul .i64 8 x3)))))) x0 x1 x2 (A.ib .add .i64 x3 1) x4 (x5.set (A.toN x1) (A.nb .or .u64 (x5.getD (A.toN x1) 0) (A.nsh .shl .u64 (x0.getD (A.toN (A.ib .add .i64 (A.ib .mul .i64 8 x1) x3)) 0) (A.toN (A.ib .mul .i64 8 x3))))) (by kernel_rfl))
  have h2 := (g29F A n _ 11 _ (g29R10s0 A x0 x1 x3 x2 x3 x4 x5) _ (by kernel_rfl) (by kernel_rfl)).trans (g29R11 A n (g29W A n (pth 39319) m1 (blockK 2 (blockK 1 (g29Q A n (pth 1943) (g29W A n (pth 151) m0 (blockK 0 (g29Q A n (pth 31) (g29T kk)))))))) x0 x1 x2 x3 x4 (x5.set (A.toN x1) (A.nb .or .u64 (x5.getD (A.toN x1) 0) (A.nsh .shl .u64 (x0.getD (A.toN (A.ib .add .i64 (A.ib .mul .i64 8 x1) x3)) 0) (A.toN (A.ib .mul .i64 8 x3))))))
  rw [h1] at h2
  have h3 := (g29Qn A n _ _ _).trans h2
  have h4 := (blockK_n 3 _ _).trans h3
  have h5 := (g29F A n _ 10 _ (g29R9s0 A x0 x1 x2 x3 x4 x5) _ (by kernel_rfl) (by kernel_rfl)).trans (g29R10 A n (blockK 3 (g29Q A n (pth 498071) (g29W A n (pth 39319) m1 (blockK 2 (blockK 1 (g29Q A n (pth 1943) (g29W A n (pth 151) m0 (blockK 0 (g29Q A n (pth 31) (g29T kk)))))))))) x0 x1 x3 x2 x3 x4 x5)
  rw [h4] at h5
  have h6 := (g29Qn A n _ _ _).trans h5
  have h7 := (g29F A n _ 9 _ ⟨[(0, (tS x0)), (2, (pT 1000 0)), (4, (pT 4000 0)), (5, (i6 x1)), (11, (i6 x2)), (14, (i6 x3))], [(1000, (bU 4 x4 24)), (4000, (bU 4 x5 24))]⟩ _ (by kernel_rfl) (by kernel_rfl)).trans (g29R9 A n (g29Q A n (pth 1677719) (blockK 3 (g29Q A n (pth 498071) (g29W A n (pth 39319) m1 (blockK 2 (blockK 1 (g29Q A n (pth 1943) (g29W A n (pth 151) m0 (blockK 0 (g29Q A n (pth 31) (g29T kk))))))))))) x0 x1 x2 x3 x4 x5)
  rw [h6] at h7
  have h8 := (g29p629143 A n _ _).trans h7
  have h9 := (g29p366999 A n _ _).trans h8
  have h10 := (g29p235927 A n _ _).trans h9
  exact (g29F A n _ 9 _ _ ⟨[(0, (tS x0)), (2, (pT 1000 0)), (4, (pT 4000 0)), (5, (i6 x1)), (11, (i6 x2)), (14, (i6 x3))], [(1000, (bU 4 x4 24)), (4000, (bU 4 x5 24))]⟩ (by kernel_rfl) (h.trans (by kernel_rfl))).trans (h10.trans (by kernel_rfl))
def g29L8 {R : Type} (A : Ar) (n : Nat) (kk : AV → Heap → Option R) (lg29L5 : List Nat → Int → List Nat → List Nat → Option R) : Nat → List Nat → Int → Int → Int → List Nat → List Nat → Option R
  | 0, _, _, _, _, _, _ => none
  | m + 1, x0, x1, x2, x3, x4, x5 => match (generalizing := false) A.ic .lss x3 8 with
  | true => g29J9 A n kk lg29L5 (g29L8 A n kk lg29L5 m) x0 x1 x2 x3 x4 x5
  | false => lg29L5 x0 (A.ib .add .i64 x2 1) x4 x5
set_option maxRecDepth 100000 in
theorem g29L8_eq {R : Type} (A : Ar) (n : Nat) (kk : AV → Heap → Option R) (m0 : Nat) (lg29L5 : List Nat → Int → List Nat → List Nat → Option R) 
    (hg29L5 : ∀ (s : St) (x0 : List Nat) (x1 : Int) (x2 x3 : List Nat), keep g29an 5 s = ⟨[(0, (tS x0)), (2, (pT 1000 0)), (4, (pT 4000 0)), (11, (i6 x1))], [(1000, (bU 4 x2 24)), (4000, (bU 4 x3 24))]⟩ → g29V A n (pth 151) m0 (blockK 0 (g29Q A n (pth 31) (g29T kk))) s = lg29L5 x0 x1 x2 x3) (m : Nat) (s : St) (x0 : List Nat) (x1 x2 x3 : Int) (x4 x5 : List Nat) (h : keep g29an 8 s = ⟨[(0, (tS x0)), (2, (pT 1000 0)), (4, (pT 4000 0)), (5, (i6 x1)), (11, (i6 x2)), (14, (i6 x3))], [(1000, (bU 4 x4 24)), (4000, (bU 4 x5 24))]⟩) :
    g29V A n (pth 39319) m (blockK 2 (blockK 1 (g29Q A n (pth 1943) (g29W A n (pth 151) m0 (blockK 0 (g29Q A n (pth 31) (g29T kk))))))) s = g29L8 A n kk lg29L5 m x0 x1 x2 x3 x4 x5 := by
  induction m generalizing s x0 x1 x2 x3 x4 x5 with
  | zero => rfl
  | succ m ih =>
    have h1 := (g29Qn A n _ _ _).trans (g29J9_eq A n kk m0 m lg29L5 (g29L8 A n kk lg29L5 m) hg29L5 ih  (g29R8s0 A x0 x1 x2 x3 x4 x5) x0 x1 x2 x3 x4 x5 (by kernel_rfl))
    have h2 := (g29p301463 A n _ _).trans h1
    have h3 := (g29Wn A n _ _ _ _).trans (hg29L5 (g29R12s0 A x0 x2 x4 x5) x0 (A.ib .add .i64 x2 1) x4 x5 (by kernel_rfl))
    have h4 := (g29F A n _ 12 _ (g29R8s0 A x0 x1 x2 x3 x4 x5) _ (by kernel_rfl) (by kernel_rfl)).trans (g29R12 A n (g29W A n (pth 151) m0 (blockK 0 (g29Q A n (pth 31) (g29T kk)))) x0 x2 x4 x5)
    rw [h3] at h4
    have h5 := (g29Qn A n _ _ _).trans h4
    have h6 := (blockK_n 1 _ _).trans h5
    have h7 := (blockK_hit 2 _ _).trans h6
    have h8 := (g29We A n (pth 39319) m _ _ _).trans h7
    have h9 := (g29Qe A n (pth 235927) _ _ _).trans h8
    have h10 := (g29p432535 A n _ _).trans h9
    have h11 := g29p170391 A n (g29Q A n (pth 235927) (g29W A n (pth 39319) m (blockK 2 (blockK 1 (g29Q A n (pth 1943) (g29W A n (pth 151) m0 (blockK 0 (g29Q A n (pth 31) (g29T kk))))))))) (g29R8s0 A x0 x1 x2 x3 x4 x5) (A.ic .lss x3 8) (by kernel_rfl)
    rw [h2, h10] at h11
    have h12 := (g29p104855 A n _ _).trans h11
    have h13 := (g29Qn A n _ _ _).trans h12
    have h14 := (g29F A n _ 8 _ ⟨[(0, (tS x0)), (2, (pT 1000 0)), (4, (pT 4000 0)), (5, (i6 x1)), (11, (i6 x2)), (14, (i6 x3))], [(1000, (bU 4 x4 24)), (4000, (bU 4 x5 24))]⟩ _ (by kernel_rfl) (by kernel_rfl)).trans (g29R8 A n (g29Q A n (pth 104855) (g29W A n (pth 39319) m (blockK 2 (blockK 1 (g29Q A n (pth 1943) (g29W A n (pth 151) m0 (blockK 0 (g29Q A n (pth 31) (g29T kk))))))))) x0 x1 x2 x3 x4 x5)
    rw [h13] at h14
    have h15 := (g29p39319 A n _ _).trans h14
    exact (loopD_first (s' := ⟨[(0, (tS x0)), (2, (pT 1000 0)), (4, (pT 4000 0)), (5, (i6 x1)), (11, (i6 x2)), (14, (i6 x3))], [(1000, (bU 4 x4 24)), (4000, (bU 4 x5 24))]⟩) (id := 8) (by kernel_rfl) (h.trans (by kernel_rfl)) _).trans ((g29Vs A n _ m _ _).trans (h15.trans (by kernel_rfl)))
def g29J6 {R : Type} (A : Ar) (n : Nat) (kk : AV → Heap → Option R) (lg29L5 : List Nat → Int → List Nat → List Nat → Option R) (x0 : List Nat) (x1 : Int) (x2 x3 : List Nat) : Option R :=
  g29L8 A n kk lg29L5 n x0 x1 x1 0 x2 x3
set_option maxRecDepth 100000 in
theorem g29J6_eq {R : Type} (A : Ar) (n : Nat) (kk : AV → Heap → Option R) (m0 : Nat) (lg29L5 : List Nat → Int → List Nat → List Nat → Option R) 
    (hg29L5 : ∀ (s : St) (x0 : List Nat) (x1 : Int) (x2 x3 : List Nat), keep g29an 5 s = ⟨[(0, (tS x0)), (2, (pT 1000 0)), (4, (pT 4000 0)), (11, (i6 x1))], [(1000, (bU 4 x2 24)), (4000, (bU 4 x3 24))]⟩ → g29V A n (pth 151) m0 (blockK 0 (g29Q A n (pth 31) (g29T kk))) s = lg29L5 x0 x1 x2 x3) (s : St) (x0 : List Nat) (x1 : Int) (x2 x3 : List Nat) (h : keep g29an 6 s = ⟨[(0, (tS x0)), (2, (pT 1000 0)), (4, (pT 4000 0)), (11, (i6 x1))], [(1000, (bU 4 x2 24)), (4000, (bU 4 x3 24))]⟩) :
    g29D A n (pth 919) (g29W A n (pth 151) m0 (blockK 0 (g29Q A n (pth 31) (g29T kk)))) s = g29J6 A n kk lg29L5 x0 x1 x2 x3 := by
  have h1 := (g29p22935 A n _ _).trans (g29L8_eq A n kk m0 lg29L5 hg29L5 n (g29R7s0 A x0 x1 x1 x2 x3) x0 x1 x1 0 x2 x3 (by kernel_rfl))
  have h2 := (g29p14743 A n _ _).trans h1
  have h3 := (g29Qn A n _ _ _).trans h2
  have h4 := (g29F A n _ 7 _ (g29R6s0 A x0 x1 x2 x3) _ (by kernel_rfl) (by kernel_rfl)).trans (g29R7 A n (g29Q A n (pth 14743) (blockK 1 (g29Q A n (pth 1943) (g29W A n (pth 151) m0 (blockK 0 (g29Q A n (pth 31) (g29T kk))))))) x0 x1 x1 x2 x3)
  rw [h3] at h4
  have h5 := (g29p6551 A n _ _).trans h4
  have h6 := (g29Qn A n _ _ _).trans h5
  have h7 := (g29F A n _ 6 _ ⟨[(0, (tS x0)), (2, (pT 1000 0)), (4, (pT 4000 0)), (11, (i6 x1))], [(1000, (bU 4 x2 24)), (4000, (bU 4 x3 24))]⟩ _ (by kernel_rfl) (by kernel_rfl)).trans (g29R6 A n (g29Q A n (pth 6551) (blockK 1 (g29Q A n (pth 1943) (g29W A n (pth 151) m0 (blockK 0 (g29Q A n (pth 31) (g29T kk))))))) x0 x1 x2 x3)
  rw [h6] at h7
  have h8 := (g29p2455 A n _ _).trans h7
  have h9 := (g29p1431 A n _ _).trans h8
  have h10 := (g29p919 A n _ _).trans h9
  exact (g29F A n _ 6 _ _ ⟨[(0, (tS x0)), (2, (pT 1000 0)), (4, (pT 4000 0)), (11, (i6 x1))], [(1000, (bU 4 x2 24)), (4000, (bU 4 x3 24))]⟩ (by kernel_rfl) (h.trans (by kernel_rfl))).trans (h10.trans (by kernel_rfl))
def g29J13 {R : Type} (A : Ar) (n : Nat) (kk : AV → Heap → Option R)  (x0 x1 : List Nat) : Option R :=
  match (generalizing := false) g20ok A x1 with
  | true => match (generalizing := false) !(g20r0 A x1) with
    | true => kk (.tup [(.agg [.nums .u64 4 [0, 0, 0, 0]]), (.cell (.bool false))]) [(1000, (bU 4 [0, 0, 0, 0] 24))]
    | false => kk (.tup [(.agg [.nums .u64 4 x1]), (.cell (.bool true))]) [(1000, (bU 4 x1 24)), (4000, (bU 4 x1 24))]
  | false => none
set_option maxRecDepth 100000 in
theorem g29J13_eq {R : Type} (A : Ar) (n : Nat) (kk : AV → Heap → Option R)    (s : St) (x0 x1 : List Nat) (h : keep g29an 13 s = ⟨[(2, (pT 1000 0)), (4, (pT 4000 0))], [(1000, (bU 4 x0 24)), (4000, (bU 4 x1 24))]⟩) :
    g29D A n (pth 31) (g29T kk) s = g29J13 A n kk  x0 x1 := by
  have h1 : (g29T kk) .ret (g29R14s0 A x0) = kk (.tup [(.agg [.nums .u64 4 [0, 0, 0, 0]]), (.cell (.bool false))]) [(1000, (bU 4 [0, 0, 0, 0] 24))] := by kernel_rfl
  have h2 := (g29Qr A n (pth 63) _ _).trans h1
  have h3 := (g29p431 A n _ _).trans h2
  have h4 := (g29Qn A n _ _ _).trans h3
  have h5 := (g29F A n _ 14 _ (g29R13s0 A x0 x1) _ (by kernel_rfl) (by kernel_rfl)).trans (g29R14 A n (g29Q A n (pth 431) (g29Q A n (pth 63) (g29T kk))) x0)
  rw [h4] at h5
  have h6 := (g29p175 A n _ _).trans h5
  have h7 : (g29T kk) .ret (g29R15s0 A x0 x1) = kk (.tup [(.agg [.nums .u64 4 x1]), (.cell (.bool true))]) [(1000, (bU 4 x1 24)), (4000, (bU 4 x1 24))] := by kernel_rfl
  have h8 := (g29p127 A n _ _).trans h7
  have h9 := (g29Qn A n _ _ _).trans h8
  have h10 := (g29F A n _ 15 _ (g29R13s0 A x0 x1) _ (by kernel_rfl) (by kernel_rfl)).trans (g29R15 A n (g29Q A n (pth 127) (g29T kk)) x0 x1)
  rw [h9] at h10
  have h11 := (g29p63 A n _ _).trans h10
  have h12 := (g29Qn A n _ _ _).trans h11
  have h13 := (g29p239 A n _ _).trans h12
  have h14 := g29p111 A n (g29Q A n (pth 63) (g29T kk)) (g29R13s0 A x0 x1) (!(g20r0 A x1)) (by kernel_rfl)
  rw [h6, h13] at h14
  have h15 := (g29Qn A n _ _ _).trans h14
  have h16 := (g29F A n _ 13 _ ⟨[(2, (pT 1000 0)), (4, (pT 4000 0))], [(1000, (bU 4 x0 24)), (4000, (bU 4 x1 24))]⟩ _ (by kernel_rfl) (by kernel_rfl)).trans (g29R13 A n (g29Q A n (pth 111) (g29Q A n (pth 63) (g29T kk))) x0 x1)
  rw [h15] at h16
  have h17 := (g29p47 A n _ _).trans h16
  have h18 := (g29p31 A n _ _).trans h17
  exact (g29F A n _ 13 _ _ ⟨[(2, (pT 1000 0)), (4, (pT 4000 0))], [(1000, (bU 4 x0 24)), (4000, (bU 4 x1 24))]⟩ (by kernel_rfl) (h.trans (by kernel_rfl))).trans (h18.trans (by kernel_rfl))
def g29L5 {R : Type} (A : Ar) (n : Nat) (kk : AV → Heap → Option R)  : Nat → List Nat → Int → List Nat → List Nat → Option R
  | 0, _, _, _, _ => none
  | m + 1, x0, x1, x2, x3 => match (generalizing := false) A.ic .lss x1 4 with
  | true => g29J6 A n kk (g29L5 A n kk  m) x0 x1 x2 x3
  | false => g29J13 A n kk  x2 x3
set_option maxRecDepth 100000 in
theorem g29L5_eq {R : Type} (A : Ar) (n : Nat) (kk : AV → Heap → Option R)    (m : Nat) (s : St) (x0 : List Nat) (x1 : Int) (x2 x3 : List Nat) (h : keep g29an 5 s = ⟨[(0, (tS x0)), (2, (pT 1000 0)), (4, (pT 4000 0)), (11, (i6 x1))], [(1000, (bU 4 x2 24)), (4000, (bU 4 x3 24))]⟩) :
    g29V A n (pth 151) m (blockK 0 (g29Q A n (pth 31) (g29T kk))) s = g29L5 A n kk  m x0 x1 x2 x3 := by
  induction m generalizing s x0 x1 x2 x3 with
  | zero => rfl
  | succ m ih =>
    have h1 := (g29Qn A n _ _ _).trans (g29J6_eq A n kk m (g29L5 A n kk  m) ih  (g29R5s0 A x0 x1 x2 x3) x0 x1 x2 x3 (by kernel_rfl))
    have h2 := (g29p1175 A n _ _).trans h1
    have h3 := (g29Qn A n _ _ _).trans (g29J13_eq A n kk     (g29R5s0 A x0 x1 x2 x3) x2 x3 (by kernel_rfl))
    have h4 := (blockK_hit 0 _ _).trans h3
    have h5 := (g29We A n (pth 151) m _ _ _).trans h4
    have h6 := (g29Qe A n (pth 919) _ _ _).trans h5
    have h7 := (g29p1687 A n _ _).trans h6
    have h8 := g29p663 A n (g29Q A n (pth 919) (g29W A n (pth 151) m (blockK 0 (g29Q A n (pth 31) (g29T kk))))) (g29R5s0 A x0 x1 x2 x3) (A.ic .lss x1 4) (by kernel_rfl)
    rw [h2, h7] at h8
    have h9 := (g29p407 A n _ _).trans h8
    have h10 := (g29Qn A n _ _ _).trans h9
    have h11 := (g29F A n _ 5 _ ⟨[(0, (tS x0)), (2, (pT 1000 0)), (4, (pT 4000 0)), (11, (i6 x1))], [(1000, (bU 4 x2 24)), (4000, (bU 4 x3 24))]⟩ _ (by kernel_rfl) (by kernel_rfl)).trans (g29R5 A n (g29Q A n (pth 407) (g29W A n (pth 151) m (blockK 0 (g29Q A n (pth 31) (g29T kk))))) x0 x1 x2 x3)
    rw [h10] at h11
    have h12 := (g29p151 A n _ _).trans h11
    exact (loopD_first (s' := ⟨[(0, (tS x0)), (2, (pT 1000 0)), (4, (pT 4000 0)), (11, (i6 x1))], [(1000, (bU 4 x2 24)), (4000, (bU 4 x3 24))]⟩) (id := 5) (by kernel_rfl) (h.trans (by kernel_rfl)) _).trans ((g29Vs A n _ m _ _).trans (h12.trans (by kernel_rfl)))
def g29J3 {R : Type} (A : Ar) (n : Nat) (kk : AV → Heap → Option R)  (x0 x1 : List Nat) : Option R :=
  g29L5 A n kk  n x0 0 x1 [0, 0, 0, 0]
set_option maxRecDepth 100000 in
theorem g29J3_eq {R : Type} (A : Ar) (n : Nat) (kk : AV → Heap → Option R)    (s : St) (x0 x1 : List Nat) (h : keep g29an 3 s = ⟨[(0, (tS x0)), (2, (pT 1000 0))], [(1000, (bU 4 x1 24))]⟩) :
    g29D A n (pth 7) (g29T kk) s = g29J3 A n kk  x0 x1 := by
  have h1 := (g29p87 A n _ _).trans (g29L5_eq A n kk    n (g29R4s0 A x0 x1 [0, 0, 0, 0]) x0 0 x1 [0, 0, 0, 0] (by kernel_rfl))
  have h2 := (g29p55 A n _ _).trans h1
  have h3 := (g29Qn A n _ _ _).trans h2
  have h4 := (g29F A n _ 4 _ (g29R3s0 A x0 x1) _ (by kernel_rfl) (by kernel_rfl)).trans (g29R4 A n (g29Q A n (pth 55) (g29Q A n (pth 31) (g29T kk))) x0 x1 [0, 0, 0, 0])
  rw [h3] at h4
  have h5 := (g29p23 A n _ _).trans h4
  have h6 := (g29p15 A n _ _).trans h5
  have h7 := (g29Qn A n _ _ _).trans h6
  have h8 := (g29F A n _ 3 _ ⟨[(0, (tS x0)), (2, (pT 1000 0))], [(1000, (bU 4 x1 24))]⟩ _ (by kernel_rfl) (by kernel_rfl)).trans (g29R3 A n (g29Q A n (pth 15) (g29T kk)) x0 x1)
  rw [h7] at h8
  have h9 := (g29p7 A n _ _).trans h8
  exact (g29F A n _ 3 _ _ ⟨[(0, (tS x0)), (2, (pT 1000 0))], [(1000, (bU 4 x1 24))]⟩ (by kernel_rfl) (h.trans (by kernel_rfl))).trans (h9.trans (by kernel_rfl))
def g29 {R : Type} (A : Ar) (n : Nat) (kk : AV → Heap → Option R) (a : List Nat) : Option R :=
  match (generalizing := false) A.ic .neq (A.ofN a.length) 32 with
  | true => kk (.tup [(.agg [.nums .u64 4 [0, 0, 0, 0]]), (.cell (.bool false))]) [(1000, (bU 4 [0, 0, 0, 0] 24))]
  | false => g29J3 A n kk  a [0, 0, 0, 0]
set_option maxRecDepth 100000 in
theorem g29_eq {R : Type} (A : Ar) (n : Nat) (kk : AV → Heap → Option R) (a : List Nat) :
    funD A gtys (g29O A) g29an n (bodyOf Try.f29) g29res [(tS a)] [] kk = g29 A n kk a := by
  have h1 : (g29T kk) .ret (g29R2s0 A [0, 0, 0, 0]) = kk (.tup [(.agg [.nums .u64 4 [0, 0, 0, 0]]), (.cell (.bool false))]) [(1000, (bU 4 [0, 0, 0, 0] 24))] := by kernel_rfl
  have h2 := (g29Qr A n (pth 7) _ _).trans h1
  have h3 := (g29p53 A n _ _).trans h2
  have h4 := (g29Qn A n _ _ _).trans h3
  have h5 := (g29F A n _ 2 _ (g29R1s0 A a [0, 0, 0, 0]) _ (by kernel_rfl) (by kernel_rfl)).trans (g29R2 A n (g29Q A n (pth 53) (g29Q A n (pth 7) (g29T kk))) [0, 0, 0, 0])
  rw [h4] at h5
  have h6 := (g29p21 A n _ _).trans h5
  have h7 := (g29Qn A n _ _ _).trans (g29J3_eq A n kk     (g29R1s0 A a [0, 0, 0, 0]) a [0, 0, 0, 0] (by kernel_rfl))
  have h8 := (g29p29 A n _ _).trans h7
  have h9 := g29p13 A n (g29Q A n (pth 7) (g29T kk)) (g29R1s0 A a [0, 0, 0, 0]) (A.ic .neq (A.ofN a.length) 32) (by kernel_rfl)
  rw [h6, h8] at h9
  have h10 := (g29Qn A n _ _ _).trans h9
  have h11 := (g29F A n _ 1 _ (g29R0s0 A a) _ (by kernel_rfl) (by kernel_rfl)).trans (g29R1 A n (g29Q A n (pth 13) (g29Q A n (pth 7) (g29T kk))) a [0, 0, 0, 0])
  rw [h10] at h11
  have h12 := (g29p5 A n _ _).trans h11
  have h13 := (g29p3 A n _ _).trans h12
  have h14 := (g29Qn A n _ _ _).trans h13
  have h15 := (g29F A n _ 0 _ ⟨[(0, (tS a))], []⟩ _ (by kernel_rfl) (by kernel_rfl)).trans (g29R0 A n (g29Q A n (pth 3) (g29T kk)) a)
  rw [h14] at h15
  have h16 := (g29p1 A n _ _).trans h15
  exact (show funD A gtys (g29O A) g29an n (bodyOf Try.f29) g29res [(tS a)] [] kk = g29D A n (pth 1) (g29T kk) ⟨[(0, (tS a))], []⟩ from by kernel_rfl).trans (h16.trans (by kernel_rfl))
def g29is (o : Option AV) : Bool := match o with
  | some (.tup [.agg [.nums .u64 4 _], .cell (.bool _)]) => true
  | _ => false
def g29g0 (o : Option AV) : List Nat := match o with
  | some (.tup [.agg [.nums .u64 4 x], .cell (.bool _)]) => x
  | _ => []
def g29g1 (o : Option AV) : Bool := match o with
  | some (.tup [.agg [.nums .u64 4 _], .cell (.bool x)]) => x
  | _ => false
theorem g29is_spec {o : Option AV} (h : g29is o = true) : o = some (.tup [.agg [.nums .u64 4 (g29g0 o)], .cell (.bool (g29g1 o))]) := by
  unfold g29is at h
  split at h
  · rfl
  · cases h
def g29v (A : Ar) (a : List Nat) : Option AV := g29 A (100000) (fun v _ => some v) a
def g29ok (A : Ar) (a : List Nat) : Bool := g29is (g29v A a)
def g29r0 (A : Ar) (a : List Nat) : List Nat := g29g0 (g29v A a)
def g29r1 (A : Ar) (a : List Nat) : Bool := g29g1 (g29v A a)
theorem g29ok_spec {A : Ar} {a} (h : g29ok A a = true) : g29v A a = some (.tup [.agg [.nums .u64 4 (g29r0 A a)], .cell (.bool (g29r1 A a))]) := g29is_spec h
def g29o (A : Ar) (args : List AV) : Option (Bool × AV) := match args with
  | [.v (.cell (.str a))] => some (g29ok A a, .tup [.agg [.nums .u64 4 (g29r0 A a)], .cell (.bool (g29r1 A a))])
  | _ => none
theorem g29o_sound : ∀ args v, g29o realA args = some (true, v) → Fn1 Try.prog 29 args v := by
  intro args v h
  unfold g29o at h
  split at h
  · rename_i a
    simp only [Option.some.injEq, Prod.mk.injEq] at h
    obtain ⟨hc, h⟩ := h
    subst h
    · skip
      exact fn1_of mixed gtysOK g29O_sound g29O_det (an := g29an) (n := 100000) Try.func29 (c := bodyOf Try.f29) rfl (by kernel_rfl) Try.call29 (Nat.le_of_ble_eq_true rfl) (fun b => rfl) (fun _ => (g29_eq realA (100000) (fun v _ => some v) a).trans (show g29v realA a = _ from g29ok_spec hc))
  · cases h
end Go.Sx
