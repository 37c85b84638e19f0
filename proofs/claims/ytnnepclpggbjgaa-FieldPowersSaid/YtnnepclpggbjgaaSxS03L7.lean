import Derived.Test.YtnnepclpggbjgaaSxS03R
/- printed by sxgen -/
namespace Go.Sx
open Go.Proofs
set_option linter.unusedVariables false
/- engrosser/engrosserref03.Pow -/
def g26O (A : Ar) : Orc := orcOf [(35, g35o A), (17, g17o A)]
theorem g26O_sound : OSound Try.prog (g26O realA) := orc_sound fun f g hm args v hv => by
  simp only [List.mem_cons, List.not_mem_nil, or_false, Prod.mk.injEq] at hm
  rcases hm with ⟨rfl, rfl⟩ | ⟨rfl, rfl⟩
  · exact g35o_sound _ _ hv
  · exact g17o_sound _ _ hv
theorem g26O_det : ODet (g26O realA) := orc_det _
def g26an : Ann := [(0, ([0, 1], [])), (1, ([2, 3, 4], [1000, 1001, 1002])), (2, ([2, 3, 4, 5], [1000, 1001, 1002, 2001])), (3, ([2, 3, 4, 5, 6], [1000, 1001, 1002, 2001])), (4, ([2, 3, 4, 5, 6], [1000, 1001, 1002, 2001])), (5, ([2, 3, 4, 5, 6], [1000, 1001, 1002, 2001])), (6, ([2, 3, 4, 5, 6], [1000, 1001, 1002, 2001])), (7, ([2, 3, 4, 5, 6], [1000, 1001, 1002, 2001])), (8, ([4, 5], [1002, 2001]))]
def g26res : List ResultVar := [.cell 4 24]
noncomputable def g26D {R : Type} (A : Ar) (n : Nat) (p : List Bool) (K : Ex → St → Option R) (s : St) : Option R := codeD A gtys (g26O A) g26an n (sub (bodyOf Try.f26) p) K s
noncomputable def g26V {R : Type} (A : Ar) (n : Nat) (p : List Bool) (m : Nat) (K : Ex → St → Option R) (s : St) : Option R := loopD (fun K' s'' => codeD A gtys (g26O A) g26an n (sub (bodyOf Try.f26) p) K' s'') m K s
noncomputable def g26Q {R : Type} (A : Ar) (n : Nat) (p : List Bool) (K : Ex → St → Option R) : Ex → St → Option R := seqC (g26D A n p K) K
noncomputable def g26W {R : Type} (A : Ar) (n : Nat) (p : List Bool) (m : Nat) (K : Ex → St → Option R) : Ex → St → Option R := seqC (g26V A n p m K) K
noncomputable def g26T {R : Type} (kk : AV → Heap → Option R) : Ex → St → Option R := finD gtys g26res kk
theorem g26Qn {R : Type} (A : Ar) (n : Nat) (p : List Bool) (K : Ex → St → Option R) (s : St) : g26Q A n p K .normal s = g26D A n p K s := rfl
theorem g26Qe {R : Type} (A : Ar) (n : Nat) (p : List Bool) (K : Ex → St → Option R) (i : Nat) (s : St) : g26Q A n p K (.exit i) s = K (.exit i) s := rfl
theorem g26Wn {R : Type} (A : Ar) (n : Nat) (p : List Bool) (m : Nat) (K : Ex → St → Option R) (s : St) : g26W A n p m K .normal s = g26V A n p m K s := rfl
theorem g26We {R : Type} (A : Ar) (n : Nat) (p : List Bool) (m : Nat) (K : Ex → St → Option R) (i : Nat) (s : St) : g26W A n p m K (.exit i) s = K (.exit i) s := rfl
theorem g26Vs {R : Type} (A : Ar) (n : Nat) (p : List Bool) (m : Nat) (K : Ex → St → Option R) (s : St) : g26V A n p (m + 1) K s = g26D A n p (g26W A n p m K) s := rfl
theorem g26F {R : Type} (A : Ar) (n : Nat) (p : List Bool) (i : Nat) (K : Ex → St → Option R) (s s' : St) (hf : firstReg (sub (bodyOf Try.f26) p) = some i) (h : keep g26an i s = keep g26an i s') : g26D A n p K s = g26D A n p K s' := codeD_first hf h K
section
variable {R : Type} (A : Ar) (n : Nat) (K : Ex → St → Option R) (s : St)
theorem g26p1 : g26D A n (pth 1) K s = g26D A n (pth 2) (g26Q A n (pth 3) K) s := by kernel_rfl
theorem g26p3 : g26D A n (pth 3) K s = g26D A n (pth 5) (g26Q A n (pth 7) K) s := by kernel_rfl
theorem g26p7 : g26D A n (pth 7) K s = g26D A n (pth 11) (g26Q A n (pth 15) K) s := by kernel_rfl
theorem g26p11 : g26D A n (pth 11) K s = g26D A n (pth 19) (g26Q A n (pth 27) K) s := by kernel_rfl
theorem g26p27 : g26D A n (pth 27) K s = g26D A n (pth 43) (blockK 0 K) s := by kernel_rfl
theorem g26p43 : g26D A n (pth 43) K s = g26V A n (pth 75) n K s := by kernel_rfl
theorem g26p75 : g26D A n (pth 75) K s = g26D A n (pth 139) (g26Q A n (pth 203) K) s := by kernel_rfl
theorem g26p139 : g26D A n (pth 139) K s = g26D A n (pth 267) (g26Q A n (pth 395) K) s := by kernel_rfl
theorem g26p395 (t : Bool) : ev s (.tmp 9) = some (.v (.cell (.bool t))) → g26D A n (pth 395) K s = (match t with
    | true => g26D A n (pth 651) K s
    | false => g26D A n (pth 907) K s) := codeD_cond t
theorem g26p651 : g26D A n (pth 651) K s = K .normal s := by kernel_rfl
theorem g26p907 : g26D A n (pth 907) K s = K (.exit 0) s := by kernel_rfl
theorem g26p203 : g26D A n (pth 203) K s = g26D A n (pth 331) (g26Q A n (pth 459) K) s := by kernel_rfl
theorem g26p331 : g26D A n (pth 331) K s = g26D A n (pth 587) (blockK 1 K) s := by kernel_rfl
theorem g26p587 : g26D A n (pth 587) K s = g26D A n (pth 1099) (g26Q A n (pth 1611) K) s := by kernel_rfl
theorem g26p1611 : g26D A n (pth 1611) K s = g26D A n (pth 2635) (g26Q A n (pth 3659) K) s := by kernel_rfl
theorem g26p3659 (t : Bool) : ev s (.tmp 23) = some (.v (.cell (.bool t))) → g26D A n (pth 3659) K s = (match t with
    | true => g26D A n (pth 5707) K s
    | false => g26D A n (pth 7755) K s) := codeD_cond t
theorem g26p7755 : g26D A n (pth 7755) K s = K .normal s := by kernel_rfl
theorem g26p15 : g26D A n (pth 15) K s = g26D A n (pth 23) (g26Q A n (pth 31) K) s := by kernel_rfl
theorem g26p31 : g26D A n (pth 31) K s = K .ret s := by kernel_rfl
def g26R5s0 (A : Ar) (x0 : Int) (x1 x2 : List Nat) (x3 x4 : List Nat) : St := ⟨[(14, (aN .u64 4 (g17r0 A x4 x4))), (13, (aN .u64 4 x4)), (12, (aN .u64 4 x4)), (2, (pT 1000 0)), (3, (pT 1001 0)), (4, (pT 1002 0)), (5, (pT 2001 0)), (6, (i6 x0))], [(1000, (bU 4 x1 24)), (1001, (bU 4 x2 23)), (1002, (bU 4 x3 24)), (2001, (bU 4 (g17r0 A x4 x4) 24))]⟩
theorem g26R5 (x0 : Int) (x1 x2 : List Nat) (x3 x4 : List Nat) : g26D A n (pth 1099) K ⟨[(2, (pT 1000 0)), (3, (pT 1001 0)), (4, (pT 1002 0)), (5, (pT 2001 0)), (6, (i6 x0))], [(1000, (bU 4 x1 24)), (1001, (bU 4 x2 23)), (1002, (bU 4 x3 24)), (2001, (bU 4 x4 24))]⟩ = match (generalizing := false) g17ok A x4 x4 with
    | true => K .normal (g26R5s0 A x0 x1 x2 x3 x4)
    | false => none := by kernel_rfl
def g26R6s0 (A : Ar) (x0 : Int) (x1 x2 : List Nat) (x3 x4 : List Nat) : St := ⟨[(23, (bO (A.nc .eql (A.nb .and .u64 (A.nsh .shr .u64 (x2.getD (A.toN (A.ib .quo .i64 x0 64)) 0) (A.toN (A.ib .rem .i64 x0 64))) 1) 1))), (22, (u64v (A.nb .and .u64 (A.nsh .shr .u64 (x2.getD (A.toN (A.ib .quo .i64 x0 64)) 0) (A.toN (A.ib .rem .i64 x0 64))) 1))), (21, (u64v (A.nsh .shr .u64 (x2.getD (A.toN (A.ib .quo .i64 x0 64)) 0) (A.toN (A.ib .rem .i64 x0 64))))), (20, (i6 (A.ib .rem .i64 x0 64))), (19, (i6 x0)), (18, (u64v (x2.getD (A.toN (A.ib .quo .i64 x0 64)) 0))), (17, (.v (.cell (.ptr 1001 0 (some ⟨A.toN (A.ib .quo .i64 x0 64), 1, 4, 0, 0, 0⟩))))), (16, (i6 (A.ib .quo .i64 x0 64))), (15, (i6 x0)), (2, (pT 1000 0)), (3, (pT 1001 0)), (4, (pT 1002 0)), (5, (pT 2001 0)), (6, (i6 x0))], [(1000, (bU 4 x1 24)), (1001, (bU 4 x2 23)), (1002, (bU 4 x3 24)), (2001, (bU 4 x4 24))]⟩
theorem g26R6 (x0 : Int) (x1 x2 : List Nat) (x3 x4 : List Nat) : g26D A n (pth 2635) K ⟨[(2, (pT 1000 0)), (3, (pT 1001 0)), (4, (pT 1002 0)), (5, (pT 2001 0)), (6, (i6 x0))], [(1000, (bU 4 x1 24)), (1001, (bU 4 x2 23)), (1002, (bU 4 x3 24)), (2001, (bU 4 x4 24))]⟩ = match (generalizing := false) A.neg (A.ib .quo .i64 x0 64) with
    | true => none
    | false => match (generalizing := false) A.lt (A.toN (A.ib .quo .i64 x0 64)) 4 with
      | true => match (generalizing := false) A.neg (A.ib .rem .i64 x0 64) with
        | true => none
        | false => K .normal (g26R6s0 A x0 x1 x2 x3 x4)
      | false => none := by kernel_rfl
def g26R7s0 (A : Ar) (x0 : Int) (x1 x2 : List Nat) (x3 x4 : List Nat) : St := ⟨[(26, (aN .u64 4 (g17r0 A x4 x1))), (25, (aN .u64 4 x1)), (24, (aN .u64 4 x4)), (2, (pT 1000 0)), (3, (pT 1001 0)), (4, (pT 1002 0)), (5, (pT 2001 0)), (6, (i6 x0))], [(1000, (bU 4 x1 24)), (1001, (bU 4 x2 23)), (1002, (bU 4 x3 24)), (2001, (bU 4 (g17r0 A x4 x1) 24))]⟩
theorem g26R7 (x0 : Int) (x1 x2 : List Nat) (x3 x4 : List Nat) : g26D A n (pth 5707) K ⟨[(2, (pT 1000 0)), (3, (pT 1001 0)), (4, (pT 1002 0)), (5, (pT 2001 0)), (6, (i6 x0))], [(1000, (bU 4 x1 24)), (1001, (bU 4 x2 23)), (1002, (bU 4 x3 24)), (2001, (bU 4 x4 24))]⟩ = match (generalizing := false) g17ok A x4 x1 with
    | true => K .normal (g26R7s0 A x0 x1 x2 x3 x4)
    | false => none := by kernel_rfl
def g26R4s0 (A : Ar) (x0 : Int) (x1 x2 : List Nat) (x3 x4 : List Nat) : St := ⟨[(6, (i6 (A.ib .sub .i64 x0 1))), (11, (i6 (A.ib .sub .i64 x0 1))), (10, (i6 x0)), (2, (pT 1000 0)), (3, (pT 1001 0)), (4, (pT 1002 0)), (5, (pT 2001 0)), (6, (i6 x0))], [(1000, (bU 4 x1 24)), (1001, (bU 4 x2 23)), (1002, (bU 4 x3 24)), (2001, (bU 4 x4 24))]⟩
theorem g26R4 (x0 : Int) (x1 x2 : List Nat) (x3 x4 : List Nat) : g26D A n (pth 459) K ⟨[(2, (pT 1000 0)), (3, (pT 1001 0)), (4, (pT 1002 0)), (5, (pT 2001 0)), (6, (i6 x0))], [(1000, (bU 4 x1 24)), (1001, (bU 4 x2 23)), (1002, (bU 4 x3 24)), (2001, (bU 4 x4 24))]⟩ = K .normal (g26R4s0 A x0 x1 x2 x3 x4) := by kernel_rfl
def g26R3s0 (A : Ar) (x0 : Int) (x1 x2 : List Nat) (x3 x4 : List Nat) : St := ⟨[(9, (bO (A.ic .geq x0 0))), (8, (i6 x0)), (2, (pT 1000 0)), (3, (pT 1001 0)), (4, (pT 1002 0)), (5, (pT 2001 0)), (6, (i6 x0))], [(1000, (bU 4 x1 24)), (1001, (bU 4 x2 23)), (1002, (bU 4 x3 24)), (2001, (bU 4 x4 24))]⟩
theorem g26R3 (x0 : Int) (x1 x2 : List Nat) (x3 x4 : List Nat) : g26D A n (pth 267) K ⟨[(2, (pT 1000 0)), (3, (pT 1001 0)), (4, (pT 1002 0)), (5, (pT 2001 0)), (6, (i6 x0))], [(1000, (bU 4 x1 24)), (1001, (bU 4 x2 23)), (1002, (bU 4 x3 24)), (2001, (bU 4 x4 24))]⟩ = K .normal (g26R3s0 A x0 x1 x2 x3 x4) := by kernel_rfl
def g26R8s0 (A : Ar) (x0 x1 : List Nat) : St := ⟨[(27, (aN .u64 4 x1)), (4, (pT 1002 0)), (5, (pT 2001 0))], [(1002, (bU 4 x1 24)), (2001, (bU 4 x1 24))]⟩
theorem g26R8 (x0 x1 : List Nat) : g26D A n (pth 23) K ⟨[(4, (pT 1002 0)), (5, (pT 2001 0))], [(1002, (bU 4 x0 24)), (2001, (bU 4 x1 24))]⟩ = K .normal (g26R8s0 A x0 x1) := by kernel_rfl
def g26R0s0 (A : Ar) (x0 x1 : List Nat) : St := ⟨[(4, (pT 1002 0)), (3, (pT 1001 0)), (2, (pT 1000 0)), (0, (aN .u64 4 x0)), (1, (aN .u64 4 x1))], [(1002, (bU 4 [0, 0, 0, 0] 24)), (1001, (bU 4 x1 23)), (1000, (bU 4 x0 24))]⟩
theorem g26R0 (x0 x1 : List Nat) : g26D A n (pth 2) K ⟨[(0, (aN .u64 4 x0)), (1, (aN .u64 4 x1))], []⟩ = K .normal (g26R0s0 A x0 x1) := by kernel_rfl
def g26R1s0 (A : Ar) (x0 x1 x2 : List Nat) : St := ⟨[(5, (pT 2001 0)), (7, (aN .u64 4 (g35r0 A 1))), (2, (pT 1000 0)), (3, (pT 1001 0)), (4, (pT 1002 0))], [(2001, (bU 4 (g35r0 A 1) 24)), (1000, (bU 4 x0 24)), (1001, (bU 4 x1 23)), (1002, (bU 4 x2 24))]⟩
theorem g26R1 (x0 x1 x2 : List Nat) : g26D A n (pth 5) K ⟨[(2, (pT 1000 0)), (3, (pT 1001 0)), (4, (pT 1002 0))], [(1000, (bU 4 x0 24)), (1001, (bU 4 x1 23)), (1002, (bU 4 x2 24))]⟩ = match (generalizing := false) g35ok A 1 with
    | true => K .normal (g26R1s0 A x0 x1 x2)
    | false => none := by kernel_rfl
def g26R2s0 (A : Ar) (x0 x1 : List Nat) (x2 x3 : List Nat) : St := ⟨[(6, (i6 255)), (2, (pT 1000 0)), (3, (pT 1001 0)), (4, (pT 1002 0)), (5, (pT 2001 0))], [(1000, (bU 4 x0 24)), (1001, (bU 4 x1 23)), (1002, (bU 4 x2 24)), (2001, (bU 4 x3 24))]⟩
theorem g26R2 (x0 x1 : List Nat) (x2 x3 : List Nat) : g26D A n (pth 19) K ⟨[(2, (pT 1000 0)), (3, (pT 1001 0)), (4, (pT 1002 0)), (5, (pT 2001 0))], [(1000, (bU 4 x0 24)), (1001, (bU 4 x1 23)), (1002, (bU 4 x2 24)), (2001, (bU 4 x3 24))]⟩ = K .normal (g26R2s0 A x0 x1 x2 x3) := by kernel_rfl
end
def g26J5 {R : Type} (A : Ar) (n : Nat) (kk : AV → Heap → Option R) (lg26L3 : Int → List Nat → List Nat → List Nat → List Nat → Option R) (x0 : Int) (x1 x2 : List Nat) (x3 x4 : List Nat) : Option R :=
  match (generalizing := false) g17ok A x4 x4 with
  | true => match (generalizing := false) A.neg (A.ib .quo .i64 x0 64) with
    | true => none
    | false => match (generalizing := false) A.lt (A.toN (A.ib .quo .i64 x0 64)) 4 with
      | true => match (generalizing := false) A.neg (A.ib .rem .i64 x0 64) with
        | true => none
        | false => match (generalizing := false) A.nc .eql (A.nb .and .u64 (A.nsh .shr .u64 (x2.getD (A.toN (A.ib .quo .i64 x0 64)) 0) (A.toN (A.ib .rem .i64 x0 64))) 1) 1 with
          | true => match (generalizing := false) g17ok A (g17r0 A x4 x4) x1 with
            | true => lg26L3 (A.ib .sub .i64 x0 1) x1 x2 x3 (g17r0 A (g17r0 A x4 x4) x1)
            | false => none
          | false => lg26L3 (A.ib .sub .i64 x0 1) x1 x2 x3 (g17r0 A x4 x4)
      | false => none
  | false => none
set_option maxRecDepth 100000 in
theorem g26J5_eq {R : Type} (A : Ar) (n : Nat) (kk : AV → Heap → Option R) (m0 : Nat) (lg26L3 : Int → List Nat → List Nat → List Nat → List Nat → Option R) 
    (hg26L3 : ∀ (s : St) (x0 : Int) (x1 x2 : List Nat) (x3 x4 : List Nat), keep g26an 3 s = ⟨[(2, (pT 1000 0)), (3, (pT 1001 0)), (4, (pT 1002 0)), (5, (pT 2001 0)), (6, (i6 x0))], [(1000, (bU 4 x1 24)), (1001, (bU 4 x2 23)), (1002, (bU 4 x3 24)), (2001, (bU 4 x4 24))]⟩ → g26V A n (pth 75) m0 (blockK 0 (g26Q A n (pth 15) (g26T kk))) s = lg26L3 x0 x1 x2 x3 x4) (s : St) (x0 : Int) (x1 x2 : List Nat) (x3 x4 : List Nat) (h : keep g26an 5 s = ⟨[(2, (pT 1000 0)), (3, (pT 1001 0)), (4, (pT 1002 0)), (5, (pT 2001 0)), (6, (i6 x0))], [(1000, (bU 4 x1 24)), (1001, (bU 4 x2 23)), (1002, (bU 4 x3 24)), (2001, (bU 4 x4 24))]⟩) :
    g26D A n (pth 203) (g26W A n (pth 75) m0 (blockK 0 (g26Q A n (pth 15) (g26T kk)))) s = g26J5 A n kk lg26L3 x0 x1 x2 x3 x4 := by
  have h1 := (g26Wn A n _ _ _ _).trans (hg26L3 (g26R4s0 A x0 x1 x2 x3 (g17r0 A (g17r0 A x4 x4) x1)) (A.ib .sub .i64 x0 1) x1 x2 x3 (g17r0 A (g17r0 A x4 x4) x1) (by kernel_rfl))
  have h2 := (g26F A n _ 4 _ (g26R7s0 A x0 x1 x2 x3 (g17r0 A x4 x4)) _ (by kernel_rfl) (by kernel_rfl)).trans (g26R4 A n (g26W A n (pth 75) m0 (blockK 0 (g26Q A n (pth 15) (g26T kk)))) x0 x1 x2 x3 (g17r0 A (g17r0 A x4 x4) x1))
  rw [h1] at h2
  have h3 := (g26Qn A n _ _ _).trans h2
  have h4 := (blockK_n 1 _ _).trans h3
  have h5 := (g26F A n _ 7 _ (g26R6s0 A x0 x1 x2 x3 (g17r0 A x4 x4)) _ (by kernel_rfl) (by kernel_rfl)).trans (g26R7 A n (blockK 1 (g26Q A n (pth 459) (g26W A n (pth 75) m0 (blockK 0 (g26Q A n (pth 15) (g26T kk)))))) x0 x1 x2 x3 (g17r0 A x4 x4))
  rw [h4] at h5
  have h6 := (g26Wn A n _ _ _ _).trans (hg26L3 (g26R4s0 A x0 x1 x2 x3 (g17r0 A x4 x4)) (A.ib .sub .i64 x0 1) x1 x2 x3 (g17r0 A x4 x4) (by kernel_rfl))
  have h7 := (g26F A n _ 4 _ (g26R6s0 A x0 x1 x2 x3 (g17r0 A x4 x4)) _ (by kernel_rfl) (by kernel_rfl)).trans (g26R4 A n (g26W A n (pth 75) m0 (blockK 0 (g26Q A n (pth 15) (g26T kk)))) x0 x1 x2 x3 (g17r0 A x4 x4))
  rw [h6] at h7
  have h8 := (g26Qn A n _ _ _).trans h7
  have h9 := (blockK_n 1 _ _).trans h8
  have h10 := (g26p7755 A n _ _).trans h9
  have h11 := g26p3659 A n (blockK 1 (g26Q A n (pth 459) (g26W A n (pth 75) m0 (blockK 0 (g26Q A n (pth 15) (g26T kk)))))) (g26R6s0 A x0 x1 x2 x3 (g17r0 A x4 x4)) (A.nc .eql (A.nb .and .u64 (A.nsh .shr .u64 (x2.getD (A.toN (A.ib .quo .i64 x0 64)) 0) (A.toN (A.ib .rem .i64 x0 64))) 1) 1) (by kernel_rfl)
  rw [h5, h10] at h11
  have h12 := (g26Qn A n _ _ _).trans h11
  have h13 := (g26F A n _ 6 _ (g26R5s0 A x0 x1 x2 x3 x4) _ (by kernel_rfl) (by kernel_rfl)).trans (g26R6 A n (g26Q A n (pth 3659) (blockK 1 (g26Q A n (pth 459) (g26W A n (pth 75) m0 (blockK 0 (g26Q A n (pth 15) (g26T kk))))))) x0 x1 x2 x3 (g17r0 A x4 x4))
  rw [h12] at h13
  have h14 := (g26p1611 A n _ _).trans h13
  have h15 := (g26Qn A n _ _ _).trans h14
  have h16 := (g26F A n _ 5 _ ⟨[(2, (pT 1000 0)), (3, (pT 1001 0)), (4, (pT 1002 0)), (5, (pT 2001 0)), (6, (i6 x0))], [(1000, (bU 4 x1 24)), (1001, (bU 4 x2 23)), (1002, (bU 4 x3 24)), (2001, (bU 4 x4 24))]⟩ _ (by kernel_rfl) (by kernel_rfl)).trans (g26R5 A n (g26Q A n (pth 1611) (blockK 1 (g26Q A n (pth 459) (g26W A n (pth 75) m0 (blockK 0 (g26Q A n (pth 15) (g26T kk))))))) x0 x1 x2 x3 x4)
  rw [h15] at h16
  have h17 := (g26p587 A n _ _).trans h16
  have h18 := (g26p331 A n _ _).trans h17
  have h19 := (g26p203 A n _ _).trans h18
  exact (g26F A n _ 5 _ _ ⟨[(2, (pT 1000 0)), (3, (pT 1001 0)), (4, (pT 1002 0)), (5, (pT 2001 0)), (6, (i6 x0))], [(1000, (bU 4 x1 24)), (1001, (bU 4 x2 23)), (1002, (bU 4 x3 24)), (2001, (bU 4 x4 24))]⟩ (by kernel_rfl) (h.trans (by kernel_rfl))).trans (h19.trans (by kernel_rfl))
def g26L3 {R : Type} (A : Ar) (n : Nat) (kk : AV → Heap → Option R)  : Nat → Int → List Nat → List Nat → List Nat → List Nat → Option R
  | 0, _, _, _, _, _ => none
  | m + 1, x0, x1, x2, x3, x4 => match (generalizing := false) A.ic .geq x0 0 with
  | true => g26J5 A n kk (g26L3 A n kk  m) x0 x1 x2 x3 x4
  | false => kk (aN .u64 4 x4) [(1002, (bU 4 x4 24)), (2001, (bU 4 x4 24))]
set_option maxRecDepth 100000 in
theorem g26L3_eq {R : Type} (A : Ar) (n : Nat) (kk : AV → Heap → Option R)    (m : Nat) (s : St) (x0 : Int) (x1 x2 : List Nat) (x3 x4 : List Nat) (h : keep g26an 3 s = ⟨[(2, (pT 1000 0)), (3, (pT 1001 0)), (4, (pT 1002 0)), (5, (pT 2001 0)), (6, (i6 x0))], [(1000, (bU 4 x1 24)), (1001, (bU 4 x2 23)), (1002, (bU 4 x3 24)), (2001, (bU 4 x4 24))]⟩) :
    g26V A n (pth 75) m (blockK 0 (g26Q A n (pth 15) (g26T kk))) s = g26L3 A n kk  m x0 x1 x2 x3 x4 := by
  induction m generalizing s x0 x1 x2 x3 x4 with
  | zero => rfl
  | succ m ih =>
    have h1 := (g26Qn A n _ _ _).trans (g26J5_eq A n kk m (g26L3 A n kk  m) ih  (g26R3s0 A x0 x1 x2 x3 x4) x0 x1 x2 x3 x4 (by kernel_rfl))
    have h2 := (g26p651 A n _ _).trans h1
    have h3 : (g26T kk) .ret (g26R8s0 A x3 x4) = kk (aN .u64 4 x4) [(1002, (bU 4 x4 24)), (2001, (bU 4 x4 24))] := by kernel_rfl
    have h4 := (g26p31 A n _ _).trans h3
    have h5 := (g26Qn A n _ _ _).trans h4
    have h6 := (g26F A n _ 8 _ (g26R3s0 A x0 x1 x2 x3 x4) _ (by kernel_rfl) (by kernel_rfl)).trans (g26R8 A n (g26Q A n (pth 31) (g26T kk)) x3 x4)
    rw [h5] at h6
    have h7 := (g26p15 A n _ _).trans h6
    have h8 := (g26Qn A n _ _ _).trans h7
    have h9 := (blockK_hit 0 _ _).trans h8
    have h10 := (g26We A n (pth 75) m _ _ _).trans h9
    have h11 := (g26Qe A n (pth 203) _ _ _).trans h10
    have h12 := (g26p907 A n _ _).trans h11
    have h13 := g26p395 A n (g26Q A n (pth 203) (g26W A n (pth 75) m (blockK 0 (g26Q A n (pth 15) (g26T kk))))) (g26R3s0 A x0 x1 x2 x3 x4) (A.ic .geq x0 0) (by kernel_rfl)
    rw [h2, h12] at h13
    have h14 := (g26Qn A n _ _ _).trans h13
    have h15 := (g26F A n _ 3 _ ⟨[(2, (pT 1000 0)), (3, (pT 1001 0)), (4, (pT 1002 0)), (5, (pT 2001 0)), (6, (i6 x0))], [(1000, (bU 4 x1 24)), (1001, (bU 4 x2 23)), (1002, (bU 4 x3 24)), (2001, (bU 4 x4 24))]⟩ _ (by kernel_rfl) (by kernel_rfl)).trans (g26R3 A n (g26Q A n (pth 395) (g26Q A n (pth 203) (g26W A n (pth 75) m (blockK 0 (g26Q A n (pth 15) (g26T kk)))))) x0 x1 x2 x3 x4)
    rw [h14] at h15
    have h16 := (g26p139 A n _ _).trans h15
    have h17 := (g26p75 A n _ _).trans h16
    exact (loopD_first (s' := ⟨[(2, (pT 1000 0)), (3, (pT 1001 0)), (4, (pT 1002 0)), (5, (pT 2001 0)), (6, (i6 x0))], [(1000, (bU 4 x1 24)), (1001, (bU 4 x2 23)), (1002, (bU 4 x3 24)), (2001, (bU 4 x4 24))]⟩) (id := 3) (by kernel_rfl) (h.trans (by kernel_rfl)) _).trans ((g26Vs A n _ m _ _).trans (h17.trans (by kernel_rfl)))
def g26 {R : Type} (A : Ar) (n : Nat) (kk : AV → Heap → Option R) (a b : List Nat) : Option R :=
  match (generalizing := false) g35ok A 1 with
  | true => g26L3 A n kk  n 255 a b [0, 0, 0, 0] (g35r0 A 1)
  | false => none
set_option maxRecDepth 100000 in
theorem g26_eq {R : Type} (A : Ar) (n : Nat) (kk : AV → Heap → Option R) (a b : List Nat) :
    funD A gtys (g26O A) g26an n (bodyOf Try.f26) g26res [(aN .u64 4 a), (aN .u64 4 b)] [] kk = g26 A n kk a b := by
  have h1 := (g26p43 A n _ _).trans (g26L3_eq A n kk    n (g26R2s0 A a b [0, 0, 0, 0] (g35r0 A 1)) 255 a b [0, 0, 0, 0] (g35r0 A 1) (by kernel_rfl))
  have h2 := (g26p27 A n _ _).trans h1
  have h3 := (g26Qn A n _ _ _).trans h2
  have h4 := (g26F A n _ 2 _ (g26R1s0 A a b [0, 0, 0, 0]) _ (by kernel_rfl) (by kernel_rfl)).trans (g26R2 A n (g26Q A n (pth 27) (g26Q A n (pth 15) (g26T kk))) a b [0, 0, 0, 0] (g35r0 A 1))
  rw [h3] at h4
  have h5 := (g26p11 A n _ _).trans h4
  have h6 := (g26p7 A n _ _).trans h5
  have h7 := (g26Qn A n _ _ _).trans h6
  have h8 := (g26F A n _ 1 _ (g26R0s0 A a b) _ (by kernel_rfl) (by kernel_rfl)).trans (g26R1 A n (g26Q A n (pth 7) (g26T kk)) a b [0, 0, 0, 0])
  rw [h7] at h8
  have h9 := (g26p3 A n _ _).trans h8
  have h10 := (g26Qn A n _ _ _).trans h9
  have h11 := (g26F A n _ 0 _ ⟨[(0, (aN .u64 4 a)), (1, (aN .u64 4 b))], []⟩ _ (by kernel_rfl) (by kernel_rfl)).trans (g26R0 A n (g26Q A n (pth 3) (g26T kk)) a b)
  rw [h10] at h11
  have h12 := (g26p1 A n _ _).trans h11
  exact (show funD A gtys (g26O A) g26an n (bodyOf Try.f26) g26res [(aN .u64 4 a), (aN .u64 4 b)] [] kk = g26D A n (pth 1) (g26T kk) ⟨[(0, (aN .u64 4 a)), (1, (aN .u64 4 b))], []⟩ from by kernel_rfl).trans (h12.trans (by kernel_rfl))
def g26is (o : Option AV) : Bool := match o with
  | some (aN .u64 4 _) => true
  | _ => false
def g26g0 (o : Option AV) : List Nat := match o with
  | some (aN .u64 4 x) => x
  | _ => []
theorem g26is_spec {o : Option AV} (h : g26is o = true) : o = some (aN .u64 4 (g26g0 o)) := by
  unfold g26is at h
  split at h
  · rfl
  · cases h
def g26v (A : Ar) (a b : List Nat) : Option AV := g26 A (100000) (fun v _ => some v) a b
def g26ok (A : Ar) (a b : List Nat) : Bool := g26is (g26v A a b)
def g26r0 (A : Ar) (a b : List Nat) : List Nat := g26g0 (g26v A a b)
theorem g26ok_spec {A : Ar} {a b} (h : g26ok A a b = true) : g26v A a b = some (aN .u64 4 (g26r0 A a b)) := g26is_spec h
def g26o (A : Ar) (args : List AV) : Option (Bool × AV) := match args with
  | [.v (.agg [.nums .u64 n0 a]), .v (.agg [.nums .u64 n1 b])] => some (Nat.beq n0 4 && (Nat.beq n1 4 && (g26ok A a b)), .v (.agg [.nums .u64 4 (g26r0 A a b)]))
  | _ => none
theorem g26o_sound : ∀ args v, g26o realA args = some (true, v) → Fn1 Try.prog 26 args v := by
  intro args v h
  unfold g26o at h
  split at h
  · rename_i n0 a n1 b
    simp only [Option.some.injEq, Prod.mk.injEq] at h
    obtain ⟨hc, h⟩ := h
    subst h
    · skip
      simp only [Bool.and_eq_true] at hc
      have en0 := beq_true hc.1
      subst en0
      replace hc := hc.2
      have en1 := beq_true hc.1
      subst en1
      replace hc := hc.2
      exact fn1_of mixed gtysOK g26O_sound g26O_det (an := g26an) (n := 100000) Try.func26 (c := bodyOf Try.f26) rfl (by kernel_rfl) Try.call26 (Nat.le_of_ble_eq_true rfl) (fun b => rfl) (fun _ => (g26_eq realA (100000) (fun v _ => some v) a b).trans (show g26v realA a b = _ from g26ok_spec hc))
  · cases h
/- engrosser/engrosserref03.Invert -/
def g28O (A : Ar) : Orc := orcOf [(26, g26o A)]
theorem g28O_sound : OSound Try.prog (g28O realA) := orc_sound fun f g hm args v hv => by
  simp only [List.mem_cons, List.not_mem_nil, or_false, Prod.mk.injEq] at hm
  rcases hm with ⟨rfl, rfl⟩
  · exact g26o_sound _ _ hv
theorem g28O_det : ODet (g28O realA) := orc_det _
def g28an : Ann := [(0, ([0], [])), (1, ([1, 2], [1000, 1001]))]
def g28res : List ResultVar := [.cell 2 24]
noncomputable def g28D {R : Type} (A : Ar) (n : Nat) (p : List Bool) (K : Ex → St → Option R) (s : St) : Option R := codeD A gtys (g28O A) g28an n (sub (bodyOf Try.f28) p) K s
noncomputable def g28Q {R : Type} (A : Ar) (n : Nat) (p : List Bool) (K : Ex → St → Option R) : Ex → St → Option R := seqC (g28D A n p K) K
noncomputable def g28T {R : Type} (kk : AV → Heap → Option R) : Ex → St → Option R := finD gtys g28res kk
theorem g28Qn {R : Type} (A : Ar) (n : Nat) (p : List Bool) (K : Ex → St → Option R) (s : St) : g28Q A n p K .normal s = g28D A n p K s := rfl
theorem g28F {R : Type} (A : Ar) (n : Nat) (p : List Bool) (i : Nat) (K : Ex → St → Option R) (s s' : St) (hf : firstReg (sub (bodyOf Try.f28) p) = some i) (h : keep g28an i s = keep g28an i s') : g28D A n p K s = g28D A n p K s' := codeD_first hf h K
section
variable {R : Type} (A : Ar) (n : Nat) (K : Ex → St → Option R) (s : St)
theorem g28p1 : g28D A n (pth 1) K s = g28D A n (pth 2) (g28Q A n (pth 3) K) s := by kernel_rfl
theorem g28p3 : g28D A n (pth 3) K s = g28D A n (pth 5) (g28Q A n (pth 7) K) s := by kernel_rfl
theorem g28p7 : g28D A n (pth 7) K s = K .ret s := by kernel_rfl
def g28R0s0 (A : Ar) (x0 : List Nat) : St := ⟨[(2, (pT 1001 0)), (1, (pT 1000 0)), (0, (aN .u64 4 x0))], [(1001, (bU 4 [0, 0, 0, 0] 24)), (1000, (bU 4 x0 24))]⟩
theorem g28R0 (x0 : List Nat) : g28D A n (pth 2) K ⟨[(0, (aN .u64 4 x0))], []⟩ = K .normal (g28R0s0 A x0) := by kernel_rfl
def g28R1s0 (A : Ar) (x0 x1 : List Nat) : St := ⟨[(5, (aN .u64 4 (g26r0 A x0 (((([0, 0, 0, 0].set 0 18446744073709551595).set 1 18446744073709551615).set 2 18446744073709551615).set 3 9223372036854775807)))), (4, (aN .u64 4 (((([0, 0, 0, 0].set 0 18446744073709551595).set 1 18446744073709551615).set 2 18446744073709551615).set 3 9223372036854775807))), (3, (aN .u64 4 x0)), (1, (pT 1000 0)), (2, (pT 1001 0))], [(1000, (bU 4 x0 24)), (1001, (bU 4 (g26r0 A x0 (((([0, 0, 0, 0].set 0 18446744073709551595).set 1 18446744073709551615).set 2 18446744073709551615).set 3 9223372036854775807)) 24))]⟩
theorem g28R1 (x0 x1 : List Nat) : g28D A n (pth 5) K ⟨[(1, (pT 1000 0)), (2, (pT 1001 0))], [(1000, (bU 4 x0 24)), (1001, (bU 4 x1 24))]⟩ = match (generalizing := false) g26ok A x0 (((([0, 0, 0, 0].set 0 18446744073709551595).set 1 18446744073709551615).set 2 18446744073709551615).set 3 9223372036854775807) with
    | true => K .normal (g28R1s0 A x0 x1)
    | false => none := by kernel_rfl
end
def g28 {R : Type} (A : Ar) (n : Nat) (kk : AV → Heap → Option R) (a : List Nat) : Option R :=
  match (generalizing := false) g26ok A a (((([0, 0, 0, 0].set 0 18446744073709551595).set 1 18446744073709551615).set 2 18446744073709551615).set 3 9223372036854775807) with
  | true => kk (aN .u64 4 (g26r0 A a (((([0, 0, 0, 0].set 0 18446744073709551595).set 1 18446744073709551615).set 2 18446744073709551615).set 3 9223372036854775807))) [(1000, (bU 4 a 24)), (1001, (bU 4 (g26r0 A a (((([0, 0, 0, 0].set 0 18446744073709551595).set 1 18446744073709551615).set 2 18446744073709551615).set 3 9223372036854775807)) 24))]
  | false => none
set_option maxRecDepth 100000 in
theorem g28_eq {R : Type} (A : Ar) (n : Nat) (kk : AV → Heap → Option R) (a : List Nat) :
    funD A gtys (g28O A) g28an n (bodyOf Try.f28) g28res [(aN .u64 4 a)] [] kk = g28 A n kk a := by
  have h1 : (g28T kk) .ret (g28R1s0 A a [0, 0, 0, 0]) = kk (aN .u64 4 (g26r0 A a (((([0, 0, 0, 0].set 0 18446744073709551595).set 1 18446744073709551615).set 2 18446744073709551615).set 3 9223372036854775807))) [(1000, (bU 4 a 24)), (1001, (bU 4 (g26r0 A a (((([0, 0, 0, 0].set 0 18446744073709551595).set 1 18446744073709551615).set 2 18446744073709551615).set 3 9223372036854775807)) 24))] := by kernel_rfl
  have h2 := (g28p7 A n _ _).trans h1
  have h3 := (g28Qn A n _ _ _).trans h2
  have h4 := (g28F A n _ 1 _ (g28R0s0 A a) _ (by kernel_rfl) (by kernel_rfl)).trans (g28R1 A n (g28Q A n (pth 7) (g28T kk)) a [0, 0, 0, 0])
  rw [h3] at h4
  have h5 := (g28p3 A n _ _).trans h4
  have h6 := (g28Qn A n _ _ _).trans h5
  have h7 := (g28F A n _ 0 _ ⟨[(0, (aN .u64 4 a))], []⟩ _ (by kernel_rfl) (by kernel_rfl)).trans (g28R0 A n (g28Q A n (pth 3) (g28T kk)) a)
  rw [h6] at h7
  have h8 := (g28p1 A n _ _).trans h7
  exact (show funD A gtys (g28O A) g28an n (bodyOf Try.f28) g28res [(aN .u64 4 a)] [] kk = g28D A n (pth 1) (g28T kk) ⟨[(0, (aN .u64 4 a))], []⟩ from by kernel_rfl).trans (h8.trans (by kernel_rfl))
def g28is (o : Option AV) : Bool := match o with
  | some (aN .u64 4 _) => true
  | _ => false
def g28g0 (o : Option AV) : List Nat := match o with
  | some (aN .u64 4 x) => x
  | _ => []
theorem g28is_spec {o : Option AV} (h : g28is o = true) : o = some (aN .u64 4 (g28g0 o)) := by
  unfold g28is at h
  split at h
  · rfl
  · cases h
def g28v (A : Ar) (a : List Nat) : Option AV := g28 A (100000) (fun v _ => some v) a
def g28ok (A : Ar) (a : List Nat) : Bool := g28is (g28v A a)
def g28r0 (A : Ar) (a : List Nat) : List Nat := g28g0 (g28v A a)
theorem g28ok_spec {A : Ar} {a} (h : g28ok A a = true) : g28v A a = some (aN .u64 4 (g28r0 A a)) := g28is_spec h
def g28o (A : Ar) (args : List AV) : Option (Bool × AV) := match args with
  | [.v (.agg [.nums .u64 n0 a])] => some (Nat.beq n0 4 && (g28ok A a), .v (.agg [.nums .u64 4 (g28r0 A a)]))
  | _ => none
theorem g28o_sound : ∀ args v, g28o realA args = some (true, v) → Fn1 Try.prog 28 args v := by
  intro args v h
  unfold g28o at h
  split at h
  · rename_i n0 a
    simp only [Option.some.injEq, Prod.mk.injEq] at h
    obtain ⟨hc, h⟩ := h
    subst h
    · skip
      simp only [Bool.and_eq_true] at hc
      have en0 := beq_true hc.1
      subst en0
      replace hc := hc.2
      exact fn1_of mixed gtysOK g28O_sound g28O_det (an := g28an) (n := 100000) Try.func28 (c := bodyOf Try.f28) rfl (by kernel_rfl) Try.call28 (Nat.le_of_ble_eq_true rfl) (fun b => rfl) (fun _ => (g28_eq realA (100000) (fun v _ => some v) a).trans (show g28v realA a = _ from g28ok_spec hc))
  · cases h
/- engrosser/engrosserref03.Root -/
def g25O (A : Ar) : Orc := orcOf [(28, g28o A), (17, g17o A), (26, g26o A), (35, g35o A), (39, g39o A), (40, g40o A), (32, g32o A), (19, g19o A)]
theorem g25O_sound : OSound Try.prog (g25O realA) := orc_sound fun f g hm args v hv => by
  simp only [List.mem_cons, List.not_mem_nil, or_false, Prod.mk.injEq] at hm
  rcases hm with ⟨rfl, rfl⟩ | ⟨rfl, rfl⟩ | ⟨rfl, rfl⟩ | ⟨rfl, rfl⟩ | ⟨rfl, rfl⟩ | ⟨rfl, rfl⟩ | ⟨rfl, rfl⟩ | ⟨rfl, rfl⟩
  · exact g28o_sound _ _ hv
  · exact g17o_sound _ _ hv
  · exact g26o_sound _ _ hv
  · exact g35o_sound _ _ hv
  · exact g39o_sound _ _ hv
  · exact g40o_sound _ _ hv
  · exact g32o_sound _ _ hv
  · exact g19o_sound _ _ hv
theorem g25O_det : ODet (g25O realA) := orc_det _
def g25an : Ann := [(0, ([0, 1], [])), (1, ([2, 3, 4], [1000, 1001, 1002])), (2, ([2, 3, 4, 6], [1000, 1001, 1002, 2004])), (3, ([2, 3, 4, 7], [1000, 1001, 1002, 3003])), (4, ([2, 3, 4, 7, 8], [1000, 1001, 1002, 3003, 4003])), (5, ([3, 4, 7, 8, 9], [1001, 1002, 3003, 4003, 5003])), (6, ([3, 4, 7, 8, 9, 10], [1001, 1002, 3003, 4003, 5003])), (7, ([3, 4, 7, 8, 9, 10], [1001, 1002, 3003, 4003, 5003])), (8, ([3, 4, 7, 8, 9, 10], [1001, 1002, 3003, 4003, 5003])), (9, ([4, 7], [1002, 3003])), (10, ([4, 7], [1002, 3003])), (11, ([4, 7], [1002, 3003])), (12, ([3, 4, 7, 8, 9, 10], [1001, 1002, 3003, 4003, 5003])), (13, ([4], [1002]))]
def g25res : List ResultVar := [.cell 4 24, .tmp 5]
noncomputable def g25D {R : Type} (A : Ar) (n : Nat) (p : List Bool) (K : Ex → St → Option R) (s : St) : Option R := codeD A gtys (g25O A) g25an n (sub (bodyOf Try.f25) p) K s
noncomputable def g25V {R : Type} (A : Ar) (n : Nat) (p : List Bool) (m : Nat) (K : Ex → St → Option R) (s : St) : Option R := loopD (fun K' s'' => codeD A gtys (g25O A) g25an n (sub (bodyOf Try.f25) p) K' s'') m K s
noncomputable def g25Q {R : Type} (A : Ar) (n : Nat) (p : List Bool) (K : Ex → St → Option R) : Ex → St → Option R := seqC (g25D A n p K) K
noncomputable def g25W {R : Type} (A : Ar) (n : Nat) (p : List Bool) (m : Nat) (K : Ex → St → Option R) : Ex → St → Option R := seqC (g25V A n p m K) K
noncomputable def g25T {R : Type} (kk : AV → Heap → Option R) : Ex → St → Option R := finD gtys g25res kk
theorem g25Qn {R : Type} (A : Ar) (n : Nat) (p : List Bool) (K : Ex → St → Option R) (s : St) : g25Q A n p K .normal s = g25D A n p K s := rfl
theorem g25Qe {R : Type} (A : Ar) (n : Nat) (p : List Bool) (K : Ex → St → Option R) (i : Nat) (s : St) : g25Q A n p K (.exit i) s = K (.exit i) s := rfl
theorem g25Qr {R : Type} (A : Ar) (n : Nat) (p : List Bool) (K : Ex → St → Option R) (s : St) : g25Q A n p K .ret s = K .ret s := rfl
theorem g25Wn {R : Type} (A : Ar) (n : Nat) (p : List Bool) (m : Nat) (K : Ex → St → Option R) (s : St) : g25W A n p m K .normal s = g25V A n p m K s := rfl
theorem g25We {R : Type} (A : Ar) (n : Nat) (p : List Bool) (m : Nat) (K : Ex → St → Option R) (i : Nat) (s : St) : g25W A n p m K (.exit i) s = K (.exit i) s := rfl
theorem g25Wr {R : Type} (A : Ar) (n : Nat) (p : List Bool) (m : Nat) (K : Ex → St → Option R) (s : St) : g25W A n p m K .ret s = K .ret s := rfl
theorem g25Vs {R : Type} (A : Ar) (n : Nat) (p : List Bool) (m : Nat) (K : Ex → St → Option R) (s : St) : g25V A n p (m + 1) K s = g25D A n p (g25W A n p m K) s := rfl
theorem g25F {R : Type} (A : Ar) (n : Nat) (p : List Bool) (i : Nat) (K : Ex → St → Option R) (s s' : St) (hf : firstReg (sub (bodyOf Try.f25) p) = some i) (h : keep g25an i s = keep g25an i s') : g25D A n p K s = g25D A n p K s' := codeD_first hf h K
section
variable {R : Type} (A : Ar) (n : Nat) (K : Ex → St → Option R) (s : St)
theorem g25p1 : g25D A n (pth 1) K s = g25D A n (pth 2) (g25Q A n (pth 3) K) s := by kernel_rfl
theorem g25p3 : g25D A n (pth 3) K s = g25D A n (pth 5) (g25Q A n (pth 7) K) s := by kernel_rfl
theorem g25p7 : g25D A n (pth 7) K s = g25D A n (pth 11) (g25Q A n (pth 15) K) s := by kernel_rfl
theorem g25p15 : g25D A n (pth 15) K s = g25D A n (pth 23) (g25Q A n (pth 31) K) s := by kernel_rfl
theorem g25p31 : g25D A n (pth 31) K s = g25D A n (pth 47) (g25Q A n (pth 63) K) s := by kernel_rfl
theorem g25p63 : g25D A n (pth 63) K s = g25D A n (pth 95) (g25Q A n (pth 127) K) s := by kernel_rfl
theorem g25p95 : g25D A n (pth 95) K s = g25D A n (pth 159) (g25Q A n (pth 223) K) s := by kernel_rfl
theorem g25p223 : g25D A n (pth 223) K s = g25D A n (pth 351) (blockK 0 K) s := by kernel_rfl
theorem g25p351 : g25D A n (pth 351) K s = g25V A n (pth 607) n K s := by kernel_rfl
theorem g25p607 : g25D A n (pth 607) K s = g25D A n (pth 1119) (g25Q A n (pth 1631) K) s := by kernel_rfl
theorem g25p1119 : g25D A n (pth 1119) K s = g25D A n (pth 2143) (g25Q A n (pth 3167) K) s := by kernel_rfl
theorem g25p3167 (t : Bool) : ev s (.tmp 25) = some (.v (.cell (.bool t))) → g25D A n (pth 3167) K s = (match t with
    | true => g25D A n (pth 5215) K s
    | false => g25D A n (pth 7263) K s) := codeD_cond t
theorem g25p5215 : g25D A n (pth 5215) K s = K .normal s := by kernel_rfl
theorem g25p7263 : g25D A n (pth 7263) K s = K (.exit 0) s := by kernel_rfl
theorem g25p1631 : g25D A n (pth 1631) K s = g25D A n (pth 2655) (g25Q A n (pth 3679) K) s := by kernel_rfl
theorem g25p2655 : g25D A n (pth 2655) K s = g25D A n (pth 4703) (blockK 1 K) s := by kernel_rfl
theorem g25p4703 : g25D A n (pth 4703) K s = g25D A n (pth 8799) (g25Q A n (pth 12895) K) s := by kernel_rfl
theorem g25p8799 : g25D A n (pth 8799) K s = g25D A n (pth 16991) (g25Q A n (pth 25183) K) s := by kernel_rfl
theorem g25p25183 (t : Bool) : ev s (.tmp 34) = some (.v (.cell (.bool t))) → g25D A n (pth 25183) K s = (match t with
    | true => g25D A n (pth 41567) K s
    | false => g25D A n (pth 57951) K s) := codeD_cond t
theorem g25p41567 : g25D A n (pth 41567) K s = g25D A n (pth 74335) (g25Q A n (pth 107103) K) s := by kernel_rfl
theorem g25p74335 : g25D A n (pth 74335) K s = g25D A n (pth 139871) (g25Q A n (pth 205407) K) s := by kernel_rfl
theorem g25p205407 (t : Bool) : ev s (.tmp 36) = some (.v (.cell (.bool t))) → g25D A n (pth 205407) K s = (match t with
    | true => g25D A n (pth 336479) K s
    | false => g25D A n (pth 467551) K s) := codeD_cond t
theorem g25p467551 : g25D A n (pth 467551) K s = K .normal s := by kernel_rfl
theorem g25p107103 : g25D A n (pth 107103) K s = g25D A n (pth 172639) (g25Q A n (pth 238175) K) s := by kernel_rfl
theorem g25p238175 : g25D A n (pth 238175) K s = K .ret s := by kernel_rfl
theorem g25p57951 : g25D A n (pth 57951) K s = K .normal s := by kernel_rfl
theorem g25p127 : g25D A n (pth 127) K s = g25D A n (pth 191) (g25Q A n (pth 255) K) s := by kernel_rfl
theorem g25p255 : g25D A n (pth 255) K s = K .ret s := by kernel_rfl
def g25R8s0 (A : Ar) (x0 : Int) (x1 x2 : List Nat) (x3 x4 x5 : List Nat) : St := ⟨[(34, (bO ((A.lq (g17r0 A x1 (g17r0 A x3 x3)) x5) && true))), (33, (aN .u64 4 x5)), (32, (aN .u64 4 (g17r0 A x1 (g17r0 A x3 x3)))), (31, (aN .u64 4 (g17r0 A x3 x3))), (30, (aN .u64 4 x3)), (29, (aN .u64 4 x3)), (28, (aN .u64 4 x1)), (3, (pT 1001 0)), (4, (pT 1002 0)), (7, (pT 3003 0)), (8, (pT 4003 0)), (9, (pT 5003 0)), (10, (i6 x0))], [(1001, (bU 4 x1 24)), (1002, (bU 4 x2 24)), (3003, (bU 4 x3 24)), (4003, (bU 4 x4 24)), (5003, (bU 4 x5 24))]⟩
theorem g25R8 (x0 : Int) (x1 x2 : List Nat) (x3 x4 x5 : List Nat) : g25D A n (pth 16991) K ⟨[(3, (pT 1001 0)), (4, (pT 1002 0)), (7, (pT 3003 0)), (8, (pT 4003 0)), (9, (pT 5003 0)), (10, (i6 x0))], [(1001, (bU 4 x1 24)), (1002, (bU 4 x2 24)), (3003, (bU 4 x3 24)), (4003, (bU 4 x4 24)), (5003, (bU 4 x5 24))]⟩ = match (generalizing := false) g17ok A x3 x3 with
    | true => match (generalizing := false) g17ok A x1 (g17r0 A x3 x3) with
      | true => K .normal (g25R8s0 A x0 x1 x2 x3 x4 x5)
      | false => none
    | false => none := by kernel_rfl
def g25R9s0 (A : Ar) (x0 x1 : List Nat) : St := ⟨[(36, (bO (g32r0 A x1))), (35, (aN .u64 4 x1)), (4, (pT 1002 0)), (7, (pT 3003 0))], [(1002, (bU 4 x0 24)), (3003, (bU 4 x1 24))]⟩
theorem g25R9 (x0 x1 : List Nat) : g25D A n (pth 139871) K ⟨[(4, (pT 1002 0)), (7, (pT 3003 0))], [(1002, (bU 4 x0 24)), (3003, (bU 4 x1 24))]⟩ = match (generalizing := false) g32ok A x1 with
    | true => K .normal (g25R9s0 A x0 x1)
    | false => none := by kernel_rfl
def g25R10s0 (A : Ar) (x0 x1 : List Nat) : St := ⟨[(38, (aN .u64 4 (g19r0 A x1))), (37, (aN .u64 4 x1)), (4, (pT 1002 0)), (7, (pT 3003 0))], [(1002, (bU 4 x0 24)), (3003, (bU 4 (g19r0 A x1) 24))]⟩
theorem g25R10 (x0 x1 : List Nat) : g25D A n (pth 336479) K ⟨[(4, (pT 1002 0)), (7, (pT 3003 0))], [(1002, (bU 4 x0 24)), (3003, (bU 4 x1 24))]⟩ = match (generalizing := false) g19ok A x1 with
    | true => K .normal (g25R10s0 A x0 x1)
    | false => none := by kernel_rfl
def g25R11s0 (A : Ar) (x0 x1 : List Nat) : St := ⟨[(5, (bO true)), (39, (aN .u64 4 x1)), (4, (pT 1002 0)), (7, (pT 3003 0))], [(1002, (bU 4 x1 24)), (3003, (bU 4 x1 24))]⟩
theorem g25R11 (x0 x1 : List Nat) : g25D A n (pth 172639) K ⟨[(4, (pT 1002 0)), (7, (pT 3003 0))], [(1002, (bU 4 x0 24)), (3003, (bU 4 x1 24))]⟩ = K .normal (g25R11s0 A x0 x1) := by kernel_rfl
def g25R12s0 (A : Ar) (x0 : Int) (x1 x2 : List Nat) (x3 x4 x5 : List Nat) : St := ⟨[(42, (aN .u64 4 (g17r0 A x3 x4))), (41, (aN .u64 4 x4)), (40, (aN .u64 4 x3)), (3, (pT 1001 0)), (4, (pT 1002 0)), (7, (pT 3003 0)), (8, (pT 4003 0)), (9, (pT 5003 0)), (10, (i6 x0))], [(1001, (bU 4 x1 24)), (1002, (bU 4 x2 24)), (3003, (bU 4 (g17r0 A x3 x4) 24)), (4003, (bU 4 x4 24)), (5003, (bU 4 x5 24))]⟩
theorem g25R12 (x0 : Int) (x1 x2 : List Nat) (x3 x4 x5 : List Nat) : g25D A n (pth 12895) K ⟨[(3, (pT 1001 0)), (4, (pT 1002 0)), (7, (pT 3003 0)), (8, (pT 4003 0)), (9, (pT 5003 0)), (10, (i6 x0))], [(1001, (bU 4 x1 24)), (1002, (bU 4 x2 24)), (3003, (bU 4 x3 24)), (4003, (bU 4 x4 24)), (5003, (bU 4 x5 24))]⟩ = match (generalizing := false) g17ok A x3 x4 with
    | true => K .normal (g25R12s0 A x0 x1 x2 x3 x4 x5)
    | false => none := by kernel_rfl
def g25R7s0 (A : Ar) (x0 : Int) (x1 x2 : List Nat) (x3 x4 x5 : List Nat) : St := ⟨[(10, (i6 (A.ib .add .i64 x0 1))), (27, (i6 (A.ib .add .i64 x0 1))), (26, (i6 x0)), (3, (pT 1001 0)), (4, (pT 1002 0)), (7, (pT 3003 0)), (8, (pT 4003 0)), (9, (pT 5003 0)), (10, (i6 x0))], [(1001, (bU 4 x1 24)), (1002, (bU 4 x2 24)), (3003, (bU 4 x3 24)), (4003, (bU 4 x4 24)), (5003, (bU 4 x5 24))]⟩
theorem g25R7 (x0 : Int) (x1 x2 : List Nat) (x3 x4 x5 : List Nat) : g25D A n (pth 3679) K ⟨[(3, (pT 1001 0)), (4, (pT 1002 0)), (7, (pT 3003 0)), (8, (pT 4003 0)), (9, (pT 5003 0)), (10, (i6 x0))], [(1001, (bU 4 x1 24)), (1002, (bU 4 x2 24)), (3003, (bU 4 x3 24)), (4003, (bU 4 x4 24)), (5003, (bU 4 x5 24))]⟩ = K .normal (g25R7s0 A x0 x1 x2 x3 x4 x5) := by kernel_rfl
def g25R6s0 (A : Ar) (x0 : Int) (x1 x2 : List Nat) (x3 x4 x5 : List Nat) : St := ⟨[(25, (bO (A.ic .lss x0 2))), (24, (i6 x0)), (3, (pT 1001 0)), (4, (pT 1002 0)), (7, (pT 3003 0)), (8, (pT 4003 0)), (9, (pT 5003 0)), (10, (i6 x0))], [(1001, (bU 4 x1 24)), (1002, (bU 4 x2 24)), (3003, (bU 4 x3 24)), (4003, (bU 4 x4 24)), (5003, (bU 4 x5 24))]⟩
theorem g25R6 (x0 : Int) (x1 x2 : List Nat) (x3 x4 x5 : List Nat) : g25D A n (pth 2143) K ⟨[(3, (pT 1001 0)), (4, (pT 1002 0)), (7, (pT 3003 0)), (8, (pT 4003 0)), (9, (pT 5003 0)), (10, (i6 x0))], [(1001, (bU 4 x1 24)), (1002, (bU 4 x2 24)), (3003, (bU 4 x3 24)), (4003, (bU 4 x4 24)), (5003, (bU 4 x5 24))]⟩ = K .normal (g25R6s0 A x0 x1 x2 x3 x4 x5) := by kernel_rfl
def g25R13s0 (A : Ar) (x0 : List Nat) : St := ⟨[(5, (bO false)), (43, (aN .u64 4 [0, 0, 0, 0])), (4, (pT 1002 0))], [(1002, (bU 4 [0, 0, 0, 0] 24))]⟩
theorem g25R13 (x0 : List Nat) : g25D A n (pth 191) K ⟨[(4, (pT 1002 0))], [(1002, (bU 4 x0 24))]⟩ = K .normal (g25R13s0 A x0) := by kernel_rfl
def g25R0s0 (A : Ar) (x0 x1 : List Nat) : St := ⟨[(5, (bO false)), (4, (pT 1002 0)), (3, (pT 1001 0)), (2, (pT 1000 0)), (0, (aN .u64 4 x0)), (1, (aN .u64 4 x1))], [(1002, (bU 4 [0, 0, 0, 0] 24)), (1001, (bU 4 x1 24)), (1000, (bU 4 x0 24))]⟩
theorem g25R0 (x0 x1 : List Nat) : g25D A n (pth 2) K ⟨[(0, (aN .u64 4 x0)), (1, (aN .u64 4 x1))], []⟩ = K .normal (g25R0s0 A x0 x1) := by kernel_rfl
def g25R1s0 (A : Ar) (x0 x1 x2 : List Nat) : St := ⟨[(6, (pT 2004 0)), (14, (aN .u64 4 (g17r0 A x0 (g28r0 A x1)))), (13, (aN .u64 4 (g28r0 A x1))), (12, (aN .u64 4 x1)), (11, (aN .u64 4 x0)), (2, (pT 1000 0)), (3, (pT 1001 0)), (4, (pT 1002 0))], [(2004, (bU 4 (g17r0 A x0 (g28r0 A x1)) 24)), (1000, (bU 4 x0 24)), (1001, (bU 4 x1 24)), (1002, (bU 4 x2 24))]⟩
theorem g25R1 (x0 x1 x2 : List Nat) : g25D A n (pth 5) K ⟨[(2, (pT 1000 0)), (3, (pT 1001 0)), (4, (pT 1002 0))], [(1000, (bU 4 x0 24)), (1001, (bU 4 x1 24)), (1002, (bU 4 x2 24))]⟩ = match (generalizing := false) g28ok A x1 with
    | true => match (generalizing := false) g17ok A x0 (g28r0 A x1) with
      | true => K .normal (g25R1s0 A x0 x1 x2)
      | false => none
    | false => none := by kernel_rfl
def g25R2s0 (A : Ar) (x0 x1 : List Nat) (x2 x3 : List Nat) : St := ⟨[(7, (pT 3003 0)), (17, (aN .u64 4 (g26r0 A x3 (((([0, 0, 0, 0].set 0 18446744073709551614).set 1 18446744073709551615).set 2 18446744073709551615).set 3 1152921504606846975)))), (16, (aN .u64 4 (((([0, 0, 0, 0].set 0 18446744073709551614).set 1 18446744073709551615).set 2 18446744073709551615).set 3 1152921504606846975))), (15, (aN .u64 4 x3)), (2, (pT 1000 0)), (3, (pT 1001 0)), (4, (pT 1002 0)), (6, (pT 2004 0))], [(3003, (bU 4 (g26r0 A x3 (((([0, 0, 0, 0].set 0 18446744073709551614).set 1 18446744073709551615).set 2 18446744073709551615).set 3 1152921504606846975)) 24)), (1000, (bU 4 x0 24)), (1001, (bU 4 x1 24)), (1002, (bU 4 x2 24)), (2004, (bU 4 x3 24))]⟩
theorem g25R2 (x0 x1 : List Nat) (x2 x3 : List Nat) : g25D A n (pth 11) K ⟨[(2, (pT 1000 0)), (3, (pT 1001 0)), (4, (pT 1002 0)), (6, (pT 2004 0))], [(1000, (bU 4 x0 24)), (1001, (bU 4 x1 24)), (1002, (bU 4 x2 24)), (2004, (bU 4 x3 24))]⟩ = match (generalizing := false) g26ok A x3 (((([0, 0, 0, 0].set 0 18446744073709551614).set 1 18446744073709551615).set 2 18446744073709551615).set 3 1152921504606846975) with
    | true => K .normal (g25R2s0 A x0 x1 x2 x3)
    | false => none := by kernel_rfl
def g25R3s0 (A : Ar) (x0 x1 : List Nat) (x2 x3 : List Nat) : St := ⟨[(8, (pT 4003 0)), (20, (aN .u64 4 (g26r0 A (g35r0 A 2) (((([0, 0, 0, 0].set 0 18446744073709551611).set 1 18446744073709551615).set 2 18446744073709551615).set 3 2305843009213693951)))), (19, (aN .u64 4 (((([0, 0, 0, 0].set 0 18446744073709551611).set 1 18446744073709551615).set 2 18446744073709551615).set 3 2305843009213693951))), (18, (aN .u64 4 (g35r0 A 2))), (2, (pT 1000 0)), (3, (pT 1001 0)), (4, (pT 1002 0)), (7, (pT 3003 0))], [(4003, (bU 4 (g26r0 A (g35r0 A 2) (((([0, 0, 0, 0].set 0 18446744073709551611).set 1 18446744073709551615).set 2 18446744073709551615).set 3 2305843009213693951)) 24)), (1000, (bU 4 x0 24)), (1001, (bU 4 x1 24)), (1002, (bU 4 x2 24)), (3003, (bU 4 x3 24))]⟩
theorem g25R3 (x0 x1 : List Nat) (x2 x3 : List Nat) : g25D A n (pth 23) K ⟨[(2, (pT 1000 0)), (3, (pT 1001 0)), (4, (pT 1002 0)), (7, (pT 3003 0))], [(1000, (bU 4 x0 24)), (1001, (bU 4 x1 24)), (1002, (bU 4 x2 24)), (3003, (bU 4 x3 24))]⟩ = match (generalizing := false) g35ok A 2 with
    | true => match (generalizing := false) g26ok A (g35r0 A 2) (((([0, 0, 0, 0].set 0 18446744073709551611).set 1 18446744073709551615).set 2 18446744073709551615).set 3 2305843009213693951) with
      | true => K .normal (g25R3s0 A x0 x1 x2 x3)
      | false => none
    | false => none := by kernel_rfl
def g25R4s0 (A : Ar) (x0 x1 : List Nat) (x2 x3 x4 : List Nat) : St := ⟨[(9, (pT 5003 0)), (23, (aN .u64 4 (g40r0 A (g39r0 A x0)))), (22, (aN .u32 8 (g39r0 A x0))), (21, (aN .u64 4 x0)), (2, (pT 1000 0)), (3, (pT 1001 0)), (4, (pT 1002 0)), (7, (pT 3003 0)), (8, (pT 4003 0))], [(5003, (bU 4 (g40r0 A (g39r0 A x0)) 24)), (1000, (bU 4 x0 24)), (1001, (bU 4 x1 24)), (1002, (bU 4 x2 24)), (3003, (bU 4 x3 24)), (4003, (bU 4 x4 24))]⟩
theorem g25R4 (x0 x1 : List Nat) (x2 x3 x4 : List Nat) : g25D A n (pth 47) K ⟨[(2, (pT 1000 0)), (3, (pT 1001 0)), (4, (pT 1002 0)), (7, (pT 3003 0)), (8, (pT 4003 0))], [(1000, (bU 4 x0 24)), (1001, (bU 4 x1 24)), (1002, (bU 4 x2 24)), (3003, (bU 4 x3 24)), (4003, (bU 4 x4 24))]⟩ = match (generalizing := false) g39ok A x0 with
    | true => match (generalizing := false) g40ok A (g39r0 A x0) with
      | true => K .normal (g25R4s0 A x0 x1 x2 x3 x4)
      | false => none
    | false => none := by kernel_rfl
def g25R5s0 (A : Ar) (x0 x1 : List Nat) (x2 x3 x4 : List Nat) : St := ⟨[(10, (i6 0)), (3, (pT 1001 0)), (4, (pT 1002 0)), (7, (pT 3003 0)), (8, (pT 4003 0)), (9, (pT 5003 0))], [(1001, (bU 4 x0 24)), (1002, (bU 4 x1 24)), (3003, (bU 4 x2 24)), (4003, (bU 4 x3 24)), (5003, (bU 4 x4 24))]⟩
theorem g25R5 (x0 x1 : List Nat) (x2 x3 x4 : List Nat) : g25D A n (pth 159) K ⟨[(3, (pT 1001 0)), (4, (pT 1002 0)), (7, (pT 3003 0)), (8, (pT 4003 0)), (9, (pT 5003 0))], [(1001, (bU 4 x0 24)), (1002, (bU 4 x1 24)), (3003, (bU 4 x2 24)), (4003, (bU 4 x3 24)), (5003, (bU 4 x4 24))]⟩ = K .normal (g25R5s0 A x0 x1 x2 x3 x4) := by kernel_rfl
end
def g25J8 {R : Type} (A : Ar) (n : Nat) (kk : AV → Heap → Option R) (lg25L6 : Int → List Nat → List Nat → List Nat → List Nat → List Nat → Option R) (x0 : Int) (x1 x2 : List Nat) (x3 x4 x5 : List Nat) : Option R :=
  match (generalizing := false) g17ok A x3 x3 with
  | true => match (generalizing := false) g17ok A x1 (g17r0 A x3 x3) with
    | true => match (generalizing := false) (A.lq (g17r0 A x1 (g17r0 A x3 x3)) x5) && true with
      | true => match (generalizing := false) g32ok A x3 with
        | true => match (generalizing := false) g32r0 A x3 with
          | true => match (generalizing := false) g19ok A x3 with
            | true => kk (.tup [(.agg [.nums .u64 4 (g19r0 A x3)]), (.cell (.bool true))]) [(1002, (bU 4 (g19r0 A x3) 24)), (3003, (bU 4 (g19r0 A x3) 24))]
            | false => none
          | false => kk (.tup [(.agg [.nums .u64 4 x3]), (.cell (.bool true))]) [(1002, (bU 4 x3 24)), (3003, (bU 4 x3 24))]
        | false => none
      | false => match (generalizing := false) g17ok A x3 x4 with
        | true => lg25L6 (A.ib .add .i64 x0 1) x1 x2 (g17r0 A x3 x4) x4 x5
        | false => none
    | false => none
  | false => none
set_option maxRecDepth 100000 in
theorem g25J8_eq {R : Type} (A : Ar) (n : Nat) (kk : AV → Heap → Option R) (m0 : Nat) (lg25L6 : Int → List Nat → List Nat → List Nat → List Nat → List Nat → Option R) 
    (hg25L6 : ∀ (s : St) (x0 : Int) (x1 x2 : List Nat) (x3 x4 x5 : List Nat), keep g25an 6 s = ⟨[(3, (pT 1001 0)), (4, (pT 1002 0)), (7, (pT 3003 0)), (8, (pT 4003 0)), (9, (pT 5003 0)), (10, (i6 x0))], [(1001, (bU 4 x1 24)), (1002, (bU 4 x2 24)), (3003, (bU 4 x3 24)), (4003, (bU 4 x4 24)), (5003, (bU 4 x5 24))]⟩ → g25V A n (pth 607) m0 (blockK 0 (g25Q A n (pth 127) (g25T kk))) s = lg25L6 x0 x1 x2 x3 x4 x5) (s : St) (x0 : Int) (x1 x2 : List Nat) (x3 x4 x5 : List Nat) (h : keep g25an 8 s = ⟨[(3, (pT 1001 0)), (4, (pT 1002 0)), (7, (pT 3003 0)), (8, (pT 4003 0)), (9, (pT 5003 0)), (10, (i6 x0))], [(1001, (bU 4 x1 24)), (1002, (bU 4 x2 24)), (3003, (bU 4 x3 24)), (4003, (bU 4 x4 24)), (5003, (bU 4 x5 24))]⟩) :
    g25D A n (pth 1631) (g25W A n (pth 607) m0 (blockK 0 (g25Q A n (pth 127) (g25T kk)))) s = g25J8 A n kk lg25L6 x0 x1 x2 x3 x4 x5 := by
  have h1 : (g25T kk) .ret (g25R11s0 A x2 (g19r0 A x3)) = kk (.tup [(.agg [.nums .u64 4 (g19r0 A x3)]), (.cell (.bool true))]) [(1002, (bU 4 (g19r0 A x3) 24)), (3003, (bU 4 (g19r0 A x3) 24))] := by kernel_rfl
  have h2 := (g25Qr A n (pth 127) _ _).trans h1
  have h3 := (blockK_r 0 _ _).trans h2
  have h4 := (g25Wr A n (pth 607) m0 _ _).trans h3
  have h5 := (g25Qr A n (pth 3679) _ _).trans h4
  have h6 := (blockK_r 1 _ _).trans h5
  have h7 := (g25Qr A n (pth 12895) _ _).trans h6
  have h8 := (g25p238175 A n _ _).trans h7
  have h9 := (g25Qn A n _ _ _).trans h8
  have h10 := (g25F A n _ 11 _ (g25R10s0 A x2 x3) _ (by kernel_rfl) (by kernel_rfl)).trans (g25R11 A n (g25Q A n (pth 238175) (g25Q A n (pth 12895) (blockK 1 (g25Q A n (pth 3679) (g25W A n (pth 607) m0 (blockK 0 (g25Q A n (pth 127) (g25T kk)))))))) x2 (g19r0 A x3))
  rw [h9] at h10
  have h11 := (g25p107103 A n _ _).trans h10
  have h12 := (g25Qn A n _ _ _).trans h11
  have h13 := (g25F A n _ 10 _ (g25R9s0 A x2 x3) _ (by kernel_rfl) (by kernel_rfl)).trans (g25R10 A n (g25Q A n (pth 107103) (g25Q A n (pth 12895) (blockK 1 (g25Q A n (pth 3679) (g25W A n (pth 607) m0 (blockK 0 (g25Q A n (pth 127) (g25T kk)))))))) x2 x3)
  rw [h12] at h13
  have h14 : (g25T kk) .ret (g25R11s0 A x2 x3) = kk (.tup [(.agg [.nums .u64 4 x3]), (.cell (.bool true))]) [(1002, (bU 4 x3 24)), (3003, (bU 4 x3 24))] := by kernel_rfl
  have h15 := (g25Qr A n (pth 127) _ _).trans h14
  have h16 := (blockK_r 0 _ _).trans h15
  have h17 := (g25Wr A n (pth 607) m0 _ _).trans h16
  have h18 := (g25Qr A n (pth 3679) _ _).trans h17
  have h19 := (blockK_r 1 _ _).trans h18
  have h20 := (g25Qr A n (pth 12895) _ _).trans h19
  have h21 := (g25p238175 A n _ _).trans h20
  have h22 := (g25Qn A n _ _ _).trans h21
  have h23 := (g25F A n _ 11 _ (g25R9s0 A x2 x3) _ (by kernel_rfl) (by kernel_rfl)).trans (g25R11 A n (g25Q A n (pth 238175) (g25Q A n (pth 12895) (blockK 1 (g25Q A n (pth 3679) (g25W A n (pth 607) m0 (blockK 0 (g25Q A n (pth 127) (g25T kk)))))))) x2 x3)
  rw [h22] at h23
  have h24 := (g25p107103 A n _ _).trans h23
  have h25 := (g25Qn A n _ _ _).trans h24
  have h26 := (g25p467551 A n _ _).trans h25
  have h27 := g25p205407 A n (g25Q A n (pth 107103) (g25Q A n (pth 12895) (blockK 1 (g25Q A n (pth 3679) (g25W A n (pth 607) m0 (blockK 0 (g25Q A n (pth 127) (g25T kk)))))))) (g25R9s0 A x2 x3) (g32r0 A x3) (by kernel_rfl)
  rw [h13, h26] at h27
  have h28 := (g25Qn A n _ _ _).trans h27
  have h29 := (g25F A n _ 9 _ (g25R8s0 A x0 x1 x2 x3 x4 x5) _ (by kernel_rfl) (by kernel_rfl)).trans (g25R9 A n (g25Q A n (pth 205407) (g25Q A n (pth 107103) (g25Q A n (pth 12895) (blockK 1 (g25Q A n (pth 3679) (g25W A n (pth 607) m0 (blockK 0 (g25Q A n (pth 127) (g25T kk))))))))) x2 x3)
  rw [h28] at h29
  have h30 := (g25p74335 A n _ _).trans h29
  have h31 := (g25p41567 A n _ _).trans h30
  have h32 := (g25Wn A n _ _ _ _).trans (hg25L6 (g25R7s0 A x0 x1 x2 (g17r0 A x3 x4) x4 x5) (A.ib .add .i64 x0 1) x1 x2 (g17r0 A x3 x4) x4 x5 (by kernel_rfl))
  have h33 := (g25F A n _ 7 _ (g25R12s0 A x0 x1 x2 x3 x4 x5) _ (by kernel_rfl) (by kernel_rfl)).trans (g25R7 A n (g25W A n (pth 607) m0 (blockK 0 (g25Q A n (pth 127) (g25T kk)))) x0 x1 x2 (g17r0 A x3 x4) x4 x5)
  rw [h32] at h33
  have h34 := (g25Qn A n _ _ _).trans h33
  have h35 := (blockK_n 1 _ _).trans h34
  have h36 := (g25F A n _ 12 _ (g25R8s0 A x0 x1 x2 x3 x4 x5) _ (by kernel_rfl) (by kernel_rfl)).trans (g25R12 A n (blockK 1 (g25Q A n (pth 3679) (g25W A n (pth 607) m0 (blockK 0 (g25Q A n (pth 127) (g25T kk)))))) x0 x1 x2 x3 x4 x5)
  rw [h35] at h36
  have h37 := (g25Qn A n _ _ _).trans h36
  have h38 := (g25p57951 A n _ _).trans h37
  have h39 := g25p25183 A n (g25Q A n (pth 12895) (blockK 1 (g25Q A n (pth 3679) (g25W A n (pth 607) m0 (blockK 0 (g25Q A n (pth 127) (g25T kk))))))) (g25R8s0 A x0 x1 x2 x3 x4 x5) ((A.lq (g17r0 A x1 (g17r0 A x3 x3)) x5) && true) (by kernel_rfl)
  rw [h31, h38] at h39
  have h40 := (g25Qn A n _ _ _).trans h39
  have h41 := (g25F A n _ 8 _ ⟨[(3, (pT 1001 0)), (4, (pT 1002 0)), (7, (pT 3003 0)), (8, (pT 4003 0)), (9, (pT 5003 0)), (10, (i6 x0))], [(1001, (bU 4 x1 24)), (1002, (bU 4 x2 24)), (3003, (bU 4 x3 24)), (4003, (bU 4 x4 24)), (5003, (bU 4 x5 24))]⟩ _ (by kernel_rfl) (by kernel_rfl)).trans (g25R8 A n (g25Q A n (pth 25183) (g25Q A n (pth 12895) (blockK 1 (g25Q A n (pth 3679) (g25W A n (pth 607) m0 (blockK 0 (g25Q A n (pth 127) (g25T kk)))))))) x0 x1 x2 x3 x4 x5)
  rw [h40] at h41
  have h42 := (g25p8799 A n _ _).trans h41
  have h43 := (g25p4703 A n _ _).trans h42
  have h44 := (g25p2655 A n _ _).trans h43
  have h45 := (g25p1631 A n _ _).trans h44
  exact (g25F A n _ 8 _ _ ⟨[(3, (pT 1001 0)), (4, (pT 1002 0)), (7, (pT 3003 0)), (8, (pT 4003 0)), (9, (pT 5003 0)), (10, (i6 x0))], [(1001, (bU 4 x1 24)), (1002, (bU 4 x2 24)), (3003, (bU 4 x3 24)), (4003, (bU 4 x4 24)), (5003, (bU 4 x5 24))]⟩ (by kernel_rfl) (h.trans (by kernel_rfl))).trans (h45.trans (by kernel_rfl))
def g25L6 {R : Type} (A : Ar) (n : Nat) (kk : AV → Heap → Option R)  : Nat → Int → List Nat → List Nat → List Nat → List Nat → List Nat → Option R
  | 0, _, _, _, _, _, _ => none
  | m + 1, x0, x1, x2, x3, x4, x5 => match (generalizing := false) A.ic .lss x0 2 with
  | true => g25J8 A n kk (g25L6 A n kk  m) x0 x1 x2 x3 x4 x5
  | false => kk (.tup [(.agg [.nums .u64 4 [0, 0, 0, 0]]), (.cell (.bool false))]) [(1002, (bU 4 [0, 0, 0, 0] 24))]
set_option maxRecDepth 100000 in
theorem g25L6_eq {R : Type} (A : Ar) (n : Nat) (kk : AV → Heap → Option R)    (m : Nat) (s : St) (x0 : Int) (x1 x2 : List Nat) (x3 x4 x5 : List Nat) (h : keep g25an 6 s = ⟨[(3, (pT 1001 0)), (4, (pT 1002 0)), (7, (pT 3003 0)), (8, (pT 4003 0)), (9, (pT 5003 0)), (10, (i6 x0))], [(1001, (bU 4 x1 24)), (1002, (bU 4 x2 24)), (3003, (bU 4 x3 24)), (4003, (bU 4 x4 24)), (5003, (bU 4 x5 24))]⟩) :
    g25V A n (pth 607) m (blockK 0 (g25Q A n (pth 127) (g25T kk))) s = g25L6 A n kk  m x0 x1 x2 x3 x4 x5 := by
  induction m generalizing s x0 x1 x2 x3 x4 x5 with
  | zero => rfl
  | succ m ih =>
    have h1 := (g25Qn A n _ _ _).trans (g25J8_eq A n kk m (g25L6 A n kk  m) ih  (g25R6s0 A x0 x1 x2 x3 x4 x5) x0 x1 x2 x3 x4 x5 (by kernel_rfl))
    have h2 := (g25p5215 A n _ _).trans h1
    have h3 : (g25T kk) .ret (g25R13s0 A x2) = kk (.tup [(.agg [.nums .u64 4 [0, 0, 0, 0]]), (.cell (.bool false))]) [(1002, (bU 4 [0, 0, 0, 0] 24))] := by kernel_rfl
    have h4 := (g25p255 A n _ _).trans h3
    have h5 := (g25Qn A n _ _ _).trans h4
    have h6 := (g25F A n _ 13 _ (g25R6s0 A x0 x1 x2 x3 x4 x5) _ (by kernel_rfl) (by kernel_rfl)).trans (g25R13 A n (g25Q A n (pth 255) (g25T kk)) x2)
    rw [h5] at h6
    have h7 := (g25p127 A n _ _).trans h6
    have h8 := (g25Qn A n _ _ _).trans h7
    have h9 := (blockK_hit 0 _ _).trans h8
    have h10 := (g25We A n (pth 607) m _ _ _).trans h9
    have h11 := (g25Qe A n (pth 1631) _ _ _).trans h10
    have h12 := (g25p7263 A n _ _).trans h11
    have h13 := g25p3167 A n (g25Q A n (pth 1631) (g25W A n (pth 607) m (blockK 0 (g25Q A n (pth 127) (g25T kk))))) (g25R6s0 A x0 x1 x2 x3 x4 x5) (A.ic .lss x0 2) (by kernel_rfl)
    rw [h2, h12] at h13
    have h14 := (g25Qn A n _ _ _).trans h13
    have h15 := (g25F A n _ 6 _ ⟨[(3, (pT 1001 0)), (4, (pT 1002 0)), (7, (pT 3003 0)), (8, (pT 4003 0)), (9, (pT 5003 0)), (10, (i6 x0))], [(1001, (bU 4 x1 24)), (1002, (bU 4 x2 24)), (3003, (bU 4 x3 24)), (4003, (bU 4 x4 24)), (5003, (bU 4 x5 24))]⟩ _ (by kernel_rfl) (by kernel_rfl)).trans (g25R6 A n (g25Q A n (pth 3167) (g25Q A n (pth 1631) (g25W A n (pth 607) m (blockK 0 (g25Q A n (pth 127) (g25T kk)))))) x0 x1 x2 x3 x4 x5)
    rw [h14] at h15
    have h16 := (g25p1119 A n _ _).trans h15
    have h17 := (g25p607 A n _ _).trans h16
    exact (loopD_first (s' := ⟨[(3, (pT 1001 0)), (4, (pT 1002 0)), (7, (pT 3003 0)), (8, (pT 4003 0)), (9, (pT 5003 0)), (10, (i6 x0))], [(1001, (bU 4 x1 24)), (1002, (bU 4 x2 24)), (3003, (bU 4 x3 24)), (4003, (bU 4 x4 24)), (5003, (bU 4 x5 24))]⟩) (id := 6) (by kernel_rfl) (h.trans (by kernel_rfl)) _).trans ((g25Vs A n _ m _ _).trans (h17.trans (by kernel_rfl)))
def g25 {R : Type} (A : Ar) (n : Nat) (kk : AV → Heap → Option R) (a b : List Nat) : Option R :=
  match (generalizing := false) g28ok A b with
  | true => match (generalizing := false) g17ok A a (g28r0 A b) with
    | true => match (generalizing := false) g26ok A (g17r0 A a (g28r0 A b)) (((([0, 0, 0, 0].set 0 18446744073709551614).set 1 18446744073709551615).set 2 18446744073709551615).set 3 1152921504606846975) with
      | true => match (generalizing := false) g35ok A 2 with
        | true => match (generalizing := false) g26ok A (g35r0 A 2) (((([0, 0, 0, 0].set 0 18446744073709551611).set 1 18446744073709551615).set 2 18446744073709551615).set 3 2305843009213693951) with
          | true => match (generalizing := false) g39ok A a with
            | true => match (generalizing := false) g40ok A (g39r0 A a) with
              | true => g25L6 A n kk  n 0 b [0, 0, 0, 0] (g26r0 A (g17r0 A a (g28r0 A b)) (((([0, 0, 0, 0].set 0 18446744073709551614).set 1 18446744073709551615).set 2 18446744073709551615).set 3 1152921504606846975)) (g26r0 A (g35r0 A 2) (((([0, 0, 0, 0].set 0 18446744073709551611).set 1 18446744073709551615).set 2 18446744073709551615).set 3 2305843009213693951)) (g40r0 A (g39r0 A a))
              | false => none
            | false => none
          | false => none
        | false => none
      | false => none
    | false => none
  | false => none
set_option maxRecDepth 100000 in
theorem g25_eq {R : Type} (A : Ar) (n : Nat) (kk : AV → Heap → Option R) (a b : List Nat) :
    funD A gtys (g25O A) g25an n (bodyOf Try.f25) g25res [(aN .u64 4 a), (aN .u64 4 b)] [] kk = g25 A n kk a b := by
  have h1 := (g25p351 A n _ _).trans (g25L6_eq A n kk    n (g25R5s0 A b [0, 0, 0, 0] (g26r0 A (g17r0 A a (g28r0 A b)) (((([0, 0, 0, 0].set 0 18446744073709551614).set 1 18446744073709551615).set 2 18446744073709551615).set 3 1152921504606846975)) (g26r0 A (g35r0 A 2) (((([0, 0, 0, 0].set 0 18446744073709551611).set 1 18446744073709551615).set 2 18446744073709551615).set 3 2305843009213693951)) (g40r0 A (g39r0 A a))) 0 b [0, 0, 0, 0] (g26r0 A (g17r0 A a (g28r0 A b)) (((([0, 0, 0, 0].set 0 18446744073709551614).set 1 18446744073709551615).set 2 18446744073709551615).set 3 1152921504606846975)) (g26r0 A (g35r0 A 2) (((([0, 0, 0, 0].set 0 18446744073709551611).set 1 18446744073709551615).set 2 18446744073709551615).set 3 2305843009213693951)) (g40r0 A (g39r0 A a)) (by kernel_rfl))
  have h2 := (g25p223 A n _ _).trans h1
  have h3 := (g25Qn A n _ _ _).trans h2
  have h4 := (g25F A n _ 5 _ (g25R4s0 A a b [0, 0, 0, 0] (g26r0 A (g17r0 A a (g28r0 A b)) (((([0, 0, 0, 0].set 0 18446744073709551614).set 1 18446744073709551615).set 2 18446744073709551615).set 3 1152921504606846975)) (g26r0 A (g35r0 A 2) (((([0, 0, 0, 0].set 0 18446744073709551611).set 1 18446744073709551615).set 2 18446744073709551615).set 3 2305843009213693951))) _ (by kernel_rfl) (by kernel_rfl)).trans (g25R5 A n (g25Q A n (pth 223) (g25Q A n (pth 127) (g25T kk))) b [0, 0, 0, 0] (g26r0 A (g17r0 A a (g28r0 A b)) (((([0, 0, 0, 0].set 0 18446744073709551614).set 1 18446744073709551615).set 2 18446744073709551615).set 3 1152921504606846975)) (g26r0 A (g35r0 A 2) (((([0, 0, 0, 0].set 0 18446744073709551611).set 1 18446744073709551615).set 2 18446744073709551615).set 3 2305843009213693951)) (g40r0 A (g39r0 A a)))
  rw [h3] at h4
  have h5 := (g25p95 A n _ _).trans h4
  have h6 := (g25p63 A n _ _).trans h5
  have h7 := (g25Qn A n _ _ _).trans h6
  have h8 := (g25F A n _ 4 _ (g25R3s0 A a b [0, 0, 0, 0] (g26r0 A (g17r0 A a (g28r0 A b)) (((([0, 0, 0, 0].set 0 18446744073709551614).set 1 18446744073709551615).set 2 18446744073709551615).set 3 1152921504606846975))) _ (by kernel_rfl) (by kernel_rfl)).trans (g25R4 A n (g25Q A n (pth 63) (g25T kk)) a b [0, 0, 0, 0] (g26r0 A (g17r0 A a (g28r0 A b)) (((([0, 0, 0, 0].set 0 18446744073709551614).set 1 18446744073709551615).set 2 18446744073709551615).set 3 1152921504606846975)) (g26r0 A (g35r0 A 2) (((([0, 0, 0, 0].set 0 18446744073709551611).set 1 18446744073709551615).set 2 18446744073709551615).set 3 2305843009213693951)))
  rw [h7] at h8
  have h9 := (g25p31 A n _ _).trans h8
  have h10 := (g25Qn A n _ _ _).trans h9
  have h11 := (g25F A n _ 3 _ (g25R2s0 A a b [0, 0, 0, 0] (g17r0 A a (g28r0 A b))) _ (by kernel_rfl) (by kernel_rfl)).trans (g25R3 A n (g25Q A n (pth 31) (g25T kk)) a b [0, 0, 0, 0] (g26r0 A (g17r0 A a (g28r0 A b)) (((([0, 0, 0, 0].set 0 18446744073709551614).set 1 18446744073709551615).set 2 18446744073709551615).set 3 1152921504606846975)))
  rw [h10] at h11
  have h12 := (g25p15 A n _ _).trans h11
  have h13 := (g25Qn A n _ _ _).trans h12
  have h14 := (g25F A n _ 2 _ (g25R1s0 A a b [0, 0, 0, 0]) _ (by kernel_rfl) (by kernel_rfl)).trans (g25R2 A n (g25Q A n (pth 15) (g25T kk)) a b [0, 0, 0, 0] (g17r0 A a (g28r0 A b)))
  rw [h13] at h14
  have h15 := (g25p7 A n _ _).trans h14
  have h16 := (g25Qn A n _ _ _).trans h15
  have h17 := (g25F A n _ 1 _ (g25R0s0 A a b) _ (by kernel_rfl) (by kernel_rfl)).trans (g25R1 A n (g25Q A n (pth 7) (g25T kk)) a b [0, 0, 0, 0])
  rw [h16] at h17
  have h18 := (g25p3 A n _ _).trans h17
  have h19 := (g25Qn A n _ _ _).trans h18
  have h20 := (g25F A n _ 0 _ ⟨[(0, (aN .u64 4 a)), (1, (aN .u64 4 b))], []⟩ _ (by kernel_rfl) (by kernel_rfl)).trans (g25R0 A n (g25Q A n (pth 3) (g25T kk)) a b)
  rw [h19] at h20
  have h21 := (g25p1 A n _ _).trans h20
  exact (show funD A gtys (g25O A) g25an n (bodyOf Try.f25) g25res [(aN .u64 4 a), (aN .u64 4 b)] [] kk = g25D A n (pth 1) (g25T kk) ⟨[(0, (aN .u64 4 a)), (1, (aN .u64 4 b))], []⟩ from by kernel_rfl).trans (h21.trans (by kernel_rfl))
def g25is (o : Option AV) : Bool := match o with
  | some (.tup [.agg [.nums .u64 4 _], .cell (.bool _)]) => true
  | _ => false
def g25g0 (o : Option AV) : List Nat := match o with
  | some (.tup [.agg [.nums .u64 4 x], .cell (.bool _)]) => x
  | _ => []
def g25g1 (o : Option AV) : Bool := match o with
  | some (.tup [.agg [.nums .u64 4 _], .cell (.bool x)]) => x
  | _ => false
theorem g25is_spec {o : Option AV} (h : g25is o = true) : o = some (.tup [.agg [.nums .u64 4 (g25g0 o)], .cell (.bool (g25g1 o))]) := by
  unfold g25is at h
  split at h
  · rfl
  · cases h
def g25v (A : Ar) (a b : List Nat) : Option AV := g25 A (100000) (fun v _ => some v) a b
def g25ok (A : Ar) (a b : List Nat) : Bool := g25is (g25v A a b)
def g25r0 (A : Ar) (a b : List Nat) : List Nat := g25g0 (g25v A a b)
def g25r1 (A : Ar) (a b : List Nat) : Bool := g25g1 (g25v A a b)
theorem g25ok_spec {A : Ar} {a b} (h : g25ok A a b = true) : g25v A a b = some (.tup [.agg [.nums .u64 4 (g25r0 A a b)], .cell (.bool (g25r1 A a b))]) := g25is_spec h
def g25o (A : Ar) (args : List AV) : Option (Bool × AV) := match args with
  | [.v (.agg [.nums .u64 n0 a]), .v (.agg [.nums .u64 n1 b])] => some (Nat.beq n0 4 && (Nat.beq n1 4 && (g25ok A a b)), .tup [.agg [.nums .u64 4 (g25r0 A a b)], .cell (.bool (g25r1 A a b))])
  | _ => none
theorem g25o_sound : ∀ args v, g25o realA args = some (true, v) → Fn1 Try.prog 25 args v := by
  intro args v h
  unfold g25o at h
  split at h
  · rename_i n0 a n1 b
    simp only [Option.some.injEq, Prod.mk.injEq] at h
    obtain ⟨hc, h⟩ := h
    subst h
    · skip
      simp only [Bool.and_eq_true] at hc
      have en0 := beq_true hc.1
      subst en0
      replace hc := hc.2
      have en1 := beq_true hc.1
      subst en1
      replace hc := hc.2
      exact fn1_of mixed gtysOK g25O_sound g25O_det (an := g25an) (n := 100000) Try.func25 (c := bodyOf Try.f25) rfl (by kernel_rfl) Try.call25 (Nat.le_of_ble_eq_true rfl) (fun b => rfl) (fun _ => (g25_eq realA (100000) (fun v _ => some v) a b).trans (show g25v realA a b = _ from g25ok_spec hc))
  · cases h
/- engrosser/engrosserlaw03.FieldPowers -/
def g7O (A : Ar) : Orc := orcOf [(11, g11o A), (21, g21o A), (25, g25o A), (24, g24o A), (26, g26o A), (27, g27o A), (28, g28o A)]
theorem g7O_sound : OSound Try.prog (g7O realA) := orc_sound fun f g hm args v hv => by
  simp only [List.mem_cons, List.not_mem_nil, or_false, Prod.mk.injEq] at hm
  rcases hm with ⟨rfl, rfl⟩ | ⟨rfl, rfl⟩ | ⟨rfl, rfl⟩ | ⟨rfl, rfl⟩ | ⟨rfl, rfl⟩ | ⟨rfl, rfl⟩ | ⟨rfl, rfl⟩
  · exact g11o_sound _ _ hv
  · exact g21o_sound _ _ hv
  · exact g25o_sound _ _ hv
  · exact g24o_sound _ _ hv
  · exact g26o_sound _ _ hv
  · exact g27o_sound _ _ hv
  · exact g28o_sound _ _ hv
theorem g7O_det : ODet (g7O realA) := orc_det _
def g7an : Ann := [(0, ([0, 1, 2, 3], [])), (1, ([4, 5, 6, 7], [1000, 1001, 1002, 1003])), (2, ([4, 5, 6, 7, 9], [1000, 1001, 1002, 1003])), (3, ([], [])), (4, ([4, 5, 6, 7, 9], [1000, 1001, 1002, 1003])), (5, ([4, 5, 6, 7, 9, 10, 11], [1000, 1001, 1002, 1003, 5006])), (6, ([4, 5, 9, 10, 11, 12, 13], [1000, 1001, 5006, 6006]))]
def g7res : List ResultVar := [.tmp 8]
noncomputable def g7D {R : Type} (A : Ar) (n : Nat) (p : List Bool) (K : Ex → St → Option R) (s : St) : Option R := codeD A gtys (g7O A) g7an n (sub (bodyOf Try.f7) p) K s
noncomputable def g7Q {R : Type} (A : Ar) (n : Nat) (p : List Bool) (K : Ex → St → Option R) : Ex → St → Option R := seqC (g7D A n p K) K
noncomputable def g7T {R : Type} (kk : AV → Heap → Option R) : Ex → St → Option R := finD gtys g7res kk
theorem g7Qn {R : Type} (A : Ar) (n : Nat) (p : List Bool) (K : Ex → St → Option R) (s : St) : g7Q A n p K .normal s = g7D A n p K s := rfl
theorem g7Qr {R : Type} (A : Ar) (n : Nat) (p : List Bool) (K : Ex → St → Option R) (s : St) : g7Q A n p K .ret s = K .ret s := rfl
theorem g7F {R : Type} (A : Ar) (n : Nat) (p : List Bool) (i : Nat) (K : Ex → St → Option R) (s s' : St) (hf : firstReg (sub (bodyOf Try.f7) p) = some i) (h : keep g7an i s = keep g7an i s') : g7D A n p K s = g7D A n p K s' := codeD_first hf h K
section
variable {R : Type} (A : Ar) (n : Nat) (K : Ex → St → Option R) (s : St)
theorem g7p1 : g7D A n (pth 1) K s = g7D A n (pth 2) (g7Q A n (pth 3) K) s := by kernel_rfl
theorem g7p3 : g7D A n (pth 3) K s = g7D A n (pth 5) (g7Q A n (pth 7) K) s := by kernel_rfl
theorem g7p7 : g7D A n (pth 7) K s = g7D A n (pth 11) (g7Q A n (pth 15) K) s := by kernel_rfl
theorem g7p11 : g7D A n (pth 11) K s = g7D A n (pth 19) (g7Q A n (pth 27) K) s := by kernel_rfl
theorem g7p27 (t : Bool) : ev s (.tmp 16) = some (.v (.cell (.bool t))) → g7D A n (pth 27) K s = (match t with
    | true => g7D A n (pth 43) K s
    | false => g7D A n (pth 59) K s) := codeD_cond t
theorem g7p43 : g7D A n (pth 43) K s = g7D A n (pth 75) (g7Q A n (pth 107) K) s := by kernel_rfl
theorem g7p107 : g7D A n (pth 107) K s = K .ret s := by kernel_rfl
theorem g7p59 : g7D A n (pth 59) K s = K .normal s := by kernel_rfl
theorem g7p15 : g7D A n (pth 15) K s = g7D A n (pth 23) (g7Q A n (pth 31) K) s := by kernel_rfl
theorem g7p31 : g7D A n (pth 31) K s = g7D A n (pth 47) (g7Q A n (pth 63) K) s := by kernel_rfl
theorem g7p63 : g7D A n (pth 63) K s = g7D A n (pth 95) (g7Q A n (pth 127) K) s := by kernel_rfl
theorem g7p127 : g7D A n (pth 127) K s = K .ret s := by kernel_rfl
def g7R4s0 (A : Ar) (x0 : Bool) (x1 x2 : List Nat) (x3 x4 : List Nat) : St := ⟨[(11, (bO (g21r1 A x3 x4))), (10, (pT 5006 0)), (22, (bO (g21r1 A x3 x4))), (21, (aN .u64 4 (g21r0 A x3 x4))), (17, (.tup [(.agg [.nums .u64 4 (g21r0 A x3 x4)]), (.cell (.bool (g21r1 A x3 x4)))])), (20, (.tup [(.agg [.nums .u64 4 (g21r0 A x3 x4)]), (.cell (.bool (g21r1 A x3 x4)))])), (19, (aN .u64 4 x4)), (18, (aN .u64 4 x3)), (4, (pT 1000 0)), (5, (pT 1001 0)), (6, (pT 1002 0)), (7, (pT 1003 0)), (9, (bO x0))], [(5006, (bU 4 (g21r0 A x3 x4) 24)), (1000, (bU 4 x1 24)), (1001, (bU 4 x2 23)), (1002, (bU 4 x3 24)), (1003, (bU 4 x4 24))]⟩
theorem g7R4 (x0 : Bool) (x1 x2 : List Nat) (x3 x4 : List Nat) : g7D A n (pth 23) K ⟨[(4, (pT 1000 0)), (5, (pT 1001 0)), (6, (pT 1002 0)), (7, (pT 1003 0)), (9, (bO x0))], [(1000, (bU 4 x1 24)), (1001, (bU 4 x2 23)), (1002, (bU 4 x3 24)), (1003, (bU 4 x4 24))]⟩ = match (generalizing := false) g21ok A x3 x4 with
    | true => K .normal (g7R4s0 A x0 x1 x2 x3 x4)
    | false => none := by kernel_rfl
def g7R5s0 (A : Ar) (x0 x1 : Bool) (x2 x3 : List Nat) (x4 x5 x6 : List Nat) : St := ⟨[(13, (bO (g25r1 A x4 x5))), (12, (pT 6006 0)), (28, (bO (g25r1 A x4 x5))), (27, (aN .u64 4 (g25r0 A x4 x5))), (23, (.tup [(.agg [.nums .u64 4 (g25r0 A x4 x5)]), (.cell (.bool (g25r1 A x4 x5)))])), (26, (.tup [(.agg [.nums .u64 4 (g25r0 A x4 x5)]), (.cell (.bool (g25r1 A x4 x5)))])), (25, (aN .u64 4 x5)), (24, (aN .u64 4 x4)), (4, (pT 1000 0)), (5, (pT 1001 0)), (6, (pT 1002 0)), (7, (pT 1003 0)), (9, (bO x0)), (10, (pT 5006 0)), (11, (bO x1))], [(6006, (bU 4 (g25r0 A x4 x5) 24)), (1000, (bU 4 x2 24)), (1001, (bU 4 x3 23)), (1002, (bU 4 x4 24)), (1003, (bU 4 x5 24)), (5006, (bU 4 x6 24))]⟩
theorem g7R5 (x0 x1 : Bool) (x2 x3 : List Nat) (x4 x5 x6 : List Nat) : g7D A n (pth 47) K ⟨[(4, (pT 1000 0)), (5, (pT 1001 0)), (6, (pT 1002 0)), (7, (pT 1003 0)), (9, (bO x0)), (10, (pT 5006 0)), (11, (bO x1))], [(1000, (bU 4 x2 24)), (1001, (bU 4 x3 23)), (1002, (bU 4 x4 24)), (1003, (bU 4 x5 24)), (5006, (bU 4 x6 24))]⟩ = match (generalizing := false) g25ok A x4 x5 with
    | true => K .normal (g7R5s0 A x0 x1 x2 x3 x4 x5 x6)
    | false => none := by kernel_rfl
def g7R6s0 (A : Ar) (x0 x1 x2 : Bool) (x3 x4 : List Nat) (x5 x6 : List Nat) : St := ⟨[(8, (bO true)), (55, (bO true)), (54, (bO true)), (53, (bO true)), (52, (bO true)), (51, (bO true)), (50, (bO true)), (49, (bO true)), (48, (aN .u64 4 x6)), (47, (aN .u64 4 x5)), (46, (bO true)), (45, (bO true)), (44, (bO true)), (43, (aN .u64 4 (g28r0 A x3))), (42, (aN .u64 4 x3)), (41, (aN .u64 4 (g27r0 A x3))), (40, (aN .u64 4 x3)), (39, (bO true)), (38, (bO true)), (37, (bO true)), (36, (aN .u64 4 (g26r0 A x3 x4))), (35, (aN .u64 4 x4)), (34, (aN .u64 4 x3)), (33, (aN .u64 4 (g24r0 A x3 x4))), (32, (aN .u64 4 x4)), (31, (aN .u64 4 x3)), (30, (bO true)), (29, (bO true)), (4, (pT 1000 0)), (5, (pT 1001 0)), (9, (bO x0)), (10, (pT 5006 0)), (11, (bO x1)), (12, (pT 6006 0)), (13, (bO x2))], [(1000, (bU 4 x3 24)), (1001, (bU 4 x4 23)), (5006, (bU 4 x5 24)), (6006, (bU 4 x6 24))]⟩
def g7R6s1 (A : Ar) (x0 x1 x2 : Bool) (x3 x4 : List Nat) (x5 x6 : List Nat) : St := ⟨[(8, (bO false)), (55, (bO false)), (54, (bO false)), (53, (bO true)), (52, (bO true)), (51, (bO true)), (50, (bO true)), (49, (bO true)), (48, (aN .u64 4 x6)), (47, (aN .u64 4 x5)), (46, (bO true)), (45, (bO true)), (44, (bO true)), (43, (aN .u64 4 (g28r0 A x3))), (42, (aN .u64 4 x3)), (41, (aN .u64 4 (g27r0 A x3))), (40, (aN .u64 4 x3)), (39, (bO true)), (38, (bO true)), (37, (bO true)), (36, (aN .u64 4 (g26r0 A x3 x4))), (35, (aN .u64 4 x4)), (34, (aN .u64 4 x3)), (33, (aN .u64 4 (g24r0 A x3 x4))), (32, (aN .u64 4 x4)), (31, (aN .u64 4 x3)), (30, (bO true)), (29, (bO true)), (4, (pT 1000 0)), (5, (pT 1001 0)), (9, (bO x0)), (10, (pT 5006 0)), (11, (bO x1)), (12, (pT 6006 0)), (13, (bO x2))], [(1000, (bU 4 x3 24)), (1001, (bU 4 x4 23)), (5006, (bU 4 x5 24)), (6006, (bU 4 x6 24))]⟩
def g7R6s2 (A : Ar) (x0 x1 x2 : Bool) (x3 x4 : List Nat) (x5 x6 : List Nat) : St := ⟨[(8, (bO true)), (55, (bO true)), (54, (bO true)), (53, (bO false)), (52, (bO true)), (51, (bO true)), (50, (bO true)), (49, (bO true)), (48, (aN .u64 4 x6)), (47, (aN .u64 4 x5)), (46, (bO true)), (45, (bO true)), (44, (bO true)), (43, (aN .u64 4 (g28r0 A x3))), (42, (aN .u64 4 x3)), (41, (aN .u64 4 (g27r0 A x3))), (40, (aN .u64 4 x3)), (39, (bO true)), (38, (bO true)), (37, (bO true)), (36, (aN .u64 4 (g26r0 A x3 x4))), (35, (aN .u64 4 x4)), (34, (aN .u64 4 x3)), (33, (aN .u64 4 (g24r0 A x3 x4))), (32, (aN .u64 4 x4)), (31, (aN .u64 4 x3)), (30, (bO true)), (29, (bO true)), (4, (pT 1000 0)), (5, (pT 1001 0)), (9, (bO x0)), (10, (pT 5006 0)), (11, (bO x1)), (12, (pT 6006 0)), (13, (bO x2))], [(1000, (bU 4 x3 24)), (1001, (bU 4 x4 23)), (5006, (bU 4 x5 24)), (6006, (bU 4 x6 24))]⟩
def g7R6s3 (A : Ar) (x0 x1 x2 : Bool) (x3 x4 : List Nat) (x5 x6 : List Nat) : St := ⟨[(8, (bO false)), (55, (bO false)), (54, (bO false)), (53, (bO false)), (52, (bO true)), (51, (bO true)), (50, (bO true)), (49, (bO true)), (48, (aN .u64 4 x6)), (47, (aN .u64 4 x5)), (46, (bO true)), (45, (bO true)), (44, (bO true)), (43, (aN .u64 4 (g28r0 A x3))), (42, (aN .u64 4 x3)), (41, (aN .u64 4 (g27r0 A x3))), (40, (aN .u64 4 x3)), (39, (bO true)), (38, (bO true)), (37, (bO true)), (36, (aN .u64 4 (g26r0 A x3 x4))), (35, (aN .u64 4 x4)), (34, (aN .u64 4 x3)), (33, (aN .u64 4 (g24r0 A x3 x4))), (32, (aN .u64 4 x4)), (31, (aN .u64 4 x3)), (30, (bO true)), (29, (bO true)), (4, (pT 1000 0)), (5, (pT 1001 0)), (9, (bO x0)), (10, (pT 5006 0)), (11, (bO x1)), (12, (pT 6006 0)), (13, (bO x2))], [(1000, (bU 4 x3 24)), (1001, (bU 4 x4 23)), (5006, (bU 4 x5 24)), (6006, (bU 4 x6 24))]⟩
def g7R6s4 (A : Ar) (x0 x1 x2 : Bool) (x3 x4 : List Nat) (x5 x6 : List Nat) : St := ⟨[(8, (bO true)), (55, (bO true)), (54, (bO true)), (53, (bO true)), (52, (bO false)), (51, (bO true)), (50, (bO true)), (49, (bO true)), (48, (aN .u64 4 x6)), (47, (aN .u64 4 x5)), (46, (bO true)), (45, (bO true)), (44, (bO true)), (43, (aN .u64 4 (g28r0 A x3))), (42, (aN .u64 4 x3)), (41, (aN .u64 4 (g27r0 A x3))), (40, (aN .u64 4 x3)), (39, (bO true)), (38, (bO true)), (37, (bO true)), (36, (aN .u64 4 (g26r0 A x3 x4))), (35, (aN .u64 4 x4)), (34, (aN .u64 4 x3)), (33, (aN .u64 4 (g24r0 A x3 x4))), (32, (aN .u64 4 x4)), (31, (aN .u64 4 x3)), (30, (bO true)), (29, (bO true)), (4, (pT 1000 0)), (5, (pT 1001 0)), (9, (bO x0)), (10, (pT 5006 0)), (11, (bO x1)), (12, (pT 6006 0)), (13, (bO x2))], [(1000, (bU 4 x3 24)), (1001, (bU 4 x4 23)), (5006, (bU 4 x5 24)), (6006, (bU 4 x6 24))]⟩
def g7R6s5 (A : Ar) (x0 x1 x2 : Bool) (x3 x4 : List Nat) (x5 x6 : List Nat) : St := ⟨[(8, (bO false)), (55, (bO false)), (54, (bO false)), (53, (bO true)), (52, (bO false)), (51, (bO true)), (50, (bO true)), (49, (bO true)), (48, (aN .u64 4 x6)), (47, (aN .u64 4 x5)), (46, (bO true)), (45, (bO true)), (44, (bO true)), (43, (aN .u64 4 (g28r0 A x3))), (42, (aN .u64 4 x3)), (41, (aN .u64 4 (g27r0 A x3))), (40, (aN .u64 4 x3)), (39, (bO true)), (38, (bO true)), (37, (bO true)), (36, (aN .u64 4 (g26r0 A x3 x4))), (35, (aN .u64 4 x4)), (34, (aN .u64 4 x3)), (33, (aN .u64 4 (g24r0 A x3 x4))), (32, (aN .u64 4 x4)), (31, (aN .u64 4 x3)), (30, (bO true)), (29, (bO true)), (4, (pT 1000 0)), (5, (pT 1001 0)), (9, (bO x0)), (10, (pT 5006 0)), (11, (bO x1)), (12, (pT 6006 0)), (13, (bO x2))], [(1000, (bU 4 x3 24)), (1001, (bU 4 x4 23)), (5006, (bU 4 x5 24)), (6006, (bU 4 x6 24))]⟩
def g7R6s6 (A : Ar) (x0 x1 x2 : Bool) (x3 x4 : List Nat) (x5 x6 : List Nat) : St := ⟨[(8, (bO true)), (55, (bO true)), (54, (bO true)), (53, (bO false)), (52, (bO false)), (51, (bO true)), (50, (bO true)), (49, (bO true)), (48, (aN .u64 4 x6)), (47, (aN .u64 4 x5)), (46, (bO true)), (45, (bO true)), (44, (bO true)), (43, (aN .u64 4 (g28r0 A x3))), (42, (aN .u64 4 x3)), (41, (aN .u64 4 (g27r0 A x3))), (40, (aN .u64 4 x3)), (39, (bO true)), (38, (bO true)), (37, (bO true)), (36, (aN .u64 4 (g26r0 A x3 x4))), (35, (aN .u64 4 x4)), (34, (aN .u64 4 x3)), (33, (aN .u64 4 (g24r0 A x3 x4))), (32, (aN .u64 4 x4)), (31, (aN .u64 4 x3)), (30, (bO true)), (29, (bO true)), (4, (pT 1000 0)), (5, (pT 1001 0)), (9, (bO x0)), (10, (pT 5006 0)), (11, (bO x1)), (12, (pT 6006 0)), (13, (bO x2))], [(1000, (bU 4 x3 24)), (1001, (bU 4 x4 23)), (5006, (bU 4 x5 24)), (6006, (bU 4 x6 24))]⟩
def g7R6s7 (A : Ar) (x0 x1 x2 : Bool) (x3 x4 : List Nat) (x5 x6 : List Nat) : St := ⟨[(8, (bO false)), (55, (bO false)), (54, (bO false)), (53, (bO false)), (52, (bO false)), (51, (bO true)), (50, (bO true)), (49, (bO true)), (48, (aN .u64 4 x6)), (47, (aN .u64 4 x5)), (46, (bO true)), (45, (bO true)), (44, (bO true)), (43, (aN .u64 4 (g28r0 A x3))), (42, (aN .u64 4 x3)), (41, (aN .u64 4 (g27r0 A x3))), (40, (aN .u64 4 x3)), (39, (bO true)), (38, (bO true)), (37, (bO true)), (36, (aN .u64 4 (g26r0 A x3 x4))), (35, (aN .u64 4 x4)), (34, (aN .u64 4 x3)), (33, (aN .u64 4 (g24r0 A x3 x4))), (32, (aN .u64 4 x4)), (31, (aN .u64 4 x3)), (30, (bO true)), (29, (bO true)), (4, (pT 1000 0)), (5, (pT 1001 0)), (9, (bO x0)), (10, (pT 5006 0)), (11, (bO x1)), (12, (pT 6006 0)), (13, (bO x2))], [(1000, (bU 4 x3 24)), (1001, (bU 4 x4 23)), (5006, (bU 4 x5 24)), (6006, (bU 4 x6 24))]⟩
def g7R6s8 (A : Ar) (x0 x1 x2 : Bool) (x3 x4 : List Nat) (x5 x6 : List Nat) : St := ⟨[(8, (bO false)), (55, (bO false)), (54, uN), (53, uN), (52, uN), (51, (bO false)), (50, (bO false)), (49, (bO false)), (48, (aN .u64 4 x6)), (47, (aN .u64 4 x5)), (46, (bO true)), (45, (bO true)), (44, (bO true)), (43, (aN .u64 4 (g28r0 A x3))), (42, (aN .u64 4 x3)), (41, (aN .u64 4 (g27r0 A x3))), (40, (aN .u64 4 x3)), (39, (bO true)), (38, (bO true)), (37, (bO true)), (36, (aN .u64 4 (g26r0 A x3 x4))), (35, (aN .u64 4 x4)), (34, (aN .u64 4 x3)), (33, (aN .u64 4 (g24r0 A x3 x4))), (32, (aN .u64 4 x4)), (31, (aN .u64 4 x3)), (30, (bO true)), (29, (bO true)), (4, (pT 1000 0)), (5, (pT 1001 0)), (9, (bO x0)), (10, (pT 5006 0)), (11, (bO x1)), (12, (pT 6006 0)), (13, (bO x2))], [(1000, (bU 4 x3 24)), (1001, (bU 4 x4 23)), (5006, (bU 4 x5 24)), (6006, (bU 4 x6 24))]⟩
def g7R6s9 (A : Ar) (x0 x1 x2 : Bool) (x3 x4 : List Nat) (x5 x6 : List Nat) : St := ⟨[(8, (bO false)), (55, (bO false)), (54, uN), (53, uN), (52, uN), (51, (bO false)), (50, (bO false)), (49, uN), (48, uN), (47, uN), (46, (bO false)), (45, (bO false)), (44, (bO false)), (43, (aN .u64 4 (g28r0 A x3))), (42, (aN .u64 4 x3)), (41, (aN .u64 4 (g27r0 A x3))), (40, (aN .u64 4 x3)), (39, (bO true)), (38, (bO true)), (37, (bO true)), (36, (aN .u64 4 (g26r0 A x3 x4))), (35, (aN .u64 4 x4)), (34, (aN .u64 4 x3)), (33, (aN .u64 4 (g24r0 A x3 x4))), (32, (aN .u64 4 x4)), (31, (aN .u64 4 x3)), (30, (bO true)), (29, (bO true)), (4, (pT 1000 0)), (5, (pT 1001 0)), (9, (bO x0)), (10, (pT 5006 0)), (11, (bO x1)), (12, (pT 6006 0)), (13, (bO x2))], [(1000, (bU 4 x3 24)), (1001, (bU 4 x4 23)), (5006, (bU 4 x5 24)), (6006, (bU 4 x6 24))]⟩
def g7R6s10 (A : Ar) (x0 x1 x2 : Bool) (x3 x4 : List Nat) (x5 x6 : List Nat) : St := ⟨[(8, (bO false)), (55, (bO false)), (54, uN), (53, uN), (52, uN), (51, (bO false)), (50, (bO false)), (49, uN), (48, uN), (47, uN), (46, (bO false)), (45, (bO false)), (44, uN), (43, uN), (42, uN), (41, uN), (40, uN), (39, (bO false)), (38, (bO false)), (37, (bO false)), (36, (aN .u64 4 (g26r0 A x3 x4))), (35, (aN .u64 4 x4)), (34, (aN .u64 4 x3)), (33, (aN .u64 4 (g24r0 A x3 x4))), (32, (aN .u64 4 x4)), (31, (aN .u64 4 x3)), (30, (bO true)), (29, (bO true)), (4, (pT 1000 0)), (5, (pT 1001 0)), (9, (bO x0)), (10, (pT 5006 0)), (11, (bO x1)), (12, (pT 6006 0)), (13, (bO x2))], [(1000, (bU 4 x3 24)), (1001, (bU 4 x4 23)), (5006, (bU 4 x5 24)), (6006, (bU 4 x6 24))]⟩
def g7R6s11 (A : Ar) (x0 x1 x2 : Bool) (x3 x4 : List Nat) (x5 x6 : List Nat) : St := ⟨[(8, (bO false)), (55, (bO false)), (54, uN), (53, uN), (52, uN), (51, (bO false)), (50, (bO false)), (49, uN), (48, uN), (47, uN), (46, (bO false)), (45, (bO false)), (44, uN), (43, uN), (42, uN), (41, uN), (40, uN), (39, (bO false)), (38, (bO false)), (37, uN), (36, uN), (35, uN), (34, uN), (33, uN), (32, uN), (31, uN), (30, (bO false)), (29, (bO false)), (4, (pT 1000 0)), (5, (pT 1001 0)), (9, (bO x0)), (10, (pT 5006 0)), (11, (bO x1)), (12, (pT 6006 0)), (13, (bO x2))], [(1000, (bU 4 x3 24)), (1001, (bU 4 x4 23)), (5006, (bU 4 x5 24)), (6006, (bU 4 x6 24))]⟩
theorem g7R6 (x0 x1 x2 : Bool) (x3 x4 : List Nat) (x5 x6 : List Nat) : g7D A n (pth 95) K ⟨[(4, (pT 1000 0)), (5, (pT 1001 0)), (9, (bO x0)), (10, (pT 5006 0)), (11, (bO x1)), (12, (pT 6006 0)), (13, (bO x2))], [(1000, (bU 4 x3 24)), (1001, (bU 4 x4 23)), (5006, (bU 4 x5 24)), (6006, (bU 4 x6 24))]⟩ = match (generalizing := false) x0 with
    | true => match (generalizing := false) g24ok A x3 x4 with
      | true => match (generalizing := false) g26ok A x3 x4 with
        | true => match (generalizing := false) (A.lq (g24r0 A x3 x4) (g26r0 A x3 x4)) && true with
          | true => match (generalizing := false) g27ok A x3 with
            | true => match (generalizing := false) g28ok A x3 with
              | true => match (generalizing := false) (A.lq (g27r0 A x3) (g28r0 A x3)) && true with
                | true => match (generalizing := false) (A.lq x5 x6) && true with
                  | true => match (generalizing := false) x1 with
                    | true => match (generalizing := false) x2 with
                      | true => match (generalizing := false) true == true with
                        | true => K .normal (g7R6s0 A x0 x1 x2 x3 x4 x5 x6)
                        | false => K .normal (g7R6s1 A x0 x1 x2 x3 x4 x5 x6)
                      | false => match (generalizing := false) true == false with
                        | true => K .normal (g7R6s2 A x0 x1 x2 x3 x4 x5 x6)
                        | false => K .normal (g7R6s3 A x0 x1 x2 x3 x4 x5 x6)
                    | false => match (generalizing := false) x2 with
                      | true => match (generalizing := false) false == true with
                        | true => K .normal (g7R6s4 A x0 x1 x2 x3 x4 x5 x6)
                        | false => K .normal (g7R6s5 A x0 x1 x2 x3 x4 x5 x6)
                      | false => match (generalizing := false) false == false with
                        | true => K .normal (g7R6s6 A x0 x1 x2 x3 x4 x5 x6)
                        | false => K .normal (g7R6s7 A x0 x1 x2 x3 x4 x5 x6)
                  | false => K .normal (g7R6s8 A x0 x1 x2 x3 x4 x5 x6)
                | false => K .normal (g7R6s9 A x0 x1 x2 x3 x4 x5 x6)
              | false => none
            | false => none
          | false => K .normal (g7R6s10 A x0 x1 x2 x3 x4 x5 x6)
        | false => none
      | false => none
    | false => K .normal (g7R6s11 A x0 x1 x2 x3 x4 x5 x6) := by kernel_rfl
def g7R0s0 (A : Ar) (x0 x1 : List Nat) (x2 x3 : List Nat) : St := ⟨[(8, (bO false)), (7, (pT 1003 0)), (6, (pT 1002 0)), (5, (pT 1001 0)), (4, (pT 1000 0)), (0, (aN .u64 4 x0)), (1, (aN .u64 4 x1)), (2, (aN .u64 4 x2)), (3, (aN .u64 4 x3))], [(1003, (bU 4 x3 24)), (1002, (bU 4 x2 24)), (1001, (bU 4 x1 23)), (1000, (bU 4 x0 24))]⟩
theorem g7R0 (x0 x1 : List Nat) (x2 x3 : List Nat) : g7D A n (pth 2) K ⟨[(0, (aN .u64 4 x0)), (1, (aN .u64 4 x1)), (2, (aN .u64 4 x2)), (3, (aN .u64 4 x3))], []⟩ = K .normal (g7R0s0 A x0 x1 x2 x3) := by kernel_rfl
def g7R1s0 (A : Ar) (x0 x1 : List Nat) (x2 x3 : List Nat) : St := ⟨[(9, (bO (g11r0 A))), (14, (bO (g11r0 A))), (4, (pT 1000 0)), (5, (pT 1001 0)), (6, (pT 1002 0)), (7, (pT 1003 0))], [(1000, (bU 4 x0 24)), (1001, (bU 4 x1 23)), (1002, (bU 4 x2 24)), (1003, (bU 4 x3 24))]⟩
theorem g7R1 (x0 x1 : List Nat) (x2 x3 : List Nat) : g7D A n (pth 5) K ⟨[(4, (pT 1000 0)), (5, (pT 1001 0)), (6, (pT 1002 0)), (7, (pT 1003 0))], [(1000, (bU 4 x0 24)), (1001, (bU 4 x1 23)), (1002, (bU 4 x2 24)), (1003, (bU 4 x3 24))]⟩ = match (generalizing := false) g11ok A with
    | true => K .normal (g7R1s0 A x0 x1 x2 x3)
    | false => none := by kernel_rfl
def g7R2s0 (A : Ar) (x0 : Bool) (x1 x2 : List Nat) (x3 x4 : List Nat) : St := ⟨[(16, (bO (!x0))), (15, (bO x0)), (4, (pT 1000 0)), (5, (pT 1001 0)), (6, (pT 1002 0)), (7, (pT 1003 0)), (9, (bO x0))], [(1000, (bU 4 x1 24)), (1001, (bU 4 x2 23)), (1002, (bU 4 x3 24)), (1003, (bU 4 x4 24))]⟩
theorem g7R2 (x0 : Bool) (x1 x2 : List Nat) (x3 x4 : List Nat) : g7D A n (pth 19) K ⟨[(4, (pT 1000 0)), (5, (pT 1001 0)), (6, (pT 1002 0)), (7, (pT 1003 0)), (9, (bO x0))], [(1000, (bU 4 x1 24)), (1001, (bU 4 x2 23)), (1002, (bU 4 x3 24)), (1003, (bU 4 x4 24))]⟩ = K .normal (g7R2s0 A x0 x1 x2 x3 x4) := by kernel_rfl
def g7R3s0 (A : Ar)  : St := ⟨[(8, (bO false))], []⟩
theorem g7R3 : g7D A n (pth 75) K ⟨[], []⟩ = K .normal (g7R3s0 A) := by kernel_rfl
end
def g7J4 {R : Type} (A : Ar) (n : Nat) (kk : AV → Heap → Option R)  (x0 : Bool) (x1 x2 : List Nat) (x3 x4 : List Nat) : Option R :=
  match (generalizing := false) g21ok A x3 x4 with
  | true => match (generalizing := false) g25ok A x3 x4 with
    | true => match (generalizing := false) x0 with
      | true => match (generalizing := false) g24ok A x1 x2 with
        | true => match (generalizing := false) g26ok A x1 x2 with
          | true => match (generalizing := false) (A.lq (g24r0 A x1 x2) (g26r0 A x1 x2)) && true with
            | true => match (generalizing := false) g27ok A x1 with
              | true => match (generalizing := false) g28ok A x1 with
                | true => match (generalizing := false) (A.lq (g27r0 A x1) (g28r0 A x1)) && true with
                  | true => match (generalizing := false) (A.lq (g21r0 A x3 x4) (g25r0 A x3 x4)) && true with
                    | true => match (generalizing := false) g21r1 A x3 x4 with
                      | true => match (generalizing := false) g25r1 A x3 x4 with
                        | true => match (generalizing := false) true == true with
                          | true => kk (bO true) [(1000, (bU 4 x1 24)), (1001, (bU 4 x2 23)), (5006, (bU 4 (g21r0 A x3 x4) 24)), (6006, (bU 4 (g25r0 A x3 x4) 24))]
                          | false => kk (bO false) [(1000, (bU 4 x1 24)), (1001, (bU 4 x2 23)), (5006, (bU 4 (g21r0 A x3 x4) 24)), (6006, (bU 4 (g25r0 A x3 x4) 24))]
                        | false => match (generalizing := false) true == false with
                          | true => kk (bO true) [(1000, (bU 4 x1 24)), (1001, (bU 4 x2 23)), (5006, (bU 4 (g21r0 A x3 x4) 24)), (6006, (bU 4 (g25r0 A x3 x4) 24))]
                          | false => kk (bO false) [(1000, (bU 4 x1 24)), (1001, (bU 4 x2 23)), (5006, (bU 4 (g21r0 A x3 x4) 24)), (6006, (bU 4 (g25r0 A x3 x4) 24))]
                      | false => match (generalizing := false) g25r1 A x3 x4 with
                        | true => match (generalizing := false) false == true with
                          | true => kk (bO true) [(1000, (bU 4 x1 24)), (1001, (bU 4 x2 23)), (5006, (bU 4 (g21r0 A x3 x4) 24)), (6006, (bU 4 (g25r0 A x3 x4) 24))]
                          | false => kk (bO false) [(1000, (bU 4 x1 24)), (1001, (bU 4 x2 23)), (5006, (bU 4 (g21r0 A x3 x4) 24)), (6006, (bU 4 (g25r0 A x3 x4) 24))]
                        | false => match (generalizing := false) false == false with
                          | true => kk (bO true) [(1000, (bU 4 x1 24)), (1001, (bU 4 x2 23)), (5006, (bU 4 (g21r0 A x3 x4) 24)), (6006, (bU 4 (g25r0 A x3 x4) 24))]
                          | false => kk (bO false) [(1000, (bU 4 x1 24)), (1001, (bU 4 x2 23)), (5006, (bU 4 (g21r0 A x3 x4) 24)), (6006, (bU 4 (g25r0 A x3 x4) 24))]
                    | false => kk (bO false) [(1000, (bU 4 x1 24)), (1001, (bU 4 x2 23)), (5006, (bU 4 (g21r0 A x3 x4) 24)), (6006, (bU 4 (g25r0 A x3 x4) 24))]
                  | false => kk (bO false) [(1000, (bU 4 x1 24)), (1001, (bU 4 x2 23)), (5006, (bU 4 (g21r0 A x3 x4) 24)), (6006, (bU 4 (g25r0 A x3 x4) 24))]
                | false => none
              | false => none
            | false => kk (bO false) [(1000, (bU 4 x1 24)), (1001, (bU 4 x2 23)), (5006, (bU 4 (g21r0 A x3 x4) 24)), (6006, (bU 4 (g25r0 A x3 x4) 24))]
          | false => none
        | false => none
      | false => kk (bO false) [(1000, (bU 4 x1 24)), (1001, (bU 4 x2 23)), (5006, (bU 4 (g21r0 A x3 x4) 24)), (6006, (bU 4 (g25r0 A x3 x4) 24))]
    | false => none
  | false => none
set_option maxRecDepth 100000 in
theorem g7J4_eq {R : Type} (A : Ar) (n : Nat) (kk : AV → Heap → Option R)    (s : St) (x0 : Bool) (x1 x2 : List Nat) (x3 x4 : List Nat) (h : keep g7an 4 s = ⟨[(4, (pT 1000 0)), (5, (pT 1001 0)), (6, (pT 1002 0)), (7, (pT 1003 0)), (9, (bO x0))], [(1000, (bU 4 x1 24)), (1001, (bU 4 x2 23)), (1002, (bU 4 x3 24)), (1003, (bU 4 x4 24))]⟩) :
    g7D A n (pth 15) (g7T kk) s = g7J4 A n kk  x0 x1 x2 x3 x4 := by
  have h1 : (g7T kk) .ret (g7R6s0 A x0 (g21r1 A x3 x4) (g25r1 A x3 x4) x1 x2 (g21r0 A x3 x4) (g25r0 A x3 x4)) = kk (bO true) [(1000, (bU 4 x1 24)), (1001, (bU 4 x2 23)), (5006, (bU 4 (g21r0 A x3 x4) 24)), (6006, (bU 4 (g25r0 A x3 x4) 24))] := by kernel_rfl
  have h2 := (g7p127 A n _ _).trans h1
  have h3 := (g7Qn A n _ _ _).trans h2
  have h4 : (g7T kk) .ret (g7R6s1 A x0 (g21r1 A x3 x4) (g25r1 A x3 x4) x1 x2 (g21r0 A x3 x4) (g25r0 A x3 x4)) = kk (bO false) [(1000, (bU 4 x1 24)), (1001, (bU 4 x2 23)), (5006, (bU 4 (g21r0 A x3 x4) 24)), (6006, (bU 4 (g25r0 A x3 x4) 24))] := by kernel_rfl
  have h5 := (g7p127 A n _ _).trans h4
  have h6 := (g7Qn A n _ _ _).trans h5
  have h7 : (g7T kk) .ret (g7R6s2 A x0 (g21r1 A x3 x4) (g25r1 A x3 x4) x1 x2 (g21r0 A x3 x4) (g25r0 A x3 x4)) = kk (bO true) [(1000, (bU 4 x1 24)), (1001, (bU 4 x2 23)), (5006, (bU 4 (g21r0 A x3 x4) 24)), (6006, (bU 4 (g25r0 A x3 x4) 24))] := by kernel_rfl
  have h8 := (g7p127 A n _ _).trans h7
  have h9 := (g7Qn A n _ _ _).trans h8
  have h10 : (g7T kk) .ret (g7R6s3 A x0 (g21r1 A x3 x4) (g25r1 A x3 x4) x1 x2 (g21r0 A x3 x4) (g25r0 A x3 x4)) = kk (bO false) [(1000, (bU 4 x1 24)), (1001, (bU 4 x2 23)), (5006, (bU 4 (g21r0 A x3 x4) 24)), (6006, (bU 4 (g25r0 A x3 x4) 24))] := by kernel_rfl
  have h11 := (g7p127 A n _ _).trans h10
  have h12 := (g7Qn A n _ _ _).trans h11
  have h13 : (g7T kk) .ret (g7R6s4 A x0 (g21r1 A x3 x4) (g25r1 A x3 x4) x1 x2 (g21r0 A x3 x4) (g25r0 A x3 x4)) = kk (bO true) [(1000, (bU 4 x1 24)), (1001, (bU 4 x2 23)), (5006, (bU 4 (g21r0 A x3 x4) 24)), (6006, (bU 4 (g25r0 A x3 x4) 24))] := by kernel_rfl
  have h14 := (g7p127 A n _ _).trans h13
  have h15 := (g7Qn A n _ _ _).trans h14
  have h16 : (g7T kk) .ret (g7R6s5 A x0 (g21r1 A x3 x4) (g25r1 A x3 x4) x1 x2 (g21r0 A x3 x4) (g25r0 A x3 x4)) = kk (bO false) [(1000, (bU 4 x1 24)), (1001, (bU 4 x2 23)), (5006, (bU 4 (g21r0 A x3 x4) 24)), (6006, (bU 4 (g25r0 A x3 x4) 24))] := by kernel_rfl
  have h17 := (g7p127 A n _ _).trans h16
  have h18 := (g7Qn A n _ _ _).trans h17
  have h19 : (g7T kk) .ret (g7R6s6 A x0 (g21r1 A x3 x4) (g25r1 A x3 x4) x1 x2 (g21r0 A x3 x4) (g25r0 A x3 x4)) = kk (bO true) [(1000, (bU 4 x1 24)), (1001, (bU 4 x2 23)), (5006, (bU 4 (g21r0 A x3 x4) 24)), (6006, (bU 4 (g25r0 A x3 x4) 24))] := by kernel_rfl
  have h20 := (g7p127 A n _ _).trans h19
  have h21 := (g7Qn A n _ _ _).trans h20
  have h22 : (g7T kk) .ret (g7R6s7 A x0 (g21r1 A x3 x4) (g25r1 A x3 x4) x1 x2 (g21r0 A x3 x4) (g25r0 A x3 x4)) = kk (bO false) [(1000, (bU 4 x1 24)), (1001, (bU 4 x2 23)), (5006, (bU 4 (g21r0 A x3 x4) 24)), (6006, (bU 4 (g25r0 A x3 x4) 24))] := by kernel_rfl
  have h23 := (g7p127 A n _ _).trans h22
  have h24 := (g7Qn A n _ _ _).trans h23
  have h25 : (g7T kk) .ret (g7R6s8 A x0 (g21r1 A x3 x4) (g25r1 A x3 x4) x1 x2 (g21r0 A x3 x4) (g25r0 A x3 x4)) = kk (bO false) [(1000, (bU 4 x1 24)), (1001, (bU 4 x2 23)), (5006, (bU 4 (g21r0 A x3 x4) 24)), (6006, (bU 4 (g25r0 A x3 x4) 24))] := by kernel_rfl
  have h26 := (g7p127 A n _ _).trans h25
  have h27 := (g7Qn A n _ _ _).trans h26
  have h28 : (g7T kk) .ret (g7R6s9 A x0 (g21r1 A x3 x4) (g25r1 A x3 x4) x1 x2 (g21r0 A x3 x4) (g25r0 A x3 x4)) = kk (bO false) [(1000, (bU 4 x1 24)), (1001, (bU 4 x2 23)), (5006, (bU 4 (g21r0 A x3 x4) 24)), (6006, (bU 4 (g25r0 A x3 x4) 24))] := by kernel_rfl
  have h29 := (g7p127 A n _ _).trans h28
  have h30 := (g7Qn A n _ _ _).trans h29
  have h31 : (g7T kk) .ret (g7R6s10 A x0 (g21r1 A x3 x4) (g25r1 A x3 x4) x1 x2 (g21r0 A x3 x4) (g25r0 A x3 x4)) = kk (bO false) [(1000, (bU 4 x1 24)), (1001, (bU 4 x2 23)), (5006, (bU 4 (g21r0 A x3 x4) 24)), (6006, (bU 4 (g25r0 A x3 x4) 24))] := by kernel_rfl
  have h32 := (g7p127 A n _ _).trans h31
  have h33 := (g7Qn A n _ _ _).trans h32
  have h34 : (g7T kk) .ret (g7R6s11 A x0 (g21r1 A x3 x4) (g25r1 A x3 x4) x1 x2 (g21r0 A x3 x4) (g25r0 A x3 x4)) = kk (bO false) [(1000, (bU 4 x1 24)), (1001, (bU 4 x2 23)), (5006, (bU 4 (g21r0 A x3 x4) 24)), (6006, (bU 4 (g25r0 A x3 x4) 24))] := by kernel_rfl
  have h35 := (g7p127 A n _ _).trans h34
  have h36 := (g7Qn A n _ _ _).trans h35
  have h37 := (g7F A n _ 6 _ (g7R5s0 A x0 (g21r1 A x3 x4) x1 x2 x3 x4 (g21r0 A x3 x4)) _ (by kernel_rfl) (by kernel_rfl)).trans (g7R6 A n (g7Q A n (pth 127) (g7T kk)) x0 (g21r1 A x3 x4) (g25r1 A x3 x4) x1 x2 (g21r0 A x3 x4) (g25r0 A x3 x4))
  rw [h3, h6, h9, h12, h15, h18, h21, h24, h27, h30, h33, h36] at h37
  have h38 := (g7p63 A n _ _).trans h37
  have h39 := (g7Qn A n _ _ _).trans h38
  have h40 := (g7F A n _ 5 _ (g7R4s0 A x0 x1 x2 x3 x4) _ (by kernel_rfl) (by kernel_rfl)).trans (g7R5 A n (g7Q A n (pth 63) (g7T kk)) x0 (g21r1 A x3 x4) x1 x2 x3 x4 (g21r0 A x3 x4))
  rw [h39] at h40
  have h41 := (g7p31 A n _ _).trans h40
  have h42 := (g7Qn A n _ _ _).trans h41
  have h43 := (g7F A n _ 4 _ ⟨[(4, (pT 1000 0)), (5, (pT 1001 0)), (6, (pT 1002 0)), (7, (pT 1003 0)), (9, (bO x0))], [(1000, (bU 4 x1 24)), (1001, (bU 4 x2 23)), (1002, (bU 4 x3 24)), (1003, (bU 4 x4 24))]⟩ _ (by kernel_rfl) (by kernel_rfl)).trans (g7R4 A n (g7Q A n (pth 31) (g7T kk)) x0 x1 x2 x3 x4)
  rw [h42] at h43
  have h44 := (g7p15 A n _ _).trans h43
  exact (g7F A n _ 4 _ _ ⟨[(4, (pT 1000 0)), (5, (pT 1001 0)), (6, (pT 1002 0)), (7, (pT 1003 0)), (9, (bO x0))], [(1000, (bU 4 x1 24)), (1001, (bU 4 x2 23)), (1002, (bU 4 x3 24)), (1003, (bU 4 x4 24))]⟩ (by kernel_rfl) (h.trans (by kernel_rfl))).trans (h44.trans (by kernel_rfl))
def g7 {R : Type} (A : Ar) (n : Nat) (kk : AV → Heap → Option R) (a b : List Nat) (c d : List Nat) : Option R :=
  match (generalizing := false) g11ok A with
  | true => match (generalizing := false) !(g11r0 A) with
    | true => kk (bO false) []
    | false => g7J4 A n kk  (g11r0 A) a b c d
  | false => none
set_option maxRecDepth 100000 in
theorem g7_eq {R : Type} (A : Ar) (n : Nat) (kk : AV → Heap → Option R) (a b : List Nat) (c d : List Nat) :
    funD A gtys (g7O A) g7an n (bodyOf Try.f7) g7res [(aN .u64 4 a), (aN .u64 4 b), (aN .u64 4 c), (aN .u64 4 d)] [] kk = g7 A n kk a b c d := by
  have h1 : (g7T kk) .ret (g7R3s0 A) = kk (bO false) [] := by kernel_rfl
  have h2 := (g7Qr A n (pth 15) _ _).trans h1
  have h3 := (g7p107 A n _ _).trans h2
  have h4 := (g7Qn A n _ _ _).trans h3
  have h5 := (g7F A n _ 3 _ (g7R2s0 A (g11r0 A) a b c d) _ (by kernel_rfl) (by kernel_rfl)).trans (g7R3 A n (g7Q A n (pth 107) (g7Q A n (pth 15) (g7T kk))) )
  rw [h4] at h5
  have h6 := (g7p43 A n _ _).trans h5
  have h7 := (g7Qn A n _ _ _).trans (g7J4_eq A n kk     (g7R2s0 A (g11r0 A) a b c d) (g11r0 A) a b c d (by kernel_rfl))
  have h8 := (g7p59 A n _ _).trans h7
  have h9 := g7p27 A n (g7Q A n (pth 15) (g7T kk)) (g7R2s0 A (g11r0 A) a b c d) (!(g11r0 A)) (by kernel_rfl)
  rw [h6, h8] at h9
  have h10 := (g7Qn A n _ _ _).trans h9
  have h11 := (g7F A n _ 2 _ (g7R1s0 A a b c d) _ (by kernel_rfl) (by kernel_rfl)).trans (g7R2 A n (g7Q A n (pth 27) (g7Q A n (pth 15) (g7T kk))) (g11r0 A) a b c d)
  rw [h10] at h11
  have h12 := (g7p11 A n _ _).trans h11
  have h13 := (g7p7 A n _ _).trans h12
  have h14 := (g7Qn A n _ _ _).trans h13
  have h15 := (g7F A n _ 1 _ (g7R0s0 A a b c d) _ (by kernel_rfl) (by kernel_rfl)).trans (g7R1 A n (g7Q A n (pth 7) (g7T kk)) a b c d)
  rw [h14] at h15
  have h16 := (g7p3 A n _ _).trans h15
  have h17 := (g7Qn A n _ _ _).trans h16
  have h18 := (g7F A n _ 0 _ ⟨[(0, (aN .u64 4 a)), (1, (aN .u64 4 b)), (2, (aN .u64 4 c)), (3, (aN .u64 4 d))], []⟩ _ (by kernel_rfl) (by kernel_rfl)).trans (g7R0 A n (g7Q A n (pth 3) (g7T kk)) a b c d)
  rw [h17] at h18
  have h19 := (g7p1 A n _ _).trans h18
  exact (show funD A gtys (g7O A) g7an n (bodyOf Try.f7) g7res [(aN .u64 4 a), (aN .u64 4 b), (aN .u64 4 c), (aN .u64 4 d)] [] kk = g7D A n (pth 1) (g7T kk) ⟨[(0, (aN .u64 4 a)), (1, (aN .u64 4 b)), (2, (aN .u64 4 c)), (3, (aN .u64 4 d))], []⟩ from by kernel_rfl).trans (h19.trans (by kernel_rfl))
def g7is (o : Option AV) : Bool := match o with
  | some (.v (.cell (.bool _))) => true
  | _ => false
def g7g0 (o : Option AV) : Bool := match o with
  | some (.v (.cell (.bool x))) => x
  | _ => false
theorem g7is_spec {o : Option AV} (h : g7is o = true) : o = some (.v (.cell (.bool (g7g0 o)))) := by
  unfold g7is at h
  split at h
  · rfl
  · cases h
def g7v (A : Ar) (a b : List Nat) (c d : List Nat) : Option AV := g7 A (100000) (fun v _ => some v) a b c d
def g7ok (A : Ar) (a b : List Nat) (c d : List Nat) : Bool := g7is (g7v A a b c d)
def g7r0 (A : Ar) (a b : List Nat) (c d : List Nat) : Bool := g7g0 (g7v A a b c d)
theorem g7ok_spec {A : Ar} {a b c d} (h : g7ok A a b c d = true) : g7v A a b c d = some (.v (.cell (.bool (g7r0 A a b c d)))) := g7is_spec h
def g7o (A : Ar) (args : List AV) : Option (Bool × AV) := match args with
  | [.v (.agg [.nums .u64 n0 a]), .v (.agg [.nums .u64 n1 b]), .v (.agg [.nums .u64 n2 c]), .v (.agg [.nums .u64 n3 d])] => some (Nat.beq n0 4 && (Nat.beq n1 4 && (Nat.beq n2 4 && (Nat.beq n3 4 && (g7ok A a b c d)))), .v (.cell (.bool (g7r0 A a b c d))))
  | _ => none
theorem g7o_sound : ∀ args v, g7o realA args = some (true, v) → Fn1 Try.prog 7 args v := by
  intro args v h
  unfold g7o at h
  split at h
  · rename_i n0 a n1 b n2 c n3 d
    simp only [Option.some.injEq, Prod.mk.injEq] at h
    obtain ⟨hc, h⟩ := h
    subst h
    · skip
      simp only [Bool.and_eq_true] at hc
      have en0 := beq_true hc.1
      subst en0
      replace hc := hc.2
      have en1 := beq_true hc.1
      subst en1
      replace hc := hc.2
      have en2 := beq_true hc.1
      subst en2
      replace hc := hc.2
      have en3 := beq_true hc.1
      subst en3
      replace hc := hc.2
      exact fn1_of mixed gtysOK g7O_sound g7O_det (an := g7an) (n := 100000) Try.func7 (c := bodyOf Try.f7) rfl (by kernel_rfl) Try.call7 (Nat.le_of_ble_eq_true rfl) (fun b => rfl) (fun _ => (g7_eq realA (100000) (fun v _ => some v) a b c d).trans (show g7v realA a b c d = _ from g7ok_spec hc))
  · cases h
end Go.Sx
