/- printed by sxgen -/
import Derived.Test.YtnnepclpggbjgaaSxS03b
namespace Go.Sx
open Go.Proofs
set_option linter.unusedVariables false
/- engrosser/field.Add -/
def g12O (A : Ar) : Orc := orcOf [(37, g37o A), (38, g38o A)]
theorem g12O_sound : OSound Try.prog (g12O realA) := orc_sound fun f g hm args v hv => by
  simp only [List.mem_cons, List.not_mem_nil, or_false, Prod.mk.injEq] at hm
  rcases hm with ⟨rfl, rfl⟩ | ⟨rfl, rfl⟩
  · exact g37o_sound _ _ hv
  · exact g38o_sound _ _ hv
theorem g12O_det : ODet (g12O realA) := orc_det _
def g12an : Ann := [(0, ([0, 1], [])), (1, ([2, 3, 4], [1000, 1001, 1002])), (2, ([4, 5, 6], [1002, 2004, 2005])), (3, ([4, 5, 6, 12], [1002, 2004, 2005])), (4, ([4, 5, 6, 12], [1002, 2004, 2005])), (5, ([4, 5, 6, 7, 12], [1002, 2004, 2005])), (6, ([4, 5, 6, 12], [1002, 2004, 2005])), (7, ([4, 5], [1002, 2004]))]
def g12res : List ResultVar := [.cell 4 24]
noncomputable def g12D {R : Type} (A : Ar) (n : Nat) (p : List Bool) (K : Ex → St → Option R) (s : St) : Option R := codeD A gtys (g12O A) g12an n (sub (bodyOf Try.f12) p) K s
noncomputable def g12V {R : Type} (A : Ar) (n : Nat) (p : List Bool) (m : Nat) (K : Ex → St → Option R) (s : St) : Option R := loopD (fun K' s'' => codeD A gtys (g12O A) g12an n (sub (bodyOf Try.f12) p) K' s'') m K s
noncomputable def g12Q {R : Type} (A : Ar) (n : Nat) (p : List Bool) (K : Ex → St → Option R) : Ex → St → Option R := seqC (g12D A n p K) K
noncomputable def g12W {R : Type} (A : Ar) (n : Nat) (p : List Bool) (m : Nat) (K : Ex → St → Option R) : Ex → St → Option R := seqC (g12V A n p m K) K
noncomputable def g12T {R : Type} (kk : AV → Heap → Option R) : Ex → St → Option R := finD gtys g12res kk
theorem g12Qn {R : Type} (A : Ar) (n : Nat) (p : List Bool) (K : Ex → St → Option R) (s : St) : g12Q A n p K .normal s = g12D A n p K s := rfl
theorem g12Qe {R : Type} (A : Ar) (n : Nat) (p : List Bool) (K : Ex → St → Option R) (i : Nat) (s : St) : g12Q A n p K (.exit i) s = K (.exit i) s := rfl
theorem g12Wn {R : Type} (A : Ar) (n : Nat) (p : List Bool) (m : Nat) (K : Ex → St → Option R) (s : St) : g12W A n p m K .normal s = g12V A n p m K s := rfl
theorem g12We {R : Type} (A : Ar) (n : Nat) (p : List Bool) (m : Nat) (K : Ex → St → Option R) (i : Nat) (s : St) : g12W A n p m K (.exit i) s = K (.exit i) s := rfl
theorem g12Vs {R : Type} (A : Ar) (n : Nat) (p : List Bool) (m : Nat) (K : Ex → St → Option R) (s : St) : g12V A n p (m + 1) K s = g12D A n p (g12W A n p m K) s := rfl
section
variable {R : Type} (A : Ar) (n : Nat) (K : Ex → St → Option R) (s : St)
theorem g12p : g12D A n (pth 1) K s = g12D A n (pth 2) (g12Q A n (pth 3) K) s := by kernel_rfl
theorem g12p0 (s' : St) (h : keep g12an 0 s = keep g12an 0 s') : g12D A n (pth 2) K s = g12D A n (pth 2) K s' := codeD_first (id := 0) (by kernel_rfl) h K
theorem g12p1 : g12D A n (pth 3) K s = g12D A n (pth 5) (g12Q A n (pth 7) K) s := by kernel_rfl
theorem g12p10 (s' : St) (h : keep g12an 1 s = keep g12an 1 s') : g12D A n (pth 5) K s = g12D A n (pth 5) K s' := codeD_first (id := 1) (by kernel_rfl) h K
theorem g12p11 : g12D A n (pth 7) K s = g12D A n (pth 11) (g12Q A n (pth 15) K) s := by kernel_rfl
theorem g12p110 : g12D A n (pth 11) K s = g12D A n (pth 19) (g12Q A n (pth 27) K) s := by kernel_rfl
theorem g12p1100 (s' : St) (h : keep g12an 2 s = keep g12an 2 s') : g12D A n (pth 19) K s = g12D A n (pth 19) K s' := codeD_first (id := 2) (by kernel_rfl) h K
theorem g12p1101 : g12D A n (pth 27) K s = g12D A n (pth 43) (blockK 0 K) s := by kernel_rfl
theorem g12p11010 : g12D A n (pth 43) K s = g12V A n (pth 75) n K s := by kernel_rfl
theorem g12p110100 : g12D A n (pth 75) K s = g12D A n (pth 139) (g12Q A n (pth 203) K) s := by kernel_rfl
theorem g12p1101000 (s' : St) (h : keep g12an 3 s = keep g12an 3 s') : g12D A n (pth 139) K s = g12D A n (pth 139) K s' := codeD_first (id := 3) (by kernel_rfl) h K
theorem g12p1101001 : g12D A n (pth 203) K s = g12D A n (pth 331) (g12Q A n (pth 459) K) s := by kernel_rfl
theorem g12p11010010 (t : Bool) : ev s (.tmp 13) = some (.v (.cell (.bool t))) → g12D A n (pth 331) K s = (match t with
    | true => g12D A n (pth 587) K s
    | false => g12D A n (pth 843) K s) := codeD_cond t
theorem g12p110100100 : g12D A n (pth 587) K s = K .normal s := by kernel_rfl
theorem g12p110100101 : g12D A n (pth 843) K s = K (.exit 0) s := by kernel_rfl
theorem g12p11010011 : g12D A n (pth 459) K s = g12D A n (pth 715) (g12Q A n (pth 971) K) s := by kernel_rfl
theorem g12p110100110 : g12D A n (pth 715) K s = g12D A n (pth 1227) (blockK 1 K) s := by kernel_rfl
theorem g12p1101001100 : g12D A n (pth 1227) K s = g12D A n (pth 2251) (g12Q A n (pth 3275) K) s := by kernel_rfl
theorem g12p11010011000 (s' : St) (h : keep g12an 4 s = keep g12an 4 s') : g12D A n (pth 2251) K s = g12D A n (pth 2251) K s' := codeD_first (id := 4) (by kernel_rfl) h K
theorem g12p11010011001 (s' : St) (h : keep g12an 5 s = keep g12an 5 s') : g12D A n (pth 3275) K s = g12D A n (pth 3275) K s' := codeD_first (id := 5) (by kernel_rfl) h K
theorem g12p110100111 (s' : St) (h : keep g12an 6 s = keep g12an 6 s') : g12D A n (pth 971) K s = g12D A n (pth 971) K s' := codeD_first (id := 6) (by kernel_rfl) h K
theorem g12p111 : g12D A n (pth 15) K s = g12D A n (pth 23) (g12Q A n (pth 31) K) s := by kernel_rfl
theorem g12p1110 (s' : St) (h : keep g12an 7 s = keep g12an 7 s') : g12D A n (pth 23) K s = g12D A n (pth 23) K s' := codeD_first (id := 7) (by kernel_rfl) h K
theorem g12p1111 : g12D A n (pth 31) K s = K .ret s := by kernel_rfl
theorem g12R4 (x0 : Int) (x1 x2 x3 : List Nat) : g12D A n (pth 2251) K ⟨[(4, (pT 1002 0)), (5, (pT 2004 0)), (6, (pT 2005 0)), (12, (i6 x0))], [(1002, (bU 4 x1 24)), (2004, (bU 5 x2 44)), (2005, (bU 5 x3 44))]⟩ = K .normal ⟨[(7, (i6 x0)), (14, (i6 x0)), (4, (pT 1002 0)), (5, (pT 2004 0)), (6, (pT 2005 0)), (12, (i6 x0))], [(1002, (bU 4 x1 24)), (2004, (bU 5 x2 44)), (2005, (bU 5 x3 44))]⟩ := by kernel_rfl
theorem g12R5 (x0 x1 : Int) (x2 x3 x4 : List Nat) : g12D A n (pth 3275) K ⟨[(4, (pT 1002 0)), (5, (pT 2004 0)), (6, (pT 2005 0)), (7, (i6 x0)), (12, (i6 x1))], [(1002, (bU 4 x2 24)), (2004, (bU 5 x3 44)), (2005, (bU 5 x4 44))]⟩ = match (generalizing := false) A.neg x0 with
    | true => none
    | false => match (generalizing := false) A.lt (A.toN x0) 5 with
      | true => match (generalizing := false) A.neg x0 with
        | true => none
        | false => match (generalizing := false) A.lt (A.toN x0) 5 with
          | true => match (generalizing := false) A.neg x0 with
            | true => none
            | false => match (generalizing := false) A.lt (A.toN x0) 5 with
              | true => K .normal ⟨[(22, (.v (.cell (.ptr 2004 0 (some ⟨A.toN x0, 1, 5, 0, 0, 0⟩))))), (21, (u64v (A.nb .add .u64 (x3.getD (A.toN x0) 0) (x4.getD (A.toN x0) 0)))), (20, (u64v (x4.getD (A.toN x0) 0))), (19, (.v (.cell (.ptr 2005 0 (some ⟨A.toN x0, 1, 5, 0, 0, 0⟩))))), (18, (i6 x0)), (17, (u64v (x3.getD (A.toN x0) 0))), (16, (.v (.cell (.ptr 2004 0 (some ⟨A.toN x0, 1, 5, 0, 0, 0⟩))))), (15, (i6 x0)), (4, (pT 1002 0)), (5, (pT 2004 0)), (6, (pT 2005 0)), (7, (i6 x0)), (12, (i6 x1))], [(1002, (bU 4 x2 24)), (2004, (bU 5 (x3.set (A.toN x0) (A.nb .add .u64 (x3.getD (A.toN x0) 0) (x4.getD (A.toN x0) 0))) 44)), (2005, (bU 5 x4 44))]⟩
              | false => none
          | false => none
      | false => none := by kernel_rfl
theorem g12R6 (x0 : Int) (x1 x2 x3 : List Nat) : g12D A n (pth 971) K ⟨[(4, (pT 1002 0)), (5, (pT 2004 0)), (6, (pT 2005 0)), (12, (i6 x0))], [(1002, (bU 4 x1 24)), (2004, (bU 5 x2 44)), (2005, (bU 5 x3 44))]⟩ = K .normal ⟨[(12, (i6 (A.ib .add .i64 x0 1))), (23, (i6 (A.ib .add .i64 x0 1))), (4, (pT 1002 0)), (5, (pT 2004 0)), (6, (pT 2005 0)), (12, (i6 x0))], [(1002, (bU 4 x1 24)), (2004, (bU 5 x2 44)), (2005, (bU 5 x3 44))]⟩ := by kernel_rfl
theorem g12R3 (x0 : Int) (x1 x2 x3 : List Nat) : g12D A n (pth 139) K ⟨[(4, (pT 1002 0)), (5, (pT 2004 0)), (6, (pT 2005 0)), (12, (i6 x0))], [(1002, (bU 4 x1 24)), (2004, (bU 5 x2 44)), (2005, (bU 5 x3 44))]⟩ = K .normal ⟨[(13, (bO (A.ic .lss x0 5))), (4, (pT 1002 0)), (5, (pT 2004 0)), (6, (pT 2005 0)), (12, (i6 x0))], [(1002, (bU 4 x1 24)), (2004, (bU 5 x2 44)), (2005, (bU 5 x3 44))]⟩ := by kernel_rfl
theorem g12R7 (x0 x1 : List Nat) : g12D A n (pth 23) K ⟨[(4, (pT 1002 0)), (5, (pT 2004 0))], [(1002, (bU 4 x0 24)), (2004, (bU 5 x1 44))]⟩ = match (generalizing := false) g38ok A x1 with
    | true => K .normal ⟨[(25, (aN .u64 4 (g38r0 A x1))), (24, (aN .u64 5 x1)), (4, (pT 1002 0)), (5, (pT 2004 0))], [(1002, (bU 4 (g38r0 A x1) 24)), (2004, (bU 5 x1 44))]⟩
    | false => none := by kernel_rfl
theorem g12R0 (x0 x1 : List Nat) : g12D A n (pth 2) K ⟨[(0, (aN .u64 4 x0)), (1, (aN .u64 4 x1))], []⟩ = K .normal ⟨[(4, (pT 1002 0)), (3, (pT 1001 0)), (2, (pT 1000 0)), (0, (aN .u64 4 x0)), (1, (aN .u64 4 x1))], [(1002, (bU 4 [0, 0, 0, 0] 24)), (1001, (bU 4 x1 24)), (1000, (bU 4 x0 24))]⟩ := by kernel_rfl
theorem g12R1 (x0 x1 x2 : List Nat) : g12D A n (pth 5) K ⟨[(2, (pT 1000 0)), (3, (pT 1001 0)), (4, (pT 1002 0))], [(1000, (bU 4 x0 24)), (1001, (bU 4 x1 24)), (1002, (bU 4 x2 24))]⟩ = match (generalizing := false) g37ok A x0 with
    | true => match (generalizing := false) g37ok A x1 with
      | true => K .normal ⟨[(6, (pT 2005 0)), (5, (pT 2004 0)), (11, (aN .u64 5 (g37r0 A x1))), (10, (aN .u64 4 x1)), (9, (aN .u64 5 (g37r0 A x0))), (8, (aN .u64 4 x0)), (2, (pT 1000 0)), (3, (pT 1001 0)), (4, (pT 1002 0))], [(2005, (bU 5 (g37r0 A x1) 44)), (2004, (bU 5 (g37r0 A x0) 44)), (1000, (bU 4 x0 24)), (1001, (bU 4 x1 24)), (1002, (bU 4 x2 24))]⟩
      | false => none
    | false => none := by kernel_rfl
theorem g12R2 (x0 x1 x2 : List Nat) : g12D A n (pth 19) K ⟨[(4, (pT 1002 0)), (5, (pT 2004 0)), (6, (pT 2005 0))], [(1002, (bU 4 x0 24)), (2004, (bU 5 x1 44)), (2005, (bU 5 x2 44))]⟩ = K .normal ⟨[(12, (i6 0)), (4, (pT 1002 0)), (5, (pT 2004 0)), (6, (pT 2005 0))], [(1002, (bU 4 x0 24)), (2004, (bU 5 x1 44)), (2005, (bU 5 x2 44))]⟩ := by kernel_rfl
end
def g12J4 {R : Type} (A : Ar) (n : Nat) (kk : AV → Heap → Option R) (lg12L3 : Int → List Nat → List Nat → List Nat → Option R) (x0 : Int) (x1 x2 x3 : List Nat) : Option R :=
  match (generalizing := false) A.neg x0 with
  | true => none
  | false => match (generalizing := false) A.lt (A.toN x0) 5 with
    | true => match (generalizing := false) A.neg x0 with
      | true => none
      | false => match (generalizing := false) A.lt (A.toN x0) 5 with
        | true => match (generalizing := false) A.neg x0 with
          | true => none
          | false => match (generalizing := false) A.lt (A.toN x0) 5 with
            | true => lg12L3 (A.ib .add .i64 x0 1) x1 (x2.set (A.toN x0) (A.nb .add .u64 (x2.getD (A.toN x0) 0) (x3.getD (A.toN x0) 0))) x3
            | false => none
        | false => none
    | false => none
set_option maxRecDepth 100000 in
theorem g12J4_eq {R : Type} (A : Ar) (n : Nat) (kk : AV → Heap → Option R) (m0 : Nat) (lg12L3 : Int → List Nat → List Nat → List Nat → Option R) 
    (hg12L3 : ∀ (s : St) (x0 : Int) (x1 x2 x3 : List Nat), keep g12an 3 s = ⟨[(4, (pT 1002 0)), (5, (pT 2004 0)), (6, (pT 2005 0)), (12, (i6 x0))], [(1002, (bU 4 x1 24)), (2004, (bU 5 x2 44)), (2005, (bU 5 x3 44))]⟩ → g12V A n (pth 75) m0 (blockK 0 (g12Q A n (pth 15) (g12T kk))) s = lg12L3 x0 x1 x2 x3) (s : St) (x0 : Int) (x1 x2 x3 : List Nat) (h : keep g12an 4 s = ⟨[(4, (pT 1002 0)), (5, (pT 2004 0)), (6, (pT 2005 0)), (12, (i6 x0))], [(1002, (bU 4 x1 24)), (2004, (bU 5 x2 44)), (2005, (bU 5 x3 44))]⟩) :
    g12D A n (pth 459) (g12W A n (pth 75) m0 (blockK 0 (g12Q A n (pth 15) (g12T kk)))) s = g12J4 A n kk lg12L3 x0 x1 x2 x3 := by
  have h7 := (g12Wn A n _ _ _ _).trans (hg12L3 ⟨[(12, (i6 (A.ib .add .i64 x0 1))), (23, (i6 (A.ib .add .i64 x0 1))), (4, (pT 1002 0)), (5, (pT 2004 0)), (6, (pT 2005 0)), (12, (i6 x0))], [(1002, (bU 4 x1 24)), (2004, (bU 5 (x2.set (A.toN x0) (A.nb .add .u64 (x2.getD (A.toN x0) 0) (x3.getD (A.toN x0) 0))) 44)), (2005, (bU 5 x3 44))]⟩ (A.ib .add .i64 x0 1) x1 (x2.set (A.toN x0) (A.nb .add .u64 (x2.getD (A.toN x0) 0) (x3.getD (A.toN x0) 0))) x3 (by kernel_rfl))
  have h5 := g12R6 A n (g12W A n (pth 75) m0 (blockK 0 (g12Q A n (pth 15) (g12T kk)))) x0 x1 (x2.set (A.toN x0) (A.nb .add .u64 (x2.getD (A.toN x0) 0) (x3.getD (A.toN x0) 0))) x3
  have h8 := (g12p110100111 A n _ ⟨[(22, (.v (.cell (.ptr 2004 0 (some ⟨A.toN x0, 1, 5, 0, 0, 0⟩))))), (21, (u64v (A.nb .add .u64 (x2.getD (A.toN x0) 0) (x3.getD (A.toN x0) 0)))), (20, (u64v (x3.getD (A.toN x0) 0))), (19, (.v (.cell (.ptr 2005 0 (some ⟨A.toN x0, 1, 5, 0, 0, 0⟩))))), (18, (i6 x0)), (17, (u64v (x2.getD (A.toN x0) 0))), (16, (.v (.cell (.ptr 2004 0 (some ⟨A.toN x0, 1, 5, 0, 0, 0⟩))))), (15, (i6 x0)), (4, (pT 1002 0)), (5, (pT 2004 0)), (6, (pT 2005 0)), (7, (i6 x0)), (12, (i6 x0))], [(1002, (bU 4 x1 24)), (2004, (bU 5 (x2.set (A.toN x0) (A.nb .add .u64 (x2.getD (A.toN x0) 0) (x3.getD (A.toN x0) 0))) 44)), (2005, (bU 5 x3 44))]⟩ _ (by kernel_rfl)).trans h5
  rw [h7] at h8
  have h9 := (g12Qn A n _ _ _).trans h8
  have h10 := (blockK_n 1 _ _).trans h9
  have h3 := g12R5 A n (blockK 1 (g12Q A n (pth 971) (g12W A n (pth 75) m0 (blockK 0 (g12Q A n (pth 15) (g12T kk)))))) x0 x0 x1 x2 x3
  have h11 := (g12p11010011001 A n _ ⟨[(7, (i6 x0)), (14, (i6 x0)), (4, (pT 1002 0)), (5, (pT 2004 0)), (6, (pT 2005 0)), (12, (i6 x0))], [(1002, (bU 4 x1 24)), (2004, (bU 5 x2 44)), (2005, (bU 5 x3 44))]⟩ _ (by kernel_rfl)).trans h3
  rw [h10] at h11
  have h12 := (g12Qn A n _ _ _).trans h11
  have h1 := g12R4 A n (g12Q A n (pth 3275) (blockK 1 (g12Q A n (pth 971) (g12W A n (pth 75) m0 (blockK 0 (g12Q A n (pth 15) (g12T kk))))))) x0 x1 x2 x3
  have h13 := (g12p11010011000 A n _ ⟨[(4, (pT 1002 0)), (5, (pT 2004 0)), (6, (pT 2005 0)), (12, (i6 x0))], [(1002, (bU 4 x1 24)), (2004, (bU 5 x2 44)), (2005, (bU 5 x3 44))]⟩ _ (by kernel_rfl)).trans h1
  rw [h12] at h13
  have h14 := (g12p1101001100 A n _ _).trans h13
  have h15 := (g12p110100110 A n _ _).trans h14
  have h16 := (g12p11010011 A n _ _).trans h15
  exact (codeD_first (s' := ⟨[(4, (pT 1002 0)), (5, (pT 2004 0)), (6, (pT 2005 0)), (12, (i6 x0))], [(1002, (bU 4 x1 24)), (2004, (bU 5 x2 44)), (2005, (bU 5 x3 44))]⟩) (id := 4) (by kernel_rfl) (h.trans (by kernel_rfl)) _).trans (h16.trans (by kernel_rfl))
def g12L3 {R : Type} (A : Ar) (n : Nat) (kk : AV → Heap → Option R)  : Nat → Int → List Nat → List Nat → List Nat → Option R
  | 0, _, _, _, _ => none
  | m + 1, x0, x1, x2, x3 => match (generalizing := false) A.ic .lss x0 5 with
  | true => g12J4 A n kk (g12L3 A n kk  m) x0 x1 x2 x3
  | false => match (generalizing := false) g38ok A x2 with
    | true => kk (aN .u64 4 (g38r0 A x2)) [(1002, (bU 4 (g38r0 A x2) 24)), (2004, (bU 5 x2 44))]
    | false => none
set_option maxRecDepth 100000 in
theorem g12L3_eq {R : Type} (A : Ar) (n : Nat) (kk : AV → Heap → Option R)    (m : Nat) (s : St) (x0 : Int) (x1 x2 x3 : List Nat) (h : keep g12an 3 s = ⟨[(4, (pT 1002 0)), (5, (pT 2004 0)), (6, (pT 2005 0)), (12, (i6 x0))], [(1002, (bU 4 x1 24)), (2004, (bU 5 x2 44)), (2005, (bU 5 x3 44))]⟩) :
    g12V A n (pth 75) m (blockK 0 (g12Q A n (pth 15) (g12T kk))) s = g12L3 A n kk  m x0 x1 x2 x3 := by
  induction m generalizing s x0 x1 x2 x3 with
  | zero => rfl
  | succ m ih =>
    have h3 := (g12Qn A n _ _ _).trans (g12J4_eq A n kk m (g12L3 A n kk  m) ih  ⟨[(13, (bO (A.ic .lss x0 5))), (4, (pT 1002 0)), (5, (pT 2004 0)), (6, (pT 2005 0)), (12, (i6 x0))], [(1002, (bU 4 x1 24)), (2004, (bU 5 x2 44)), (2005, (bU 5 x3 44))]⟩ x0 x1 x2 x3 (by kernel_rfl))
    have h4 := (g12p110100100 A n _ _).trans h3
    have h7 : (g12T kk) .ret ⟨[(25, (aN .u64 4 (g38r0 A x2))), (24, (aN .u64 5 x2)), (4, (pT 1002 0)), (5, (pT 2004 0))], [(1002, (bU 4 (g38r0 A x2) 24)), (2004, (bU 5 x2 44))]⟩ = kk (aN .u64 4 (g38r0 A x2)) [(1002, (bU 4 (g38r0 A x2) 24)), (2004, (bU 5 x2 44))] := by kernel_rfl
    have h8 := (g12p1111 A n _ _).trans h7
    have h9 := (g12Qn A n _ _ _).trans h8
    have h5 := g12R7 A n (g12Q A n (pth 31) (g12T kk)) x1 x2
    have h10 := (g12p1110 A n _ ⟨[(13, (bO (A.ic .lss x0 5))), (4, (pT 1002 0)), (5, (pT 2004 0)), (6, (pT 2005 0)), (12, (i6 x0))], [(1002, (bU 4 x1 24)), (2004, (bU 5 x2 44)), (2005, (bU 5 x3 44))]⟩ _ (by kernel_rfl)).trans h5
    rw [h9] at h10
    have h11 := (g12p111 A n _ _).trans h10
    have h12 := (g12Qn A n _ _ _).trans h11
    have h13 := (blockK_hit 0 _ _).trans h12
    have h14 := (g12We A n (pth 75) m _ _ _).trans h13
    have h15 := (g12Qe A n (pth 459) _ _ _).trans h14
    have h16 := (g12p110100101 A n _ _).trans h15
    have h17 := g12p11010010 A n (g12Q A n (pth 459) (g12W A n (pth 75) m (blockK 0 (g12Q A n (pth 15) (g12T kk))))) ⟨[(13, (bO (A.ic .lss x0 5))), (4, (pT 1002 0)), (5, (pT 2004 0)), (6, (pT 2005 0)), (12, (i6 x0))], [(1002, (bU 4 x1 24)), (2004, (bU 5 x2 44)), (2005, (bU 5 x3 44))]⟩ (A.ic .lss x0 5) (by kernel_rfl)
    rw [h4, h16] at h17
    have h18 := (g12p1101001 A n _ _).trans h17
    have h19 := (g12Qn A n _ _ _).trans h18
    have h1 := g12R3 A n (g12Q A n (pth 203) (g12W A n (pth 75) m (blockK 0 (g12Q A n (pth 15) (g12T kk))))) x0 x1 x2 x3
    have h20 := (g12p1101000 A n _ ⟨[(4, (pT 1002 0)), (5, (pT 2004 0)), (6, (pT 2005 0)), (12, (i6 x0))], [(1002, (bU 4 x1 24)), (2004, (bU 5 x2 44)), (2005, (bU 5 x3 44))]⟩ _ (by kernel_rfl)).trans h1
    rw [h19] at h20
    have h21 := (g12p110100 A n _ _).trans h20
    exact (loopD_first (s' := ⟨[(4, (pT 1002 0)), (5, (pT 2004 0)), (6, (pT 2005 0)), (12, (i6 x0))], [(1002, (bU 4 x1 24)), (2004, (bU 5 x2 44)), (2005, (bU 5 x3 44))]⟩) (id := 3) (by kernel_rfl) (h.trans (by kernel_rfl)) _).trans ((g12Vs A n _ m _ _).trans (h21.trans (by kernel_rfl)))
def g12 {R : Type} (A : Ar) (n : Nat) (kk : AV → Heap → Option R) (a b : List Nat) : Option R :=
  match (generalizing := false) g37ok A a with
  | true => match (generalizing := false) g37ok A b with
    | true => g12L3 A n kk  n 0 [0, 0, 0, 0] (g37r0 A a) (g37r0 A b)
    | false => none
  | false => none
set_option maxRecDepth 100000 in
theorem g12_eq {R : Type} (A : Ar) (n : Nat) (kk : AV → Heap → Option R) (a b : List Nat) :
    funD A gtys (g12O A) g12an n (bodyOf Try.f12) g12res [(aN .u64 4 a), (aN .u64 4 b)] [] kk = g12 A n kk a b := by
  have h7 := (g12p11010 A n _ _).trans (g12L3_eq A n kk    n ⟨[(12, (i6 0)), (4, (pT 1002 0)), (5, (pT 2004 0)), (6, (pT 2005 0))], [(1002, (bU 4 [0, 0, 0, 0] 24)), (2004, (bU 5 (g37r0 A a) 44)), (2005, (bU 5 (g37r0 A b) 44))]⟩ 0 [0, 0, 0, 0] (g37r0 A a) (g37r0 A b) (by kernel_rfl))
  have h8 := (g12p1101 A n _ _).trans h7
  have h9 := (g12Qn A n _ _ _).trans h8
  have h5 := g12R2 A n (g12Q A n (pth 27) (g12Q A n (pth 15) (g12T kk))) [0, 0, 0, 0] (g37r0 A a) (g37r0 A b)
  have h10 := (g12p1100 A n _ ⟨[(6, (pT 2005 0)), (5, (pT 2004 0)), (11, (aN .u64 5 (g37r0 A b))), (10, (aN .u64 4 b)), (9, (aN .u64 5 (g37r0 A a))), (8, (aN .u64 4 a)), (2, (pT 1000 0)), (3, (pT 1001 0)), (4, (pT 1002 0))], [(2005, (bU 5 (g37r0 A b) 44)), (2004, (bU 5 (g37r0 A a) 44)), (1000, (bU 4 a 24)), (1001, (bU 4 b 24)), (1002, (bU 4 [0, 0, 0, 0] 24))]⟩ _ (by kernel_rfl)).trans h5
  rw [h9] at h10
  have h11 := (g12p110 A n _ _).trans h10
  have h12 := (g12p11 A n _ _).trans h11
  have h13 := (g12Qn A n _ _ _).trans h12
  have h3 := g12R1 A n (g12Q A n (pth 7) (g12T kk)) a b [0, 0, 0, 0]
  have h14 := (g12p10 A n _ ⟨[(4, (pT 1002 0)), (3, (pT 1001 0)), (2, (pT 1000 0)), (0, (aN .u64 4 a)), (1, (aN .u64 4 b))], [(1002, (bU 4 [0, 0, 0, 0] 24)), (1001, (bU 4 b 24)), (1000, (bU 4 a 24))]⟩ _ (by kernel_rfl)).trans h3
  rw [h13] at h14
  have h15 := (g12p1 A n _ _).trans h14
  have h16 := (g12Qn A n _ _ _).trans h15
  have h1 := g12R0 A n (g12Q A n (pth 3) (g12T kk)) a b
  have h17 := (g12p0 A n _ ⟨[(0, (aN .u64 4 a)), (1, (aN .u64 4 b))], []⟩ _ (by kernel_rfl)).trans h1
  rw [h16] at h17
  have h18 := (g12p A n _ _).trans h17
  exact (show funD A gtys (g12O A) g12an n (bodyOf Try.f12) g12res [(aN .u64 4 a), (aN .u64 4 b)] [] kk = g12D A n (pth 1) (g12T kk) ⟨[(0, (aN .u64 4 a)), (1, (aN .u64 4 b))], []⟩ from by kernel_rfl).trans (h18.trans (by kernel_rfl))
def g12is (o : Option AV) : Bool := match o with
  | some (aN .u64 4 _) => true
  | _ => false
def g12g0 (o : Option AV) : List Nat := match o with
  | some (aN .u64 4 x) => x
  | _ => []
theorem g12is_spec {o : Option AV} (h : g12is o = true) : o = some (aN .u64 4 (g12g0 o)) := by
  unfold g12is at h
  split at h
  · rfl
  · cases h
def g12v (A : Ar) (a b : List Nat) : Option AV := g12 A (100000) (fun v _ => some v) a b
def g12ok (A : Ar) (a b : List Nat) : Bool := g12is (g12v A a b)
def g12r0 (A : Ar) (a b : List Nat) : List Nat := g12g0 (g12v A a b)
theorem g12ok_spec {A : Ar} {a b} (h : g12ok A a b = true) : g12v A a b = some (aN .u64 4 (g12r0 A a b)) := g12is_spec h
def g12o (A : Ar) (args : List AV) : Option (Bool × AV) := match args with
  | [.v (.agg [.nums .u64 n0 a]), .v (.agg [.nums .u64 n1 b])] => some (Nat.beq n0 4 && (Nat.beq n1 4 && (g12ok A a b)), .v (.agg [.nums .u64 4 (g12r0 A a b)]))
  | _ => none
theorem g12o_sound : ∀ args v, g12o realA args = some (true, v) → Fn1 Try.prog 12 args v := by
  intro args v h
  unfold g12o at h
  split at h
  · rename_i n0 a n1 b
    simp only [Option.some.injEq, Prod.mk.injEq] at h
    obtain ⟨hc, h⟩ := h
    subst h
    · skip
      simp only [Bool.and_eq_true] at hc
      have en0 := beq_true hc.1
      subst en0
      replace hc := hc.2
      have en1 := beq_true hc.1
      subst en1
      replace hc := hc.2
      exact fn1_of mixed gtysOK g12O_sound g12O_det (an := g12an) (n := 100000) Try.func12 (c := bodyOf Try.f12) rfl (by kernel_rfl) Try.call12 (Nat.le_of_ble_eq_true rfl) (fun b => rfl) (fun _ => (g12_eq realA (100000) (fun v _ => some v) a b).trans (show g12v realA a b = _ from g12ok_spec hc))
  · cases h
/- engrosser/field.Right -/
def g20O (A : Ar) : Orc := orcOf [(37, g37o A), (38, g38o A)]
theorem g20O_sound : OSound Try.prog (g20O realA) := orc_sound fun f g hm args v hv => by
  simp only [List.mem_cons, List.not_mem_nil, or_false, Prod.mk.injEq] at hm
  rcases hm with ⟨rfl, rfl⟩ | ⟨rfl, rfl⟩
  · exact g37o_sound _ _ hv
  · exact g38o_sound _ _ hv
theorem g20O_det : ODet (g20O realA) := orc_det _
def g20an : Ann := [(0, ([0], [])), (1, ([1], [1000]))]
def g20res : List ResultVar := [.tmp 2]
noncomputable def g20D {R : Type} (A : Ar) (n : Nat) (p : List Bool) (K : Ex → St → Option R) (s : St) : Option R := codeD A gtys (g20O A) g20an n (sub (bodyOf Try.f20) p) K s
noncomputable def g20Q {R : Type} (A : Ar) (n : Nat) (p : List Bool) (K : Ex → St → Option R) : Ex → St → Option R := seqC (g20D A n p K) K
noncomputable def g20T {R : Type} (kk : AV → Heap → Option R) : Ex → St → Option R := finD gtys g20res kk
theorem g20Qn {R : Type} (A : Ar) (n : Nat) (p : List Bool) (K : Ex → St → Option R) (s : St) : g20Q A n p K .normal s = g20D A n p K s := rfl
section
variable {R : Type} (A : Ar) (n : Nat) (K : Ex → St → Option R) (s : St)
theorem g20p : g20D A n (pth 1) K s = g20D A n (pth 2) (g20Q A n (pth 3) K) s := by kernel_rfl
theorem g20p0 (s' : St) (h : keep g20an 0 s = keep g20an 0 s') : g20D A n (pth 2) K s = g20D A n (pth 2) K s' := codeD_first (id := 0) (by kernel_rfl) h K
theorem g20p1 : g20D A n (pth 3) K s = g20D A n (pth 5) (g20Q A n (pth 7) K) s := by kernel_rfl
theorem g20p10 (s' : St) (h : keep g20an 1 s = keep g20an 1 s') : g20D A n (pth 5) K s = g20D A n (pth 5) K s' := codeD_first (id := 1) (by kernel_rfl) h K
theorem g20p11 : g20D A n (pth 7) K s = K .ret s := by kernel_rfl
theorem g20R0 (x0 : List Nat) : g20D A n (pth 2) K ⟨[(0, (aN .u64 4 x0))], []⟩ = K .normal ⟨[(2, (bO false)), (1, (pT 1000 0)), (0, (aN .u64 4 x0))], [(1000, (bU 4 x0 24))]⟩ := by kernel_rfl
theorem g20R1 (x0 : List Nat) : g20D A n (pth 5) K ⟨[(1, (pT 1000 0))], [(1000, (bU 4 x0 24))]⟩ = match (generalizing := false) g37ok A x0 with
    | true => match (generalizing := false) g38ok A (g37r0 A x0) with
      | true => K .normal ⟨[(2, (bO ((A.lq (g38r0 A (g37r0 A x0)) x0) && true))), (7, (bO ((A.lq (g38r0 A (g37r0 A x0)) x0) && true))), (6, (aN .u64 4 x0)), (5, (aN .u64 4 (g38r0 A (g37r0 A x0)))), (4, (aN .u64 5 (g37r0 A x0))), (3, (aN .u64 4 x0)), (1, (pT 1000 0))], [(1000, (bU 4 x0 24))]⟩
      | false => none
    | false => none := by kernel_rfl
end
def g20 {R : Type} (A : Ar) (n : Nat) (kk : AV → Heap → Option R) (a : List Nat) : Option R :=
  match (generalizing := false) g37ok A a with
  | true => match (generalizing := false) g38ok A (g37r0 A a) with
    | true => kk (bO ((A.lq (g38r0 A (g37r0 A a)) a) && true)) [(1000, (bU 4 a 24))]
    | false => none
  | false => none
set_option maxRecDepth 100000 in
theorem g20_eq {R : Type} (A : Ar) (n : Nat) (kk : AV → Heap → Option R) (a : List Nat) :
    funD A gtys (g20O A) g20an n (bodyOf Try.f20) g20res [(aN .u64 4 a)] [] kk = g20 A n kk a := by
  have h5 : (g20T kk) .ret ⟨[(2, (bO ((A.lq (g38r0 A (g37r0 A a)) a) && true))), (7, (bO ((A.lq (g38r0 A (g37r0 A a)) a) && true))), (6, (aN .u64 4 a)), (5, (aN .u64 4 (g38r0 A (g37r0 A a)))), (4, (aN .u64 5 (g37r0 A a))), (3, (aN .u64 4 a)), (1, (pT 1000 0))], [(1000, (bU 4 a 24))]⟩ = kk (bO ((A.lq (g38r0 A (g37r0 A a)) a) && true)) [(1000, (bU 4 a 24))] := by kernel_rfl
  have h6 := (g20p11 A n _ _).trans h5
  have h7 := (g20Qn A n _ _ _).trans h6
  have h3 := g20R1 A n (g20Q A n (pth 7) (g20T kk)) a
  have h8 := (g20p10 A n _ ⟨[(2, (bO false)), (1, (pT 1000 0)), (0, (aN .u64 4 a))], [(1000, (bU 4 a 24))]⟩ _ (by kernel_rfl)).trans h3
  rw [h7] at h8
  have h9 := (g20p1 A n _ _).trans h8
  have h10 := (g20Qn A n _ _ _).trans h9
  have h1 := g20R0 A n (g20Q A n (pth 3) (g20T kk)) a
  have h11 := (g20p0 A n _ ⟨[(0, (aN .u64 4 a))], []⟩ _ (by kernel_rfl)).trans h1
  rw [h10] at h11
  have h12 := (g20p A n _ _).trans h11
  exact (show funD A gtys (g20O A) g20an n (bodyOf Try.f20) g20res [(aN .u64 4 a)] [] kk = g20D A n (pth 1) (g20T kk) ⟨[(0, (aN .u64 4 a))], []⟩ from by kernel_rfl).trans (h12.trans (by kernel_rfl))
def g20is (o : Option AV) : Bool := match o with
  | some (.v (.cell (.bool _))) => true
  | _ => false
def g20g0 (o : Option AV) : Bool := match o with
  | some (.v (.cell (.bool x))) => x
  | _ => false
theorem g20is_spec {o : Option AV} (h : g20is o = true) : o = some (.v (.cell (.bool (g20g0 o)))) := by
  unfold g20is at h
  split at h
  · rfl
  · cases h
def g20v (A : Ar) (a : List Nat) : Option AV := g20 A (100000) (fun v _ => some v) a
def g20ok (A : Ar) (a : List Nat) : Bool := g20is (g20v A a)
def g20r0 (A : Ar) (a : List Nat) : Bool := g20g0 (g20v A a)
theorem g20ok_spec {A : Ar} {a} (h : g20ok A a = true) : g20v A a = some (.v (.cell (.bool (g20r0 A a)))) := g20is_spec h
def g20o (A : Ar) (args : List AV) : Option (Bool × AV) := match args with
  | [.v (.agg [.nums .u64 n0 a])] => some (Nat.beq n0 4 && (g20ok A a), .v (.cell (.bool (g20r0 A a))))
  | _ => none
theorem g20o_sound : ∀ args v, g20o realA args = some (true, v) → Fn1 Try.prog 20 args v := by
  intro args v h
  unfold g20o at h
  split at h
  · rename_i n0 a
    simp only [Option.some.injEq, Prod.mk.injEq] at h
    obtain ⟨hc, h⟩ := h
    subst h
    · skip
      simp only [Bool.and_eq_true] at hc
      have en0 := beq_true hc.1
      subst en0
      replace hc := hc.2
      exact fn1_of mixed gtysOK g20O_sound g20O_det (an := g20an) (n := 100000) Try.func20 (c := bodyOf Try.f20) rfl (by kernel_rfl) Try.call20 (Nat.le_of_ble_eq_true rfl) (fun b => rfl) (fun _ => (g20_eq realA (100000) (fun v _ => some v) a).trans (show g20v realA a = _ from g20ok_spec hc))
  · cases h
/- engrosser/engrosserlaw03.examples -/
def g11O (A : Ar) : Orc := orcOf [(23, g23o A), (21, g21o A), (36, g36o A), (12, g12o A), (16, g16o A), (20, g20o A)]
theorem g11O_sound : OSound Try.prog (g11O realA) := orc_sound fun f g hm args v hv => by
  simp only [List.mem_cons, List.not_mem_nil, or_false, Prod.mk.injEq] at hm
  rcases hm with ⟨rfl, rfl⟩ | ⟨rfl, rfl⟩ | ⟨rfl, rfl⟩ | ⟨rfl, rfl⟩ | ⟨rfl, rfl⟩ | ⟨rfl, rfl⟩
  · exact g23o_sound _ _ hv
  · exact g21o_sound _ _ hv
  · exact g36o_sound _ _ hv
  · exact g12o_sound _ _ hv
  · exact g16o_sound _ _ hv
  · exact g20o_sound _ _ hv
theorem g11O_det : ODet (g11O realA) := orc_det _
def g11an : Ann := [(0, ([], [])), (1, ([], [])), (2, ([1], [2001])), (3, ([1, 2, 3], [2001, 3006]))]
def g11res : List ResultVar := [.tmp 0]
noncomputable def g11D {R : Type} (A : Ar) (n : Nat) (p : List Bool) (K : Ex → St → Option R) (s : St) : Option R := codeD A gtys (g11O A) g11an n (sub (bodyOf Try.f11) p) K s
noncomputable def g11Q {R : Type} (A : Ar) (n : Nat) (p : List Bool) (K : Ex → St → Option R) : Ex → St → Option R := seqC (g11D A n p K) K
noncomputable def g11T {R : Type} (kk : AV → Heap → Option R) : Ex → St → Option R := finD gtys g11res kk
theorem g11Qn {R : Type} (A : Ar) (n : Nat) (p : List Bool) (K : Ex → St → Option R) (s : St) : g11Q A n p K .normal s = g11D A n p K s := rfl
section
variable {R : Type} (A : Ar) (n : Nat) (K : Ex → St → Option R) (s : St)
theorem g11p : g11D A n (pth 1) K s = g11D A n (pth 2) (g11Q A n (pth 3) K) s := by kernel_rfl
theorem g11p0 (s' : St) (h : keep g11an 0 s = keep g11an 0 s') : g11D A n (pth 2) K s = g11D A n (pth 2) K s' := codeD_first (id := 0) (by kernel_rfl) h K
theorem g11p1 : g11D A n (pth 3) K s = g11D A n (pth 5) (g11Q A n (pth 7) K) s := by kernel_rfl
theorem g11p10 (s' : St) (h : keep g11an 1 s = keep g11an 1 s') : g11D A n (pth 5) K s = g11D A n (pth 5) K s' := codeD_first (id := 1) (by kernel_rfl) h K
theorem g11p11 : g11D A n (pth 7) K s = g11D A n (pth 11) (g11Q A n (pth 15) K) s := by kernel_rfl
theorem g11p110 (s' : St) (h : keep g11an 2 s = keep g11an 2 s') : g11D A n (pth 11) K s = g11D A n (pth 11) K s' := codeD_first (id := 2) (by kernel_rfl) h K
theorem g11p111 : g11D A n (pth 15) K s = g11D A n (pth 23) (g11Q A n (pth 31) K) s := by kernel_rfl
theorem g11p1110 (s' : St) (h : keep g11an 3 s = keep g11an 3 s') : g11D A n (pth 23) K s = g11D A n (pth 23) K s' := codeD_first (id := 3) (by kernel_rfl) h K
theorem g11p1111 : g11D A n (pth 31) K s = K .ret s := by kernel_rfl
theorem g11R0 : g11D A n (pth 2) K ⟨[], []⟩ = K .normal ⟨[(0, (bO false))], []⟩ := by kernel_rfl
theorem g11R1 : g11D A n (pth 5) K ⟨[], []⟩ = match (generalizing := false) g23ok A 2 with
    | true => K .normal ⟨[(1, (pT 2001 0)), (4, (aN .u64 4 (g23r0 A 2)))], [(2001, (bU 4 (g23r0 A 2) 24))]⟩
    | false => none := by kernel_rfl
theorem g11R2 (x0 : List Nat) : g11D A n (pth 11) K ⟨[(1, (pT 2001 0))], [(2001, (bU 4 x0 24))]⟩ = match (generalizing := false) g23ok A 4 with
    | true => match (generalizing := false) g23ok A 1 with
      | true => match (generalizing := false) g21ok A (g23r0 A 4) (g23r0 A 1) with
        | true => K .normal ⟨[(3, (bO (g21r1 A (g23r0 A 4) (g23r0 A 1)))), (2, (pT 3006 0)), (10, (bO (g21r1 A (g23r0 A 4) (g23r0 A 1)))), (9, (aN .u64 4 (g21r0 A (g23r0 A 4) (g23r0 A 1)))), (5, (.tup [(.agg [.nums .u64 4 (g21r0 A (g23r0 A 4) (g23r0 A 1))]), (.cell (.bool (g21r1 A (g23r0 A 4) (g23r0 A 1))))])), (8, (.tup [(.agg [.nums .u64 4 (g21r0 A (g23r0 A 4) (g23r0 A 1))]), (.cell (.bool (g21r1 A (g23r0 A 4) (g23r0 A 1))))])), (7, (aN .u64 4 (g23r0 A 1))), (6, (aN .u64 4 (g23r0 A 4))), (1, (pT 2001 0))], [(3006, (bU 4 (g21r0 A (g23r0 A 4) (g23r0 A 1)) 24)), (2001, (bU 4 x0 24))]⟩
        | false => none
      | false => none
    | false => none := by kernel_rfl
theorem g11R3 (x0 : Bool) (x1 x2 : List Nat) : g11D A n (pth 23) K ⟨[(1, (pT 2001 0)), (2, (pT 3006 0)), (3, (bO x0))], [(2001, (bU 4 x1 24)), (3006, (bU 4 x2 24))]⟩ = match (generalizing := false) g36ok A with
    | true => match (generalizing := false) g12ok A (g36r0 A) x1 with
      | true => match (generalizing := false) g23ok A 1 with
        | true => match (generalizing := false) (A.lq (g12r0 A (g36r0 A) x1) (g23r0 A 1)) && true with
          | true => match (generalizing := false) g36ok A with
            | true => match (generalizing := false) g36ok A with
              | true => match (generalizing := false) g16ok A (g36r0 A) (g36r0 A) with
                | true => match (generalizing := false) g23ok A 1 with
                  | true => match (generalizing := false) (A.lq (g16r0 A (g36r0 A) (g36r0 A)) (g23r0 A 1)) && true with
                    | true => match (generalizing := false) g36ok A with
                      | true => match (generalizing := false) g20ok A (g36r0 A) with
                        | true => match (generalizing := false) g20r0 A (g36r0 A) with
                          | true => match (generalizing := false) g20ok A (((([0, 0, 0, 0].set 0 18446744073709551597).set 1 18446744073709551615).set 2 18446744073709551615).set 3 9223372036854775807) with
                            | true => match (generalizing := false) g20r0 A (((([0, 0, 0, 0].set 0 18446744073709551597).set 1 18446744073709551615).set 2 18446744073709551615).set 3 9223372036854775807) with
                              | true => match (generalizing := false) !true with
                                | true => match (generalizing := false) (A.lq x2 x1) && true with
                                  | true => match (generalizing := false) x0 with
                                    | true => K .normal ⟨[(0, (bO true)), (39, (bO true)), (38, (bO true)), (37, (bO true)), (36, (bO true)), (35, (bO true)), (34, (aN .u64 4 x1)), (33, (aN .u64 4 x2)), (32, (bO true)), (31, (bO true)), (30, (bO true)), (29, (bO true)), (28, (aN .u64 4 (((([0, 0, 0, 0].set 0 18446744073709551597).set 1 18446744073709551615).set 2 18446744073709551615).set 3 9223372036854775807))), (27, (bO true)), (26, (bO true)), (25, (bO true)), (24, (aN .u64 4 (g36r0 A))), (23, (bO true)), (22, (bO true)), (21, (bO true)), (20, (aN .u64 4 (g23r0 A 1))), (19, (aN .u64 4 (g16r0 A (g36r0 A) (g36r0 A)))), (18, (aN .u64 4 (g36r0 A))), (17, (aN .u64 4 (g36r0 A))), (16, (bO true)), (15, (bO true)), (14, (aN .u64 4 (g23r0 A 1))), (13, (aN .u64 4 (g12r0 A (g36r0 A) x1))), (12, (aN .u64 4 x1)), (11, (aN .u64 4 (g36r0 A))), (1, (pT 2001 0)), (2, (pT 3006 0)), (3, (bO x0))], [(2001, (bU 4 x1 24)), (3006, (bU 4 x2 24))]⟩
                                    | false => K .normal ⟨[(0, (bO false)), (39, (bO false)), (38, (bO false)), (37, (bO true)), (36, (bO true)), (35, (bO true)), (34, (aN .u64 4 x1)), (33, (aN .u64 4 x2)), (32, (bO true)), (31, (bO true)), (30, (bO true)), (29, (bO true)), (28, (aN .u64 4 (((([0, 0, 0, 0].set 0 18446744073709551597).set 1 18446744073709551615).set 2 18446744073709551615).set 3 9223372036854775807))), (27, (bO true)), (26, (bO true)), (25, (bO true)), (24, (aN .u64 4 (g36r0 A))), (23, (bO true)), (22, (bO true)), (21, (bO true)), (20, (aN .u64 4 (g23r0 A 1))), (19, (aN .u64 4 (g16r0 A (g36r0 A) (g36r0 A)))), (18, (aN .u64 4 (g36r0 A))), (17, (aN .u64 4 (g36r0 A))), (16, (bO true)), (15, (bO true)), (14, (aN .u64 4 (g23r0 A 1))), (13, (aN .u64 4 (g12r0 A (g36r0 A) x1))), (12, (aN .u64 4 x1)), (11, (aN .u64 4 (g36r0 A))), (1, (pT 2001 0)), (2, (pT 3006 0)), (3, (bO x0))], [(2001, (bU 4 x1 24)), (3006, (bU 4 x2 24))]⟩
                                  | false => K .normal ⟨[(0, (bO false)), (39, (bO false)), (38, uN), (37, (bO false)), (36, (bO false)), (35, (bO false)), (34, (aN .u64 4 x1)), (33, (aN .u64 4 x2)), (32, (bO true)), (31, (bO true)), (30, (bO true)), (29, (bO true)), (28, (aN .u64 4 (((([0, 0, 0, 0].set 0 18446744073709551597).set 1 18446744073709551615).set 2 18446744073709551615).set 3 9223372036854775807))), (27, (bO true)), (26, (bO true)), (25, (bO true)), (24, (aN .u64 4 (g36r0 A))), (23, (bO true)), (22, (bO true)), (21, (bO true)), (20, (aN .u64 4 (g23r0 A 1))), (19, (aN .u64 4 (g16r0 A (g36r0 A) (g36r0 A)))), (18, (aN .u64 4 (g36r0 A))), (17, (aN .u64 4 (g36r0 A))), (16, (bO true)), (15, (bO true)), (14, (aN .u64 4 (g23r0 A 1))), (13, (aN .u64 4 (g12r0 A (g36r0 A) x1))), (12, (aN .u64 4 x1)), (11, (aN .u64 4 (g36r0 A))), (1, (pT 2001 0)), (2, (pT 3006 0)), (3, (bO x0))], [(2001, (bU 4 x1 24)), (3006, (bU 4 x2 24))]⟩
                                | false => K .normal ⟨[(0, (bO false)), (39, (bO false)), (38, uN), (37, (bO false)), (36, (bO false)), (35, uN), (34, uN), (33, uN), (32, (bO false)), (31, (bO false)), (30, (bO false)), (29, (bO true)), (28, (aN .u64 4 (((([0, 0, 0, 0].set 0 18446744073709551597).set 1 18446744073709551615).set 2 18446744073709551615).set 3 9223372036854775807))), (27, (bO true)), (26, (bO true)), (25, (bO true)), (24, (aN .u64 4 (g36r0 A))), (23, (bO true)), (22, (bO true)), (21, (bO true)), (20, (aN .u64 4 (g23r0 A 1))), (19, (aN .u64 4 (g16r0 A (g36r0 A) (g36r0 A)))), (18, (aN .u64 4 (g36r0 A))), (17, (aN .u64 4 (g36r0 A))), (16, (bO true)), (15, (bO true)), (14, (aN .u64 4 (g23r0 A 1))), (13, (aN .u64 4 (g12r0 A (g36r0 A) x1))), (12, (aN .u64 4 x1)), (11, (aN .u64 4 (g36r0 A))), (1, (pT 2001 0)), (2, (pT 3006 0)), (3, (bO x0))], [(2001, (bU 4 x1 24)), (3006, (bU 4 x2 24))]⟩
                              | false => match (generalizing := false) !false with
                                | true => match (generalizing := false) (A.lq x2 x1) && true with
                                  | true => match (generalizing := false) x0 with
                                    | true => K .normal ⟨[(0, (bO true)), (39, (bO true)), (38, (bO true)), (37, (bO true)), (36, (bO true)), (35, (bO true)), (34, (aN .u64 4 x1)), (33, (aN .u64 4 x2)), (32, (bO true)), (31, (bO true)), (30, (bO true)), (29, (bO false)), (28, (aN .u64 4 (((([0, 0, 0, 0].set 0 18446744073709551597).set 1 18446744073709551615).set 2 18446744073709551615).set 3 9223372036854775807))), (27, (bO true)), (26, (bO true)), (25, (bO true)), (24, (aN .u64 4 (g36r0 A))), (23, (bO true)), (22, (bO true)), (21, (bO true)), (20, (aN .u64 4 (g23r0 A 1))), (19, (aN .u64 4 (g16r0 A (g36r0 A) (g36r0 A)))), (18, (aN .u64 4 (g36r0 A))), (17, (aN .u64 4 (g36r0 A))), (16, (bO true)), (15, (bO true)), (14, (aN .u64 4 (g23r0 A 1))), (13, (aN .u64 4 (g12r0 A (g36r0 A) x1))), (12, (aN .u64 4 x1)), (11, (aN .u64 4 (g36r0 A))), (1, (pT 2001 0)), (2, (pT 3006 0)), (3, (bO x0))], [(2001, (bU 4 x1 24)), (3006, (bU 4 x2 24))]⟩
                                    | false => K .normal ⟨[(0, (bO false)), (39, (bO false)), (38, (bO false)), (37, (bO true)), (36, (bO true)), (35, (bO true)), (34, (aN .u64 4 x1)), (33, (aN .u64 4 x2)), (32, (bO true)), (31, (bO true)), (30, (bO true)), (29, (bO false)), (28, (aN .u64 4 (((([0, 0, 0, 0].set 0 18446744073709551597).set 1 18446744073709551615).set 2 18446744073709551615).set 3 9223372036854775807))), (27, (bO true)), (26, (bO true)), (25, (bO true)), (24, (aN .u64 4 (g36r0 A))), (23, (bO true)), (22, (bO true)), (21, (bO true)), (20, (aN .u64 4 (g23r0 A 1))), (19, (aN .u64 4 (g16r0 A (g36r0 A) (g36r0 A)))), (18, (aN .u64 4 (g36r0 A))), (17, (aN .u64 4 (g36r0 A))), (16, (bO true)), (15, (bO true)), (14, (aN .u64 4 (g23r0 A 1))), (13, (aN .u64 4 (g12r0 A (g36r0 A) x1))), (12, (aN .u64 4 x1)), (11, (aN .u64 4 (g36r0 A))), (1, (pT 2001 0)), (2, (pT 3006 0)), (3, (bO x0))], [(2001, (bU 4 x1 24)), (3006, (bU 4 x2 24))]⟩
                                  | false => K .normal ⟨[(0, (bO false)), (39, (bO false)), (38, uN), (37, (bO false)), (36, (bO false)), (35, (bO false)), (34, (aN .u64 4 x1)), (33, (aN .u64 4 x2)), (32, (bO true)), (31, (bO true)), (30, (bO true)), (29, (bO false)), (28, (aN .u64 4 (((([0, 0, 0, 0].set 0 18446744073709551597).set 1 18446744073709551615).set 2 18446744073709551615).set 3 9223372036854775807))), (27, (bO true)), (26, (bO true)), (25, (bO true)), (24, (aN .u64 4 (g36r0 A))), (23, (bO true)), (22, (bO true)), (21, (bO true)), (20, (aN .u64 4 (g23r0 A 1))), (19, (aN .u64 4 (g16r0 A (g36r0 A) (g36r0 A)))), (18, (aN .u64 4 (g36r0 A))), (17, (aN .u64 4 (g36r0 A))), (16, (bO true)), (15, (bO true)), (14, (aN .u64 4 (g23r0 A 1))), (13, (aN .u64 4 (g12r0 A (g36r0 A) x1))), (12, (aN .u64 4 x1)), (11, (aN .u64 4 (g36r0 A))), (1, (pT 2001 0)), (2, (pT 3006 0)), (3, (bO x0))], [(2001, (bU 4 x1 24)), (3006, (bU 4 x2 24))]⟩
                                | false => K .normal ⟨[(0, (bO false)), (39, (bO false)), (38, uN), (37, (bO false)), (36, (bO false)), (35, uN), (34, uN), (33, uN), (32, (bO false)), (31, (bO false)), (30, (bO false)), (29, (bO false)), (28, (aN .u64 4 (((([0, 0, 0, 0].set 0 18446744073709551597).set 1 18446744073709551615).set 2 18446744073709551615).set 3 9223372036854775807))), (27, (bO true)), (26, (bO true)), (25, (bO true)), (24, (aN .u64 4 (g36r0 A))), (23, (bO true)), (22, (bO true)), (21, (bO true)), (20, (aN .u64 4 (g23r0 A 1))), (19, (aN .u64 4 (g16r0 A (g36r0 A) (g36r0 A)))), (18, (aN .u64 4 (g36r0 A))), (17, (aN .u64 4 (g36r0 A))), (16, (bO true)), (15, (bO true)), (14, (aN .u64 4 (g23r0 A 1))), (13, (aN .u64 4 (g12r0 A (g36r0 A) x1))), (12, (aN .u64 4 x1)), (11, (aN .u64 4 (g36r0 A))), (1, (pT 2001 0)), (2, (pT 3006 0)), (3, (bO x0))], [(2001, (bU 4 x1 24)), (3006, (bU 4 x2 24))]⟩
                            | false => none
                          | false => K .normal ⟨[(0, (bO false)), (39, (bO false)), (38, uN), (37, (bO false)), (36, (bO false)), (35, uN), (34, uN), (33, uN), (32, (bO false)), (31, (bO false)), (30, uN), (29, uN), (28, uN), (27, (bO false)), (26, (bO false)), (25, (bO false)), (24, (aN .u64 4 (g36r0 A))), (23, (bO true)), (22, (bO true)), (21, (bO true)), (20, (aN .u64 4 (g23r0 A 1))), (19, (aN .u64 4 (g16r0 A (g36r0 A) (g36r0 A)))), (18, (aN .u64 4 (g36r0 A))), (17, (aN .u64 4 (g36r0 A))), (16, (bO true)), (15, (bO true)), (14, (aN .u64 4 (g23r0 A 1))), (13, (aN .u64 4 (g12r0 A (g36r0 A) x1))), (12, (aN .u64 4 x1)), (11, (aN .u64 4 (g36r0 A))), (1, (pT 2001 0)), (2, (pT 3006 0)), (3, (bO x0))], [(2001, (bU 4 x1 24)), (3006, (bU 4 x2 24))]⟩
                        | false => none
                      | false => none
                    | false => K .normal ⟨[(0, (bO false)), (39, (bO false)), (38, uN), (37, (bO false)), (36, (bO false)), (35, uN), (34, uN), (33, uN), (32, (bO false)), (31, (bO false)), (30, uN), (29, uN), (28, uN), (27, (bO false)), (26, (bO false)), (25, uN), (24, uN), (23, (bO false)), (22, (bO false)), (21, (bO false)), (20, (aN .u64 4 (g23r0 A 1))), (19, (aN .u64 4 (g16r0 A (g36r0 A) (g36r0 A)))), (18, (aN .u64 4 (g36r0 A))), (17, (aN .u64 4 (g36r0 A))), (16, (bO true)), (15, (bO true)), (14, (aN .u64 4 (g23r0 A 1))), (13, (aN .u64 4 (g12r0 A (g36r0 A) x1))), (12, (aN .u64 4 x1)), (11, (aN .u64 4 (g36r0 A))), (1, (pT 2001 0)), (2, (pT 3006 0)), (3, (bO x0))], [(2001, (bU 4 x1 24)), (3006, (bU 4 x2 24))]⟩
                  | false => none
                | false => none
              | false => none
            | false => none
          | false => K .normal ⟨[(0, (bO false)), (39, (bO false)), (38, uN), (37, (bO false)), (36, (bO false)), (35, uN), (34, uN), (33, uN), (32, (bO false)), (31, (bO false)), (30, uN), (29, uN), (28, uN), (27, (bO false)), (26, (bO false)), (25, uN), (24, uN), (23, (bO false)), (22, (bO false)), (21, uN), (20, uN), (19, uN), (18, uN), (17, uN), (16, (bO false)), (15, (bO false)), (14, (aN .u64 4 (g23r0 A 1))), (13, (aN .u64 4 (g12r0 A (g36r0 A) x1))), (12, (aN .u64 4 x1)), (11, (aN .u64 4 (g36r0 A))), (1, (pT 2001 0)), (2, (pT 3006 0)), (3, (bO x0))], [(2001, (bU 4 x1 24)), (3006, (bU 4 x2 24))]⟩
        | false => none
      | false => none
    | false => none := by kernel_rfl
end
def g11 {R : Type} (A : Ar) (n : Nat) (kk : AV → Heap → Option R)  : Option R :=
  match (generalizing := false) g23ok A 2 with
  | true => match (generalizing := false) g23ok A 4 with
    | true => match (generalizing := false) g23ok A 1 with
      | true => match (generalizing := false) g21ok A (g23r0 A 4) (g23r0 A 1) with
        | true => match (generalizing := false) g36ok A with
          | true => match (generalizing := false) g12ok A (g36r0 A) (g23r0 A 2) with
            | true => match (generalizing := false) g23ok A 1 with
              | true => match (generalizing := false) (A.lq (g12r0 A (g36r0 A) (g23r0 A 2)) (g23r0 A 1)) && true with
                | true => match (generalizing := false) g36ok A with
                  | true => match (generalizing := false) g36ok A with
                    | true => match (generalizing := false) g16ok A (g36r0 A) (g36r0 A) with
                      | true => match (generalizing := false) g23ok A 1 with
                        | true => match (generalizing := false) (A.lq (g16r0 A (g36r0 A) (g36r0 A)) (g23r0 A 1)) && true with
                          | true => match (generalizing := false) g36ok A with
                            | true => match (generalizing := false) g20ok A (g36r0 A) with
                              | true => match (generalizing := false) g20r0 A (g36r0 A) with
                                | true => match (generalizing := false) g20ok A (((([0, 0, 0, 0].set 0 18446744073709551597).set 1 18446744073709551615).set 2 18446744073709551615).set 3 9223372036854775807) with
                                  | true => match (generalizing := false) g20r0 A (((([0, 0, 0, 0].set 0 18446744073709551597).set 1 18446744073709551615).set 2 18446744073709551615).set 3 9223372036854775807) with
                                    | true => match (generalizing := false) !true with
                                      | true => match (generalizing := false) (A.lq (g21r0 A (g23r0 A 4) (g23r0 A 1)) (g23r0 A 2)) && true with
                                        | true => match (generalizing := false) g21r1 A (g23r0 A 4) (g23r0 A 1) with
                                          | true => kk (bO true) [(2001, (bU 4 (g23r0 A 2) 24)), (3006, (bU 4 (g21r0 A (g23r0 A 4) (g23r0 A 1)) 24))]
                                          | false => kk (bO false) [(2001, (bU 4 (g23r0 A 2) 24)), (3006, (bU 4 (g21r0 A (g23r0 A 4) (g23r0 A 1)) 24))]
                                        | false => kk (bO false) [(2001, (bU 4 (g23r0 A 2) 24)), (3006, (bU 4 (g21r0 A (g23r0 A 4) (g23r0 A 1)) 24))]
                                      | false => kk (bO false) [(2001, (bU 4 (g23r0 A 2) 24)), (3006, (bU 4 (g21r0 A (g23r0 A 4) (g23r0 A 1)) 24))]
                                    | false => match (generalizing := false) !false with
                                      | true => match (generalizing := false) (A.lq (g21r0 A (g23r0 A 4) (g23r0 A 1)) (g23r0 A 2)) && true with
                                        | true => match (generalizing := false) g21r1 A (g23r0 A 4) (g23r0 A 1) with
                                          | true => kk (bO true) [(2001, (bU 4 (g23r0 A 2) 24)), (3006, (bU 4 (g21r0 A (g23r0 A 4) (g23r0 A 1)) 24))]
                                          | false => kk (bO false) [(2001, (bU 4 (g23r0 A 2) 24)), (3006, (bU 4 (g21r0 A (g23r0 A 4) (g23r0 A 1)) 24))]
                                        | false => kk (bO false) [(2001, (bU 4 (g23r0 A 2) 24)), (3006, (bU 4 (g21r0 A (g23r0 A 4) (g23r0 A 1)) 24))]
                                      | false => kk (bO false) [(2001, (bU 4 (g23r0 A 2) 24)), (3006, (bU 4 (g21r0 A (g23r0 A 4) (g23r0 A 1)) 24))]
                                  | false => none
                                | false => kk (bO false) [(2001, (bU 4 (g23r0 A 2) 24)), (3006, (bU 4 (g21r0 A (g23r0 A 4) (g23r0 A 1)) 24))]
                              | false => none
                            | false => none
                          | false => kk (bO false) [(2001, (bU 4 (g23r0 A 2) 24)), (3006, (bU 4 (g21r0 A (g23r0 A 4) (g23r0 A 1)) 24))]
                        | false => none
                      | false => none
                    | false => none
                  | false => none
                | false => kk (bO false) [(2001, (bU 4 (g23r0 A 2) 24)), (3006, (bU 4 (g21r0 A (g23r0 A 4) (g23r0 A 1)) 24))]
              | false => none
            | false => none
          | false => none
        | false => none
      | false => none
    | false => none
  | false => none
set_option maxRecDepth 100000 in
theorem g11_eq {R : Type} (A : Ar) (n : Nat) (kk : AV → Heap → Option R)  :
    funD A gtys (g11O A) g11an n (bodyOf Try.f11) g11res [] [] kk = g11 A n kk  := by
  have h9 : (g11T kk) .ret ⟨[(0, (bO true)), (39, (bO true)), (38, (bO true)), (37, (bO true)), (36, (bO true)), (35, (bO true)), (34, (aN .u64 4 (g23r0 A 2))), (33, (aN .u64 4 (g21r0 A (g23r0 A 4) (g23r0 A 1)))), (32, (bO true)), (31, (bO true)), (30, (bO true)), (29, (bO true)), (28, (aN .u64 4 (((([0, 0, 0, 0].set 0 18446744073709551597).set 1 18446744073709551615).set 2 18446744073709551615).set 3 9223372036854775807))), (27, (bO true)), (26, (bO true)), (25, (bO true)), (24, (aN .u64 4 (g36r0 A))), (23, (bO true)), (22, (bO true)), (21, (bO true)), (20, (aN .u64 4 (g23r0 A 1))), (19, (aN .u64 4 (g16r0 A (g36r0 A) (g36r0 A)))), (18, (aN .u64 4 (g36r0 A))), (17, (aN .u64 4 (g36r0 A))), (16, (bO true)), (15, (bO true)), (14, (aN .u64 4 (g23r0 A 1))), (13, (aN .u64 4 (g12r0 A (g36r0 A) (g23r0 A 2)))), (12, (aN .u64 4 (g23r0 A 2))), (11, (aN .u64 4 (g36r0 A))), (1, (pT 2001 0)), (2, (pT 3006 0)), (3, (bO (g21r1 A (g23r0 A 4) (g23r0 A 1))))], [(2001, (bU 4 (g23r0 A 2) 24)), (3006, (bU 4 (g21r0 A (g23r0 A 4) (g23r0 A 1)) 24))]⟩ = kk (bO true) [(2001, (bU 4 (g23r0 A 2) 24)), (3006, (bU 4 (g21r0 A (g23r0 A 4) (g23r0 A 1)) 24))] := by kernel_rfl
  have h10 := (g11p1111 A n _ _).trans h9
  have h11 := (g11Qn A n _ _ _).trans h10
  have h12 : (g11T kk) .ret ⟨[(0, (bO false)), (39, (bO false)), (38, (bO false)), (37, (bO true)), (36, (bO true)), (35, (bO true)), (34, (aN .u64 4 (g23r0 A 2))), (33, (aN .u64 4 (g21r0 A (g23r0 A 4) (g23r0 A 1)))), (32, (bO true)), (31, (bO true)), (30, (bO true)), (29, (bO true)), (28, (aN .u64 4 (((([0, 0, 0, 0].set 0 18446744073709551597).set 1 18446744073709551615).set 2 18446744073709551615).set 3 9223372036854775807))), (27, (bO true)), (26, (bO true)), (25, (bO true)), (24, (aN .u64 4 (g36r0 A))), (23, (bO true)), (22, (bO true)), (21, (bO true)), (20, (aN .u64 4 (g23r0 A 1))), (19, (aN .u64 4 (g16r0 A (g36r0 A) (g36r0 A)))), (18, (aN .u64 4 (g36r0 A))), (17, (aN .u64 4 (g36r0 A))), (16, (bO true)), (15, (bO true)), (14, (aN .u64 4 (g23r0 A 1))), (13, (aN .u64 4 (g12r0 A (g36r0 A) (g23r0 A 2)))), (12, (aN .u64 4 (g23r0 A 2))), (11, (aN .u64 4 (g36r0 A))), (1, (pT 2001 0)), (2, (pT 3006 0)), (3, (bO (g21r1 A (g23r0 A 4) (g23r0 A 1))))], [(2001, (bU 4 (g23r0 A 2) 24)), (3006, (bU 4 (g21r0 A (g23r0 A 4) (g23r0 A 1)) 24))]⟩ = kk (bO false) [(2001, (bU 4 (g23r0 A 2) 24)), (3006, (bU 4 (g21r0 A (g23r0 A 4) (g23r0 A 1)) 24))] := by kernel_rfl
  have h13 := (g11p1111 A n _ _).trans h12
  have h14 := (g11Qn A n _ _ _).trans h13
  have h15 : (g11T kk) .ret ⟨[(0, (bO false)), (39, (bO false)), (38, uN), (37, (bO false)), (36, (bO false)), (35, (bO false)), (34, (aN .u64 4 (g23r0 A 2))), (33, (aN .u64 4 (g21r0 A (g23r0 A 4) (g23r0 A 1)))), (32, (bO true)), (31, (bO true)), (30, (bO true)), (29, (bO true)), (28, (aN .u64 4 (((([0, 0, 0, 0].set 0 18446744073709551597).set 1 18446744073709551615).set 2 18446744073709551615).set 3 9223372036854775807))), (27, (bO true)), (26, (bO true)), (25, (bO true)), (24, (aN .u64 4 (g36r0 A))), (23, (bO true)), (22, (bO true)), (21, (bO true)), (20, (aN .u64 4 (g23r0 A 1))), (19, (aN .u64 4 (g16r0 A (g36r0 A) (g36r0 A)))), (18, (aN .u64 4 (g36r0 A))), (17, (aN .u64 4 (g36r0 A))), (16, (bO true)), (15, (bO true)), (14, (aN .u64 4 (g23r0 A 1))), (13, (aN .u64 4 (g12r0 A (g36r0 A) (g23r0 A 2)))), (12, (aN .u64 4 (g23r0 A 2))), (11, (aN .u64 4 (g36r0 A))), (1, (pT 2001 0)), (2, (pT 3006 0)), (3, (bO (g21r1 A (g23r0 A 4) (g23r0 A 1))))], [(2001, (bU 4 (g23r0 A 2) 24)), (3006, (bU 4 (g21r0 A (g23r0 A 4) (g23r0 A 1)) 24))]⟩ = kk (bO false) [(2001, (bU 4 (g23r0 A 2) 24)), (3006, (bU 4 (g21r0 A (g23r0 A 4) (g23r0 A 1)) 24))] := by kernel_rfl
  have h16 := (g11p1111 A n _ _).trans h15
  have h17 := (g11Qn A n _ _ _).trans h16
  have h18 : (g11T kk) .ret ⟨[(0, (bO false)), (39, (bO false)), (38, uN), (37, (bO false)), (36, (bO false)), (35, uN), (34, uN), (33, uN), (32, (bO false)), (31, (bO false)), (30, (bO false)), (29, (bO true)), (28, (aN .u64 4 (((([0, 0, 0, 0].set 0 18446744073709551597).set 1 18446744073709551615).set 2 18446744073709551615).set 3 9223372036854775807))), (27, (bO true)), (26, (bO true)), (25, (bO true)), (24, (aN .u64 4 (g36r0 A))), (23, (bO true)), (22, (bO true)), (21, (bO true)), (20, (aN .u64 4 (g23r0 A 1))), (19, (aN .u64 4 (g16r0 A (g36r0 A) (g36r0 A)))), (18, (aN .u64 4 (g36r0 A))), (17, (aN .u64 4 (g36r0 A))), (16, (bO true)), (15, (bO true)), (14, (aN .u64 4 (g23r0 A 1))), (13, (aN .u64 4 (g12r0 A (g36r0 A) (g23r0 A 2)))), (12, (aN .u64 4 (g23r0 A 2))), (11, (aN .u64 4 (g36r0 A))), (1, (pT 2001 0)), (2, (pT 3006 0)), (3, (bO (g21r1 A (g23r0 A 4) (g23r0 A 1))))], [(2001, (bU 4 (g23r0 A 2) 24)), (3006, (bU 4 (g21r0 A (g23r0 A 4) (g23r0 A 1)) 24))]⟩ = kk (bO false) [(2001, (bU 4 (g23r0 A 2) 24)), (3006, (bU 4 (g21r0 A (g23r0 A 4) (g23r0 A 1)) 24))] := by kernel_rfl
  have h19 := (g11p1111 A n _ _).trans h18
  have h20 := (g11Qn A n _ _ _).trans h19
  have h21 : (g11T kk) .ret ⟨[(0, (bO true)), (39, (bO true)), (38, (bO true)), (37, (bO true)), (36, (bO true)), (35, (bO true)), (34, (aN .u64 4 (g23r0 A 2))), (33, (aN .u64 4 (g21r0 A (g23r0 A 4) (g23r0 A 1)))), (32, (bO true)), (31, (bO true)), (30, (bO true)), (29, (bO false)), (28, (aN .u64 4 (((([0, 0, 0, 0].set 0 18446744073709551597).set 1 18446744073709551615).set 2 18446744073709551615).set 3 9223372036854775807))), (27, (bO true)), (26, (bO true)), (25, (bO true)), (24, (aN .u64 4 (g36r0 A))), (23, (bO true)), (22, (bO true)), (21, (bO true)), (20, (aN .u64 4 (g23r0 A 1))), (19, (aN .u64 4 (g16r0 A (g36r0 A) (g36r0 A)))), (18, (aN .u64 4 (g36r0 A))), (17, (aN .u64 4 (g36r0 A))), (16, (bO true)), (15, (bO true)), (14, (aN .u64 4 (g23r0 A 1))), (13, (aN .u64 4 (g12r0 A (g36r0 A) (g23r0 A 2)))), (12, (aN .u64 4 (g23r0 A 2))), (11, (aN .u64 4 (g36r0 A))), (1, (pT 2001 0)), (2, (pT 3006 0)), (3, (bO (g21r1 A (g23r0 A 4) (g23r0 A 1))))], [(2001, (bU 4 (g23r0 A 2) 24)), (3006, (bU 4 (g21r0 A (g23r0 A 4) (g23r0 A 1)) 24))]⟩ = kk (bO true) [(2001, (bU 4 (g23r0 A 2) 24)), (3006, (bU 4 (g21r0 A (g23r0 A 4) (g23r0 A 1)) 24))] := by kernel_rfl
  have h22 := (g11p1111 A n _ _).trans h21
  have h23 := (g11Qn A n _ _ _).trans h22
  have h24 : (g11T kk) .ret ⟨[(0, (bO false)), (39, (bO false)), (38, (bO false)), (37, (bO true)), (36, (bO true)), (35, (bO true)), (34, (aN .u64 4 (g23r0 A 2))), (33, (aN .u64 4 (g21r0 A (g23r0 A 4) (g23r0 A 1)))), (32, (bO true)), (31, (bO true)), (30, (bO true)), (29, (bO false)), (28, (aN .u64 4 (((([0, 0, 0, 0].set 0 18446744073709551597).set 1 18446744073709551615).set 2 18446744073709551615).set 3 9223372036854775807))), (27, (bO true)), (26, (bO true)), (25, (bO true)), (24, (aN .u64 4 (g36r0 A))), (23, (bO true)), (22, (bO true)), (21, (bO true)), (20, (aN .u64 4 (g23r0 A 1))), (19, (aN .u64 4 (g16r0 A (g36r0 A) (g36r0 A)))), (18, (aN .u64 4 (g36r0 A))), (17, (aN .u64 4 (g36r0 A))), (16, (bO true)), (15, (bO true)), (14, (aN .u64 4 (g23r0 A 1))), (13, (aN .u64 4 (g12r0 A (g36r0 A) (g23r0 A 2)))), (12, (aN .u64 4 (g23r0 A 2))), (11, (aN .u64 4 (g36r0 A))), (1, (pT 2001 0)), (2, (pT 3006 0)), (3, (bO (g21r1 A (g23r0 A 4) (g23r0 A 1))))], [(2001, (bU 4 (g23r0 A 2) 24)), (3006, (bU 4 (g21r0 A (g23r0 A 4) (g23r0 A 1)) 24))]⟩ = kk (bO false) [(2001, (bU 4 (g23r0 A 2) 24)), (3006, (bU 4 (g21r0 A (g23r0 A 4) (g23r0 A 1)) 24))] := by kernel_rfl
  have h25 := (g11p1111 A n _ _).trans h24
  have h26 := (g11Qn A n _ _ _).trans h25
  have h27 : (g11T kk) .ret ⟨[(0, (bO false)), (39, (bO false)), (38, uN), (37, (bO false)), (36, (bO false)), (35, (bO false)), (34, (aN .u64 4 (g23r0 A 2))), (33, (aN .u64 4 (g21r0 A (g23r0 A 4) (g23r0 A 1)))), (32, (bO true)), (31, (bO true)), (30, (bO true)), (29, (bO false)), (28, (aN .u64 4 (((([0, 0, 0, 0].set 0 18446744073709551597).set 1 18446744073709551615).set 2 18446744073709551615).set 3 9223372036854775807))), (27, (bO true)), (26, (bO true)), (25, (bO true)), (24, (aN .u64 4 (g36r0 A))), (23, (bO true)), (22, (bO true)), (21, (bO true)), (20, (aN .u64 4 (g23r0 A 1))), (19, (aN .u64 4 (g16r0 A (g36r0 A) (g36r0 A)))), (18, (aN .u64 4 (g36r0 A))), (17, (aN .u64 4 (g36r0 A))), (16, (bO true)), (15, (bO true)), (14, (aN .u64 4 (g23r0 A 1))), (13, (aN .u64 4 (g12r0 A (g36r0 A) (g23r0 A 2)))), (12, (aN .u64 4 (g23r0 A 2))), (11, (aN .u64 4 (g36r0 A))), (1, (pT 2001 0)), (2, (pT 3006 0)), (3, (bO (g21r1 A (g23r0 A 4) (g23r0 A 1))))], [(2001, (bU 4 (g23r0 A 2) 24)), (3006, (bU 4 (g21r0 A (g23r0 A 4) (g23r0 A 1)) 24))]⟩ = kk (bO false) [(2001, (bU 4 (g23r0 A 2) 24)), (3006, (bU 4 (g21r0 A (g23r0 A 4) (g23r0 A 1)) 24))] := by kernel_rfl
  have h28 := (g11p1111 A n _ _).trans h27
  have h29 := (g11Qn A n _ _ _).trans h28
  have h30 : (g11T kk) .ret ⟨[(0, (bO false)), (39, (bO false)), (38, uN), (37, (bO false)), (36, (bO false)), (35, uN), (34, uN), (33, uN), (32, (bO false)), (31, (bO false)), (30, (bO false)), (29, (bO false)), (28, (aN .u64 4 (((([0, 0, 0, 0].set 0 18446744073709551597).set 1 18446744073709551615).set 2 18446744073709551615).set 3 9223372036854775807))), (27, (bO true)), (26, (bO true)), (25, (bO true)), (24, (aN .u64 4 (g36r0 A))), (23, (bO true)), (22, (bO true)), (21, (bO true)), (20, (aN .u64 4 (g23r0 A 1))), (19, (aN .u64 4 (g16r0 A (g36r0 A) (g36r0 A)))), (18, (aN .u64 4 (g36r0 A))), (17, (aN .u64 4 (g36r0 A))), (16, (bO true)), (15, (bO true)), (14, (aN .u64 4 (g23r0 A 1))), (13, (aN .u64 4 (g12r0 A (g36r0 A) (g23r0 A 2)))), (12, (aN .u64 4 (g23r0 A 2))), (11, (aN .u64 4 (g36r0 A))), (1, (pT 2001 0)), (2, (pT 3006 0)), (3, (bO (g21r1 A (g23r0 A 4) (g23r0 A 1))))], [(2001, (bU 4 (g23r0 A 2) 24)), (3006, (bU 4 (g21r0 A (g23r0 A 4) (g23r0 A 1)) 24))]⟩ = kk (bO false) [(2001, (bU 4 (g23r0 A 2) 24)), (3006, (bU 4 (g21r0 A (g23r0 A 4) (g23r0 A 1)) 24))] := by kernel_rfl
  have h31 := (g11p1111 A n _ _).trans h30
  have h32 := (g11Qn A n _ _ _).trans h31
  have h33 : (g11T kk) .ret ⟨[(0, (bO false)), (39, (bO false)), (38, uN), (37, (bO false)), (36, (bO false)), (35, uN), (34, uN), (33, uN), (32, (bO false)), (31, (bO false)), (30, uN), (29, uN), (28, uN), (27, (bO false)), (26, (bO false)), (25, (bO false)), (24, (aN .u64 4 (g36r0 A))), (23, (bO true)), (22, (bO true)), (21, (bO true)), (20, (aN .u64 4 (g23r0 A 1))), (19, (aN .u64 4 (g16r0 A (g36r0 A) (g36r0 A)))), (18, (aN .u64 4 (g36r0 A))), (17, (aN .u64 4 (g36r0 A))), (16, (bO true)), (15, (bO true)), (14, (aN .u64 4 (g23r0 A 1))), (13, (aN .u64 4 (g12r0 A (g36r0 A) (g23r0 A 2)))), (12, (aN .u64 4 (g23r0 A 2))), (11, (aN .u64 4 (g36r0 A))), (1, (pT 2001 0)), (2, (pT 3006 0)), (3, (bO (g21r1 A (g23r0 A 4) (g23r0 A 1))))], [(2001, (bU 4 (g23r0 A 2) 24)), (3006, (bU 4 (g21r0 A (g23r0 A 4) (g23r0 A 1)) 24))]⟩ = kk (bO false) [(2001, (bU 4 (g23r0 A 2) 24)), (3006, (bU 4 (g21r0 A (g23r0 A 4) (g23r0 A 1)) 24))] := by kernel_rfl
  have h34 := (g11p1111 A n _ _).trans h33
  have h35 := (g11Qn A n _ _ _).trans h34
  have h36 : (g11T kk) .ret ⟨[(0, (bO false)), (39, (bO false)), (38, uN), (37, (bO false)), (36, (bO false)), (35, uN), (34, uN), (33, uN), (32, (bO false)), (31, (bO false)), (30, uN), (29, uN), (28, uN), (27, (bO false)), (26, (bO false)), (25, uN), (24, uN), (23, (bO false)), (22, (bO false)), (21, (bO false)), (20, (aN .u64 4 (g23r0 A 1))), (19, (aN .u64 4 (g16r0 A (g36r0 A) (g36r0 A)))), (18, (aN .u64 4 (g36r0 A))), (17, (aN .u64 4 (g36r0 A))), (16, (bO true)), (15, (bO true)), (14, (aN .u64 4 (g23r0 A 1))), (13, (aN .u64 4 (g12r0 A (g36r0 A) (g23r0 A 2)))), (12, (aN .u64 4 (g23r0 A 2))), (11, (aN .u64 4 (g36r0 A))), (1, (pT 2001 0)), (2, (pT 3006 0)), (3, (bO (g21r1 A (g23r0 A 4) (g23r0 A 1))))], [(2001, (bU 4 (g23r0 A 2) 24)), (3006, (bU 4 (g21r0 A (g23r0 A 4) (g23r0 A 1)) 24))]⟩ = kk (bO false) [(2001, (bU 4 (g23r0 A 2) 24)), (3006, (bU 4 (g21r0 A (g23r0 A 4) (g23r0 A 1)) 24))] := by kernel_rfl
  have h37 := (g11p1111 A n _ _).trans h36
  have h38 := (g11Qn A n _ _ _).trans h37
  have h39 : (g11T kk) .ret ⟨[(0, (bO false)), (39, (bO false)), (38, uN), (37, (bO false)), (36, (bO false)), (35, uN), (34, uN), (33, uN), (32, (bO false)), (31, (bO false)), (30, uN), (29, uN), (28, uN), (27, (bO false)), (26, (bO false)), (25, uN), (24, uN), (23, (bO false)), (22, (bO false)), (21, uN), (20, uN), (19, uN), (18, uN), (17, uN), (16, (bO false)), (15, (bO false)), (14, (aN .u64 4 (g23r0 A 1))), (13, (aN .u64 4 (g12r0 A (g36r0 A) (g23r0 A 2)))), (12, (aN .u64 4 (g23r0 A 2))), (11, (aN .u64 4 (g36r0 A))), (1, (pT 2001 0)), (2, (pT 3006 0)), (3, (bO (g21r1 A (g23r0 A 4) (g23r0 A 1))))], [(2001, (bU 4 (g23r0 A 2) 24)), (3006, (bU 4 (g21r0 A (g23r0 A 4) (g23r0 A 1)) 24))]⟩ = kk (bO false) [(2001, (bU 4 (g23r0 A 2) 24)), (3006, (bU 4 (g21r0 A (g23r0 A 4) (g23r0 A 1)) 24))] := by kernel_rfl
  have h40 := (g11p1111 A n _ _).trans h39
  have h41 := (g11Qn A n _ _ _).trans h40
  have h7 := g11R3 A n (g11Q A n (pth 31) (g11T kk)) (g21r1 A (g23r0 A 4) (g23r0 A 1)) (g23r0 A 2) (g21r0 A (g23r0 A 4) (g23r0 A 1))
  have h42 := (g11p1110 A n _ ⟨[(3, (bO (g21r1 A (g23r0 A 4) (g23r0 A 1)))), (2, (pT 3006 0)), (10, (bO (g21r1 A (g23r0 A 4) (g23r0 A 1)))), (9, (aN .u64 4 (g21r0 A (g23r0 A 4) (g23r0 A 1)))), (5, (.tup [(.agg [.nums .u64 4 (g21r0 A (g23r0 A 4) (g23r0 A 1))]), (.cell (.bool (g21r1 A (g23r0 A 4) (g23r0 A 1))))])), (8, (.tup [(.agg [.nums .u64 4 (g21r0 A (g23r0 A 4) (g23r0 A 1))]), (.cell (.bool (g21r1 A (g23r0 A 4) (g23r0 A 1))))])), (7, (aN .u64 4 (g23r0 A 1))), (6, (aN .u64 4 (g23r0 A 4))), (1, (pT 2001 0))], [(3006, (bU 4 (g21r0 A (g23r0 A 4) (g23r0 A 1)) 24)), (2001, (bU 4 (g23r0 A 2) 24))]⟩ _ (by kernel_rfl)).trans h7
  rw [h11, h14, h17, h20, h23, h26, h29, h32, h35, h38, h41] at h42
  have h43 := (g11p111 A n _ _).trans h42
  have h44 := (g11Qn A n _ _ _).trans h43
  have h5 := g11R2 A n (g11Q A n (pth 15) (g11T kk)) (g23r0 A 2)
  have h45 := (g11p110 A n _ ⟨[(1, (pT 2001 0)), (4, (aN .u64 4 (g23r0 A 2)))], [(2001, (bU 4 (g23r0 A 2) 24))]⟩ _ (by kernel_rfl)).trans h5
  rw [h44] at h45
  have h46 := (g11p11 A n _ _).trans h45
  have h47 := (g11Qn A n _ _ _).trans h46
  have h3 := g11R1 A n (g11Q A n (pth 7) (g11T kk)) 
  have h48 := (g11p10 A n _ ⟨[(0, (bO false))], []⟩ _ (by kernel_rfl)).trans h3
  rw [h47] at h48
  have h49 := (g11p1 A n _ _).trans h48
  have h50 := (g11Qn A n _ _ _).trans h49
  have h1 := g11R0 A n (g11Q A n (pth 3) (g11T kk)) 
  have h51 := (g11p0 A n _ ⟨[], []⟩ _ (by kernel_rfl)).trans h1
  rw [h50] at h51
  have h52 := (g11p A n _ _).trans h51
  exact (show funD A gtys (g11O A) g11an n (bodyOf Try.f11) g11res [] [] kk = g11D A n (pth 1) (g11T kk) ⟨[], []⟩ from by kernel_rfl).trans (h52.trans (by kernel_rfl))
def g11is (o : Option AV) : Bool := match o with
  | some (.v (.cell (.bool _))) => true
  | _ => false
def g11g0 (o : Option AV) : Bool := match o with
  | some (.v (.cell (.bool x))) => x
  | _ => false
theorem g11is_spec {o : Option AV} (h : g11is o = true) : o = some (.v (.cell (.bool (g11g0 o)))) := by
  unfold g11is at h
  split at h
  · rfl
  · cases h
def g11v (A : Ar)  : Option AV := g11 A (100000) (fun v _ => some v) 
def g11ok (A : Ar)  : Bool := g11is (g11v A )
def g11r0 (A : Ar)  : Bool := g11g0 (g11v A )
theorem g11ok_spec {A : Ar} (h : g11ok A = true) : g11v A = some (.v (.cell (.bool (g11r0 A)))) := g11is_spec h
def g11o (A : Ar) (args : List AV) : Option (Bool × AV) := match args with
  | [] => some (g11ok A , .v (.cell (.bool (g11r0 A))))
  | _ => none
theorem g11o_sound : ∀ args v, g11o realA args = some (true, v) → Fn1 Try.prog 11 args v := by
  intro args v h
  unfold g11o at h
  split at h
  · simp only [Option.some.injEq, Prod.mk.injEq] at h
    obtain ⟨hc, h⟩ := h
    subst h
    · skip
      exact fn1_of mixed gtysOK g11O_sound g11O_det (an := g11an) (n := 100000) Try.func11 (c := bodyOf Try.f11) rfl (by kernel_rfl) Try.call11 (Nat.le_of_ble_eq_true rfl) (fun b => rfl) (fun _ => (g11_eq realA (100000) (fun v _ => some v) ).trans (show g11v realA  = _ from g11ok_spec hc))
  · cases h
end Go.Sx
