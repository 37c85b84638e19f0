/- printed by sxgen -/
import Derived.Test.YtnnepclpggbjgaaSxS03c
namespace Go.Sx
open Go.Proofs
set_option linter.unusedVariables false
/- engrosser/engrosserref03.prime -/
def g45O (A : Ar) : Orc := orcOf []
theorem g45O_sound : OSound Try.prog (g45O realA) := orc_sound fun f g hm args v hv => by
  cases hm
theorem g45O_det : ODet (g45O realA) := orc_det _
def g45an : Ann := [(0, ([], [])), (1, ([0], [1000]))]
def g45res : List ResultVar := [.cell 0 47]
noncomputable def g45D {R : Type} (A : Ar) (n : Nat) (p : List Bool) (K : Ex → St → Option R) (s : St) : Option R := codeD A gtys (g45O A) g45an n (sub (bodyOf Try.f45) p) K s
noncomputable def g45Q {R : Type} (A : Ar) (n : Nat) (p : List Bool) (K : Ex → St → Option R) : Ex → St → Option R := seqC (g45D A n p K) K
noncomputable def g45T {R : Type} (kk : AV → Heap → Option R) : Ex → St → Option R := finD gtys g45res kk
theorem g45Qn {R : Type} (A : Ar) (n : Nat) (p : List Bool) (K : Ex → St → Option R) (s : St) : g45Q A n p K .normal s = g45D A n p K s := rfl
section
variable {R : Type} (A : Ar) (n : Nat) (K : Ex → St → Option R) (s : St)
theorem g45p : g45D A n (pth 1) K s = g45D A n (pth 2) (g45Q A n (pth 3) K) s := by kernel_rfl
theorem g45p0 (s' : St) (h : keep g45an 0 s = keep g45an 0 s') : g45D A n (pth 2) K s = g45D A n (pth 2) K s' := codeD_first (id := 0) (by kernel_rfl) h K
theorem g45p1 : g45D A n (pth 3) K s = g45D A n (pth 5) (g45Q A n (pth 7) K) s := by kernel_rfl
theorem g45p10 (s' : St) (h : keep g45an 1 s = keep g45an 1 s') : g45D A n (pth 5) K s = g45D A n (pth 5) K s' := codeD_first (id := 1) (by kernel_rfl) h K
theorem g45p11 : g45D A n (pth 7) K s = K .ret s := by kernel_rfl
theorem g45R0 : g45D A n (pth 2) K ⟨[], []⟩ = K .normal ⟨[(0, (pT 1000 0))], [(1000, (bW 8 [0, 0, 0, 0, 0, 0, 0, 0] 47))]⟩ := by kernel_rfl
theorem g45R1 (x0 : List Nat) : g45D A n (pth 5) K ⟨[(0, (pT 1000 0))], [(1000, (bW 8 x0 47))]⟩ = K .normal ⟨[(1, (aN .u32 8 (((((((([0, 0, 0, 0, 0, 0, 0, 0].set 0 4294967277).set 1 4294967295).set 2 4294967295).set 3 4294967295).set 4 4294967295).set 5 4294967295).set 6 4294967295).set 7 2147483647))), (0, (pT 1000 0))], [(1000, (bW 8 (((((((([0, 0, 0, 0, 0, 0, 0, 0].set 0 4294967277).set 1 4294967295).set 2 4294967295).set 3 4294967295).set 4 4294967295).set 5 4294967295).set 6 4294967295).set 7 2147483647) 47))]⟩ := by kernel_rfl
end
def g45 {R : Type} (A : Ar) (n : Nat) (kk : AV → Heap → Option R)  : Option R :=
  kk (aN .u32 8 (((((((([0, 0, 0, 0, 0, 0, 0, 0].set 0 4294967277).set 1 4294967295).set 2 4294967295).set 3 4294967295).set 4 4294967295).set 5 4294967295).set 6 4294967295).set 7 2147483647)) [(1000, (bW 8 (((((((([0, 0, 0, 0, 0, 0, 0, 0].set 0 4294967277).set 1 4294967295).set 2 4294967295).set 3 4294967295).set 4 4294967295).set 5 4294967295).set 6 4294967295).set 7 2147483647) 47))]
set_option maxRecDepth 100000 in
theorem g45_eq {R : Type} (A : Ar) (n : Nat) (kk : AV → Heap → Option R)  :
    funD A gtys (g45O A) g45an n (bodyOf Try.f45) g45res [] [] kk = g45 A n kk  := by
  have h5 : (g45T kk) .ret ⟨[(1, (aN .u32 8 (((((((([0, 0, 0, 0, 0, 0, 0, 0].set 0 4294967277).set 1 4294967295).set 2 4294967295).set 3 4294967295).set 4 4294967295).set 5 4294967295).set 6 4294967295).set 7 2147483647))), (0, (pT 1000 0))], [(1000, (bW 8 (((((((([0, 0, 0, 0, 0, 0, 0, 0].set 0 4294967277).set 1 4294967295).set 2 4294967295).set 3 4294967295).set 4 4294967295).set 5 4294967295).set 6 4294967295).set 7 2147483647) 47))]⟩ = kk (aN .u32 8 (((((((([0, 0, 0, 0, 0, 0, 0, 0].set 0 4294967277).set 1 4294967295).set 2 4294967295).set 3 4294967295).set 4 4294967295).set 5 4294967295).set 6 4294967295).set 7 2147483647)) [(1000, (bW 8 (((((((([0, 0, 0, 0, 0, 0, 0, 0].set 0 4294967277).set 1 4294967295).set 2 4294967295).set 3 4294967295).set 4 4294967295).set 5 4294967295).set 6 4294967295).set 7 2147483647) 47))] := by kernel_rfl
  have h6 := (g45p11 A n _ _).trans h5
  have h7 := (g45Qn A n _ _ _).trans h6
  have h3 := g45R1 A n (g45Q A n (pth 7) (g45T kk)) [0, 0, 0, 0, 0, 0, 0, 0]
  have h8 := (g45p10 A n _ ⟨[(0, (pT 1000 0))], [(1000, (bW 8 [0, 0, 0, 0, 0, 0, 0, 0] 47))]⟩ _ (by kernel_rfl)).trans h3
  rw [h7] at h8
  have h9 := (g45p1 A n _ _).trans h8
  have h10 := (g45Qn A n _ _ _).trans h9
  have h1 := g45R0 A n (g45Q A n (pth 3) (g45T kk)) 
  have h11 := (g45p0 A n _ ⟨[], []⟩ _ (by kernel_rfl)).trans h1
  rw [h10] at h11
  have h12 := (g45p A n _ _).trans h11
  exact (show funD A gtys (g45O A) g45an n (bodyOf Try.f45) g45res [] [] kk = g45D A n (pth 1) (g45T kk) ⟨[], []⟩ from by kernel_rfl).trans (h12.trans (by kernel_rfl))
def g45is (o : Option AV) : Bool := match o with
  | some (aN .u32 8 _) => true
  | _ => false
def g45g0 (o : Option AV) : List Nat := match o with
  | some (aN .u32 8 x) => x
  | _ => []
theorem g45is_spec {o : Option AV} (h : g45is o = true) : o = some (aN .u32 8 (g45g0 o)) := by
  unfold g45is at h
  split at h
  · rfl
  · cases h
def g45v (A : Ar)  : Option AV := g45 A (100000) (fun v _ => some v) 
def g45ok (A : Ar)  : Bool := g45is (g45v A )
def g45r0 (A : Ar)  : List Nat := g45g0 (g45v A )
theorem g45ok_spec {A : Ar} (h : g45ok A = true) : g45v A = some (aN .u32 8 (g45r0 A)) := g45is_spec h
def g45o (A : Ar) (args : List AV) : Option (Bool × AV) := match args with
  | [] => some (g45ok A , .v (.agg [.nums .u32 8 (g45r0 A)]))
  | _ => none
theorem g45o_sound : ∀ args v, g45o realA args = some (true, v) → Fn1 Try.prog 45 args v := by
  intro args v h
  unfold g45o at h
  split at h
  · simp only [Option.some.injEq, Prod.mk.injEq] at h
    obtain ⟨hc, h⟩ := h
    subst h
    · skip
      exact fn1_of mixed gtysOK g45O_sound g45O_det (an := g45an) (n := 100000) Try.func45 (c := bodyOf Try.f45) rfl (by kernel_rfl) Try.call45 (Nat.le_of_ble_eq_true rfl) (fun b => rfl) (fun _ => (g45_eq realA (100000) (fun v _ => some v) ).trans (show g45v realA  = _ from g45ok_spec hc))
  · cases h
/- engrosser/engrosserref03.less -/
def g48O (A : Ar) : Orc := orcOf []
theorem g48O_sound : OSound Try.prog (g48O realA) := orc_sound fun f g hm args v hv => by
  cases hm
theorem g48O_det : ODet (g48O realA) := orc_det _
def g48an : Ann := [(0, ([0, 1], [])), (1, ([2, 3], [1000, 1001])), (2, ([2, 3, 5], [1000, 1001])), (3, ([2, 3, 5], [1000, 1001])), (4, ([2, 3, 5], [1000, 1001])), (5, ([2, 3, 5], [1000, 1001])), (6, ([], []))]
def g48res : List ResultVar := [.tmp 4]
noncomputable def g48D {R : Type} (A : Ar) (n : Nat) (p : List Bool) (K : Ex → St → Option R) (s : St) : Option R := codeD A gtys (g48O A) g48an n (sub (bodyOf Try.f48) p) K s
noncomputable def g48V {R : Type} (A : Ar) (n : Nat) (p : List Bool) (m : Nat) (K : Ex → St → Option R) (s : St) : Option R := loopD (fun K' s'' => codeD A gtys (g48O A) g48an n (sub (bodyOf Try.f48) p) K' s'') m K s
noncomputable def g48Q {R : Type} (A : Ar) (n : Nat) (p : List Bool) (K : Ex → St → Option R) : Ex → St → Option R := seqC (g48D A n p K) K
noncomputable def g48W {R : Type} (A : Ar) (n : Nat) (p : List Bool) (m : Nat) (K : Ex → St → Option R) : Ex → St → Option R := seqC (g48V A n p m K) K
noncomputable def g48T {R : Type} (kk : AV → Heap → Option R) : Ex → St → Option R := finD gtys g48res kk
theorem g48Qn {R : Type} (A : Ar) (n : Nat) (p : List Bool) (K : Ex → St → Option R) (s : St) : g48Q A n p K .normal s = g48D A n p K s := rfl
theorem g48Qe {R : Type} (A : Ar) (n : Nat) (p : List Bool) (K : Ex → St → Option R) (i : Nat) (s : St) : g48Q A n p K (.exit i) s = K (.exit i) s := rfl
theorem g48Qr {R : Type} (A : Ar) (n : Nat) (p : List Bool) (K : Ex → St → Option R) (s : St) : g48Q A n p K .ret s = K .ret s := rfl
theorem g48Wn {R : Type} (A : Ar) (n : Nat) (p : List Bool) (m : Nat) (K : Ex → St → Option R) (s : St) : g48W A n p m K .normal s = g48V A n p m K s := rfl
theorem g48We {R : Type} (A : Ar) (n : Nat) (p : List Bool) (m : Nat) (K : Ex → St → Option R) (i : Nat) (s : St) : g48W A n p m K (.exit i) s = K (.exit i) s := rfl
theorem g48Wr {R : Type} (A : Ar) (n : Nat) (p : List Bool) (m : Nat) (K : Ex → St → Option R) (s : St) : g48W A n p m K .ret s = K .ret s := rfl
theorem g48Vs {R : Type} (A : Ar) (n : Nat) (p : List Bool) (m : Nat) (K : Ex → St → Option R) (s : St) : g48V A n p (m + 1) K s = g48D A n p (g48W A n p m K) s := rfl
section
variable {R : Type} (A : Ar) (n : Nat) (K : Ex → St → Option R) (s : St)
theorem g48p : g48D A n (pth 1) K s = g48D A n (pth 2) (g48Q A n (pth 3) K) s := by kernel_rfl
theorem g48p0 (s' : St) (h : keep g48an 0 s = keep g48an 0 s') : g48D A n (pth 2) K s = g48D A n (pth 2) K s' := codeD_first (id := 0) (by kernel_rfl) h K
theorem g48p1 : g48D A n (pth 3) K s = g48D A n (pth 5) (g48Q A n (pth 7) K) s := by kernel_rfl
theorem g48p10 : g48D A n (pth 5) K s = g48D A n (pth 9) (g48Q A n (pth 13) K) s := by kernel_rfl
theorem g48p100 (s' : St) (h : keep g48an 1 s = keep g48an 1 s') : g48D A n (pth 9) K s = g48D A n (pth 9) K s' := codeD_first (id := 1) (by kernel_rfl) h K
theorem g48p101 : g48D A n (pth 13) K s = g48D A n (pth 21) (blockK 0 K) s := by kernel_rfl
theorem g48p1010 : g48D A n (pth 21) K s = g48V A n (pth 37) n K s := by kernel_rfl
theorem g48p10100 : g48D A n (pth 37) K s = g48D A n (pth 69) (g48Q A n (pth 101) K) s := by kernel_rfl
theorem g48p101000 : g48D A n (pth 69) K s = g48D A n (pth 133) (g48Q A n (pth 197) K) s := by kernel_rfl
theorem g48p1010000 (s' : St) (h : keep g48an 2 s = keep g48an 2 s') : g48D A n (pth 133) K s = g48D A n (pth 133) K s' := codeD_first (id := 2) (by kernel_rfl) h K
theorem g48p1010001 (t : Bool) : ev s (.tmp 7) = some (.v (.cell (.bool t))) → g48D A n (pth 197) K s = (match t with
    | true => g48D A n (pth 325) K s
    | false => g48D A n (pth 453) K s) := codeD_cond t
theorem g48p10100010 : g48D A n (pth 325) K s = K .normal s := by kernel_rfl
theorem g48p10100011 : g48D A n (pth 453) K s = K (.exit 0) s := by kernel_rfl
theorem g48p101001 : g48D A n (pth 101) K s = g48D A n (pth 165) (g48Q A n (pth 229) K) s := by kernel_rfl
theorem g48p1010010 : g48D A n (pth 165) K s = g48D A n (pth 293) (blockK 1 K) s := by kernel_rfl
theorem g48p10100100 : g48D A n (pth 293) K s = g48D A n (pth 549) (g48Q A n (pth 805) K) s := by kernel_rfl
theorem g48p101001000 (s' : St) (h : keep g48an 4 s = keep g48an 4 s') : g48D A n (pth 549) K s = g48D A n (pth 549) K s' := codeD_first (id := 4) (by kernel_rfl) h K
theorem g48p101001001 (t : Bool) : ev s (.tmp 16) = some (.v (.cell (.bool t))) → g48D A n (pth 805) K s = (match t with
    | true => g48D A n (pth 1317) K s
    | false => g48D A n (pth 1829) K s) := codeD_cond t
theorem g48p1010010010 : g48D A n (pth 1317) K s = g48D A n (pth 2341) (g48Q A n (pth 3365) K) s := by kernel_rfl
theorem g48p10100100100 (s' : St) (h : keep g48an 5 s = keep g48an 5 s') : g48D A n (pth 2341) K s = g48D A n (pth 2341) K s' := codeD_first (id := 5) (by kernel_rfl) h K
theorem g48p10100100101 : g48D A n (pth 3365) K s = K .ret s := by kernel_rfl
theorem g48p1010010011 : g48D A n (pth 1829) K s = K .normal s := by kernel_rfl
theorem g48p1010011 (s' : St) (h : keep g48an 3 s = keep g48an 3 s') : g48D A n (pth 229) K s = g48D A n (pth 229) K s' := codeD_first (id := 3) (by kernel_rfl) h K
theorem g48p11 : g48D A n (pth 7) K s = g48D A n (pth 11) (g48Q A n (pth 15) K) s := by kernel_rfl
theorem g48p110 (s' : St) (h : keep g48an 6 s = keep g48an 6 s') : g48D A n (pth 11) K s = g48D A n (pth 11) K s' := codeD_first (id := 6) (by kernel_rfl) h K
theorem g48p111 : g48D A n (pth 15) K s = K .ret s := by kernel_rfl
theorem g48R4 (x0 : Int) (x1 x2 : List Nat) : g48D A n (pth 549) K ⟨[(2, (pT 1000 0)), (3, (pT 1001 0)), (5, (i6 x0))], [(1000, (bW 8 x1 47)), (1001, (bW 8 x2 47))]⟩ = match (generalizing := false) A.neg x0 with
    | true => none
    | false => match (generalizing := false) A.lt (A.toN x0) 8 with
      | true => match (generalizing := false) A.neg x0 with
        | true => none
        | false => match (generalizing := false) A.lt (A.toN x0) 8 with
          | true => K .normal ⟨[(16, (bO (A.nc .neq (x1.getD (A.toN x0) 0) (x2.getD (A.toN x0) 0)))), (15, (u32v (x2.getD (A.toN x0) 0))), (14, (.v (.cell (.ptr 1001 0 (some ⟨A.toN x0, 1, 8, 0, 0, 0⟩))))), (13, (i6 x0)), (12, (u32v (x1.getD (A.toN x0) 0))), (11, (.v (.cell (.ptr 1000 0 (some ⟨A.toN x0, 1, 8, 0, 0, 0⟩))))), (10, (i6 x0)), (2, (pT 1000 0)), (3, (pT 1001 0)), (5, (i6 x0))], [(1000, (bW 8 x1 47)), (1001, (bW 8 x2 47))]⟩
          | false => none
      | false => none := by kernel_rfl
theorem g48R5 (x0 : Int) (x1 x2 : List Nat) : g48D A n (pth 2341) K ⟨[(2, (pT 1000 0)), (3, (pT 1001 0)), (5, (i6 x0))], [(1000, (bW 8 x1 47)), (1001, (bW 8 x2 47))]⟩ = match (generalizing := false) A.neg x0 with
    | true => none
    | false => match (generalizing := false) A.lt (A.toN x0) 8 with
      | true => match (generalizing := false) A.neg x0 with
        | true => none
        | false => match (generalizing := false) A.lt (A.toN x0) 8 with
          | true => K .normal ⟨[(4, (bO (A.nc .lss (x1.getD (A.toN x0) 0) (x2.getD (A.toN x0) 0)))), (23, (bO (A.nc .lss (x1.getD (A.toN x0) 0) (x2.getD (A.toN x0) 0)))), (22, (u32v (x2.getD (A.toN x0) 0))), (21, (.v (.cell (.ptr 1001 0 (some ⟨A.toN x0, 1, 8, 0, 0, 0⟩))))), (20, (i6 x0)), (19, (u32v (x1.getD (A.toN x0) 0))), (18, (.v (.cell (.ptr 1000 0 (some ⟨A.toN x0, 1, 8, 0, 0, 0⟩))))), (17, (i6 x0)), (2, (pT 1000 0)), (3, (pT 1001 0)), (5, (i6 x0))], [(1000, (bW 8 x1 47)), (1001, (bW 8 x2 47))]⟩
          | false => none
      | false => none := by kernel_rfl
theorem g48R3 (x0 : Int) (x1 x2 : List Nat) : g48D A n (pth 229) K ⟨[(2, (pT 1000 0)), (3, (pT 1001 0)), (5, (i6 x0))], [(1000, (bW 8 x1 47)), (1001, (bW 8 x2 47))]⟩ = K .normal ⟨[(5, (i6 (A.ib .sub .i64 x0 1))), (9, (i6 (A.ib .sub .i64 x0 1))), (8, (i6 x0)), (2, (pT 1000 0)), (3, (pT 1001 0)), (5, (i6 x0))], [(1000, (bW 8 x1 47)), (1001, (bW 8 x2 47))]⟩ := by kernel_rfl
theorem g48R2 (x0 : Int) (x1 x2 : List Nat) : g48D A n (pth 133) K ⟨[(2, (pT 1000 0)), (3, (pT 1001 0)), (5, (i6 x0))], [(1000, (bW 8 x1 47)), (1001, (bW 8 x2 47))]⟩ = K .normal ⟨[(7, (bO (A.ic .geq x0 0))), (6, (i6 x0)), (2, (pT 1000 0)), (3, (pT 1001 0)), (5, (i6 x0))], [(1000, (bW 8 x1 47)), (1001, (bW 8 x2 47))]⟩ := by kernel_rfl
theorem g48R6 : g48D A n (pth 11) K ⟨[], []⟩ = K .normal ⟨[(4, (bO false))], []⟩ := by kernel_rfl
theorem g48R0 (x0 x1 : List Nat) : g48D A n (pth 2) K ⟨[(0, (aN .u32 8 x0)), (1, (aN .u32 8 x1))], []⟩ = K .normal ⟨[(4, (bO false)), (3, (pT 1001 0)), (2, (pT 1000 0)), (0, (aN .u32 8 x0)), (1, (aN .u32 8 x1))], [(1001, (bW 8 x1 47)), (1000, (bW 8 x0 47))]⟩ := by kernel_rfl
theorem g48R1 (x0 x1 : List Nat) : g48D A n (pth 9) K ⟨[(2, (pT 1000 0)), (3, (pT 1001 0))], [(1000, (bW 8 x0 47)), (1001, (bW 8 x1 47))]⟩ = K .normal ⟨[(5, (i6 7)), (2, (pT 1000 0)), (3, (pT 1001 0))], [(1000, (bW 8 x0 47)), (1001, (bW 8 x1 47))]⟩ := by kernel_rfl
end
def g48J4 {R : Type} (A : Ar) (n : Nat) (kk : AV → Heap → Option R) (lg48L2 : Int → List Nat → List Nat → Option R) (x0 : Int) (x1 x2 : List Nat) : Option R :=
  match (generalizing := false) A.neg x0 with
  | true => none
  | false => match (generalizing := false) A.lt (A.toN x0) 8 with
    | true => match (generalizing := false) A.neg x0 with
      | true => none
      | false => match (generalizing := false) A.lt (A.toN x0) 8 with
        | true => match (generalizing := false) A.nc .neq (x1.getD (A.toN x0) 0) (x2.getD (A.toN x0) 0) with
          | true => match (generalizing := false) A.neg x0 with
            | true => none
            | false => match (generalizing := false) A.lt (A.toN x0) 8 with
              | true => match (generalizing := false) A.neg x0 with
                | true => none
                | false => match (generalizing := false) A.lt (A.toN x0) 8 with
                  | true => kk (bO (A.nc .lss (x1.getD (A.toN x0) 0) (x2.getD (A.toN x0) 0))) [(1000, (bW 8 x1 47)), (1001, (bW 8 x2 47))]
                  | false => none
              | false => none
          | false => lg48L2 (A.ib .sub .i64 x0 1) x1 x2
        | false => none
    | false => none
set_option maxRecDepth 100000 in
theorem g48J4_eq {R : Type} (A : Ar) (n : Nat) (kk : AV → Heap → Option R) (m0 : Nat) (lg48L2 : Int → List Nat → List Nat → Option R) 
    (hg48L2 : ∀ (s : St) (x0 : Int) (x1 x2 : List Nat), keep g48an 2 s = ⟨[(2, (pT 1000 0)), (3, (pT 1001 0)), (5, (i6 x0))], [(1000, (bW 8 x1 47)), (1001, (bW 8 x2 47))]⟩ → g48V A n (pth 37) m0 (blockK 0 (g48Q A n (pth 7) (g48T kk))) s = lg48L2 x0 x1 x2) (s : St) (x0 : Int) (x1 x2 : List Nat) (h : keep g48an 4 s = ⟨[(2, (pT 1000 0)), (3, (pT 1001 0)), (5, (i6 x0))], [(1000, (bW 8 x1 47)), (1001, (bW 8 x2 47))]⟩) :
    g48D A n (pth 101) (g48W A n (pth 37) m0 (blockK 0 (g48Q A n (pth 7) (g48T kk)))) s = g48J4 A n kk lg48L2 x0 x1 x2 := by
  have h5 : (g48T kk) .ret ⟨[(4, (bO (A.nc .lss (x1.getD (A.toN x0) 0) (x2.getD (A.toN x0) 0)))), (23, (bO (A.nc .lss (x1.getD (A.toN x0) 0) (x2.getD (A.toN x0) 0)))), (22, (u32v (x2.getD (A.toN x0) 0))), (21, (.v (.cell (.ptr 1001 0 (some ⟨A.toN x0, 1, 8, 0, 0, 0⟩))))), (20, (i6 x0)), (19, (u32v (x1.getD (A.toN x0) 0))), (18, (.v (.cell (.ptr 1000 0 (some ⟨A.toN x0, 1, 8, 0, 0, 0⟩))))), (17, (i6 x0)), (2, (pT 1000 0)), (3, (pT 1001 0)), (5, (i6 x0))], [(1000, (bW 8 x1 47)), (1001, (bW 8 x2 47))]⟩ = kk (bO (A.nc .lss (x1.getD (A.toN x0) 0) (x2.getD (A.toN x0) 0))) [(1000, (bW 8 x1 47)), (1001, (bW 8 x2 47))] := by kernel_rfl
  have h6 := (g48Qr A n (pth 7) _ _).trans h5
  have h7 := (blockK_r 0 _ _).trans h6
  have h8 := (g48Wr A n (pth 37) m0 _ _).trans h7
  have h9 := (g48Qr A n (pth 229) _ _).trans h8
  have h10 := (blockK_r 1 _ _).trans h9
  have h11 := (g48p10100100101 A n _ _).trans h10
  have h12 := (g48Qn A n _ _ _).trans h11
  have h3 := g48R5 A n (g48Q A n (pth 3365) (blockK 1 (g48Q A n (pth 229) (g48W A n (pth 37) m0 (blockK 0 (g48Q A n (pth 7) (g48T kk))))))) x0 x1 x2
  have h13 := (g48p10100100100 A n _ ⟨[(16, (bO (A.nc .neq (x1.getD (A.toN x0) 0) (x2.getD (A.toN x0) 0)))), (15, (u32v (x2.getD (A.toN x0) 0))), (14, (.v (.cell (.ptr 1001 0 (some ⟨A.toN x0, 1, 8, 0, 0, 0⟩))))), (13, (i6 x0)), (12, (u32v (x1.getD (A.toN x0) 0))), (11, (.v (.cell (.ptr 1000 0 (some ⟨A.toN x0, 1, 8, 0, 0, 0⟩))))), (10, (i6 x0)), (2, (pT 1000 0)), (3, (pT 1001 0)), (5, (i6 x0))], [(1000, (bW 8 x1 47)), (1001, (bW 8 x2 47))]⟩ _ (by kernel_rfl)).trans h3
  rw [h12] at h13
  have h14 := (g48p1010010010 A n _ _).trans h13
  have h17 := (g48Wn A n _ _ _ _).trans (hg48L2 ⟨[(5, (i6 (A.ib .sub .i64 x0 1))), (9, (i6 (A.ib .sub .i64 x0 1))), (8, (i6 x0)), (2, (pT 1000 0)), (3, (pT 1001 0)), (5, (i6 x0))], [(1000, (bW 8 x1 47)), (1001, (bW 8 x2 47))]⟩ (A.ib .sub .i64 x0 1) x1 x2 (by kernel_rfl))
  have h15 := g48R3 A n (g48W A n (pth 37) m0 (blockK 0 (g48Q A n (pth 7) (g48T kk)))) x0 x1 x2
  have h18 := (g48p1010011 A n _ ⟨[(16, (bO (A.nc .neq (x1.getD (A.toN x0) 0) (x2.getD (A.toN x0) 0)))), (15, (u32v (x2.getD (A.toN x0) 0))), (14, (.v (.cell (.ptr 1001 0 (some ⟨A.toN x0, 1, 8, 0, 0, 0⟩))))), (13, (i6 x0)), (12, (u32v (x1.getD (A.toN x0) 0))), (11, (.v (.cell (.ptr 1000 0 (some ⟨A.toN x0, 1, 8, 0, 0, 0⟩))))), (10, (i6 x0)), (2, (pT 1000 0)), (3, (pT 1001 0)), (5, (i6 x0))], [(1000, (bW 8 x1 47)), (1001, (bW 8 x2 47))]⟩ _ (by kernel_rfl)).trans h15
  rw [h17] at h18
  have h19 := (g48Qn A n _ _ _).trans h18
  have h20 := (blockK_n 1 _ _).trans h19
  have h21 := (g48p1010010011 A n _ _).trans h20
  have h22 := g48p101001001 A n (blockK 1 (g48Q A n (pth 229) (g48W A n (pth 37) m0 (blockK 0 (g48Q A n (pth 7) (g48T kk)))))) ⟨[(16, (bO (A.nc .neq (x1.getD (A.toN x0) 0) (x2.getD (A.toN x0) 0)))), (15, (u32v (x2.getD (A.toN x0) 0))), (14, (.v (.cell (.ptr 1001 0 (some ⟨A.toN x0, 1, 8, 0, 0, 0⟩))))), (13, (i6 x0)), (12, (u32v (x1.getD (A.toN x0) 0))), (11, (.v (.cell (.ptr 1000 0 (some ⟨A.toN x0, 1, 8, 0, 0, 0⟩))))), (10, (i6 x0)), (2, (pT 1000 0)), (3, (pT 1001 0)), (5, (i6 x0))], [(1000, (bW 8 x1 47)), (1001, (bW 8 x2 47))]⟩ (A.nc .neq (x1.getD (A.toN x0) 0) (x2.getD (A.toN x0) 0)) (by kernel_rfl)
  rw [h14, h21] at h22
  have h23 := (g48Qn A n _ _ _).trans h22
  have h1 := g48R4 A n (g48Q A n (pth 805) (blockK 1 (g48Q A n (pth 229) (g48W A n (pth 37) m0 (blockK 0 (g48Q A n (pth 7) (g48T kk))))))) x0 x1 x2
  have h24 := (g48p101001000 A n _ ⟨[(2, (pT 1000 0)), (3, (pT 1001 0)), (5, (i6 x0))], [(1000, (bW 8 x1 47)), (1001, (bW 8 x2 47))]⟩ _ (by kernel_rfl)).trans h1
  rw [h23] at h24
  have h25 := (g48p10100100 A n _ _).trans h24
  have h26 := (g48p1010010 A n _ _).trans h25
  have h27 := (g48p101001 A n _ _).trans h26
  exact (codeD_first (s' := ⟨[(2, (pT 1000 0)), (3, (pT 1001 0)), (5, (i6 x0))], [(1000, (bW 8 x1 47)), (1001, (bW 8 x2 47))]⟩) (id := 4) (by kernel_rfl) (h.trans (by kernel_rfl)) _).trans (h27.trans (by kernel_rfl))
def g48L2 {R : Type} (A : Ar) (n : Nat) (kk : AV → Heap → Option R)  : Nat → Int → List Nat → List Nat → Option R
  | 0, _, _, _ => none
  | m + 1, x0, x1, x2 => match (generalizing := false) A.ic .geq x0 0 with
  | true => g48J4 A n kk (g48L2 A n kk  m) x0 x1 x2
  | false => kk (bO false) []
set_option maxRecDepth 100000 in
theorem g48L2_eq {R : Type} (A : Ar) (n : Nat) (kk : AV → Heap → Option R)    (m : Nat) (s : St) (x0 : Int) (x1 x2 : List Nat) (h : keep g48an 2 s = ⟨[(2, (pT 1000 0)), (3, (pT 1001 0)), (5, (i6 x0))], [(1000, (bW 8 x1 47)), (1001, (bW 8 x2 47))]⟩) :
    g48V A n (pth 37) m (blockK 0 (g48Q A n (pth 7) (g48T kk))) s = g48L2 A n kk  m x0 x1 x2 := by
  induction m generalizing s x0 x1 x2 with
  | zero => rfl
  | succ m ih =>
    have h3 := (g48Qn A n _ _ _).trans (g48J4_eq A n kk m (g48L2 A n kk  m) ih  ⟨[(7, (bO (A.ic .geq x0 0))), (6, (i6 x0)), (2, (pT 1000 0)), (3, (pT 1001 0)), (5, (i6 x0))], [(1000, (bW 8 x1 47)), (1001, (bW 8 x2 47))]⟩ x0 x1 x2 (by kernel_rfl))
    have h4 := (g48p10100010 A n _ _).trans h3
    have h7 : (g48T kk) .ret ⟨[(4, (bO false))], []⟩ = kk (bO false) [] := by kernel_rfl
    have h8 := (g48p111 A n _ _).trans h7
    have h9 := (g48Qn A n _ _ _).trans h8
    have h5 := g48R6 A n (g48Q A n (pth 15) (g48T kk)) 
    have h10 := (g48p110 A n _ ⟨[(7, (bO (A.ic .geq x0 0))), (6, (i6 x0)), (2, (pT 1000 0)), (3, (pT 1001 0)), (5, (i6 x0))], [(1000, (bW 8 x1 47)), (1001, (bW 8 x2 47))]⟩ _ (by kernel_rfl)).trans h5
    rw [h9] at h10
    have h11 := (g48p11 A n _ _).trans h10
    have h12 := (g48Qn A n _ _ _).trans h11
    have h13 := (blockK_hit 0 _ _).trans h12
    have h14 := (g48We A n (pth 37) m _ _ _).trans h13
    have h15 := (g48Qe A n (pth 101) _ _ _).trans h14
    have h16 := (g48p10100011 A n _ _).trans h15
    have h17 := g48p1010001 A n (g48Q A n (pth 101) (g48W A n (pth 37) m (blockK 0 (g48Q A n (pth 7) (g48T kk))))) ⟨[(7, (bO (A.ic .geq x0 0))), (6, (i6 x0)), (2, (pT 1000 0)), (3, (pT 1001 0)), (5, (i6 x0))], [(1000, (bW 8 x1 47)), (1001, (bW 8 x2 47))]⟩ (A.ic .geq x0 0) (by kernel_rfl)
    rw [h4, h16] at h17
    have h18 := (g48Qn A n _ _ _).trans h17
    have h1 := g48R2 A n (g48Q A n (pth 197) (g48Q A n (pth 101) (g48W A n (pth 37) m (blockK 0 (g48Q A n (pth 7) (g48T kk)))))) x0 x1 x2
    have h19 := (g48p1010000 A n _ ⟨[(2, (pT 1000 0)), (3, (pT 1001 0)), (5, (i6 x0))], [(1000, (bW 8 x1 47)), (1001, (bW 8 x2 47))]⟩ _ (by kernel_rfl)).trans h1
    rw [h18] at h19
    have h20 := (g48p101000 A n _ _).trans h19
    have h21 := (g48p10100 A n _ _).trans h20
    exact (loopD_first (s' := ⟨[(2, (pT 1000 0)), (3, (pT 1001 0)), (5, (i6 x0))], [(1000, (bW 8 x1 47)), (1001, (bW 8 x2 47))]⟩) (id := 2) (by kernel_rfl) (h.trans (by kernel_rfl)) _).trans ((g48Vs A n _ m _ _).trans (h21.trans (by kernel_rfl)))
def g48 {R : Type} (A : Ar) (n : Nat) (kk : AV → Heap → Option R) (a b : List Nat) : Option R :=
  g48L2 A n kk  n 7 a b
set_option maxRecDepth 100000 in
theorem g48_eq {R : Type} (A : Ar) (n : Nat) (kk : AV → Heap → Option R) (a b : List Nat) :
    funD A gtys (g48O A) g48an n (bodyOf Try.f48) g48res [(aN .u32 8 a), (aN .u32 8 b)] [] kk = g48 A n kk a b := by
  have h5 := (g48p1010 A n _ _).trans (g48L2_eq A n kk    n ⟨[(5, (i6 7)), (2, (pT 1000 0)), (3, (pT 1001 0))], [(1000, (bW 8 a 47)), (1001, (bW 8 b 47))]⟩ 7 a b (by kernel_rfl))
  have h6 := (g48p101 A n _ _).trans h5
  have h7 := (g48Qn A n _ _ _).trans h6
  have h3 := g48R1 A n (g48Q A n (pth 13) (g48Q A n (pth 7) (g48T kk))) a b
  have h8 := (g48p100 A n _ ⟨[(4, (bO false)), (3, (pT 1001 0)), (2, (pT 1000 0)), (0, (aN .u32 8 a)), (1, (aN .u32 8 b))], [(1001, (bW 8 b 47)), (1000, (bW 8 a 47))]⟩ _ (by kernel_rfl)).trans h3
  rw [h7] at h8
  have h9 := (g48p10 A n _ _).trans h8
  have h10 := (g48p1 A n _ _).trans h9
  have h11 := (g48Qn A n _ _ _).trans h10
  have h1 := g48R0 A n (g48Q A n (pth 3) (g48T kk)) a b
  have h12 := (g48p0 A n _ ⟨[(0, (aN .u32 8 a)), (1, (aN .u32 8 b))], []⟩ _ (by kernel_rfl)).trans h1
  rw [h11] at h12
  have h13 := (g48p A n _ _).trans h12
  exact (show funD A gtys (g48O A) g48an n (bodyOf Try.f48) g48res [(aN .u32 8 a), (aN .u32 8 b)] [] kk = g48D A n (pth 1) (g48T kk) ⟨[(0, (aN .u32 8 a)), (1, (aN .u32 8 b))], []⟩ from by kernel_rfl).trans (h13.trans (by kernel_rfl))
def g48is (o : Option AV) : Bool := match o with
  | some (.v (.cell (.bool _))) => true
  | _ => false
def g48g0 (o : Option AV) : Bool := match o with
  | some (.v (.cell (.bool x))) => x
  | _ => false
theorem g48is_spec {o : Option AV} (h : g48is o = true) : o = some (.v (.cell (.bool (g48g0 o)))) := by
  unfold g48is at h
  split at h
  · rfl
  · cases h
def g48v (A : Ar) (a b : List Nat) : Option AV := g48 A (100000) (fun v _ => some v) a b
def g48ok (A : Ar) (a b : List Nat) : Bool := g48is (g48v A a b)
def g48r0 (A : Ar) (a b : List Nat) : Bool := g48g0 (g48v A a b)
theorem g48ok_spec {A : Ar} {a b} (h : g48ok A a b = true) : g48v A a b = some (.v (.cell (.bool (g48r0 A a b)))) := g48is_spec h
def g48o (A : Ar) (args : List AV) : Option (Bool × AV) := match args with
  | [.v (.agg [.nums .u32 n0 a]), .v (.agg [.nums .u32 n1 b])] => some (Nat.beq n0 8 && (Nat.beq n1 8 && (g48ok A a b)), .v (.cell (.bool (g48r0 A a b))))
  | _ => none
theorem g48o_sound : ∀ args v, g48o realA args = some (true, v) → Fn1 Try.prog 48 args v := by
  intro args v h
  unfold g48o at h
  split at h
  · rename_i n0 a n1 b
    simp only [Option.some.injEq, Prod.mk.injEq] at h
    obtain ⟨hc, h⟩ := h
    subst h
    · skip
      simp only [Bool.and_eq_true] at hc
      have en0 := beq_true hc.1
      subst en0
      replace hc := hc.2
      have en1 := beq_true hc.1
      subst en1
      replace hc := hc.2
      exact fn1_of mixed gtysOK g48O_sound g48O_det (an := g48an) (n := 100000) Try.func48 (c := bodyOf Try.f48) rfl (by kernel_rfl) Try.call48 (Nat.le_of_ble_eq_true rfl) (fun b => rfl) (fun _ => (g48_eq realA (100000) (fun v _ => some v) a b).trans (show g48v realA a b = _ from g48ok_spec hc))
  · cases h
/- engrosser/engrosserref03.minus -/
def g44O (A : Ar) : Orc := orcOf []
theorem g44O_sound : OSound Try.prog (g44O realA) := orc_sound fun f g hm args v hv => by
  cases hm
theorem g44O_det : ODet (g44O realA) := orc_det _
def g44an : Ann := [(0, ([0, 1], [])), (1, ([2, 3, 4], [1000, 1001, 1002])), (2, ([2, 3, 4, 5], [1000, 1001, 1002, 2000])), (3, ([2, 3, 4, 5, 6], [1000, 1001, 1002, 2000])), (4, ([2, 3, 4, 5, 6, 7], [1000, 1001, 1002, 2000])), (5, ([2, 3, 4, 5, 6, 7], [1000, 1001, 1002, 2000])), (6, ([2, 3, 4, 5, 6, 7], [1000, 1001, 1002, 2000])), (7, ([2, 3, 4, 5, 7, 8], [1000, 1001, 1002, 2000])), (8, ([2, 3, 4, 5, 7, 8], [1000, 1001, 1002, 2000])), (9, ([4, 5], [1002, 2000]))]
def g44res : List ResultVar := [.cell 4 47]
noncomputable def g44D {R : Type} (A : Ar) (n : Nat) (p : List Bool) (K : Ex → St → Option R) (s : St) : Option R := codeD A gtys (g44O A) g44an n (sub (bodyOf Try.f44) p) K s
noncomputable def g44V {R : Type} (A : Ar) (n : Nat) (p : List Bool) (m : Nat) (K : Ex → St → Option R) (s : St) : Option R := loopD (fun K' s'' => codeD A gtys (g44O A) g44an n (sub (bodyOf Try.f44) p) K' s'') m K s
noncomputable def g44Q {R : Type} (A : Ar) (n : Nat) (p : List Bool) (K : Ex → St → Option R) : Ex → St → Option R := seqC (g44D A n p K) K
noncomputable def g44W {R : Type} (A : Ar) (n : Nat) (p : List Bool) (m : Nat) (K : Ex → St → Option R) : Ex → St → Option R := seqC (g44V A n p m K) K
noncomputable def g44T {R : Type} (kk : AV → Heap → Option R) : Ex → St → Option R := finD gtys g44res kk
theorem g44Qn {R : Type} (A : Ar) (n : Nat) (p : List Bool) (K : Ex → St → Option R) (s : St) : g44Q A n p K .normal s = g44D A n p K s := rfl
theorem g44Qe {R : Type} (A : Ar) (n : Nat) (p : List Bool) (K : Ex → St → Option R) (i : Nat) (s : St) : g44Q A n p K (.exit i) s = K (.exit i) s := rfl
theorem g44Wn {R : Type} (A : Ar) (n : Nat) (p : List Bool) (m : Nat) (K : Ex → St → Option R) (s : St) : g44W A n p m K .normal s = g44V A n p m K s := rfl
theorem g44We {R : Type} (A : Ar) (n : Nat) (p : List Bool) (m : Nat) (K : Ex → St → Option R) (i : Nat) (s : St) : g44W A n p m K (.exit i) s = K (.exit i) s := rfl
theorem g44Vs {R : Type} (A : Ar) (n : Nat) (p : List Bool) (m : Nat) (K : Ex → St → Option R) (s : St) : g44V A n p (m + 1) K s = g44D A n p (g44W A n p m K) s := rfl
section
variable {R : Type} (A : Ar) (n : Nat) (K : Ex → St → Option R) (s : St)
theorem g44p : g44D A n (pth 1) K s = g44D A n (pth 2) (g44Q A n (pth 3) K) s := by kernel_rfl
theorem g44p0 (s' : St) (h : keep g44an 0 s = keep g44an 0 s') : g44D A n (pth 2) K s = g44D A n (pth 2) K s' := codeD_first (id := 0) (by kernel_rfl) h K
theorem g44p1 : g44D A n (pth 3) K s = g44D A n (pth 5) (g44Q A n (pth 7) K) s := by kernel_rfl
theorem g44p10 (s' : St) (h : keep g44an 1 s = keep g44an 1 s') : g44D A n (pth 5) K s = g44D A n (pth 5) K s' := codeD_first (id := 1) (by kernel_rfl) h K
theorem g44p11 : g44D A n (pth 7) K s = g44D A n (pth 11) (g44Q A n (pth 15) K) s := by kernel_rfl
theorem g44p110 (s' : St) (h : keep g44an 2 s = keep g44an 2 s') : g44D A n (pth 11) K s = g44D A n (pth 11) K s' := codeD_first (id := 2) (by kernel_rfl) h K
theorem g44p111 : g44D A n (pth 15) K s = g44D A n (pth 23) (g44Q A n (pth 31) K) s := by kernel_rfl
theorem g44p1110 : g44D A n (pth 23) K s = g44D A n (pth 39) (g44Q A n (pth 55) K) s := by kernel_rfl
theorem g44p11100 (s' : St) (h : keep g44an 3 s = keep g44an 3 s') : g44D A n (pth 39) K s = g44D A n (pth 39) K s' := codeD_first (id := 3) (by kernel_rfl) h K
theorem g44p11101 : g44D A n (pth 55) K s = g44D A n (pth 87) (blockK 0 K) s := by kernel_rfl
theorem g44p111010 : g44D A n (pth 87) K s = g44V A n (pth 151) n K s := by kernel_rfl
theorem g44p1110100 : g44D A n (pth 151) K s = g44D A n (pth 279) (g44Q A n (pth 407) K) s := by kernel_rfl
theorem g44p11101000 : g44D A n (pth 279) K s = g44D A n (pth 535) (g44Q A n (pth 791) K) s := by kernel_rfl
theorem g44p111010000 (s' : St) (h : keep g44an 4 s = keep g44an 4 s') : g44D A n (pth 535) K s = g44D A n (pth 535) K s' := codeD_first (id := 4) (by kernel_rfl) h K
theorem g44p111010001 (t : Bool) : ev s (.tmp 10) = some (.v (.cell (.bool t))) → g44D A n (pth 791) K s = (match t with
    | true => g44D A n (pth 1303) K s
    | false => g44D A n (pth 1815) K s) := codeD_cond t
theorem g44p1110100010 : g44D A n (pth 1303) K s = K .normal s := by kernel_rfl
theorem g44p1110100011 : g44D A n (pth 1815) K s = K (.exit 0) s := by kernel_rfl
theorem g44p11101001 : g44D A n (pth 407) K s = g44D A n (pth 663) (g44Q A n (pth 919) K) s := by kernel_rfl
theorem g44p111010010 : g44D A n (pth 663) K s = g44D A n (pth 1175) (blockK 1 K) s := by kernel_rfl
theorem g44p1110100100 : g44D A n (pth 1175) K s = g44D A n (pth 2199) (g44Q A n (pth 3223) K) s := by kernel_rfl
theorem g44p11101001000 (s' : St) (h : keep g44an 6 s = keep g44an 6 s') : g44D A n (pth 2199) K s = g44D A n (pth 2199) K s' := codeD_first (id := 6) (by kernel_rfl) h K
theorem g44p11101001001 : g44D A n (pth 3223) K s = g44D A n (pth 5271) (g44Q A n (pth 7319) K) s := by kernel_rfl
theorem g44p111010010010 (s' : St) (h : keep g44an 7 s = keep g44an 7 s') : g44D A n (pth 5271) K s = g44D A n (pth 5271) K s' := codeD_first (id := 7) (by kernel_rfl) h K
theorem g44p111010010011 (s' : St) (h : keep g44an 8 s = keep g44an 8 s') : g44D A n (pth 7319) K s = g44D A n (pth 7319) K s' := codeD_first (id := 8) (by kernel_rfl) h K
theorem g44p111010011 (s' : St) (h : keep g44an 5 s = keep g44an 5 s') : g44D A n (pth 919) K s = g44D A n (pth 919) K s' := codeD_first (id := 5) (by kernel_rfl) h K
theorem g44p1111 : g44D A n (pth 31) K s = g44D A n (pth 47) (g44Q A n (pth 63) K) s := by kernel_rfl
theorem g44p11110 (s' : St) (h : keep g44an 9 s = keep g44an 9 s') : g44D A n (pth 47) K s = g44D A n (pth 47) K s' := codeD_first (id := 9) (by kernel_rfl) h K
theorem g44p11111 : g44D A n (pth 63) K s = K .ret s := by kernel_rfl
theorem g44R6 (x0 : Nat) (x1 : Int) (x2 x3 : List Nat) (x4 x5 : List Nat) : g44D A n (pth 2199) K ⟨[(2, (pT 1000 0)), (3, (pT 1001 0)), (4, (pT 1002 0)), (5, (pT 2000 0)), (6, (u64v x0)), (7, (i6 x1))], [(1000, (bW 8 x2 47)), (1001, (bW 8 x3 47)), (1002, (bW 8 x4 47)), (2000, (bW 8 x5 47))]⟩ = match (generalizing := false) A.neg x1 with
    | true => none
    | false => match (generalizing := false) A.lt (A.toN x1) 8 with
      | true => match (generalizing := false) A.neg x1 with
        | true => none
        | false => match (generalizing := false) A.lt (A.toN x1) 8 with
          | true => K .normal ⟨[(8, (u64v (A.nb .sub .u64 (A.nb .sub .u64 (A.nb .add .u64 (x2.getD (A.toN x1) 0) 4294967296) (x3.getD (A.toN x1) 0)) x0))), (24, (u64v (A.nb .sub .u64 (A.nb .sub .u64 (A.nb .add .u64 (x2.getD (A.toN x1) 0) 4294967296) (x3.getD (A.toN x1) 0)) x0))), (23, (u64v x0)), (22, (u64v (A.nb .sub .u64 (A.nb .add .u64 (x2.getD (A.toN x1) 0) 4294967296) (x3.getD (A.toN x1) 0)))), (21, (u64v (x3.getD (A.toN x1) 0))), (20, (u32v (x3.getD (A.toN x1) 0))), (19, (.v (.cell (.ptr 1001 0 (some ⟨A.toN x1, 1, 8, 0, 0, 0⟩))))), (18, (i6 x1)), (17, (u64v (A.nb .add .u64 (x2.getD (A.toN x1) 0) 4294967296))), (16, (u64v (x2.getD (A.toN x1) 0))), (15, (u32v (x2.getD (A.toN x1) 0))), (14, (.v (.cell (.ptr 1000 0 (some ⟨A.toN x1, 1, 8, 0, 0, 0⟩))))), (13, (i6 x1)), (2, (pT 1000 0)), (3, (pT 1001 0)), (4, (pT 1002 0)), (5, (pT 2000 0)), (6, (u64v x0)), (7, (i6 x1))], [(1000, (bW 8 x2 47)), (1001, (bW 8 x3 47)), (1002, (bW 8 x4 47)), (2000, (bW 8 x5 47))]⟩
          | false => none
      | false => none := by kernel_rfl
theorem g44R7 (x0 : Int) (x1 : Nat) (x2 x3 : List Nat) (x4 x5 : List Nat) : g44D A n (pth 5271) K ⟨[(2, (pT 1000 0)), (3, (pT 1001 0)), (4, (pT 1002 0)), (5, (pT 2000 0)), (7, (i6 x0)), (8, (u64v x1))], [(1000, (bW 8 x2 47)), (1001, (bW 8 x3 47)), (1002, (bW 8 x4 47)), (2000, (bW 8 x5 47))]⟩ = match (generalizing := false) A.neg x0 with
    | true => none
    | false => match (generalizing := false) A.lt (A.toN x0) 8 with
      | true => K .normal ⟨[(28, (.v (.cell (.ptr 2000 0 (some ⟨A.toN x0, 1, 8, 0, 0, 0⟩))))), (27, (u32v (A.n2n .u32 x1))), (26, (u64v x1)), (25, (i6 x0)), (2, (pT 1000 0)), (3, (pT 1001 0)), (4, (pT 1002 0)), (5, (pT 2000 0)), (7, (i6 x0)), (8, (u64v x1))], [(1000, (bW 8 x2 47)), (1001, (bW 8 x3 47)), (1002, (bW 8 x4 47)), (2000, (bW 8 (x5.set (A.toN x0) (A.n2n .u32 x1)) 47))]⟩
      | false => none := by kernel_rfl
theorem g44R8 (x0 : Int) (x1 : Nat) (x2 x3 : List Nat) (x4 x5 : List Nat) : g44D A n (pth 7319) K ⟨[(2, (pT 1000 0)), (3, (pT 1001 0)), (4, (pT 1002 0)), (5, (pT 2000 0)), (7, (i6 x0)), (8, (u64v x1))], [(1000, (bW 8 x2 47)), (1001, (bW 8 x3 47)), (1002, (bW 8 x4 47)), (2000, (bW 8 x5 47))]⟩ = K .normal ⟨[(6, (u64v (A.nb .sub .u64 1 (A.nsh .shr .u64 x1 32)))), (31, (u64v (A.nb .sub .u64 1 (A.nsh .shr .u64 x1 32)))), (30, (u64v (A.nsh .shr .u64 x1 32))), (29, (u64v x1)), (2, (pT 1000 0)), (3, (pT 1001 0)), (4, (pT 1002 0)), (5, (pT 2000 0)), (7, (i6 x0)), (8, (u64v x1))], [(1000, (bW 8 x2 47)), (1001, (bW 8 x3 47)), (1002, (bW 8 x4 47)), (2000, (bW 8 x5 47))]⟩ := by kernel_rfl
theorem g44R5 (x0 : Nat) (x1 : Int) (x2 x3 : List Nat) (x4 x5 : List Nat) : g44D A n (pth 919) K ⟨[(2, (pT 1000 0)), (3, (pT 1001 0)), (4, (pT 1002 0)), (5, (pT 2000 0)), (6, (u64v x0)), (7, (i6 x1))], [(1000, (bW 8 x2 47)), (1001, (bW 8 x3 47)), (1002, (bW 8 x4 47)), (2000, (bW 8 x5 47))]⟩ = K .normal ⟨[(7, (i6 (A.ib .add .i64 x1 1))), (12, (i6 (A.ib .add .i64 x1 1))), (11, (i6 x1)), (2, (pT 1000 0)), (3, (pT 1001 0)), (4, (pT 1002 0)), (5, (pT 2000 0)), (6, (u64v x0)), (7, (i6 x1))], [(1000, (bW 8 x2 47)), (1001, (bW 8 x3 47)), (1002, (bW 8 x4 47)), (2000, (bW 8 x5 47))]⟩ := by kernel_rfl
theorem g44R4 (x0 : Nat) (x1 : Int) (x2 x3 : List Nat) (x4 x5 : List Nat) : g44D A n (pth 535) K ⟨[(2, (pT 1000 0)), (3, (pT 1001 0)), (4, (pT 1002 0)), (5, (pT 2000 0)), (6, (u64v x0)), (7, (i6 x1))], [(1000, (bW 8 x2 47)), (1001, (bW 8 x3 47)), (1002, (bW 8 x4 47)), (2000, (bW 8 x5 47))]⟩ = K .normal ⟨[(10, (bO (A.ic .lss x1 8))), (9, (i6 x1)), (2, (pT 1000 0)), (3, (pT 1001 0)), (4, (pT 1002 0)), (5, (pT 2000 0)), (6, (u64v x0)), (7, (i6 x1))], [(1000, (bW 8 x2 47)), (1001, (bW 8 x3 47)), (1002, (bW 8 x4 47)), (2000, (bW 8 x5 47))]⟩ := by kernel_rfl
theorem g44R9 (x0 x1 : List Nat) : g44D A n (pth 47) K ⟨[(4, (pT 1002 0)), (5, (pT 2000 0))], [(1002, (bW 8 x0 47)), (2000, (bW 8 x1 47))]⟩ = K .normal ⟨[(32, (aN .u32 8 x1)), (4, (pT 1002 0)), (5, (pT 2000 0))], [(1002, (bW 8 x1 47)), (2000, (bW 8 x1 47))]⟩ := by kernel_rfl
theorem g44R0 (x0 x1 : List Nat) : g44D A n (pth 2) K ⟨[(0, (aN .u32 8 x0)), (1, (aN .u32 8 x1))], []⟩ = K .normal ⟨[(4, (pT 1002 0)), (3, (pT 1001 0)), (2, (pT 1000 0)), (0, (aN .u32 8 x0)), (1, (aN .u32 8 x1))], [(1002, (bW 8 [0, 0, 0, 0, 0, 0, 0, 0] 47)), (1001, (bW 8 x1 47)), (1000, (bW 8 x0 47))]⟩ := by kernel_rfl
theorem g44R1 (x0 x1 x2 : List Nat) : g44D A n (pth 5) K ⟨[(2, (pT 1000 0)), (3, (pT 1001 0)), (4, (pT 1002 0))], [(1000, (bW 8 x0 47)), (1001, (bW 8 x1 47)), (1002, (bW 8 x2 47))]⟩ = K .normal ⟨[(5, (pT 2000 0)), (2, (pT 1000 0)), (3, (pT 1001 0)), (4, (pT 1002 0))], [(2000, (bW 8 [0, 0, 0, 0, 0, 0, 0, 0] 47)), (1000, (bW 8 x0 47)), (1001, (bW 8 x1 47)), (1002, (bW 8 x2 47))]⟩ := by kernel_rfl
theorem g44R2 (x0 x1 : List Nat) (x2 x3 : List Nat) : g44D A n (pth 11) K ⟨[(2, (pT 1000 0)), (3, (pT 1001 0)), (4, (pT 1002 0)), (5, (pT 2000 0))], [(1000, (bW 8 x0 47)), (1001, (bW 8 x1 47)), (1002, (bW 8 x2 47)), (2000, (bW 8 x3 47))]⟩ = K .normal ⟨[(6, (u64v 0)), (2, (pT 1000 0)), (3, (pT 1001 0)), (4, (pT 1002 0)), (5, (pT 2000 0))], [(1000, (bW 8 x0 47)), (1001, (bW 8 x1 47)), (1002, (bW 8 x2 47)), (2000, (bW 8 x3 47))]⟩ := by kernel_rfl
theorem g44R3 (x0 : Nat) (x1 x2 : List Nat) (x3 x4 : List Nat) : g44D A n (pth 39) K ⟨[(2, (pT 1000 0)), (3, (pT 1001 0)), (4, (pT 1002 0)), (5, (pT 2000 0)), (6, (u64v x0))], [(1000, (bW 8 x1 47)), (1001, (bW 8 x2 47)), (1002, (bW 8 x3 47)), (2000, (bW 8 x4 47))]⟩ = K .normal ⟨[(7, (i6 0)), (2, (pT 1000 0)), (3, (pT 1001 0)), (4, (pT 1002 0)), (5, (pT 2000 0)), (6, (u64v x0))], [(1000, (bW 8 x1 47)), (1001, (bW 8 x2 47)), (1002, (bW 8 x3 47)), (2000, (bW 8 x4 47))]⟩ := by kernel_rfl
end
def g44J6 {R : Type} (A : Ar) (n : Nat) (kk : AV → Heap → Option R) (lg44L4 : Nat → Int → List Nat → List Nat → List Nat → List Nat → Option R) (x0 : Nat) (x1 : Int) (x2 x3 : List Nat) (x4 x5 : List Nat) : Option R :=
  match (generalizing := false) A.neg x1 with
  | true => none
  | false => match (generalizing := false) A.lt (A.toN x1) 8 with
    | true => match (generalizing := false) A.neg x1 with
      | true => none
      | false => match (generalizing := false) A.lt (A.toN x1) 8 with
        | true => match (generalizing := false) A.neg x1 with
          | true => none
          | false => match (generalizing := false) A.lt (A.toN x1) 8 with
            | true => lg44L4 (A.nb .sub .u64 1 (A.nsh .shr .u64 (A.nb .sub .u64 (A.nb .sub .u64 (A.nb .add .u64 (x2.getD (A.toN x1) 0) 4294967296) (x3.getD (A.toN x1) 0)) x0) 32)) (A.ib .add .i64 x1 1) x2 x3 x4 (x5.set (A.toN x1) (A.n2n .u32 (A.nb .sub .u64 (A.nb .sub .u64 (A.nb .add .u64 (x2.getD (A.toN x1) 0) 4294967296) (x3.getD (A.toN x1) 0)) x0)))
            | false => none
        | false => none
    | false => none
set_option maxRecDepth 100000 in
theorem g44J6_eq {R : Type} (A : Ar) (n : Nat) (kk : AV → Heap → Option R) (m0 : Nat) (lg44L4 : Nat → Int → List Nat → List Nat → List Nat → List Nat → Option R) 
    (hg44L4 : ∀ (s : St) (x0 : Nat) (x1 : Int) (x2 x3 : List Nat) (x4 x5 : List Nat), keep g44an 4 s = ⟨[(2, (pT 1000 0)), (3, (pT 1001 0)), (4, (pT 1002 0)), (5, (pT 2000 0)), (6, (u64v x0)), (7, (i6 x1))], [(1000, (bW 8 x2 47)), (1001, (bW 8 x3 47)), (1002, (bW 8 x4 47)), (2000, (bW 8 x5 47))]⟩ → g44V A n (pth 151) m0 (blockK 0 (g44Q A n (pth 31) (g44T kk))) s = lg44L4 x0 x1 x2 x3 x4 x5) (s : St) (x0 : Nat) (x1 : Int) (x2 x3 : List Nat) (x4 x5 : List Nat) (h : keep g44an 6 s = ⟨[(2, (pT 1000 0)), (3, (pT 1001 0)), (4, (pT 1002 0)), (5, (pT 2000 0)), (6, (u64v x0)), (7, (i6 x1))], [(1000, (bW 8 x2 47)), (1001, (bW 8 x3 47)), (1002, (bW 8 x4 47)), (2000, (bW 8 x5 47))]⟩) :
    g44D A n (pth 407) (g44W A n (pth 151) m0 (blockK 0 (g44Q A n (pth 31) (g44T kk)))) s = g44J6 A n kk lg44L4 x0 x1 x2 x3 x4 x5 := by
  have h9 := (g44Wn A n _ _ _ _).trans (hg44L4 ⟨[(7, (i6 (A.ib .add .i64 x1 1))), (12, (i6 (A.ib .add .i64 x1 1))), (11, (i6 x1)), (2, (pT 1000 0)), (3, (pT 1001 0)), (4, (pT 1002 0)), (5, (pT 2000 0)), (6, (u64v (A.nb .sub .u64 1 (A.nsh .shr .u64 (A.nb .sub .u64 (A.nb .sub .u64 (A.nb .add .u64 (x2.getD (A.toN x1) 0) 4294967296) (x3.getD (A.toN x1) 0)) x0) 32)))), (7, (i6 x1))], [(1000, (bW 8 x2 47)), (1001, (bW 8 x3 47)), (1002, (bW 8 x4 47)), (2000, (bW 8 (x5.set (A.toN x1) (A.n2n .u32 (A.nb .sub .u64 (A.nb .sub .u64 (A.nb .add .u64 (x2.getD (A.toN x1) 0) 4294967296) (x3.getD (A.toN x1) 0)) x0))) 47))]⟩ (A.nb .sub .u64 1 (A.nsh .shr .u64 (A.nb .sub .u64 (A.nb .sub .u64 (A.nb .add .u64 (x2.getD (A.toN x1) 0) 4294967296) (x3.getD (A.toN x1) 0)) x0) 32)) (A.ib .add .i64 x1 1) x2 x3 x4 (x5.set (A.toN x1) (A.n2n .u32 (A.nb .sub .u64 (A.nb .sub .u64 (A.nb .add .u64 (x2.getD (A.toN x1) 0) 4294967296) (x3.getD (A.toN x1) 0)) x0))) (by kernel_rfl))
  have h7 := g44R5 A n (g44W A n (pth 151) m0 (blockK 0 (g44Q A n (pth 31) (g44T kk)))) (A.nb .sub .u64 1 (A.nsh .shr .u64 (A.nb .sub .u64 (A.nb .sub .u64 (A.nb .add .u64 (x2.getD (A.toN x1) 0) 4294967296) (x3.getD (A.toN x1) 0)) x0) 32)) x1 x2 x3 x4 (x5.set (A.toN x1) (A.n2n .u32 (A.nb .sub .u64 (A.nb .sub .u64 (A.nb .add .u64 (x2.getD (A.toN x1) 0) 4294967296) (x3.getD (A.toN x1) 0)) x0)))
  have h10 := (g44p111010011 A n _ ⟨[(6, (u64v (A.nb .sub .u64 1 (A.nsh .shr .u64 (A.nb .sub .u64 (A.nb .sub .u64 (A.nb .add .u64 (x2.getD (A.toN x1) 0) 4294967296) (x3.getD (A.toN x1) 0)) x0) 32)))), (31, (u64v (A.nb .sub .u64 1 (A.nsh .shr .u64 (A.nb .sub .u64 (A.nb .sub .u64 (A.nb .add .u64 (x2.getD (A.toN x1) 0) 4294967296) (x3.getD (A.toN x1) 0)) x0) 32)))), (30, (u64v (A.nsh .shr .u64 (A.nb .sub .u64 (A.nb .sub .u64 (A.nb .add .u64 (x2.getD (A.toN x1) 0) 4294967296) (x3.getD (A.toN x1) 0)) x0) 32))), (29, (u64v (A.nb .sub .u64 (A.nb .sub .u64 (A.nb .add .u64 (x2.getD (A.toN x1) 0) 4294967296) (x3.getD (A.toN x1) 0)) x0))), (2, (pT 1000 0)), (3, (pT 1001 0)), (4, (pT 1002 0)), (5, (pT 2000 0)), (7, (i6 x1)), (8, (u64v (A.nb .sub .u64 (A.nb .sub .u64 (A.nb .add .u64 (x2.getD (A.toN x1) 0) 4294967296) (x3.getD (A.toN x1) 0)) x0)))], [(1000, (bW 8 x2 47)), (1001, (bW 8 x3 47)), (1002, (bW 8 x4 47)), (2000, (bW 8 (x5.set (A.toN x1) (A.n2n .u32 (A.nb .sub .u64 (A.nb .sub .u64 (A.nb .add .u64 (x2.getD (A.toN x1) 0) 4294967296) (x3.getD (A.toN x1) 0)) x0))) 47))]⟩ _ (by kernel_rfl)).trans h7
  rw [h9] at h10
  have h11 := (g44Qn A n _ _ _).trans h10
  have h12 := (blockK_n 1 _ _).trans h11
  have h5 := g44R8 A n (blockK 1 (g44Q A n (pth 919) (g44W A n (pth 151) m0 (blockK 0 (g44Q A n (pth 31) (g44T kk)))))) x1 (A.nb .sub .u64 (A.nb .sub .u64 (A.nb .add .u64 (x2.getD (A.toN x1) 0) 4294967296) (x3.getD (A.toN x1) 0)) x0) x2 x3 x4 (x5.set (A.toN x1) (A.n2n .u32 (A.nb .sub .u64 (A.nb .sub .u64 (A.nb .add .u64 (x2.getD (A.toN x1) 0) 4294967296) (x3.getD (A.toN x1) 0)) x0)))
  have h13 := (g44p111010010011 A n _ ⟨[(28, (.v (.cell (.ptr 2000 0 (some ⟨A.toN x1, 1, 8, 0, 0, 0⟩))))), (27, (u32v (A.n2n .u32 (A.nb .sub .u64 (A.nb .sub .u64 (A.nb .add .u64 (x2.getD (A.toN x1) 0) 4294967296) (x3.getD (A.toN x1) 0)) x0)))), (26, (u64v (A.nb .sub .u64 (A.nb .sub .u64 (A.nb .add .u64 (x2.getD (A.toN x1) 0) 4294967296) (x3.getD (A.toN x1) 0)) x0))), (25, (i6 x1)), (2, (pT 1000 0)), (3, (pT 1001 0)), (4, (pT 1002 0)), (5, (pT 2000 0)), (7, (i6 x1)), (8, (u64v (A.nb .sub .u64 (A.nb .sub .u64 (A.nb .add .u64 (x2.getD (A.toN x1) 0) 4294967296) (x3.getD (A.toN x1) 0)) x0)))], [(1000, (bW 8 x2 47)), (1001, (bW 8 x3 47)), (1002, (bW 8 x4 47)), (2000, (bW 8 (x5.set (A.toN x1) (A.n2n .u32 (A.nb .sub .u64 (A.nb .sub .u64 (A.nb .add .u64 (x2.getD (A.toN x1) 0) 4294967296) (x3.getD (A.toN x1) 0)) x0))) 47))]⟩ _ (by kernel_rfl)).trans h5
  rw [h12] at h13
  have h14 := (g44Qn A n _ _ _).trans h13
  have h3 := g44R7 A n (g44Q A n (pth 7319) (blockK 1 (g44Q A n (pth 919) (g44W A n (pth 151) m0 (blockK 0 (g44Q A n (pth 31) (g44T kk))))))) x1 (A.nb .sub .u64 (A.nb .sub .u64 (A.nb .add .u64 (x2.getD (A.toN x1) 0) 4294967296) (x3.getD (A.toN x1) 0)) x0) x2 x3 x4 x5
  have h15 := (g44p111010010010 A n _ ⟨[(8, (u64v (A.nb .sub .u64 (A.nb .sub .u64 (A.nb .add .u64 (x2.getD (A.toN x1) 0) 4294967296) (x3.getD (A.toN x1) 0)) x0))), (24, (u64v (A.nb .sub .u64 (A.nb .sub .u64 (A.nb .add .u64 (x2.getD (A.toN x1) 0) 4294967296) (x3.getD (A.toN x1) 0)) x0))), (23, (u64v x0)), (22, (u64v (A.nb .sub .u64 (A.nb .add .u64 (x2.getD (A.toN x1) 0) 4294967296) (x3.getD (A.toN x1) 0)))), (21, (u64v (x3.getD (A.toN x1) 0))), (20, (u32v (x3.getD (A.toN x1) 0))), (19, (.v (.cell (.ptr 1001 0 (some ⟨A.toN x1, 1, 8, 0, 0, 0⟩))))), (18, (i6 x1)), (17, (u64v (A.nb .add .u64 (x2.getD (A.toN x1) 0) 4294967296))), (16, (u64v (x2.getD (A.toN x1) 0))), (15, (u32v (x2.getD (A.toN x1) 0))), (14, (.v (.cell (.ptr 1000 0 (some ⟨A.toN x1, 1, 8, 0, 0, 0⟩))))), (13, (i6 x1)), (2, (pT 1000 0)), (3, (pT 1001 0)), (4, (pT 1002 0)), (5, (pT 2000 0)), (6, (u64v x0)), (7, (i6 x1))], [(1000, (bW 8 x2 47)), (1001, (bW 8 x3 47)), (1002, (bW 8 x4 47)), (2000, (bW 8 x5 47))]⟩ _ (by kernel_rfl)).trans h3
  rw [h14] at h15
  have h16 := (g44p11101001001 A n _ _).trans h15
  have h17 := (g44Qn A n _ _ _).trans h16
  have h1 := g44R6 A n (g44Q A n (pth 3223) (blockK 1 (g44Q A n (pth 919) (g44W A n (pth 151) m0 (blockK 0 (g44Q A n (pth 31) (g44T kk))))))) x0 x1 x2 x3 x4 x5
  have h18 := (g44p11101001000 A n _ ⟨[(2, (pT 1000 0)), (3, (pT 1001 0)), (4, (pT 1002 0)), (5, (pT 2000 0)), (6, (u64v x0)), (7, (i6 x1))], [(1000, (bW 8 x2 47)), (1001, (bW 8 x3 47)), (1002, (bW 8 x4 47)), (2000, (bW 8 x5 47))]⟩ _ (by kernel_rfl)).trans h1
  rw [h17] at h18
  have h19 := (g44p1110100100 A n _ _).trans h18
  have h20 := (g44p111010010 A n _ _).trans h19
  have h21 := (g44p11101001 A n _ _).trans h20
  exact (codeD_first (s' := ⟨[(2, (pT 1000 0)), (3, (pT 1001 0)), (4, (pT 1002 0)), (5, (pT 2000 0)), (6, (u64v x0)), (7, (i6 x1))], [(1000, (bW 8 x2 47)), (1001, (bW 8 x3 47)), (1002, (bW 8 x4 47)), (2000, (bW 8 x5 47))]⟩) (id := 6) (by kernel_rfl) (h.trans (by kernel_rfl)) _).trans (h21.trans (by kernel_rfl))
def g44L4 {R : Type} (A : Ar) (n : Nat) (kk : AV → Heap → Option R)  : Nat → Nat → Int → List Nat → List Nat → List Nat → List Nat → Option R
  | 0, _, _, _, _, _, _ => none
  | m + 1, x0, x1, x2, x3, x4, x5 => match (generalizing := false) A.ic .lss x1 8 with
  | true => g44J6 A n kk (g44L4 A n kk  m) x0 x1 x2 x3 x4 x5
  | false => kk (aN .u32 8 x5) [(1002, (bW 8 x5 47)), (2000, (bW 8 x5 47))]
set_option maxRecDepth 100000 in
theorem g44L4_eq {R : Type} (A : Ar) (n : Nat) (kk : AV → Heap → Option R)    (m : Nat) (s : St) (x0 : Nat) (x1 : Int) (x2 x3 : List Nat) (x4 x5 : List Nat) (h : keep g44an 4 s = ⟨[(2, (pT 1000 0)), (3, (pT 1001 0)), (4, (pT 1002 0)), (5, (pT 2000 0)), (6, (u64v x0)), (7, (i6 x1))], [(1000, (bW 8 x2 47)), (1001, (bW 8 x3 47)), (1002, (bW 8 x4 47)), (2000, (bW 8 x5 47))]⟩) :
    g44V A n (pth 151) m (blockK 0 (g44Q A n (pth 31) (g44T kk))) s = g44L4 A n kk  m x0 x1 x2 x3 x4 x5 := by
  induction m generalizing s x0 x1 x2 x3 x4 x5 with
  | zero => rfl
  | succ m ih =>
    have h3 := (g44Qn A n _ _ _).trans (g44J6_eq A n kk m (g44L4 A n kk  m) ih  ⟨[(10, (bO (A.ic .lss x1 8))), (9, (i6 x1)), (2, (pT 1000 0)), (3, (pT 1001 0)), (4, (pT 1002 0)), (5, (pT 2000 0)), (6, (u64v x0)), (7, (i6 x1))], [(1000, (bW 8 x2 47)), (1001, (bW 8 x3 47)), (1002, (bW 8 x4 47)), (2000, (bW 8 x5 47))]⟩ x0 x1 x2 x3 x4 x5 (by kernel_rfl))
    have h4 := (g44p1110100010 A n _ _).trans h3
    have h7 : (g44T kk) .ret ⟨[(32, (aN .u32 8 x5)), (4, (pT 1002 0)), (5, (pT 2000 0))], [(1002, (bW 8 x5 47)), (2000, (bW 8 x5 47))]⟩ = kk (aN .u32 8 x5) [(1002, (bW 8 x5 47)), (2000, (bW 8 x5 47))] := by kernel_rfl
    have h8 := (g44p11111 A n _ _).trans h7
    have h9 := (g44Qn A n _ _ _).trans h8
    have h5 := g44R9 A n (g44Q A n (pth 63) (g44T kk)) x4 x5
    have h10 := (g44p11110 A n _ ⟨[(10, (bO (A.ic .lss x1 8))), (9, (i6 x1)), (2, (pT 1000 0)), (3, (pT 1001 0)), (4, (pT 1002 0)), (5, (pT 2000 0)), (6, (u64v x0)), (7, (i6 x1))], [(1000, (bW 8 x2 47)), (1001, (bW 8 x3 47)), (1002, (bW 8 x4 47)), (2000, (bW 8 x5 47))]⟩ _ (by kernel_rfl)).trans h5
    rw [h9] at h10
    have h11 := (g44p1111 A n _ _).trans h10
    have h12 := (g44Qn A n _ _ _).trans h11
    have h13 := (blockK_hit 0 _ _).trans h12
    have h14 := (g44We A n (pth 151) m _ _ _).trans h13
    have h15 := (g44Qe A n (pth 407) _ _ _).trans h14
    have h16 := (g44p1110100011 A n _ _).trans h15
    have h17 := g44p111010001 A n (g44Q A n (pth 407) (g44W A n (pth 151) m (blockK 0 (g44Q A n (pth 31) (g44T kk))))) ⟨[(10, (bO (A.ic .lss x1 8))), (9, (i6 x1)), (2, (pT 1000 0)), (3, (pT 1001 0)), (4, (pT 1002 0)), (5, (pT 2000 0)), (6, (u64v x0)), (7, (i6 x1))], [(1000, (bW 8 x2 47)), (1001, (bW 8 x3 47)), (1002, (bW 8 x4 47)), (2000, (bW 8 x5 47))]⟩ (A.ic .lss x1 8) (by kernel_rfl)
    rw [h4, h16] at h17
    have h18 := (g44Qn A n _ _ _).trans h17
    have h1 := g44R4 A n (g44Q A n (pth 791) (g44Q A n (pth 407) (g44W A n (pth 151) m (blockK 0 (g44Q A n (pth 31) (g44T kk)))))) x0 x1 x2 x3 x4 x5
    have h19 := (g44p111010000 A n _ ⟨[(2, (pT 1000 0)), (3, (pT 1001 0)), (4, (pT 1002 0)), (5, (pT 2000 0)), (6, (u64v x0)), (7, (i6 x1))], [(1000, (bW 8 x2 47)), (1001, (bW 8 x3 47)), (1002, (bW 8 x4 47)), (2000, (bW 8 x5 47))]⟩ _ (by kernel_rfl)).trans h1
    rw [h18] at h19
    have h20 := (g44p11101000 A n _ _).trans h19
    have h21 := (g44p1110100 A n _ _).trans h20
    exact (loopD_first (s' := ⟨[(2, (pT 1000 0)), (3, (pT 1001 0)), (4, (pT 1002 0)), (5, (pT 2000 0)), (6, (u64v x0)), (7, (i6 x1))], [(1000, (bW 8 x2 47)), (1001, (bW 8 x3 47)), (1002, (bW 8 x4 47)), (2000, (bW 8 x5 47))]⟩) (id := 4) (by kernel_rfl) (h.trans (by kernel_rfl)) _).trans ((g44Vs A n _ m _ _).trans (h21.trans (by kernel_rfl)))
def g44 {R : Type} (A : Ar) (n : Nat) (kk : AV → Heap → Option R) (a b : List Nat) : Option R :=
  g44L4 A n kk  n 0 0 a b [0, 0, 0, 0, 0, 0, 0, 0] [0, 0, 0, 0, 0, 0, 0, 0]
set_option maxRecDepth 100000 in
theorem g44_eq {R : Type} (A : Ar) (n : Nat) (kk : AV → Heap → Option R) (a b : List Nat) :
    funD A gtys (g44O A) g44an n (bodyOf Try.f44) g44res [(aN .u32 8 a), (aN .u32 8 b)] [] kk = g44 A n kk a b := by
  have h9 := (g44p111010 A n _ _).trans (g44L4_eq A n kk    n ⟨[(7, (i6 0)), (2, (pT 1000 0)), (3, (pT 1001 0)), (4, (pT 1002 0)), (5, (pT 2000 0)), (6, (u64v 0))], [(1000, (bW 8 a 47)), (1001, (bW 8 b 47)), (1002, (bW 8 [0, 0, 0, 0, 0, 0, 0, 0] 47)), (2000, (bW 8 [0, 0, 0, 0, 0, 0, 0, 0] 47))]⟩ 0 0 a b [0, 0, 0, 0, 0, 0, 0, 0] [0, 0, 0, 0, 0, 0, 0, 0] (by kernel_rfl))
  have h10 := (g44p11101 A n _ _).trans h9
  have h11 := (g44Qn A n _ _ _).trans h10
  have h7 := g44R3 A n (g44Q A n (pth 55) (g44Q A n (pth 31) (g44T kk))) 0 a b [0, 0, 0, 0, 0, 0, 0, 0] [0, 0, 0, 0, 0, 0, 0, 0]
  have h12 := (g44p11100 A n _ ⟨[(6, (u64v 0)), (2, (pT 1000 0)), (3, (pT 1001 0)), (4, (pT 1002 0)), (5, (pT 2000 0))], [(1000, (bW 8 a 47)), (1001, (bW 8 b 47)), (1002, (bW 8 [0, 0, 0, 0, 0, 0, 0, 0] 47)), (2000, (bW 8 [0, 0, 0, 0, 0, 0, 0, 0] 47))]⟩ _ (by kernel_rfl)).trans h7
  rw [h11] at h12
  have h13 := (g44p1110 A n _ _).trans h12
  have h14 := (g44p111 A n _ _).trans h13
  have h15 := (g44Qn A n _ _ _).trans h14
  have h5 := g44R2 A n (g44Q A n (pth 15) (g44T kk)) a b [0, 0, 0, 0, 0, 0, 0, 0] [0, 0, 0, 0, 0, 0, 0, 0]
  have h16 := (g44p110 A n _ ⟨[(5, (pT 2000 0)), (2, (pT 1000 0)), (3, (pT 1001 0)), (4, (pT 1002 0))], [(2000, (bW 8 [0, 0, 0, 0, 0, 0, 0, 0] 47)), (1000, (bW 8 a 47)), (1001, (bW 8 b 47)), (1002, (bW 8 [0, 0, 0, 0, 0, 0, 0, 0] 47))]⟩ _ (by kernel_rfl)).trans h5
  rw [h15] at h16
  have h17 := (g44p11 A n _ _).trans h16
  have h18 := (g44Qn A n _ _ _).trans h17
  have h3 := g44R1 A n (g44Q A n (pth 7) (g44T kk)) a b [0, 0, 0, 0, 0, 0, 0, 0]
  have h19 := (g44p10 A n _ ⟨[(4, (pT 1002 0)), (3, (pT 1001 0)), (2, (pT 1000 0)), (0, (aN .u32 8 a)), (1, (aN .u32 8 b))], [(1002, (bW 8 [0, 0, 0, 0, 0, 0, 0, 0] 47)), (1001, (bW 8 b 47)), (1000, (bW 8 a 47))]⟩ _ (by kernel_rfl)).trans h3
  rw [h18] at h19
  have h20 := (g44p1 A n _ _).trans h19
  have h21 := (g44Qn A n _ _ _).trans h20
  have h1 := g44R0 A n (g44Q A n (pth 3) (g44T kk)) a b
  have h22 := (g44p0 A n _ ⟨[(0, (aN .u32 8 a)), (1, (aN .u32 8 b))], []⟩ _ (by kernel_rfl)).trans h1
  rw [h21] at h22
  have h23 := (g44p A n _ _).trans h22
  exact (show funD A gtys (g44O A) g44an n (bodyOf Try.f44) g44res [(aN .u32 8 a), (aN .u32 8 b)] [] kk = g44D A n (pth 1) (g44T kk) ⟨[(0, (aN .u32 8 a)), (1, (aN .u32 8 b))], []⟩ from by kernel_rfl).trans (h23.trans (by kernel_rfl))
def g44is (o : Option AV) : Bool := match o with
  | some (aN .u32 8 _) => true
  | _ => false
def g44g0 (o : Option AV) : List Nat := match o with
  | some (aN .u32 8 x) => x
  | _ => []
theorem g44is_spec {o : Option AV} (h : g44is o = true) : o = some (aN .u32 8 (g44g0 o)) := by
  unfold g44is at h
  split at h
  · rfl
  · cases h
def g44v (A : Ar) (a b : List Nat) : Option AV := g44 A (100000) (fun v _ => some v) a b
def g44ok (A : Ar) (a b : List Nat) : Bool := g44is (g44v A a b)
def g44r0 (A : Ar) (a b : List Nat) : List Nat := g44g0 (g44v A a b)
theorem g44ok_spec {A : Ar} {a b} (h : g44ok A a b = true) : g44v A a b = some (aN .u32 8 (g44r0 A a b)) := g44is_spec h
def g44o (A : Ar) (args : List AV) : Option (Bool × AV) := match args with
  | [.v (.agg [.nums .u32 n0 a]), .v (.agg [.nums .u32 n1 b])] => some (Nat.beq n0 8 && (Nat.beq n1 8 && (g44ok A a b)), .v (.agg [.nums .u32 8 (g44r0 A a b)]))
  | _ => none
theorem g44o_sound : ∀ args v, g44o realA args = some (true, v) → Fn1 Try.prog 44 args v := by
  intro args v h
  unfold g44o at h
  split at h
  · rename_i n0 a n1 b
    simp only [Option.some.injEq, Prod.mk.injEq] at h
    obtain ⟨hc, h⟩ := h
    subst h
    · skip
      simp only [Bool.and_eq_true] at hc
      have en0 := beq_true hc.1
      subst en0
      replace hc := hc.2
      have en1 := beq_true hc.1
      subst en1
      replace hc := hc.2
      exact fn1_of mixed gtysOK g44O_sound g44O_det (an := g44an) (n := 100000) Try.func44 (c := bodyOf Try.f44) rfl (by kernel_rfl) Try.call44 (Nat.le_of_ble_eq_true rfl) (fun b => rfl) (fun _ => (g44_eq realA (100000) (fun v _ => some v) a b).trans (show g44v realA a b = _ from g44ok_spec hc))
  · cases h
/- engrosser/engrosserref03.below -/
def g41O (A : Ar) : Orc := orcOf [(45, g45o A), (48, g48o A), (44, g44o A)]
theorem g41O_sound : OSound Try.prog (g41O realA) := orc_sound fun f g hm args v hv => by
  simp only [List.mem_cons, List.not_mem_nil, or_false, Prod.mk.injEq] at hm
  rcases hm with ⟨rfl, rfl⟩ | ⟨rfl, rfl⟩ | ⟨rfl, rfl⟩
  · exact g45o_sound _ _ hv
  · exact g48o_sound _ _ hv
  · exact g44o_sound _ _ hv
theorem g41O_det : ODet (g41O realA) := orc_det _
def g41an : Ann := [(0, ([0], [])), (1, ([1, 2], [1000, 1001])), (2, ([1, 2], [1000, 1001])), (3, ([1, 2], [1000, 1001]))]
def g41res : List ResultVar := [.cell 2 47]
noncomputable def g41D {R : Type} (A : Ar) (n : Nat) (p : List Bool) (K : Ex → St → Option R) (s : St) : Option R := codeD A gtys (g41O A) g41an n (sub (bodyOf Try.f41) p) K s
noncomputable def g41V {R : Type} (A : Ar) (n : Nat) (p : List Bool) (m : Nat) (K : Ex → St → Option R) (s : St) : Option R := loopD (fun K' s'' => codeD A gtys (g41O A) g41an n (sub (bodyOf Try.f41) p) K' s'') m K s
noncomputable def g41Q {R : Type} (A : Ar) (n : Nat) (p : List Bool) (K : Ex → St → Option R) : Ex → St → Option R := seqC (g41D A n p K) K
noncomputable def g41W {R : Type} (A : Ar) (n : Nat) (p : List Bool) (m : Nat) (K : Ex → St → Option R) : Ex → St → Option R := seqC (g41V A n p m K) K
noncomputable def g41T {R : Type} (kk : AV → Heap → Option R) : Ex → St → Option R := finD gtys g41res kk
theorem g41Qn {R : Type} (A : Ar) (n : Nat) (p : List Bool) (K : Ex → St → Option R) (s : St) : g41Q A n p K .normal s = g41D A n p K s := rfl
theorem g41Qe {R : Type} (A : Ar) (n : Nat) (p : List Bool) (K : Ex → St → Option R) (i : Nat) (s : St) : g41Q A n p K (.exit i) s = K (.exit i) s := rfl
theorem g41Wn {R : Type} (A : Ar) (n : Nat) (p : List Bool) (m : Nat) (K : Ex → St → Option R) (s : St) : g41W A n p m K .normal s = g41V A n p m K s := rfl
theorem g41We {R : Type} (A : Ar) (n : Nat) (p : List Bool) (m : Nat) (K : Ex → St → Option R) (i : Nat) (s : St) : g41W A n p m K (.exit i) s = K (.exit i) s := rfl
theorem g41Vs {R : Type} (A : Ar) (n : Nat) (p : List Bool) (m : Nat) (K : Ex → St → Option R) (s : St) : g41V A n p (m + 1) K s = g41D A n p (g41W A n p m K) s := rfl
section
variable {R : Type} (A : Ar) (n : Nat) (K : Ex → St → Option R) (s : St)
theorem g41p : g41D A n (pth 1) K s = g41D A n (pth 2) (g41Q A n (pth 3) K) s := by kernel_rfl
theorem g41p0 (s' : St) (h : keep g41an 0 s = keep g41an 0 s') : g41D A n (pth 2) K s = g41D A n (pth 2) K s' := codeD_first (id := 0) (by kernel_rfl) h K
theorem g41p1 : g41D A n (pth 3) K s = g41D A n (pth 5) (g41Q A n (pth 7) K) s := by kernel_rfl
theorem g41p10 : g41D A n (pth 5) K s = g41D A n (pth 9) (blockK 0 K) s := by kernel_rfl
theorem g41p100 : g41D A n (pth 9) K s = g41V A n (pth 17) n K s := by kernel_rfl
theorem g41p1000 : g41D A n (pth 17) K s = g41D A n (pth 33) (g41Q A n (pth 49) K) s := by kernel_rfl
theorem g41p10000 : g41D A n (pth 33) K s = g41D A n (pth 65) (g41Q A n (pth 97) K) s := by kernel_rfl
theorem g41p100000 (s' : St) (h : keep g41an 1 s = keep g41an 1 s') : g41D A n (pth 65) K s = g41D A n (pth 65) K s' := codeD_first (id := 1) (by kernel_rfl) h K
theorem g41p100001 (t : Bool) : ev s (.tmp 6) = some (.v (.cell (.bool t))) → g41D A n (pth 97) K s = (match t with
    | true => g41D A n (pth 161) K s
    | false => g41D A n (pth 225) K s) := codeD_cond t
theorem g41p1000010 : g41D A n (pth 161) K s = K .normal s := by kernel_rfl
theorem g41p1000011 : g41D A n (pth 225) K s = K (.exit 0) s := by kernel_rfl
theorem g41p10001 : g41D A n (pth 49) K s = g41D A n (pth 81) (blockK 1 K) s := by kernel_rfl
theorem g41p100010 (s' : St) (h : keep g41an 2 s = keep g41an 2 s') : g41D A n (pth 81) K s = g41D A n (pth 81) K s' := codeD_first (id := 2) (by kernel_rfl) h K
theorem g41p11 : g41D A n (pth 7) K s = g41D A n (pth 11) (g41Q A n (pth 15) K) s := by kernel_rfl
theorem g41p110 (s' : St) (h : keep g41an 3 s = keep g41an 3 s') : g41D A n (pth 11) K s = g41D A n (pth 11) K s' := codeD_first (id := 3) (by kernel_rfl) h K
theorem g41p111 : g41D A n (pth 15) K s = K .ret s := by kernel_rfl
theorem g41R1 (x0 x1 : List Nat) : g41D A n (pth 65) K ⟨[(1, (pT 1000 0)), (2, (pT 1001 0))], [(1000, (bW 8 x0 47)), (1001, (bW 8 x1 47))]⟩ = match (generalizing := false) g45ok A with
    | true => match (generalizing := false) g48ok A x0 (g45r0 A) with
      | true => K .normal ⟨[(6, (bO (!(g48r0 A x0 (g45r0 A))))), (5, (bO (g48r0 A x0 (g45r0 A)))), (4, (aN .u32 8 (g45r0 A))), (3, (aN .u32 8 x0)), (1, (pT 1000 0)), (2, (pT 1001 0))], [(1000, (bW 8 x0 47)), (1001, (bW 8 x1 47))]⟩
      | false => none
    | false => none := by kernel_rfl
theorem g41R2 (x0 x1 : List Nat) : g41D A n (pth 81) K ⟨[(1, (pT 1000 0)), (2, (pT 1001 0))], [(1000, (bW 8 x0 47)), (1001, (bW 8 x1 47))]⟩ = match (generalizing := false) g45ok A with
    | true => match (generalizing := false) g44ok A x0 (g45r0 A) with
      | true => K .normal ⟨[(9, (aN .u32 8 (g44r0 A x0 (g45r0 A)))), (8, (aN .u32 8 (g45r0 A))), (7, (aN .u32 8 x0)), (1, (pT 1000 0)), (2, (pT 1001 0))], [(1000, (bW 8 (g44r0 A x0 (g45r0 A)) 47)), (1001, (bW 8 x1 47))]⟩
      | false => none
    | false => none := by kernel_rfl
theorem g41R3 (x0 x1 : List Nat) : g41D A n (pth 11) K ⟨[(1, (pT 1000 0)), (2, (pT 1001 0))], [(1000, (bW 8 x0 47)), (1001, (bW 8 x1 47))]⟩ = K .normal ⟨[(10, (aN .u32 8 x0)), (1, (pT 1000 0)), (2, (pT 1001 0))], [(1000, (bW 8 x0 47)), (1001, (bW 8 x0 47))]⟩ := by kernel_rfl
theorem g41R0 (x0 : List Nat) : g41D A n (pth 2) K ⟨[(0, (aN .u32 8 x0))], []⟩ = K .normal ⟨[(2, (pT 1001 0)), (1, (pT 1000 0)), (0, (aN .u32 8 x0))], [(1001, (bW 8 [0, 0, 0, 0, 0, 0, 0, 0] 47)), (1000, (bW 8 x0 47))]⟩ := by kernel_rfl
end
def g41L1 {R : Type} (A : Ar) (n : Nat) (kk : AV → Heap → Option R)  : Nat → List Nat → List Nat → Option R
  | 0, _, _ => none
  | m + 1, x0, x1 => match (generalizing := false) g45ok A with
  | true => match (generalizing := false) g48ok A x0 (g45r0 A) with
    | true => match (generalizing := false) !(g48r0 A x0 (g45r0 A)) with
      | true => match (generalizing := false) g45ok A with
        | true => match (generalizing := false) g44ok A x0 (g45r0 A) with
          | true => g41L1 A n kk  m (g44r0 A x0 (g45r0 A)) x1
          | false => none
        | false => none
      | false => kk (aN .u32 8 x0) [(1000, (bW 8 x0 47)), (1001, (bW 8 x0 47))]
    | false => none
  | false => none
set_option maxRecDepth 100000 in
theorem g41L1_eq {R : Type} (A : Ar) (n : Nat) (kk : AV → Heap → Option R)    (m : Nat) (s : St) (x0 x1 : List Nat) (h : keep g41an 1 s = ⟨[(1, (pT 1000 0)), (2, (pT 1001 0))], [(1000, (bW 8 x0 47)), (1001, (bW 8 x1 47))]⟩) :
    g41V A n (pth 17) m (blockK 0 (g41Q A n (pth 7) (g41T kk))) s = g41L1 A n kk  m x0 x1 := by
  induction m generalizing s x0 x1 with
  | zero => rfl
  | succ m ih =>
    have h5 := (g41Wn A n _ _ _ _).trans (ih ⟨[(9, (aN .u32 8 (g44r0 A x0 (g45r0 A)))), (8, (aN .u32 8 (g45r0 A))), (7, (aN .u32 8 x0)), (1, (pT 1000 0)), (2, (pT 1001 0))], [(1000, (bW 8 (g44r0 A x0 (g45r0 A)) 47)), (1001, (bW 8 x1 47))]⟩ (g44r0 A x0 (g45r0 A)) x1 (by kernel_rfl))
    have h6 := (blockK_n 1 _ _).trans h5
    have h3 := g41R2 A n (blockK 1 (g41W A n (pth 17) m (blockK 0 (g41Q A n (pth 7) (g41T kk))))) x0 x1
    have h7 := (g41p100010 A n _ ⟨[(6, (bO (!(g48r0 A x0 (g45r0 A))))), (5, (bO (g48r0 A x0 (g45r0 A)))), (4, (aN .u32 8 (g45r0 A))), (3, (aN .u32 8 x0)), (1, (pT 1000 0)), (2, (pT 1001 0))], [(1000, (bW 8 x0 47)), (1001, (bW 8 x1 47))]⟩ _ (by kernel_rfl)).trans h3
    rw [h6] at h7
    have h8 := (g41p10001 A n _ _).trans h7
    have h9 := (g41Qn A n _ _ _).trans h8
    have h10 := (g41p1000010 A n _ _).trans h9
    have h13 : (g41T kk) .ret ⟨[(10, (aN .u32 8 x0)), (1, (pT 1000 0)), (2, (pT 1001 0))], [(1000, (bW 8 x0 47)), (1001, (bW 8 x0 47))]⟩ = kk (aN .u32 8 x0) [(1000, (bW 8 x0 47)), (1001, (bW 8 x0 47))] := by kernel_rfl
    have h14 := (g41p111 A n _ _).trans h13
    have h15 := (g41Qn A n _ _ _).trans h14
    have h11 := g41R3 A n (g41Q A n (pth 15) (g41T kk)) x0 x1
    have h16 := (g41p110 A n _ ⟨[(6, (bO (!(g48r0 A x0 (g45r0 A))))), (5, (bO (g48r0 A x0 (g45r0 A)))), (4, (aN .u32 8 (g45r0 A))), (3, (aN .u32 8 x0)), (1, (pT 1000 0)), (2, (pT 1001 0))], [(1000, (bW 8 x0 47)), (1001, (bW 8 x1 47))]⟩ _ (by kernel_rfl)).trans h11
    rw [h15] at h16
    have h17 := (g41p11 A n _ _).trans h16
    have h18 := (g41Qn A n _ _ _).trans h17
    have h19 := (blockK_hit 0 _ _).trans h18
    have h20 := (g41We A n (pth 17) m _ _ _).trans h19
    have h21 := (g41Qe A n (pth 49) _ _ _).trans h20
    have h22 := (g41p1000011 A n _ _).trans h21
    have h23 := g41p100001 A n (g41Q A n (pth 49) (g41W A n (pth 17) m (blockK 0 (g41Q A n (pth 7) (g41T kk))))) ⟨[(6, (bO (!(g48r0 A x0 (g45r0 A))))), (5, (bO (g48r0 A x0 (g45r0 A)))), (4, (aN .u32 8 (g45r0 A))), (3, (aN .u32 8 x0)), (1, (pT 1000 0)), (2, (pT 1001 0))], [(1000, (bW 8 x0 47)), (1001, (bW 8 x1 47))]⟩ (!(g48r0 A x0 (g45r0 A))) (by kernel_rfl)
    rw [h10, h22] at h23
    have h24 := (g41Qn A n _ _ _).trans h23
    have h1 := g41R1 A n (g41Q A n (pth 97) (g41Q A n (pth 49) (g41W A n (pth 17) m (blockK 0 (g41Q A n (pth 7) (g41T kk)))))) x0 x1
    have h25 := (g41p100000 A n _ ⟨[(1, (pT 1000 0)), (2, (pT 1001 0))], [(1000, (bW 8 x0 47)), (1001, (bW 8 x1 47))]⟩ _ (by kernel_rfl)).trans h1
    rw [h24] at h25
    have h26 := (g41p10000 A n _ _).trans h25
    have h27 := (g41p1000 A n _ _).trans h26
    exact (loopD_first (s' := ⟨[(1, (pT 1000 0)), (2, (pT 1001 0))], [(1000, (bW 8 x0 47)), (1001, (bW 8 x1 47))]⟩) (id := 1) (by kernel_rfl) (h.trans (by kernel_rfl)) _).trans ((g41Vs A n _ m _ _).trans (h27.trans (by kernel_rfl)))
def g41 {R : Type} (A : Ar) (n : Nat) (kk : AV → Heap → Option R) (a : List Nat) : Option R :=
  g41L1 A n kk  n a [0, 0, 0, 0, 0, 0, 0, 0]
set_option maxRecDepth 100000 in
theorem g41_eq {R : Type} (A : Ar) (n : Nat) (kk : AV → Heap → Option R) (a : List Nat) :
    funD A gtys (g41O A) g41an n (bodyOf Try.f41) g41res [(aN .u32 8 a)] [] kk = g41 A n kk a := by
  have h3 := (g41p100 A n _ _).trans (g41L1_eq A n kk    n ⟨[(2, (pT 1001 0)), (1, (pT 1000 0)), (0, (aN .u32 8 a))], [(1001, (bW 8 [0, 0, 0, 0, 0, 0, 0, 0] 47)), (1000, (bW 8 a 47))]⟩ a [0, 0, 0, 0, 0, 0, 0, 0] (by kernel_rfl))
  have h4 := (g41p10 A n _ _).trans h3
  have h5 := (g41p1 A n _ _).trans h4
  have h6 := (g41Qn A n _ _ _).trans h5
  have h1 := g41R0 A n (g41Q A n (pth 3) (g41T kk)) a
  have h7 := (g41p0 A n _ ⟨[(0, (aN .u32 8 a))], []⟩ _ (by kernel_rfl)).trans h1
  rw [h6] at h7
  have h8 := (g41p A n _ _).trans h7
  exact (show funD A gtys (g41O A) g41an n (bodyOf Try.f41) g41res [(aN .u32 8 a)] [] kk = g41D A n (pth 1) (g41T kk) ⟨[(0, (aN .u32 8 a))], []⟩ from by kernel_rfl).trans (h8.trans (by kernel_rfl))
def g41is (o : Option AV) : Bool := match o with
  | some (aN .u32 8 _) => true
  | _ => false
def g41g0 (o : Option AV) : List Nat := match o with
  | some (aN .u32 8 x) => x
  | _ => []
theorem g41is_spec {o : Option AV} (h : g41is o = true) : o = some (aN .u32 8 (g41g0 o)) := by
  unfold g41is at h
  split at h
  · rfl
  · cases h
def g41v (A : Ar) (a : List Nat) : Option AV := g41 A (100000) (fun v _ => some v) a
def g41ok (A : Ar) (a : List Nat) : Bool := g41is (g41v A a)
def g41r0 (A : Ar) (a : List Nat) : List Nat := g41g0 (g41v A a)
theorem g41ok_spec {A : Ar} {a} (h : g41ok A a = true) : g41v A a = some (aN .u32 8 (g41r0 A a)) := g41is_spec h
def g41o (A : Ar) (args : List AV) : Option (Bool × AV) := match args with
  | [.v (.agg [.nums .u32 n0 a])] => some (Nat.beq n0 8 && (g41ok A a), .v (.agg [.nums .u32 8 (g41r0 A a)]))
  | _ => none
theorem g41o_sound : ∀ args v, g41o realA args = some (true, v) → Fn1 Try.prog 41 args v := by
  intro args v h
  unfold g41o at h
  split at h
  · rename_i n0 a
    simp only [Option.some.injEq, Prod.mk.injEq] at h
    obtain ⟨hc, h⟩ := h
    subst h
    · skip
      simp only [Bool.and_eq_true] at hc
      have en0 := beq_true hc.1
      subst en0
      replace hc := hc.2
      exact fn1_of mixed gtysOK g41O_sound g41O_det (an := g41an) (n := 100000) Try.func41 (c := bodyOf Try.f41) rfl (by kernel_rfl) Try.call41 (Nat.le_of_ble_eq_true rfl) (fun b => rfl) (fun _ => (g41_eq realA (100000) (fun v _ => some v) a).trans (show g41v realA a = _ from g41ok_spec hc))
  · cases h
/- engrosser/engrosserref03.digits -/
def g39O (A : Ar) : Orc := orcOf [(41, g41o A)]
theorem g39O_sound : OSound Try.prog (g39O realA) := orc_sound fun f g hm args v hv => by
  simp only [List.mem_cons, List.not_mem_nil, or_false, Prod.mk.injEq] at hm
  rcases hm with ⟨rfl, rfl⟩
  · exact g41o_sound _ _ hv
theorem g39O_det : ODet (g39O realA) := orc_det _
def g39an : Ann := [(0, ([0], [])), (1, ([1, 2], [1000, 1001])), (2, ([1, 2, 3], [1000, 1001, 2000])), (3, ([1, 2, 3, 4], [1000, 1001, 2000])), (4, ([1, 2, 3, 4], [1000, 1001, 2000])), (5, ([1, 2, 3, 4], [1000, 1001, 2000])), (6, ([1, 2, 3, 4], [1000, 1001, 2000])), (7, ([2, 3], [1001, 2000]))]
def g39res : List ResultVar := [.cell 2 47]
noncomputable def g39D {R : Type} (A : Ar) (n : Nat) (p : List Bool) (K : Ex → St → Option R) (s : St) : Option R := codeD A gtys (g39O A) g39an n (sub (bodyOf Try.f39) p) K s
noncomputable def g39V {R : Type} (A : Ar) (n : Nat) (p : List Bool) (m : Nat) (K : Ex → St → Option R) (s : St) : Option R := loopD (fun K' s'' => codeD A gtys (g39O A) g39an n (sub (bodyOf Try.f39) p) K' s'') m K s
noncomputable def g39Q {R : Type} (A : Ar) (n : Nat) (p : List Bool) (K : Ex → St → Option R) : Ex → St → Option R := seqC (g39D A n p K) K
noncomputable def g39W {R : Type} (A : Ar) (n : Nat) (p : List Bool) (m : Nat) (K : Ex → St → Option R) : Ex → St → Option R := seqC (g39V A n p m K) K
noncomputable def g39T {R : Type} (kk : AV → Heap → Option R) : Ex → St → Option R := finD gtys g39res kk
theorem g39Qn {R : Type} (A : Ar) (n : Nat) (p : List Bool) (K : Ex → St → Option R) (s : St) : g39Q A n p K .normal s = g39D A n p K s := rfl
theorem g39Qe {R : Type} (A : Ar) (n : Nat) (p : List Bool) (K : Ex → St → Option R) (i : Nat) (s : St) : g39Q A n p K (.exit i) s = K (.exit i) s := rfl
theorem g39Wn {R : Type} (A : Ar) (n : Nat) (p : List Bool) (m : Nat) (K : Ex → St → Option R) (s : St) : g39W A n p m K .normal s = g39V A n p m K s := rfl
theorem g39We {R : Type} (A : Ar) (n : Nat) (p : List Bool) (m : Nat) (K : Ex → St → Option R) (i : Nat) (s : St) : g39W A n p m K (.exit i) s = K (.exit i) s := rfl
theorem g39Vs {R : Type} (A : Ar) (n : Nat) (p : List Bool) (m : Nat) (K : Ex → St → Option R) (s : St) : g39V A n p (m + 1) K s = g39D A n p (g39W A n p m K) s := rfl
section
variable {R : Type} (A : Ar) (n : Nat) (K : Ex → St → Option R) (s : St)
theorem g39p : g39D A n (pth 1) K s = g39D A n (pth 2) (g39Q A n (pth 3) K) s := by kernel_rfl
theorem g39p0 (s' : St) (h : keep g39an 0 s = keep g39an 0 s') : g39D A n (pth 2) K s = g39D A n (pth 2) K s' := codeD_first (id := 0) (by kernel_rfl) h K
theorem g39p1 : g39D A n (pth 3) K s = g39D A n (pth 5) (g39Q A n (pth 7) K) s := by kernel_rfl
theorem g39p10 (s' : St) (h : keep g39an 1 s = keep g39an 1 s') : g39D A n (pth 5) K s = g39D A n (pth 5) K s' := codeD_first (id := 1) (by kernel_rfl) h K
theorem g39p11 : g39D A n (pth 7) K s = g39D A n (pth 11) (g39Q A n (pth 15) K) s := by kernel_rfl
theorem g39p110 : g39D A n (pth 11) K s = g39D A n (pth 19) (g39Q A n (pth 27) K) s := by kernel_rfl
theorem g39p1100 (s' : St) (h : keep g39an 2 s = keep g39an 2 s') : g39D A n (pth 19) K s = g39D A n (pth 19) K s' := codeD_first (id := 2) (by kernel_rfl) h K
theorem g39p1101 : g39D A n (pth 27) K s = g39D A n (pth 43) (blockK 0 K) s := by kernel_rfl
theorem g39p11010 : g39D A n (pth 43) K s = g39V A n (pth 75) n K s := by kernel_rfl
theorem g39p110100 : g39D A n (pth 75) K s = g39D A n (pth 139) (g39Q A n (pth 203) K) s := by kernel_rfl
theorem g39p1101000 : g39D A n (pth 139) K s = g39D A n (pth 267) (g39Q A n (pth 395) K) s := by kernel_rfl
theorem g39p11010000 (s' : St) (h : keep g39an 3 s = keep g39an 3 s') : g39D A n (pth 267) K s = g39D A n (pth 267) K s' := codeD_first (id := 3) (by kernel_rfl) h K
theorem g39p11010001 (t : Bool) : ev s (.tmp 6) = some (.v (.cell (.bool t))) → g39D A n (pth 395) K s = (match t with
    | true => g39D A n (pth 651) K s
    | false => g39D A n (pth 907) K s) := codeD_cond t
theorem g39p110100010 : g39D A n (pth 651) K s = K .normal s := by kernel_rfl
theorem g39p110100011 : g39D A n (pth 907) K s = K (.exit 0) s := by kernel_rfl
theorem g39p1101001 : g39D A n (pth 203) K s = g39D A n (pth 331) (g39Q A n (pth 459) K) s := by kernel_rfl
theorem g39p11010010 : g39D A n (pth 331) K s = g39D A n (pth 587) (blockK 1 K) s := by kernel_rfl
theorem g39p110100100 : g39D A n (pth 587) K s = g39D A n (pth 1099) (g39Q A n (pth 1611) K) s := by kernel_rfl
theorem g39p1101001000 (s' : St) (h : keep g39an 5 s = keep g39an 5 s') : g39D A n (pth 1099) K s = g39D A n (pth 1099) K s' := codeD_first (id := 5) (by kernel_rfl) h K
theorem g39p1101001001 (s' : St) (h : keep g39an 6 s = keep g39an 6 s') : g39D A n (pth 1611) K s = g39D A n (pth 1611) K s' := codeD_first (id := 6) (by kernel_rfl) h K
theorem g39p11010011 (s' : St) (h : keep g39an 4 s = keep g39an 4 s') : g39D A n (pth 459) K s = g39D A n (pth 459) K s' := codeD_first (id := 4) (by kernel_rfl) h K
theorem g39p111 : g39D A n (pth 15) K s = g39D A n (pth 23) (g39Q A n (pth 31) K) s := by kernel_rfl
theorem g39p1110 (s' : St) (h : keep g39an 7 s = keep g39an 7 s') : g39D A n (pth 23) K s = g39D A n (pth 23) K s' := codeD_first (id := 7) (by kernel_rfl) h K
theorem g39p1111 : g39D A n (pth 31) K s = K .ret s := by kernel_rfl
theorem g39R5 (x0 : Int) (x1 x2 x3 : List Nat) : g39D A n (pth 1099) K ⟨[(1, (pT 1000 0)), (2, (pT 1001 0)), (3, (pT 2000 0)), (4, (i6 x0))], [(1000, (bU 4 x1 24)), (1001, (bW 8 x2 47)), (2000, (bW 8 x3 47))]⟩ = match (generalizing := false) A.neg x0 with
    | true => none
    | false => match (generalizing := false) A.lt (A.toN x0) 4 with
      | true => match (generalizing := false) A.neg (A.ib .mul .i64 2 x0) with
        | true => none
        | false => match (generalizing := false) A.lt (A.toN (A.ib .mul .i64 2 x0)) 8 with
          | true => K .normal ⟨[(15, (.v (.cell (.ptr 2000 0 (some ⟨A.toN (A.ib .mul .i64 2 x0), 1, 8, 0, 0, 0⟩))))), (14, (u32v (A.n2n .u32 (x1.getD (A.toN x0) 0)))), (13, (u64v (x1.getD (A.toN x0) 0))), (12, (.v (.cell (.ptr 1000 0 (some ⟨A.toN x0, 1, 4, 0, 0, 0⟩))))), (11, (i6 x0)), (10, (i6 (A.ib .mul .i64 2 x0))), (9, (i6 x0)), (1, (pT 1000 0)), (2, (pT 1001 0)), (3, (pT 2000 0)), (4, (i6 x0))], [(1000, (bU 4 x1 24)), (1001, (bW 8 x2 47)), (2000, (bW 8 (x3.set (A.toN (A.ib .mul .i64 2 x0)) (A.n2n .u32 (x1.getD (A.toN x0) 0))) 47))]⟩
          | false => none
      | false => none := by kernel_rfl
theorem g39R6 (x0 : Int) (x1 x2 x3 : List Nat) : g39D A n (pth 1611) K ⟨[(1, (pT 1000 0)), (2, (pT 1001 0)), (3, (pT 2000 0)), (4, (i6 x0))], [(1000, (bU 4 x1 24)), (1001, (bW 8 x2 47)), (2000, (bW 8 x3 47))]⟩ = match (generalizing := false) A.neg x0 with
    | true => none
    | false => match (generalizing := false) A.lt (A.toN x0) 4 with
      | true => match (generalizing := false) A.neg (A.ib .add .i64 (A.ib .mul .i64 2 x0) 1) with
        | true => none
        | false => match (generalizing := false) A.lt (A.toN (A.ib .add .i64 (A.ib .mul .i64 2 x0) 1)) 8 with
          | true => K .normal ⟨[(24, (.v (.cell (.ptr 2000 0 (some ⟨A.toN (A.ib .add .i64 (A.ib .mul .i64 2 x0) 1), 1, 8, 0, 0, 0⟩))))), (23, (u32v (A.n2n .u32 (A.nsh .shr .u64 (x1.getD (A.toN x0) 0) 32)))), (22, (u64v (A.nsh .shr .u64 (x1.getD (A.toN x0) 0) 32))), (21, (u64v (x1.getD (A.toN x0) 0))), (20, (.v (.cell (.ptr 1000 0 (some ⟨A.toN x0, 1, 4, 0, 0, 0⟩))))), (19, (i6 x0)), (18, (i6 (A.ib .add .i64 (A.ib .mul .i64 2 x0) 1))), (17, (i6 (A.ib .mul .i64 2 x0))), (16, (i6 x0)), (1, (pT 1000 0)), (2, (pT 1001 0)), (3, (pT 2000 0)), (4, (i6 x0))], [(1000, (bU 4 x1 24)), (1001, (bW 8 x2 47)), (2000, (bW 8 (x3.set (A.toN (A.ib .add .i64 (A.ib .mul .i64 2 x0) 1)) (A.n2n .u32 (A.nsh .shr .u64 (x1.getD (A.toN x0) 0) 32))) 47))]⟩
          | false => none
      | false => none := by kernel_rfl
theorem g39R4 (x0 : Int) (x1 x2 x3 : List Nat) : g39D A n (pth 459) K ⟨[(1, (pT 1000 0)), (2, (pT 1001 0)), (3, (pT 2000 0)), (4, (i6 x0))], [(1000, (bU 4 x1 24)), (1001, (bW 8 x2 47)), (2000, (bW 8 x3 47))]⟩ = K .normal ⟨[(4, (i6 (A.ib .add .i64 x0 1))), (8, (i6 (A.ib .add .i64 x0 1))), (7, (i6 x0)), (1, (pT 1000 0)), (2, (pT 1001 0)), (3, (pT 2000 0)), (4, (i6 x0))], [(1000, (bU 4 x1 24)), (1001, (bW 8 x2 47)), (2000, (bW 8 x3 47))]⟩ := by kernel_rfl
theorem g39R3 (x0 : Int) (x1 x2 x3 : List Nat) : g39D A n (pth 267) K ⟨[(1, (pT 1000 0)), (2, (pT 1001 0)), (3, (pT 2000 0)), (4, (i6 x0))], [(1000, (bU 4 x1 24)), (1001, (bW 8 x2 47)), (2000, (bW 8 x3 47))]⟩ = K .normal ⟨[(6, (bO (A.ic .lss x0 4))), (5, (i6 x0)), (1, (pT 1000 0)), (2, (pT 1001 0)), (3, (pT 2000 0)), (4, (i6 x0))], [(1000, (bU 4 x1 24)), (1001, (bW 8 x2 47)), (2000, (bW 8 x3 47))]⟩ := by kernel_rfl
theorem g39R7 (x0 x1 : List Nat) : g39D A n (pth 23) K ⟨[(2, (pT 1001 0)), (3, (pT 2000 0))], [(1001, (bW 8 x0 47)), (2000, (bW 8 x1 47))]⟩ = match (generalizing := false) g41ok A x1 with
    | true => K .normal ⟨[(26, (aN .u32 8 (g41r0 A x1))), (25, (aN .u32 8 x1)), (2, (pT 1001 0)), (3, (pT 2000 0))], [(1001, (bW 8 (g41r0 A x1) 47)), (2000, (bW 8 x1 47))]⟩
    | false => none := by kernel_rfl
theorem g39R0 (x0 : List Nat) : g39D A n (pth 2) K ⟨[(0, (aN .u64 4 x0))], []⟩ = K .normal ⟨[(2, (pT 1001 0)), (1, (pT 1000 0)), (0, (aN .u64 4 x0))], [(1001, (bW 8 [0, 0, 0, 0, 0, 0, 0, 0] 47)), (1000, (bU 4 x0 24))]⟩ := by kernel_rfl
theorem g39R1 (x0 x1 : List Nat) : g39D A n (pth 5) K ⟨[(1, (pT 1000 0)), (2, (pT 1001 0))], [(1000, (bU 4 x0 24)), (1001, (bW 8 x1 47))]⟩ = K .normal ⟨[(3, (pT 2000 0)), (1, (pT 1000 0)), (2, (pT 1001 0))], [(2000, (bW 8 [0, 0, 0, 0, 0, 0, 0, 0] 47)), (1000, (bU 4 x0 24)), (1001, (bW 8 x1 47))]⟩ := by kernel_rfl
theorem g39R2 (x0 x1 x2 : List Nat) : g39D A n (pth 19) K ⟨[(1, (pT 1000 0)), (2, (pT 1001 0)), (3, (pT 2000 0))], [(1000, (bU 4 x0 24)), (1001, (bW 8 x1 47)), (2000, (bW 8 x2 47))]⟩ = K .normal ⟨[(4, (i6 0)), (1, (pT 1000 0)), (2, (pT 1001 0)), (3, (pT 2000 0))], [(1000, (bU 4 x0 24)), (1001, (bW 8 x1 47)), (2000, (bW 8 x2 47))]⟩ := by kernel_rfl
end
def g39J5 {R : Type} (A : Ar) (n : Nat) (kk : AV → Heap → Option R) (lg39L3 : Int → List Nat → List Nat → List Nat → Option R) (x0 : Int) (x1 x2 x3 : List Nat) : Option R :=
  match (generalizing := false) A.neg x0 with
  | true => none
  | false => match (generalizing := false) A.lt (A.toN x0) 4 with
    | true => match (generalizing := false) A.neg (A.ib .mul .i64 2 x0) with
      | true => none
      | false => match (generalizing := false) A.lt (A.toN (A.ib .mul .i64 2 x0)) 8 with
        | true => match (generalizing := false) A.neg x0 with
          | true => none
          | false => match (generalizing := false) A.lt (A.toN x0) 4 with
            | true => match (generalizing := false) A.neg (A.ib .add .i64 (A.ib .mul .i64 2 x0) 1) with
              | true => none
              | false => match (generalizing := false) A.lt (A.toN (A.ib .add .i64 (A.ib .mul .i64 2 x0) 1)) 8 with
                | true => lg39L3 (A.ib .add .i64 x0 1) x1 x2 ((x3.set (A.toN (A.ib .mul .i64 2 x0)) (A.n2n .u32 (x1.getD (A.toN x0) 0))).set (A.toN (A.ib .add .i64 (A.ib .mul .i64 2 x0) 1)) (A.n2n .u32 (A.nsh .shr .u64 (x1.getD (A.toN x0) 0) 32)))
                | false => none
            | false => none
        | false => none
    | false => none
set_option maxRecDepth 100000 in
theorem g39J5_eq {R : Type} (A : Ar) (n : Nat) (kk : AV → Heap → Option R) (m0 : Nat) (lg39L3 : Int → List Nat → List Nat → List Nat → Option R) 
    (hg39L3 : ∀ (s : St) (x0 : Int) (x1 x2 x3 : List Nat), keep g39an 3 s = ⟨[(1, (pT 1000 0)), (2, (pT 1001 0)), (3, (pT 2000 0)), (4, (i6 x0))], [(1000, (bU 4 x1 24)), (1001, (bW 8 x2 47)), (2000, (bW 8 x3 47))]⟩ → g39V A n (pth 75) m0 (blockK 0 (g39Q A n (pth 15) (g39T kk))) s = lg39L3 x0 x1 x2 x3) (s : St) (x0 : Int) (x1 x2 x3 : List Nat) (h : keep g39an 5 s = ⟨[(1, (pT 1000 0)), (2, (pT 1001 0)), (3, (pT 2000 0)), (4, (i6 x0))], [(1000, (bU 4 x1 24)), (1001, (bW 8 x2 47)), (2000, (bW 8 x3 47))]⟩) :
    g39D A n (pth 203) (g39W A n (pth 75) m0 (blockK 0 (g39Q A n (pth 15) (g39T kk)))) s = g39J5 A n kk lg39L3 x0 x1 x2 x3 := by
  have h7 := (g39Wn A n _ _ _ _).trans (hg39L3 ⟨[(4, (i6 (A.ib .add .i64 x0 1))), (8, (i6 (A.ib .add .i64 x0 1))), (7, (i6 x0)), (1, (pT 1000 0)), (2, (pT 1001 0)), (3, (pT 2000 0)), (4, (i6 x0))], [(1000, (bU 4 x1 24)), (1001, (bW 8 x2 47)), (2000, (bW 8 ((x3.set (A.toN (A.ib .mul .i64 2 x0)) (A.n2n .u32 (x1.getD (A.toN x0) 0))).set (A.toN (A.ib .add .i64 (A.ib .mul .i64 2 x0) 1)) (A.n2n .u32 (A.nsh .shr .u64 (x1.getD (A.toN x0) 0) 32))) 47))]⟩ (A.ib .add .i64 x0 1) x1 x2 ((x3.set (A.toN (A.ib .mul .i64 2 x0)) (A.n2n .u32 (x1.getD (A.toN x0) 0))).set (A.toN (A.ib .add .i64 (A.ib .mul .i64 2 x0) 1)) (A.n2n .u32 (A.nsh .shr .u64 (x1.getD (A.toN x0) 0) 32))) (by kernel_rfl))
  have h5 := g39R4 A n (g39W A n (pth 75) m0 (blockK 0 (g39Q A n (pth 15) (g39T kk)))) x0 x1 x2 ((x3.set (A.toN (A.ib .mul .i64 2 x0)) (A.n2n .u32 (x1.getD (A.toN x0) 0))).set (A.toN (A.ib .add .i64 (A.ib .mul .i64 2 x0) 1)) (A.n2n .u32 (A.nsh .shr .u64 (x1.getD (A.toN x0) 0) 32)))
  have h8 := (g39p11010011 A n _ ⟨[(24, (.v (.cell (.ptr 2000 0 (some ⟨A.toN (A.ib .add .i64 (A.ib .mul .i64 2 x0) 1), 1, 8, 0, 0, 0⟩))))), (23, (u32v (A.n2n .u32 (A.nsh .shr .u64 (x1.getD (A.toN x0) 0) 32)))), (22, (u64v (A.nsh .shr .u64 (x1.getD (A.toN x0) 0) 32))), (21, (u64v (x1.getD (A.toN x0) 0))), (20, (.v (.cell (.ptr 1000 0 (some ⟨A.toN x0, 1, 4, 0, 0, 0⟩))))), (19, (i6 x0)), (18, (i6 (A.ib .add .i64 (A.ib .mul .i64 2 x0) 1))), (17, (i6 (A.ib .mul .i64 2 x0))), (16, (i6 x0)), (1, (pT 1000 0)), (2, (pT 1001 0)), (3, (pT 2000 0)), (4, (i6 x0))], [(1000, (bU 4 x1 24)), (1001, (bW 8 x2 47)), (2000, (bW 8 ((x3.set (A.toN (A.ib .mul .i64 2 x0)) (A.n2n .u32 (x1.getD (A.toN x0) 0))).set (A.toN (A.ib .add .i64 (A.ib .mul .i64 2 x0) 1)) (A.n2n .u32 (A.nsh .shr .u64 (x1.getD (A.toN x0) 0) 32))) 47))]⟩ _ (by kernel_rfl)).trans h5
  rw [h7] at h8
  have h9 := (g39Qn A n _ _ _).trans h8
  have h10 := (blockK_n 1 _ _).trans h9
  have h3 := g39R6 A n (blockK 1 (g39Q A n (pth 459) (g39W A n (pth 75) m0 (blockK 0 (g39Q A n (pth 15) (g39T kk)))))) x0 x1 x2 (x3.set (A.toN (A.ib .mul .i64 2 x0)) (A.n2n .u32 (x1.getD (A.toN x0) 0)))
  have h11 := (g39p1101001001 A n _ ⟨[(15, (.v (.cell (.ptr 2000 0 (some ⟨A.toN (A.ib .mul .i64 2 x0), 1, 8, 0, 0, 0⟩))))), (14, (u32v (A.n2n .u32 (x1.getD (A.toN x0) 0)))), (13, (u64v (x1.getD (A.toN x0) 0))), (12, (.v (.cell (.ptr 1000 0 (some ⟨A.toN x0, 1, 4, 0, 0, 0⟩))))), (11, (i6 x0)), (10, (i6 (A.ib .mul .i64 2 x0))), (9, (i6 x0)), (1, (pT 1000 0)), (2, (pT 1001 0)), (3, (pT 2000 0)), (4, (i6 x0))], [(1000, (bU 4 x1 24)), (1001, (bW 8 x2 47)), (2000, (bW 8 (x3.set (A.toN (A.ib .mul .i64 2 x0)) (A.n2n .u32 (x1.getD (A.toN x0) 0))) 47))]⟩ _ (by kernel_rfl)).trans h3
  rw [h10] at h11
  have h12 := (g39Qn A n _ _ _).trans h11
  have h1 := g39R5 A n (g39Q A n (pth 1611) (blockK 1 (g39Q A n (pth 459) (g39W A n (pth 75) m0 (blockK 0 (g39Q A n (pth 15) (g39T kk))))))) x0 x1 x2 x3
  have h13 := (g39p1101001000 A n _ ⟨[(1, (pT 1000 0)), (2, (pT 1001 0)), (3, (pT 2000 0)), (4, (i6 x0))], [(1000, (bU 4 x1 24)), (1001, (bW 8 x2 47)), (2000, (bW 8 x3 47))]⟩ _ (by kernel_rfl)).trans h1
  rw [h12] at h13
  have h14 := (g39p110100100 A n _ _).trans h13
  have h15 := (g39p11010010 A n _ _).trans h14
  have h16 := (g39p1101001 A n _ _).trans h15
  exact (codeD_first (s' := ⟨[(1, (pT 1000 0)), (2, (pT 1001 0)), (3, (pT 2000 0)), (4, (i6 x0))], [(1000, (bU 4 x1 24)), (1001, (bW 8 x2 47)), (2000, (bW 8 x3 47))]⟩) (id := 5) (by kernel_rfl) (h.trans (by kernel_rfl)) _).trans (h16.trans (by kernel_rfl))
def g39L3 {R : Type} (A : Ar) (n : Nat) (kk : AV → Heap → Option R)  : Nat → Int → List Nat → List Nat → List Nat → Option R
  | 0, _, _, _, _ => none
  | m + 1, x0, x1, x2, x3 => match (generalizing := false) A.ic .lss x0 4 with
  | true => g39J5 A n kk (g39L3 A n kk  m) x0 x1 x2 x3
  | false => match (generalizing := false) g41ok A x3 with
    | true => kk (aN .u32 8 (g41r0 A x3)) [(1001, (bW 8 (g41r0 A x3) 47)), (2000, (bW 8 x3 47))]
    | false => none
set_option maxRecDepth 100000 in
theorem g39L3_eq {R : Type} (A : Ar) (n : Nat) (kk : AV → Heap → Option R)    (m : Nat) (s : St) (x0 : Int) (x1 x2 x3 : List Nat) (h : keep g39an 3 s = ⟨[(1, (pT 1000 0)), (2, (pT 1001 0)), (3, (pT 2000 0)), (4, (i6 x0))], [(1000, (bU 4 x1 24)), (1001, (bW 8 x2 47)), (2000, (bW 8 x3 47))]⟩) :
    g39V A n (pth 75) m (blockK 0 (g39Q A n (pth 15) (g39T kk))) s = g39L3 A n kk  m x0 x1 x2 x3 := by
  induction m generalizing s x0 x1 x2 x3 with
  | zero => rfl
  | succ m ih =>
    have h3 := (g39Qn A n _ _ _).trans (g39J5_eq A n kk m (g39L3 A n kk  m) ih  ⟨[(6, (bO (A.ic .lss x0 4))), (5, (i6 x0)), (1, (pT 1000 0)), (2, (pT 1001 0)), (3, (pT 2000 0)), (4, (i6 x0))], [(1000, (bU 4 x1 24)), (1001, (bW 8 x2 47)), (2000, (bW 8 x3 47))]⟩ x0 x1 x2 x3 (by kernel_rfl))
    have h4 := (g39p110100010 A n _ _).trans h3
    have h7 : (g39T kk) .ret ⟨[(26, (aN .u32 8 (g41r0 A x3))), (25, (aN .u32 8 x3)), (2, (pT 1001 0)), (3, (pT 2000 0))], [(1001, (bW 8 (g41r0 A x3) 47)), (2000, (bW 8 x3 47))]⟩ = kk (aN .u32 8 (g41r0 A x3)) [(1001, (bW 8 (g41r0 A x3) 47)), (2000, (bW 8 x3 47))] := by kernel_rfl
    have h8 := (g39p1111 A n _ _).trans h7
    have h9 := (g39Qn A n _ _ _).trans h8
    have h5 := g39R7 A n (g39Q A n (pth 31) (g39T kk)) x2 x3
    have h10 := (g39p1110 A n _ ⟨[(6, (bO (A.ic .lss x0 4))), (5, (i6 x0)), (1, (pT 1000 0)), (2, (pT 1001 0)), (3, (pT 2000 0)), (4, (i6 x0))], [(1000, (bU 4 x1 24)), (1001, (bW 8 x2 47)), (2000, (bW 8 x3 47))]⟩ _ (by kernel_rfl)).trans h5
    rw [h9] at h10
    have h11 := (g39p111 A n _ _).trans h10
    have h12 := (g39Qn A n _ _ _).trans h11
    have h13 := (blockK_hit 0 _ _).trans h12
    have h14 := (g39We A n (pth 75) m _ _ _).trans h13
    have h15 := (g39Qe A n (pth 203) _ _ _).trans h14
    have h16 := (g39p110100011 A n _ _).trans h15
    have h17 := g39p11010001 A n (g39Q A n (pth 203) (g39W A n (pth 75) m (blockK 0 (g39Q A n (pth 15) (g39T kk))))) ⟨[(6, (bO (A.ic .lss x0 4))), (5, (i6 x0)), (1, (pT 1000 0)), (2, (pT 1001 0)), (3, (pT 2000 0)), (4, (i6 x0))], [(1000, (bU 4 x1 24)), (1001, (bW 8 x2 47)), (2000, (bW 8 x3 47))]⟩ (A.ic .lss x0 4) (by kernel_rfl)
    rw [h4, h16] at h17
    have h18 := (g39Qn A n _ _ _).trans h17
    have h1 := g39R3 A n (g39Q A n (pth 395) (g39Q A n (pth 203) (g39W A n (pth 75) m (blockK 0 (g39Q A n (pth 15) (g39T kk)))))) x0 x1 x2 x3
    have h19 := (g39p11010000 A n _ ⟨[(1, (pT 1000 0)), (2, (pT 1001 0)), (3, (pT 2000 0)), (4, (i6 x0))], [(1000, (bU 4 x1 24)), (1001, (bW 8 x2 47)), (2000, (bW 8 x3 47))]⟩ _ (by kernel_rfl)).trans h1
    rw [h18] at h19
    have h20 := (g39p1101000 A n _ _).trans h19
    have h21 := (g39p110100 A n _ _).trans h20
    exact (loopD_first (s' := ⟨[(1, (pT 1000 0)), (2, (pT 1001 0)), (3, (pT 2000 0)), (4, (i6 x0))], [(1000, (bU 4 x1 24)), (1001, (bW 8 x2 47)), (2000, (bW 8 x3 47))]⟩) (id := 3) (by kernel_rfl) (h.trans (by kernel_rfl)) _).trans ((g39Vs A n _ m _ _).trans (h21.trans (by kernel_rfl)))
def g39 {R : Type} (A : Ar) (n : Nat) (kk : AV → Heap → Option R) (a : List Nat) : Option R :=
  g39L3 A n kk  n 0 a [0, 0, 0, 0, 0, 0, 0, 0] [0, 0, 0, 0, 0, 0, 0, 0]
set_option maxRecDepth 100000 in
theorem g39_eq {R : Type} (A : Ar) (n : Nat) (kk : AV → Heap → Option R) (a : List Nat) :
    funD A gtys (g39O A) g39an n (bodyOf Try.f39) g39res [(aN .u64 4 a)] [] kk = g39 A n kk a := by
  have h7 := (g39p11010 A n _ _).trans (g39L3_eq A n kk    n ⟨[(4, (i6 0)), (1, (pT 1000 0)), (2, (pT 1001 0)), (3, (pT 2000 0))], [(1000, (bU 4 a 24)), (1001, (bW 8 [0, 0, 0, 0, 0, 0, 0, 0] 47)), (2000, (bW 8 [0, 0, 0, 0, 0, 0, 0, 0] 47))]⟩ 0 a [0, 0, 0, 0, 0, 0, 0, 0] [0, 0, 0, 0, 0, 0, 0, 0] (by kernel_rfl))
  have h8 := (g39p1101 A n _ _).trans h7
  have h9 := (g39Qn A n _ _ _).trans h8
  have h5 := g39R2 A n (g39Q A n (pth 27) (g39Q A n (pth 15) (g39T kk))) a [0, 0, 0, 0, 0, 0, 0, 0] [0, 0, 0, 0, 0, 0, 0, 0]
  have h10 := (g39p1100 A n _ ⟨[(3, (pT 2000 0)), (1, (pT 1000 0)), (2, (pT 1001 0))], [(2000, (bW 8 [0, 0, 0, 0, 0, 0, 0, 0] 47)), (1000, (bU 4 a 24)), (1001, (bW 8 [0, 0, 0, 0, 0, 0, 0, 0] 47))]⟩ _ (by kernel_rfl)).trans h5
  rw [h9] at h10
  have h11 := (g39p110 A n _ _).trans h10
  have h12 := (g39p11 A n _ _).trans h11
  have h13 := (g39Qn A n _ _ _).trans h12
  have h3 := g39R1 A n (g39Q A n (pth 7) (g39T kk)) a [0, 0, 0, 0, 0, 0, 0, 0]
  have h14 := (g39p10 A n _ ⟨[(2, (pT 1001 0)), (1, (pT 1000 0)), (0, (aN .u64 4 a))], [(1001, (bW 8 [0, 0, 0, 0, 0, 0, 0, 0] 47)), (1000, (bU 4 a 24))]⟩ _ (by kernel_rfl)).trans h3
  rw [h13] at h14
  have h15 := (g39p1 A n _ _).trans h14
  have h16 := (g39Qn A n _ _ _).trans h15
  have h1 := g39R0 A n (g39Q A n (pth 3) (g39T kk)) a
  have h17 := (g39p0 A n _ ⟨[(0, (aN .u64 4 a))], []⟩ _ (by kernel_rfl)).trans h1
  rw [h16] at h17
  have h18 := (g39p A n _ _).trans h17
  exact (show funD A gtys (g39O A) g39an n (bodyOf Try.f39) g39res [(aN .u64 4 a)] [] kk = g39D A n (pth 1) (g39T kk) ⟨[(0, (aN .u64 4 a))], []⟩ from by kernel_rfl).trans (h18.trans (by kernel_rfl))
def g39is (o : Option AV) : Bool := match o with
  | some (aN .u32 8 _) => true
  | _ => false
def g39g0 (o : Option AV) : List Nat := match o with
  | some (aN .u32 8 x) => x
  | _ => []
theorem g39is_spec {o : Option AV} (h : g39is o = true) : o = some (aN .u32 8 (g39g0 o)) := by
  unfold g39is at h
  split at h
  · rfl
  · cases h
def g39v (A : Ar) (a : List Nat) : Option AV := g39 A (100000) (fun v _ => some v) a
def g39ok (A : Ar) (a : List Nat) : Bool := g39is (g39v A a)
def g39r0 (A : Ar) (a : List Nat) : List Nat := g39g0 (g39v A a)
theorem g39ok_spec {A : Ar} {a} (h : g39ok A a = true) : g39v A a = some (aN .u32 8 (g39r0 A a)) := g39is_spec h
def g39o (A : Ar) (args : List AV) : Option (Bool × AV) := match args with
  | [.v (.agg [.nums .u64 n0 a])] => some (Nat.beq n0 4 && (g39ok A a), .v (.agg [.nums .u32 8 (g39r0 A a)]))
  | _ => none
theorem g39o_sound : ∀ args v, g39o realA args = some (true, v) → Fn1 Try.prog 39 args v := by
  intro args v h
  unfold g39o at h
  split at h
  · rename_i n0 a
    simp only [Option.some.injEq, Prod.mk.injEq] at h
    obtain ⟨hc, h⟩ := h
    subst h
    · skip
      simp only [Bool.and_eq_true] at hc
      have en0 := beq_true hc.1
      subst en0
      replace hc := hc.2
      exact fn1_of mixed gtysOK g39O_sound g39O_det (an := g39an) (n := 100000) Try.func39 (c := bodyOf Try.f39) rfl (by kernel_rfl) Try.call39 (Nat.le_of_ble_eq_true rfl) (fun b => rfl) (fun _ => (g39_eq realA (100000) (fun v _ => some v) a).trans (show g39v realA a = _ from g39ok_spec hc))
  · cases h
/- engrosser/engrosserref03.words -/
def g40O (A : Ar) : Orc := orcOf []
theorem g40O_sound : OSound Try.prog (g40O realA) := orc_sound fun f g hm args v hv => by
  cases hm
theorem g40O_det : ODet (g40O realA) := orc_det _
def g40an : Ann := [(0, ([0], [])), (1, ([1, 2], [1000, 1001])), (2, ([1, 2, 3], [1000, 1001, 2000])), (3, ([1, 2, 3, 4], [1000, 1001, 2000])), (4, ([1, 2, 3, 4], [1000, 1001, 2000])), (5, ([1, 2, 3, 4], [1000, 1001, 2000])), (6, ([2, 3], [1001, 2000]))]
def g40res : List ResultVar := [.cell 2 24]
noncomputable def g40D {R : Type} (A : Ar) (n : Nat) (p : List Bool) (K : Ex → St → Option R) (s : St) : Option R := codeD A gtys (g40O A) g40an n (sub (bodyOf Try.f40) p) K s
noncomputable def g40V {R : Type} (A : Ar) (n : Nat) (p : List Bool) (m : Nat) (K : Ex → St → Option R) (s : St) : Option R := loopD (fun K' s'' => codeD A gtys (g40O A) g40an n (sub (bodyOf Try.f40) p) K' s'') m K s
noncomputable def g40Q {R : Type} (A : Ar) (n : Nat) (p : List Bool) (K : Ex → St → Option R) : Ex → St → Option R := seqC (g40D A n p K) K
noncomputable def g40W {R : Type} (A : Ar) (n : Nat) (p : List Bool) (m : Nat) (K : Ex → St → Option R) : Ex → St → Option R := seqC (g40V A n p m K) K
noncomputable def g40T {R : Type} (kk : AV → Heap → Option R) : Ex → St → Option R := finD gtys g40res kk
theorem g40Qn {R : Type} (A : Ar) (n : Nat) (p : List Bool) (K : Ex → St → Option R) (s : St) : g40Q A n p K .normal s = g40D A n p K s := rfl
theorem g40Qe {R : Type} (A : Ar) (n : Nat) (p : List Bool) (K : Ex → St → Option R) (i : Nat) (s : St) : g40Q A n p K (.exit i) s = K (.exit i) s := rfl
theorem g40Wn {R : Type} (A : Ar) (n : Nat) (p : List Bool) (m : Nat) (K : Ex → St → Option R) (s : St) : g40W A n p m K .normal s = g40V A n p m K s := rfl
theorem g40We {R : Type} (A : Ar) (n : Nat) (p : List Bool) (m : Nat) (K : Ex → St → Option R) (i : Nat) (s : St) : g40W A n p m K (.exit i) s = K (.exit i) s := rfl
theorem g40Vs {R : Type} (A : Ar) (n : Nat) (p : List Bool) (m : Nat) (K : Ex → St → Option R) (s : St) : g40V A n p (m + 1) K s = g40D A n p (g40W A n p m K) s := rfl
section
variable {R : Type} (A : Ar) (n : Nat) (K : Ex → St → Option R) (s : St)
theorem g40p : g40D A n (pth 1) K s = g40D A n (pth 2) (g40Q A n (pth 3) K) s := by kernel_rfl
theorem g40p0 (s' : St) (h : keep g40an 0 s = keep g40an 0 s') : g40D A n (pth 2) K s = g40D A n (pth 2) K s' := codeD_first (id := 0) (by kernel_rfl) h K
theorem g40p1 : g40D A n (pth 3) K s = g40D A n (pth 5) (g40Q A n (pth 7) K) s := by kernel_rfl
theorem g40p10 (s' : St) (h : keep g40an 1 s = keep g40an 1 s') : g40D A n (pth 5) K s = g40D A n (pth 5) K s' := codeD_first (id := 1) (by kernel_rfl) h K
theorem g40p11 : g40D A n (pth 7) K s = g40D A n (pth 11) (g40Q A n (pth 15) K) s := by kernel_rfl
theorem g40p110 : g40D A n (pth 11) K s = g40D A n (pth 19) (g40Q A n (pth 27) K) s := by kernel_rfl
theorem g40p1100 (s' : St) (h : keep g40an 2 s = keep g40an 2 s') : g40D A n (pth 19) K s = g40D A n (pth 19) K s' := codeD_first (id := 2) (by kernel_rfl) h K
theorem g40p1101 : g40D A n (pth 27) K s = g40D A n (pth 43) (blockK 0 K) s := by kernel_rfl
theorem g40p11010 : g40D A n (pth 43) K s = g40V A n (pth 75) n K s := by kernel_rfl
theorem g40p110100 : g40D A n (pth 75) K s = g40D A n (pth 139) (g40Q A n (pth 203) K) s := by kernel_rfl
theorem g40p1101000 : g40D A n (pth 139) K s = g40D A n (pth 267) (g40Q A n (pth 395) K) s := by kernel_rfl
theorem g40p11010000 (s' : St) (h : keep g40an 3 s = keep g40an 3 s') : g40D A n (pth 267) K s = g40D A n (pth 267) K s' := codeD_first (id := 3) (by kernel_rfl) h K
theorem g40p11010001 (t : Bool) : ev s (.tmp 6) = some (.v (.cell (.bool t))) → g40D A n (pth 395) K s = (match t with
    | true => g40D A n (pth 651) K s
    | false => g40D A n (pth 907) K s) := codeD_cond t
theorem g40p110100010 : g40D A n (pth 651) K s = K .normal s := by kernel_rfl
theorem g40p110100011 : g40D A n (pth 907) K s = K (.exit 0) s := by kernel_rfl
theorem g40p1101001 : g40D A n (pth 203) K s = g40D A n (pth 331) (g40Q A n (pth 459) K) s := by kernel_rfl
theorem g40p11010010 : g40D A n (pth 331) K s = g40D A n (pth 587) (blockK 1 K) s := by kernel_rfl
theorem g40p110100100 (s' : St) (h : keep g40an 5 s = keep g40an 5 s') : g40D A n (pth 587) K s = g40D A n (pth 587) K s' := codeD_first (id := 5) (by kernel_rfl) h K
theorem g40p11010011 (s' : St) (h : keep g40an 4 s = keep g40an 4 s') : g40D A n (pth 459) K s = g40D A n (pth 459) K s' := codeD_first (id := 4) (by kernel_rfl) h K
theorem g40p111 : g40D A n (pth 15) K s = g40D A n (pth 23) (g40Q A n (pth 31) K) s := by kernel_rfl
theorem g40p1110 (s' : St) (h : keep g40an 6 s = keep g40an 6 s') : g40D A n (pth 23) K s = g40D A n (pth 23) K s' := codeD_first (id := 6) (by kernel_rfl) h K
theorem g40p1111 : g40D A n (pth 31) K s = K .ret s := by kernel_rfl
theorem g40R5 (x0 : Int) (x1 x2 x3 : List Nat) : g40D A n (pth 587) K ⟨[(1, (pT 1000 0)), (2, (pT 1001 0)), (3, (pT 2000 0)), (4, (i6 x0))], [(1000, (bW 8 x1 47)), (1001, (bU 4 x2 24)), (2000, (bU 4 x3 24))]⟩ = match (generalizing := false) A.neg (A.ib .mul .i64 2 x0) with
    | true => none
    | false => match (generalizing := false) A.lt (A.toN (A.ib .mul .i64 2 x0)) 8 with
      | true => match (generalizing := false) A.neg (A.ib .add .i64 (A.ib .mul .i64 2 x0) 1) with
        | true => none
        | false => match (generalizing := false) A.lt (A.toN (A.ib .add .i64 (A.ib .mul .i64 2 x0) 1)) 8 with
          | true => match (generalizing := false) A.neg x0 with
            | true => none
            | false => match (generalizing := false) A.lt (A.toN x0) 4 with
              | true => K .normal ⟨[(23, (.v (.cell (.ptr 2000 0 (some ⟨A.toN x0, 1, 4, 0, 0, 0⟩))))), (22, (u64v (A.nb .or .u64 (x1.getD (A.toN (A.ib .mul .i64 2 x0)) 0) (A.nsh .shl .u64 (x1.getD (A.toN (A.ib .add .i64 (A.ib .mul .i64 2 x0) 1)) 0) 32)))), (21, (u64v (A.nsh .shl .u64 (x1.getD (A.toN (A.ib .add .i64 (A.ib .mul .i64 2 x0) 1)) 0) 32))), (20, (u64v (x1.getD (A.toN (A.ib .add .i64 (A.ib .mul .i64 2 x0) 1)) 0))), (19, (u32v (x1.getD (A.toN (A.ib .add .i64 (A.ib .mul .i64 2 x0) 1)) 0))), (18, (.v (.cell (.ptr 1000 0 (some ⟨A.toN (A.ib .add .i64 (A.ib .mul .i64 2 x0) 1), 1, 8, 0, 0, 0⟩))))), (17, (i6 (A.ib .add .i64 (A.ib .mul .i64 2 x0) 1))), (16, (i6 (A.ib .mul .i64 2 x0))), (15, (i6 x0)), (14, (u64v (x1.getD (A.toN (A.ib .mul .i64 2 x0)) 0))), (13, (u32v (x1.getD (A.toN (A.ib .mul .i64 2 x0)) 0))), (12, (.v (.cell (.ptr 1000 0 (some ⟨A.toN (A.ib .mul .i64 2 x0), 1, 8, 0, 0, 0⟩))))), (11, (i6 (A.ib .mul .i64 2 x0))), (10, (i6 x0)), (9, (i6 x0)), (1, (pT 1000 0)), (2, (pT 1001 0)), (3, (pT 2000 0)), (4, (i6 x0))], [(1000, (bW 8 x1 47)), (1001, (bU 4 x2 24)), (2000, (bU 4 (x3.set (A.toN x0) (A.nb .or .u64 (x1.getD (A.toN (A.ib .mul .i64 2 x0)) 0) (A.nsh .shl .u64 (x1.getD (A.toN (A.ib .add .i64 (A.ib .mul .i64 2 x0) 1)) 0) 32))) 24))]⟩
              | false => none
          | false => none
      | false => none := by kernel_rfl
theorem g40R4 (x0 : Int) (x1 x2 x3 : List Nat) : g40D A n (pth 459) K ⟨[(1, (pT 1000 0)), (2, (pT 1001 0)), (3, (pT 2000 0)), (4, (i6 x0))], [(1000, (bW 8 x1 47)), (1001, (bU 4 x2 24)), (2000, (bU 4 x3 24))]⟩ = K .normal ⟨[(4, (i6 (A.ib .add .i64 x0 1))), (8, (i6 (A.ib .add .i64 x0 1))), (7, (i6 x0)), (1, (pT 1000 0)), (2, (pT 1001 0)), (3, (pT 2000 0)), (4, (i6 x0))], [(1000, (bW 8 x1 47)), (1001, (bU 4 x2 24)), (2000, (bU 4 x3 24))]⟩ := by kernel_rfl
theorem g40R3 (x0 : Int) (x1 x2 x3 : List Nat) : g40D A n (pth 267) K ⟨[(1, (pT 1000 0)), (2, (pT 1001 0)), (3, (pT 2000 0)), (4, (i6 x0))], [(1000, (bW 8 x1 47)), (1001, (bU 4 x2 24)), (2000, (bU 4 x3 24))]⟩ = K .normal ⟨[(6, (bO (A.ic .lss x0 4))), (5, (i6 x0)), (1, (pT 1000 0)), (2, (pT 1001 0)), (3, (pT 2000 0)), (4, (i6 x0))], [(1000, (bW 8 x1 47)), (1001, (bU 4 x2 24)), (2000, (bU 4 x3 24))]⟩ := by kernel_rfl
theorem g40R6 (x0 x1 : List Nat) : g40D A n (pth 23) K ⟨[(2, (pT 1001 0)), (3, (pT 2000 0))], [(1001, (bU 4 x0 24)), (2000, (bU 4 x1 24))]⟩ = K .normal ⟨[(24, (aN .u64 4 x1)), (2, (pT 1001 0)), (3, (pT 2000 0))], [(1001, (bU 4 x1 24)), (2000, (bU 4 x1 24))]⟩ := by kernel_rfl
theorem g40R0 (x0 : List Nat) : g40D A n (pth 2) K ⟨[(0, (aN .u32 8 x0))], []⟩ = K .normal ⟨[(2, (pT 1001 0)), (1, (pT 1000 0)), (0, (aN .u32 8 x0))], [(1001, (bU 4 [0, 0, 0, 0] 24)), (1000, (bW 8 x0 47))]⟩ := by kernel_rfl
theorem g40R1 (x0 x1 : List Nat) : g40D A n (pth 5) K ⟨[(1, (pT 1000 0)), (2, (pT 1001 0))], [(1000, (bW 8 x0 47)), (1001, (bU 4 x1 24))]⟩ = K .normal ⟨[(3, (pT 2000 0)), (1, (pT 1000 0)), (2, (pT 1001 0))], [(2000, (bU 4 [0, 0, 0, 0] 24)), (1000, (bW 8 x0 47)), (1001, (bU 4 x1 24))]⟩ := by kernel_rfl
theorem g40R2 (x0 x1 x2 : List Nat) : g40D A n (pth 19) K ⟨[(1, (pT 1000 0)), (2, (pT 1001 0)), (3, (pT 2000 0))], [(1000, (bW 8 x0 47)), (1001, (bU 4 x1 24)), (2000, (bU 4 x2 24))]⟩ = K .normal ⟨[(4, (i6 0)), (1, (pT 1000 0)), (2, (pT 1001 0)), (3, (pT 2000 0))], [(1000, (bW 8 x0 47)), (1001, (bU 4 x1 24)), (2000, (bU 4 x2 24))]⟩ := by kernel_rfl
end
def g40J5 {R : Type} (A : Ar) (n : Nat) (kk : AV → Heap → Option R) (lg40L3 : Int → List Nat → List Nat → List Nat → Option R) (x0 : Int) (x1 x2 x3 : List Nat) : Option R :=
  match (generalizing := false) A.neg (A.ib .mul .i64 2 x0) with
  | true => none
  | false => match (generalizing := false) A.lt (A.toN (A.ib .mul .i64 2 x0)) 8 with
    | true => match (generalizing := false) A.neg (A.ib .add .i64 (A.ib .mul .i64 2 x0) 1) with
      | true => none
      | false => match (generalizing := false) A.lt (A.toN (A.ib .add .i64 (A.ib .mul .i64 2 x0) 1)) 8 with
        | true => match (generalizing := false) A.neg x0 with
          | true => none
          | false => match (generalizing := false) A.lt (A.toN x0) 4 with
            | true => lg40L3 (A.ib .add .i64 x0 1) x1 x2 (x3.set (A.toN x0) (A.nb .or .u64 (x1.getD (A.toN (A.ib .mul .i64 2 x0)) 0) (A.nsh .shl .u64 (x1.getD (A.toN (A.ib .add .i64 (A.ib .mul .i64 2 x0) 1)) 0) 32)))
            | false => none
        | false => none
    | false => none
set_option maxRecDepth 100000 in
theorem g40J5_eq {R : Type} (A : Ar) (n : Nat) (kk : AV → Heap → Option R) (m0 : Nat) (lg40L3 : Int → List Nat → List Nat → List Nat → Option R) 
    (hg40L3 : ∀ (s : St) (x0 : Int) (x1 x2 x3 : List Nat), keep g40an 3 s = ⟨[(1, (pT 1000 0)), (2, (pT 1001 0)), (3, (pT 2000 0)), (4, (i6 x0))], [(1000, (bW 8 x1 47)), (1001, (bU 4 x2 24)), (2000, (bU 4 x3 24))]⟩ → g40V A n (pth 75) m0 (blockK 0 (g40Q A n (pth 15) (g40T kk))) s = lg40L3 x0 x1 x2 x3) (s : St) (x0 : Int) (x1 x2 x3 : List Nat) (h : keep g40an 5 s = ⟨[(1, (pT 1000 0)), (2, (pT 1001 0)), (3, (pT 2000 0)), (4, (i6 x0))], [(1000, (bW 8 x1 47)), (1001, (bU 4 x2 24)), (2000, (bU 4 x3 24))]⟩) :
    g40D A n (pth 203) (g40W A n (pth 75) m0 (blockK 0 (g40Q A n (pth 15) (g40T kk)))) s = g40J5 A n kk lg40L3 x0 x1 x2 x3 := by
  have h5 := (g40Wn A n _ _ _ _).trans (hg40L3 ⟨[(4, (i6 (A.ib .add .i64 x0 1))), (8, (i6 (A.ib .add .i64 x0 1))), (7, (i6 x0)), (1, (pT 1000 0)), (2, (pT 1001 0)), (3, (pT 2000 0)), (4, (i6 x0))], [(1000, (bW 8 x1 47)), (1001, (bU 4 x2 24)), (2000, (bU 4 (x3.set (A.toN x0) (A.nb .or .u64 (x1.getD (A.toN (A.ib .mul .i64 2 x0)) 0) (A.nsh .shl .u64 (x1.getD (A.toN (A.ib .add .i64 (A.ib .mul .i64 2 x0) 1)) 0) 32))) 24))]⟩ (A.ib .add .i64 x0 1) x1 x2 (x3.set (A.toN x0) (A.nb .or .u64 (x1.getD (A.toN (A.ib .mul .i64 2 x0)) 0) (A.nsh .shl .u64 (x1.getD (A.toN (A.ib .add .i64 (A.ib .mul .i64 2 x0) 1)) 0) 32))) (by kernel_rfl))
  have h3 := g40R4 A n (g40W A n (pth 75) m0 (blockK 0 (g40Q A n (pth 15) (g40T kk)))) x0 x1 x2 (x3.set (A.toN x0) (A.nb .or .u64 (x1.getD (A.toN (A.ib .mul .i64 2 x0)) 0) (A.nsh .shl .u64 (x1.getD (A.toN (A.ib .add .i64 (A.ib .mul .i64 2 x0) 1)) 0) 32)))
  have h6 := (g40p11010011 A n _ ⟨[(23, (.v (.cell (.ptr 2000 0 (some ⟨A.toN x0, 1, 4, 0, 0, 0⟩))))), (22, (u64v (A.nb .or .u64 (x1.getD (A.toN (A.ib .mul .i64 2 x0)) 0) (A.nsh .shl .u64 (x1.getD (A.toN (A.ib .add .i64 (A.ib .mul .i64 2 x0) 1)) 0) 32)))), (21, (u64v (A.nsh .shl .u64 (x1.getD (A.toN (A.ib .add .i64 (A.ib .mul .i64 2 x0) 1)) 0) 32))), (20, (u64v (x1.getD (A.toN (A.ib .add .i64 (A.ib .mul .i64 2 x0) 1)) 0))), (19, (u32v (x1.getD (A.toN (A.ib .add .i64 (A.ib .mul .i64 2 x0) 1)) 0))), (18, (.v (.cell (.ptr 1000 0 (some ⟨A.toN (A.ib .add .i64 (A.ib .mul .i64 2 x0) 1), 1, 8, 0, 0, 0⟩))))), (17, (i6 (A.ib .add .i64 (A.ib .mul .i64 2 x0) 1))), (16, (i6 (A.ib .mul .i64 2 x0))), (15, (i6 x0)), (14, (u64v (x1.getD (A.toN (A.ib .mul .i64 2 x0)) 0))), (13, (u32v (x1.getD (A.toN (A.ib .mul .i64 2 x0)) 0))), (12, (.v (.cell (.ptr 1000 0 (some ⟨A.toN (A.ib .mul .i64 2 x0), 1, 8, 0, 0, 0⟩))))), (11, (i6 (A.ib .mul .i64 2 x0))), (10, (i6 x0)), (9, (i6 x0)), (1, (pT 1000 0)), (2, (pT 1001 0)), (3, (pT 2000 0)), (4, (i6 x0))], [(1000, (bW 8 x1 47)), (1001, (bU 4 x2 24)), (2000, (bU 4 (x3.set (A.toN x0) (A.nb .or .u64 (x1.getD (A.toN (A.ib .mul .i64 2 x0)) 0) (A.nsh .shl .u64 (x1.getD (A.toN (A.ib .add .i64 (A.ib .mul .i64 2 x0) 1)) 0) 32))) 24))]⟩ _ (by kernel_rfl)).trans h3
  rw [h5] at h6
  have h7 := (g40Qn A n _ _ _).trans h6
  have h8 := (blockK_n 1 _ _).trans h7
  have h1 := g40R5 A n (blockK 1 (g40Q A n (pth 459) (g40W A n (pth 75) m0 (blockK 0 (g40Q A n (pth 15) (g40T kk)))))) x0 x1 x2 x3
  have h9 := (g40p110100100 A n _ ⟨[(1, (pT 1000 0)), (2, (pT 1001 0)), (3, (pT 2000 0)), (4, (i6 x0))], [(1000, (bW 8 x1 47)), (1001, (bU 4 x2 24)), (2000, (bU 4 x3 24))]⟩ _ (by kernel_rfl)).trans h1
  rw [h8] at h9
  have h10 := (g40p11010010 A n _ _).trans h9
  have h11 := (g40p1101001 A n _ _).trans h10
  exact (codeD_first (s' := ⟨[(1, (pT 1000 0)), (2, (pT 1001 0)), (3, (pT 2000 0)), (4, (i6 x0))], [(1000, (bW 8 x1 47)), (1001, (bU 4 x2 24)), (2000, (bU 4 x3 24))]⟩) (id := 5) (by kernel_rfl) (h.trans (by kernel_rfl)) _).trans (h11.trans (by kernel_rfl))
def g40L3 {R : Type} (A : Ar) (n : Nat) (kk : AV → Heap → Option R)  : Nat → Int → List Nat → List Nat → List Nat → Option R
  | 0, _, _, _, _ => none
  | m + 1, x0, x1, x2, x3 => match (generalizing := false) A.ic .lss x0 4 with
  | true => g40J5 A n kk (g40L3 A n kk  m) x0 x1 x2 x3
  | false => kk (aN .u64 4 x3) [(1001, (bU 4 x3 24)), (2000, (bU 4 x3 24))]
set_option maxRecDepth 100000 in
theorem g40L3_eq {R : Type} (A : Ar) (n : Nat) (kk : AV → Heap → Option R)    (m : Nat) (s : St) (x0 : Int) (x1 x2 x3 : List Nat) (h : keep g40an 3 s = ⟨[(1, (pT 1000 0)), (2, (pT 1001 0)), (3, (pT 2000 0)), (4, (i6 x0))], [(1000, (bW 8 x1 47)), (1001, (bU 4 x2 24)), (2000, (bU 4 x3 24))]⟩) :
    g40V A n (pth 75) m (blockK 0 (g40Q A n (pth 15) (g40T kk))) s = g40L3 A n kk  m x0 x1 x2 x3 := by
  induction m generalizing s x0 x1 x2 x3 with
  | zero => rfl
  | succ m ih =>
    have h3 := (g40Qn A n _ _ _).trans (g40J5_eq A n kk m (g40L3 A n kk  m) ih  ⟨[(6, (bO (A.ic .lss x0 4))), (5, (i6 x0)), (1, (pT 1000 0)), (2, (pT 1001 0)), (3, (pT 2000 0)), (4, (i6 x0))], [(1000, (bW 8 x1 47)), (1001, (bU 4 x2 24)), (2000, (bU 4 x3 24))]⟩ x0 x1 x2 x3 (by kernel_rfl))
    have h4 := (g40p110100010 A n _ _).trans h3
    have h7 : (g40T kk) .ret ⟨[(24, (aN .u64 4 x3)), (2, (pT 1001 0)), (3, (pT 2000 0))], [(1001, (bU 4 x3 24)), (2000, (bU 4 x3 24))]⟩ = kk (aN .u64 4 x3) [(1001, (bU 4 x3 24)), (2000, (bU 4 x3 24))] := by kernel_rfl
    have h8 := (g40p1111 A n _ _).trans h7
    have h9 := (g40Qn A n _ _ _).trans h8
    have h5 := g40R6 A n (g40Q A n (pth 31) (g40T kk)) x2 x3
    have h10 := (g40p1110 A n _ ⟨[(6, (bO (A.ic .lss x0 4))), (5, (i6 x0)), (1, (pT 1000 0)), (2, (pT 1001 0)), (3, (pT 2000 0)), (4, (i6 x0))], [(1000, (bW 8 x1 47)), (1001, (bU 4 x2 24)), (2000, (bU 4 x3 24))]⟩ _ (by kernel_rfl)).trans h5
    rw [h9] at h10
    have h11 := (g40p111 A n _ _).trans h10
    have h12 := (g40Qn A n _ _ _).trans h11
    have h13 := (blockK_hit 0 _ _).trans h12
    have h14 := (g40We A n (pth 75) m _ _ _).trans h13
    have h15 := (g40Qe A n (pth 203) _ _ _).trans h14
    have h16 := (g40p110100011 A n _ _).trans h15
    have h17 := g40p11010001 A n (g40Q A n (pth 203) (g40W A n (pth 75) m (blockK 0 (g40Q A n (pth 15) (g40T kk))))) ⟨[(6, (bO (A.ic .lss x0 4))), (5, (i6 x0)), (1, (pT 1000 0)), (2, (pT 1001 0)), (3, (pT 2000 0)), (4, (i6 x0))], [(1000, (bW 8 x1 47)), (1001, (bU 4 x2 24)), (2000, (bU 4 x3 24))]⟩ (A.ic .lss x0 4) (by kernel_rfl)
    rw [h4, h16] at h17
    have h18 := (g40Qn A n _ _ _).trans h17
    have h1 := g40R3 A n (g40Q A n (pth 395) (g40Q A n (pth 203) (g40W A n (pth 75) m (blockK 0 (g40Q A n (pth 15) (g40T kk)))))) x0 x1 x2 x3
    have h19 := (g40p11010000 A n _ ⟨[(1, (pT 1000 0)), (2, (pT 1001 0)), (3, (pT 2000 0)), (4, (i6 x0))], [(1000, (bW 8 x1 47)), (1001, (bU 4 x2 24)), (2000, (bU 4 x3 24))]⟩ _ (by kernel_rfl)).trans h1
    rw [h18] at h19
    have h20 := (g40p1101000 A n _ _).trans h19
    have h21 := (g40p110100 A n _ _).trans h20
    exact (loopD_first (s' := ⟨[(1, (pT 1000 0)), (2, (pT 1001 0)), (3, (pT 2000 0)), (4, (i6 x0))], [(1000, (bW 8 x1 47)), (1001, (bU 4 x2 24)), (2000, (bU 4 x3 24))]⟩) (id := 3) (by kernel_rfl) (h.trans (by kernel_rfl)) _).trans ((g40Vs A n _ m _ _).trans (h21.trans (by kernel_rfl)))
def g40 {R : Type} (A : Ar) (n : Nat) (kk : AV → Heap → Option R) (a : List Nat) : Option R :=
  g40L3 A n kk  n 0 a [0, 0, 0, 0] [0, 0, 0, 0]
set_option maxRecDepth 100000 in
theorem g40_eq {R : Type} (A : Ar) (n : Nat) (kk : AV → Heap → Option R) (a : List Nat) :
    funD A gtys (g40O A) g40an n (bodyOf Try.f40) g40res [(aN .u32 8 a)] [] kk = g40 A n kk a := by
  have h7 := (g40p11010 A n _ _).trans (g40L3_eq A n kk    n ⟨[(4, (i6 0)), (1, (pT 1000 0)), (2, (pT 1001 0)), (3, (pT 2000 0))], [(1000, (bW 8 a 47)), (1001, (bU 4 [0, 0, 0, 0] 24)), (2000, (bU 4 [0, 0, 0, 0] 24))]⟩ 0 a [0, 0, 0, 0] [0, 0, 0, 0] (by kernel_rfl))
  have h8 := (g40p1101 A n _ _).trans h7
  have h9 := (g40Qn A n _ _ _).trans h8
  have h5 := g40R2 A n (g40Q A n (pth 27) (g40Q A n (pth 15) (g40T kk))) a [0, 0, 0, 0] [0, 0, 0, 0]
  have h10 := (g40p1100 A n _ ⟨[(3, (pT 2000 0)), (1, (pT 1000 0)), (2, (pT 1001 0))], [(2000, (bU 4 [0, 0, 0, 0] 24)), (1000, (bW 8 a 47)), (1001, (bU 4 [0, 0, 0, 0] 24))]⟩ _ (by kernel_rfl)).trans h5
  rw [h9] at h10
  have h11 := (g40p110 A n _ _).trans h10
  have h12 := (g40p11 A n _ _).trans h11
  have h13 := (g40Qn A n _ _ _).trans h12
  have h3 := g40R1 A n (g40Q A n (pth 7) (g40T kk)) a [0, 0, 0, 0]
  have h14 := (g40p10 A n _ ⟨[(2, (pT 1001 0)), (1, (pT 1000 0)), (0, (aN .u32 8 a))], [(1001, (bU 4 [0, 0, 0, 0] 24)), (1000, (bW 8 a 47))]⟩ _ (by kernel_rfl)).trans h3
  rw [h13] at h14
  have h15 := (g40p1 A n _ _).trans h14
  have h16 := (g40Qn A n _ _ _).trans h15
  have h1 := g40R0 A n (g40Q A n (pth 3) (g40T kk)) a
  have h17 := (g40p0 A n _ ⟨[(0, (aN .u32 8 a))], []⟩ _ (by kernel_rfl)).trans h1
  rw [h16] at h17
  have h18 := (g40p A n _ _).trans h17
  exact (show funD A gtys (g40O A) g40an n (bodyOf Try.f40) g40res [(aN .u32 8 a)] [] kk = g40D A n (pth 1) (g40T kk) ⟨[(0, (aN .u32 8 a))], []⟩ from by kernel_rfl).trans (h18.trans (by kernel_rfl))
def g40is (o : Option AV) : Bool := match o with
  | some (aN .u64 4 _) => true
  | _ => false
def g40g0 (o : Option AV) : List Nat := match o with
  | some (aN .u64 4 x) => x
  | _ => []
theorem g40is_spec {o : Option AV} (h : g40is o = true) : o = some (aN .u64 4 (g40g0 o)) := by
  unfold g40is at h
  split at h
  · rfl
  · cases h
def g40v (A : Ar) (a : List Nat) : Option AV := g40 A (100000) (fun v _ => some v) a
def g40ok (A : Ar) (a : List Nat) : Bool := g40is (g40v A a)
def g40r0 (A : Ar) (a : List Nat) : List Nat := g40g0 (g40v A a)
theorem g40ok_spec {A : Ar} {a} (h : g40ok A a = true) : g40v A a = some (aN .u64 4 (g40r0 A a)) := g40is_spec h
def g40o (A : Ar) (args : List AV) : Option (Bool × AV) := match args with
  | [.v (.agg [.nums .u32 n0 a])] => some (Nat.beq n0 8 && (g40ok A a), .v (.agg [.nums .u64 4 (g40r0 A a)]))
  | _ => none
theorem g40o_sound : ∀ args v, g40o realA args = some (true, v) → Fn1 Try.prog 40 args v := by
  intro args v h
  unfold g40o at h
  split at h
  · rename_i n0 a
    simp only [Option.some.injEq, Prod.mk.injEq] at h
    obtain ⟨hc, h⟩ := h
    subst h
    · skip
      simp only [Bool.and_eq_true] at hc
      have en0 := beq_true hc.1
      subst en0
      replace hc := hc.2
      exact fn1_of mixed gtysOK g40O_sound g40O_det (an := g40an) (n := 100000) Try.func40 (c := bodyOf Try.f40) rfl (by kernel_rfl) Try.call40 (Nat.le_of_ble_eq_true rfl) (fun b => rfl) (fun _ => (g40_eq realA (100000) (fun v _ => some v) a).trans (show g40v realA a = _ from g40ok_spec hc))
  · cases h
/- engrosser/engrosserref03.Add -/
def g13O (A : Ar) : Orc := orcOf [(39, g39o A), (41, g41o A), (40, g40o A)]
theorem g13O_sound : OSound Try.prog (g13O realA) := orc_sound fun f g hm args v hv => by
  simp only [List.mem_cons, List.not_mem_nil, or_false, Prod.mk.injEq] at hm
  rcases hm with ⟨rfl, rfl⟩ | ⟨rfl, rfl⟩ | ⟨rfl, rfl⟩
  · exact g39o_sound _ _ hv
  · exact g41o_sound _ _ hv
  · exact g40o_sound _ _ hv
theorem g13O_det : ODet (g13O realA) := orc_det _
def g13an : Ann := [(0, ([0, 1], [])), (1, ([2, 3, 4], [1000, 1001, 1002])), (2, ([3, 4, 5], [1001, 1002, 2002])), (3, ([4, 5, 6], [1002, 2002, 3002])), (4, ([4, 5, 6, 7], [1002, 2002, 3002, 4000])), (5, ([4, 5, 6, 7, 8], [1002, 2002, 3002, 4000])), (6, ([4, 5, 6, 7, 8, 9], [1002, 2002, 3002, 4000])), (7, ([4, 5, 6, 7, 8, 9], [1002, 2002, 3002, 4000])), (8, ([4, 5, 6, 7, 8, 9], [1002, 2002, 3002, 4000])), (9, ([4, 5, 6, 7, 9, 10], [1002, 2002, 3002, 4000])), (10, ([4, 5, 6, 7, 9, 10], [1002, 2002, 3002, 4000])), (11, ([4, 7], [1002, 4000]))]
def g13res : List ResultVar := [.cell 4 24]
noncomputable def g13D {R : Type} (A : Ar) (n : Nat) (p : List Bool) (K : Ex → St → Option R) (s : St) : Option R := codeD A gtys (g13O A) g13an n (sub (bodyOf Try.f13) p) K s
noncomputable def g13V {R : Type} (A : Ar) (n : Nat) (p : List Bool) (m : Nat) (K : Ex → St → Option R) (s : St) : Option R := loopD (fun K' s'' => codeD A gtys (g13O A) g13an n (sub (bodyOf Try.f13) p) K' s'') m K s
noncomputable def g13Q {R : Type} (A : Ar) (n : Nat) (p : List Bool) (K : Ex → St → Option R) : Ex → St → Option R := seqC (g13D A n p K) K
noncomputable def g13W {R : Type} (A : Ar) (n : Nat) (p : List Bool) (m : Nat) (K : Ex → St → Option R) : Ex → St → Option R := seqC (g13V A n p m K) K
noncomputable def g13T {R : Type} (kk : AV → Heap → Option R) : Ex → St → Option R := finD gtys g13res kk
theorem g13Qn {R : Type} (A : Ar) (n : Nat) (p : List Bool) (K : Ex → St → Option R) (s : St) : g13Q A n p K .normal s = g13D A n p K s := rfl
theorem g13Qe {R : Type} (A : Ar) (n : Nat) (p : List Bool) (K : Ex → St → Option R) (i : Nat) (s : St) : g13Q A n p K (.exit i) s = K (.exit i) s := rfl
theorem g13Wn {R : Type} (A : Ar) (n : Nat) (p : List Bool) (m : Nat) (K : Ex → St → Option R) (s : St) : g13W A n p m K .normal s = g13V A n p m K s := rfl
theorem g13We {R : Type} (A : Ar) (n : Nat) (p : List Bool) (m : Nat) (K : Ex → St → Option R) (i : Nat) (s : St) : g13W A n p m K (.exit i) s = K (.exit i) s := rfl
theorem g13Vs {R : Type} (A : Ar) (n : Nat) (p : List Bool) (m : Nat) (K : Ex → St → Option R) (s : St) : g13V A n p (m + 1) K s = g13D A n p (g13W A n p m K) s := rfl
section
variable {R : Type} (A : Ar) (n : Nat) (K : Ex → St → Option R) (s : St)
theorem g13p : g13D A n (pth 1) K s = g13D A n (pth 2) (g13Q A n (pth 3) K) s := by kernel_rfl
theorem g13p0 (s' : St) (h : keep g13an 0 s = keep g13an 0 s') : g13D A n (pth 2) K s = g13D A n (pth 2) K s' := codeD_first (id := 0) (by kernel_rfl) h K
theorem g13p1 : g13D A n (pth 3) K s = g13D A n (pth 5) (g13Q A n (pth 7) K) s := by kernel_rfl
theorem g13p10 (s' : St) (h : keep g13an 1 s = keep g13an 1 s') : g13D A n (pth 5) K s = g13D A n (pth 5) K s' := codeD_first (id := 1) (by kernel_rfl) h K
theorem g13p11 : g13D A n (pth 7) K s = g13D A n (pth 11) (g13Q A n (pth 15) K) s := by kernel_rfl
theorem g13p110 (s' : St) (h : keep g13an 2 s = keep g13an 2 s') : g13D A n (pth 11) K s = g13D A n (pth 11) K s' := codeD_first (id := 2) (by kernel_rfl) h K
theorem g13p111 : g13D A n (pth 15) K s = g13D A n (pth 23) (g13Q A n (pth 31) K) s := by kernel_rfl
theorem g13p1110 (s' : St) (h : keep g13an 3 s = keep g13an 3 s') : g13D A n (pth 23) K s = g13D A n (pth 23) K s' := codeD_first (id := 3) (by kernel_rfl) h K
theorem g13p1111 : g13D A n (pth 31) K s = g13D A n (pth 47) (g13Q A n (pth 63) K) s := by kernel_rfl
theorem g13p11110 (s' : St) (h : keep g13an 4 s = keep g13an 4 s') : g13D A n (pth 47) K s = g13D A n (pth 47) K s' := codeD_first (id := 4) (by kernel_rfl) h K
theorem g13p11111 : g13D A n (pth 63) K s = g13D A n (pth 95) (g13Q A n (pth 127) K) s := by kernel_rfl
theorem g13p111110 : g13D A n (pth 95) K s = g13D A n (pth 159) (g13Q A n (pth 223) K) s := by kernel_rfl
theorem g13p1111100 (s' : St) (h : keep g13an 5 s = keep g13an 5 s') : g13D A n (pth 159) K s = g13D A n (pth 159) K s' := codeD_first (id := 5) (by kernel_rfl) h K
theorem g13p1111101 : g13D A n (pth 223) K s = g13D A n (pth 351) (blockK 0 K) s := by kernel_rfl
theorem g13p11111010 : g13D A n (pth 351) K s = g13V A n (pth 607) n K s := by kernel_rfl
theorem g13p111110100 : g13D A n (pth 607) K s = g13D A n (pth 1119) (g13Q A n (pth 1631) K) s := by kernel_rfl
theorem g13p1111101000 : g13D A n (pth 1119) K s = g13D A n (pth 2143) (g13Q A n (pth 3167) K) s := by kernel_rfl
theorem g13p11111010000 (s' : St) (h : keep g13an 6 s = keep g13an 6 s') : g13D A n (pth 2143) K s = g13D A n (pth 2143) K s' := codeD_first (id := 6) (by kernel_rfl) h K
theorem g13p11111010001 (t : Bool) : ev s (.tmp 16) = some (.v (.cell (.bool t))) → g13D A n (pth 3167) K s = (match t with
    | true => g13D A n (pth 5215) K s
    | false => g13D A n (pth 7263) K s) := codeD_cond t
theorem g13p111110100010 : g13D A n (pth 5215) K s = K .normal s := by kernel_rfl
theorem g13p111110100011 : g13D A n (pth 7263) K s = K (.exit 0) s := by kernel_rfl
theorem g13p1111101001 : g13D A n (pth 1631) K s = g13D A n (pth 2655) (g13Q A n (pth 3679) K) s := by kernel_rfl
theorem g13p11111010010 : g13D A n (pth 2655) K s = g13D A n (pth 4703) (blockK 1 K) s := by kernel_rfl
theorem g13p111110100100 : g13D A n (pth 4703) K s = g13D A n (pth 8799) (g13Q A n (pth 12895) K) s := by kernel_rfl
theorem g13p1111101001000 (s' : St) (h : keep g13an 8 s = keep g13an 8 s') : g13D A n (pth 8799) K s = g13D A n (pth 8799) K s' := codeD_first (id := 8) (by kernel_rfl) h K
theorem g13p1111101001001 : g13D A n (pth 12895) K s = g13D A n (pth 21087) (g13Q A n (pth 29279) K) s := by kernel_rfl
theorem g13p11111010010010 (s' : St) (h : keep g13an 9 s = keep g13an 9 s') : g13D A n (pth 21087) K s = g13D A n (pth 21087) K s' := codeD_first (id := 9) (by kernel_rfl) h K
theorem g13p11111010010011 (s' : St) (h : keep g13an 10 s = keep g13an 10 s') : g13D A n (pth 29279) K s = g13D A n (pth 29279) K s' := codeD_first (id := 10) (by kernel_rfl) h K
theorem g13p11111010011 (s' : St) (h : keep g13an 7 s = keep g13an 7 s') : g13D A n (pth 3679) K s = g13D A n (pth 3679) K s' := codeD_first (id := 7) (by kernel_rfl) h K
theorem g13p111111 : g13D A n (pth 127) K s = g13D A n (pth 191) (g13Q A n (pth 255) K) s := by kernel_rfl
theorem g13p1111110 (s' : St) (h : keep g13an 11 s = keep g13an 11 s') : g13D A n (pth 191) K s = g13D A n (pth 191) K s' := codeD_first (id := 11) (by kernel_rfl) h K
theorem g13p1111111 : g13D A n (pth 255) K s = K .ret s := by kernel_rfl
theorem g13R8 (x0 : Nat) (x1 : Int) (x2 x3 : List Nat) (x4 x5 : List Nat) : g13D A n (pth 8799) K ⟨[(4, (pT 1002 0)), (5, (pT 2002 0)), (6, (pT 3002 0)), (7, (pT 4000 0)), (8, (u64v x0)), (9, (i6 x1))], [(1002, (bU 4 x2 24)), (2002, (bW 8 x3 47)), (3002, (bW 8 x4 47)), (4000, (bW 8 x5 47))]⟩ = match (generalizing := false) A.neg x1 with
    | true => none
    | false => match (generalizing := false) A.lt (A.toN x1) 8 with
      | true => match (generalizing := false) A.neg x1 with
        | true => none
        | false => match (generalizing := false) A.lt (A.toN x1) 8 with
          | true => K .normal ⟨[(10, (u64v (A.nb .add .u64 (A.nb .add .u64 (x3.getD (A.toN x1) 0) (x4.getD (A.toN x1) 0)) x0))), (29, (u64v (A.nb .add .u64 (A.nb .add .u64 (x3.getD (A.toN x1) 0) (x4.getD (A.toN x1) 0)) x0))), (28, (u64v x0)), (27, (u64v (A.nb .add .u64 (x3.getD (A.toN x1) 0) (x4.getD (A.toN x1) 0)))), (26, (u64v (x4.getD (A.toN x1) 0))), (25, (u32v (x4.getD (A.toN x1) 0))), (24, (.v (.cell (.ptr 3002 0 (some ⟨A.toN x1, 1, 8, 0, 0, 0⟩))))), (23, (i6 x1)), (22, (u64v (x3.getD (A.toN x1) 0))), (21, (u32v (x3.getD (A.toN x1) 0))), (20, (.v (.cell (.ptr 2002 0 (some ⟨A.toN x1, 1, 8, 0, 0, 0⟩))))), (19, (i6 x1)), (4, (pT 1002 0)), (5, (pT 2002 0)), (6, (pT 3002 0)), (7, (pT 4000 0)), (8, (u64v x0)), (9, (i6 x1))], [(1002, (bU 4 x2 24)), (2002, (bW 8 x3 47)), (3002, (bW 8 x4 47)), (4000, (bW 8 x5 47))]⟩
          | false => none
      | false => none := by kernel_rfl
theorem g13R9 (x0 : Int) (x1 : Nat) (x2 x3 : List Nat) (x4 x5 : List Nat) : g13D A n (pth 21087) K ⟨[(4, (pT 1002 0)), (5, (pT 2002 0)), (6, (pT 3002 0)), (7, (pT 4000 0)), (9, (i6 x0)), (10, (u64v x1))], [(1002, (bU 4 x2 24)), (2002, (bW 8 x3 47)), (3002, (bW 8 x4 47)), (4000, (bW 8 x5 47))]⟩ = match (generalizing := false) A.neg x0 with
    | true => none
    | false => match (generalizing := false) A.lt (A.toN x0) 8 with
      | true => K .normal ⟨[(33, (.v (.cell (.ptr 4000 0 (some ⟨A.toN x0, 1, 8, 0, 0, 0⟩))))), (32, (u32v (A.n2n .u32 x1))), (31, (u64v x1)), (30, (i6 x0)), (4, (pT 1002 0)), (5, (pT 2002 0)), (6, (pT 3002 0)), (7, (pT 4000 0)), (9, (i6 x0)), (10, (u64v x1))], [(1002, (bU 4 x2 24)), (2002, (bW 8 x3 47)), (3002, (bW 8 x4 47)), (4000, (bW 8 (x5.set (A.toN x0) (A.n2n .u32 x1)) 47))]⟩
      | false => none := by kernel_rfl
theorem g13R10 (x0 : Int) (x1 : Nat) (x2 x3 : List Nat) (x4 x5 : List Nat) : g13D A n (pth 29279) K ⟨[(4, (pT 1002 0)), (5, (pT 2002 0)), (6, (pT 3002 0)), (7, (pT 4000 0)), (9, (i6 x0)), (10, (u64v x1))], [(1002, (bU 4 x2 24)), (2002, (bW 8 x3 47)), (3002, (bW 8 x4 47)), (4000, (bW 8 x5 47))]⟩ = K .normal ⟨[(8, (u64v (A.nsh .shr .u64 x1 32))), (35, (u64v (A.nsh .shr .u64 x1 32))), (34, (u64v x1)), (4, (pT 1002 0)), (5, (pT 2002 0)), (6, (pT 3002 0)), (7, (pT 4000 0)), (9, (i6 x0)), (10, (u64v x1))], [(1002, (bU 4 x2 24)), (2002, (bW 8 x3 47)), (3002, (bW 8 x4 47)), (4000, (bW 8 x5 47))]⟩ := by kernel_rfl
theorem g13R7 (x0 : Nat) (x1 : Int) (x2 x3 : List Nat) (x4 x5 : List Nat) : g13D A n (pth 3679) K ⟨[(4, (pT 1002 0)), (5, (pT 2002 0)), (6, (pT 3002 0)), (7, (pT 4000 0)), (8, (u64v x0)), (9, (i6 x1))], [(1002, (bU 4 x2 24)), (2002, (bW 8 x3 47)), (3002, (bW 8 x4 47)), (4000, (bW 8 x5 47))]⟩ = K .normal ⟨[(9, (i6 (A.ib .add .i64 x1 1))), (18, (i6 (A.ib .add .i64 x1 1))), (17, (i6 x1)), (4, (pT 1002 0)), (5, (pT 2002 0)), (6, (pT 3002 0)), (7, (pT 4000 0)), (8, (u64v x0)), (9, (i6 x1))], [(1002, (bU 4 x2 24)), (2002, (bW 8 x3 47)), (3002, (bW 8 x4 47)), (4000, (bW 8 x5 47))]⟩ := by kernel_rfl
theorem g13R6 (x0 : Nat) (x1 : Int) (x2 x3 : List Nat) (x4 x5 : List Nat) : g13D A n (pth 2143) K ⟨[(4, (pT 1002 0)), (5, (pT 2002 0)), (6, (pT 3002 0)), (7, (pT 4000 0)), (8, (u64v x0)), (9, (i6 x1))], [(1002, (bU 4 x2 24)), (2002, (bW 8 x3 47)), (3002, (bW 8 x4 47)), (4000, (bW 8 x5 47))]⟩ = K .normal ⟨[(16, (bO (A.ic .lss x1 8))), (15, (i6 x1)), (4, (pT 1002 0)), (5, (pT 2002 0)), (6, (pT 3002 0)), (7, (pT 4000 0)), (8, (u64v x0)), (9, (i6 x1))], [(1002, (bU 4 x2 24)), (2002, (bW 8 x3 47)), (3002, (bW 8 x4 47)), (4000, (bW 8 x5 47))]⟩ := by kernel_rfl
theorem g13R11 (x0 x1 : List Nat) : g13D A n (pth 191) K ⟨[(4, (pT 1002 0)), (7, (pT 4000 0))], [(1002, (bU 4 x0 24)), (4000, (bW 8 x1 47))]⟩ = match (generalizing := false) g41ok A x1 with
    | true => match (generalizing := false) g40ok A (g41r0 A x1) with
      | true => K .normal ⟨[(38, (aN .u64 4 (g40r0 A (g41r0 A x1)))), (37, (aN .u32 8 (g41r0 A x1))), (36, (aN .u32 8 x1)), (4, (pT 1002 0)), (7, (pT 4000 0))], [(1002, (bU 4 (g40r0 A (g41r0 A x1)) 24)), (4000, (bW 8 x1 47))]⟩
      | false => none
    | false => none := by kernel_rfl
theorem g13R0 (x0 x1 : List Nat) : g13D A n (pth 2) K ⟨[(0, (aN .u64 4 x0)), (1, (aN .u64 4 x1))], []⟩ = K .normal ⟨[(4, (pT 1002 0)), (3, (pT 1001 0)), (2, (pT 1000 0)), (0, (aN .u64 4 x0)), (1, (aN .u64 4 x1))], [(1002, (bU 4 [0, 0, 0, 0] 24)), (1001, (bU 4 x1 24)), (1000, (bU 4 x0 24))]⟩ := by kernel_rfl
theorem g13R1 (x0 x1 x2 : List Nat) : g13D A n (pth 5) K ⟨[(2, (pT 1000 0)), (3, (pT 1001 0)), (4, (pT 1002 0))], [(1000, (bU 4 x0 24)), (1001, (bU 4 x1 24)), (1002, (bU 4 x2 24))]⟩ = match (generalizing := false) g39ok A x0 with
    | true => K .normal ⟨[(5, (pT 2002 0)), (12, (aN .u32 8 (g39r0 A x0))), (11, (aN .u64 4 x0)), (2, (pT 1000 0)), (3, (pT 1001 0)), (4, (pT 1002 0))], [(2002, (bW 8 (g39r0 A x0) 47)), (1000, (bU 4 x0 24)), (1001, (bU 4 x1 24)), (1002, (bU 4 x2 24))]⟩
    | false => none := by kernel_rfl
theorem g13R2 (x0 x1 x2 : List Nat) : g13D A n (pth 11) K ⟨[(3, (pT 1001 0)), (4, (pT 1002 0)), (5, (pT 2002 0))], [(1001, (bU 4 x0 24)), (1002, (bU 4 x1 24)), (2002, (bW 8 x2 47))]⟩ = match (generalizing := false) g39ok A x0 with
    | true => K .normal ⟨[(6, (pT 3002 0)), (14, (aN .u32 8 (g39r0 A x0))), (13, (aN .u64 4 x0)), (3, (pT 1001 0)), (4, (pT 1002 0)), (5, (pT 2002 0))], [(3002, (bW 8 (g39r0 A x0) 47)), (1001, (bU 4 x0 24)), (1002, (bU 4 x1 24)), (2002, (bW 8 x2 47))]⟩
    | false => none := by kernel_rfl
theorem g13R3 (x0 x1 x2 : List Nat) : g13D A n (pth 23) K ⟨[(4, (pT 1002 0)), (5, (pT 2002 0)), (6, (pT 3002 0))], [(1002, (bU 4 x0 24)), (2002, (bW 8 x1 47)), (3002, (bW 8 x2 47))]⟩ = K .normal ⟨[(7, (pT 4000 0)), (4, (pT 1002 0)), (5, (pT 2002 0)), (6, (pT 3002 0))], [(4000, (bW 8 [0, 0, 0, 0, 0, 0, 0, 0] 47)), (1002, (bU 4 x0 24)), (2002, (bW 8 x1 47)), (3002, (bW 8 x2 47))]⟩ := by kernel_rfl
theorem g13R4 (x0 x1 : List Nat) (x2 x3 : List Nat) : g13D A n (pth 47) K ⟨[(4, (pT 1002 0)), (5, (pT 2002 0)), (6, (pT 3002 0)), (7, (pT 4000 0))], [(1002, (bU 4 x0 24)), (2002, (bW 8 x1 47)), (3002, (bW 8 x2 47)), (4000, (bW 8 x3 47))]⟩ = K .normal ⟨[(8, (u64v 0)), (4, (pT 1002 0)), (5, (pT 2002 0)), (6, (pT 3002 0)), (7, (pT 4000 0))], [(1002, (bU 4 x0 24)), (2002, (bW 8 x1 47)), (3002, (bW 8 x2 47)), (4000, (bW 8 x3 47))]⟩ := by kernel_rfl
theorem g13R5 (x0 : Nat) (x1 x2 : List Nat) (x3 x4 : List Nat) : g13D A n (pth 159) K ⟨[(4, (pT 1002 0)), (5, (pT 2002 0)), (6, (pT 3002 0)), (7, (pT 4000 0)), (8, (u64v x0))], [(1002, (bU 4 x1 24)), (2002, (bW 8 x2 47)), (3002, (bW 8 x3 47)), (4000, (bW 8 x4 47))]⟩ = K .normal ⟨[(9, (i6 0)), (4, (pT 1002 0)), (5, (pT 2002 0)), (6, (pT 3002 0)), (7, (pT 4000 0)), (8, (u64v x0))], [(1002, (bU 4 x1 24)), (2002, (bW 8 x2 47)), (3002, (bW 8 x3 47)), (4000, (bW 8 x4 47))]⟩ := by kernel_rfl
end
def g13J8 {R : Type} (A : Ar) (n : Nat) (kk : AV → Heap → Option R) (lg13L6 : Nat → Int → List Nat → List Nat → List Nat → List Nat → Option R) (x0 : Nat) (x1 : Int) (x2 x3 : List Nat) (x4 x5 : List Nat) : Option R :=
  match (generalizing := false) A.neg x1 with
  | true => none
  | false => match (generalizing := false) A.lt (A.toN x1) 8 with
    | true => match (generalizing := false) A.neg x1 with
      | true => none
      | false => match (generalizing := false) A.lt (A.toN x1) 8 with
        | true => match (generalizing := false) A.neg x1 with
          | true => none
          | false => match (generalizing := false) A.lt (A.toN x1) 8 with
            | true => lg13L6 (A.nsh .shr .u64 (A.nb .add .u64 (A.nb .add .u64 (x3.getD (A.toN x1) 0) (x4.getD (A.toN x1) 0)) x0) 32) (A.ib .add .i64 x1 1) x2 x3 x4 (x5.set (A.toN x1) (A.n2n .u32 (A.nb .add .u64 (A.nb .add .u64 (x3.getD (A.toN x1) 0) (x4.getD (A.toN x1) 0)) x0)))
            | false => none
        | false => none
    | false => none
set_option maxRecDepth 100000 in
theorem g13J8_eq {R : Type} (A : Ar) (n : Nat) (kk : AV → Heap → Option R) (m0 : Nat) (lg13L6 : Nat → Int → List Nat → List Nat → List Nat → List Nat → Option R) 
    (hg13L6 : ∀ (s : St) (x0 : Nat) (x1 : Int) (x2 x3 : List Nat) (x4 x5 : List Nat), keep g13an 6 s = ⟨[(4, (pT 1002 0)), (5, (pT 2002 0)), (6, (pT 3002 0)), (7, (pT 4000 0)), (8, (u64v x0)), (9, (i6 x1))], [(1002, (bU 4 x2 24)), (2002, (bW 8 x3 47)), (3002, (bW 8 x4 47)), (4000, (bW 8 x5 47))]⟩ → g13V A n (pth 607) m0 (blockK 0 (g13Q A n (pth 127) (g13T kk))) s = lg13L6 x0 x1 x2 x3 x4 x5) (s : St) (x0 : Nat) (x1 : Int) (x2 x3 : List Nat) (x4 x5 : List Nat) (h : keep g13an 8 s = ⟨[(4, (pT 1002 0)), (5, (pT 2002 0)), (6, (pT 3002 0)), (7, (pT 4000 0)), (8, (u64v x0)), (9, (i6 x1))], [(1002, (bU 4 x2 24)), (2002, (bW 8 x3 47)), (3002, (bW 8 x4 47)), (4000, (bW 8 x5 47))]⟩) :
    g13D A n (pth 1631) (g13W A n (pth 607) m0 (blockK 0 (g13Q A n (pth 127) (g13T kk)))) s = g13J8 A n kk lg13L6 x0 x1 x2 x3 x4 x5 := by
  have h9 := (g13Wn A n _ _ _ _).trans (hg13L6 ⟨[(9, (i6 (A.ib .add .i64 x1 1))), (18, (i6 (A.ib .add .i64 x1 1))), (17, (i6 x1)), (4, (pT 1002 0)), (5, (pT 2002 0)), (6, (pT 3002 0)), (7, (pT 4000 0)), (8, (u64v (A.nsh .shr .u64 (A.nb .add .u64 (A.nb .add .u64 (x3.getD (A.toN x1) 0) (x4.getD (A.toN x1) 0)) x0) 32))), (9, (i6 x1))], [(1002, (bU 4 x2 24)), (2002, (bW 8 x3 47)), (3002, (bW 8 x4 47)), (4000, (bW 8 (x5.set (A.toN x1) (A.n2n .u32 (A.nb .add .u64 (A.nb .add .u64 (x3.getD (A.toN x1) 0) (x4.getD (A.toN x1) 0)) x0))) 47))]⟩ (A.nsh .shr .u64 (A.nb .add .u64 (A.nb .add .u64 (x3.getD (A.toN x1) 0) (x4.getD (A.toN x1) 0)) x0) 32) (A.ib .add .i64 x1 1) x2 x3 x4 (x5.set (A.toN x1) (A.n2n .u32 (A.nb .add .u64 (A.nb .add .u64 (x3.getD (A.toN x1) 0) (x4.getD (A.toN x1) 0)) x0))) (by kernel_rfl))
  have h7 := g13R7 A n (g13W A n (pth 607) m0 (blockK 0 (g13Q A n (pth 127) (g13T kk)))) (A.nsh .shr .u64 (A.nb .add .u64 (A.nb .add .u64 (x3.getD (A.toN x1) 0) (x4.getD (A.toN x1) 0)) x0) 32) x1 x2 x3 x4 (x5.set (A.toN x1) (A.n2n .u32 (A.nb .add .u64 (A.nb .add .u64 (x3.getD (A.toN x1) 0) (x4.getD (A.toN x1) 0)) x0)))
  have h10 := (g13p11111010011 A n _ ⟨[(8, (u64v (A.nsh .shr .u64 (A.nb .add .u64 (A.nb .add .u64 (x3.getD (A.toN x1) 0) (x4.getD (A.toN x1) 0)) x0) 32))), (35, (u64v (A.nsh .shr .u64 (A.nb .add .u64 (A.nb .add .u64 (x3.getD (A.toN x1) 0) (x4.getD (A.toN x1) 0)) x0) 32))), (34, (u64v (A.nb .add .u64 (A.nb .add .u64 (x3.getD (A.toN x1) 0) (x4.getD (A.toN x1) 0)) x0))), (4, (pT 1002 0)), (5, (pT 2002 0)), (6, (pT 3002 0)), (7, (pT 4000 0)), (9, (i6 x1)), (10, (u64v (A.nb .add .u64 (A.nb .add .u64 (x3.getD (A.toN x1) 0) (x4.getD (A.toN x1) 0)) x0)))], [(1002, (bU 4 x2 24)), (2002, (bW 8 x3 47)), (3002, (bW 8 x4 47)), (4000, (bW 8 (x5.set (A.toN x1) (A.n2n .u32 (A.nb .add .u64 (A.nb .add .u64 (x3.getD (A.toN x1) 0) (x4.getD (A.toN x1) 0)) x0))) 47))]⟩ _ (by kernel_rfl)).trans h7
  rw [h9] at h10
  have h11 := (g13Qn A n _ _ _).trans h10
  have h12 := (blockK_n 1 _ _).trans h11
  have h5 := g13R10 A n (blockK 1 (g13Q A n (pth 3679) (g13W A n (pth 607) m0 (blockK 0 (g13Q A n (pth 127) (g13T kk)))))) x1 (A.nb .add .u64 (A.nb .add .u64 (x3.getD (A.toN x1) 0) (x4.getD (A.toN x1) 0)) x0) x2 x3 x4 (x5.set (A.toN x1) (A.n2n .u32 (A.nb .add .u64 (A.nb .add .u64 (x3.getD (A.toN x1) 0) (x4.getD (A.toN x1) 0)) x0)))
  have h13 := (g13p11111010010011 A n _ ⟨[(33, (.v (.cell (.ptr 4000 0 (some ⟨A.toN x1, 1, 8, 0, 0, 0⟩))))), (32, (u32v (A.n2n .u32 (A.nb .add .u64 (A.nb .add .u64 (x3.getD (A.toN x1) 0) (x4.getD (A.toN x1) 0)) x0)))), (31, (u64v (A.nb .add .u64 (A.nb .add .u64 (x3.getD (A.toN x1) 0) (x4.getD (A.toN x1) 0)) x0))), (30, (i6 x1)), (4, (pT 1002 0)), (5, (pT 2002 0)), (6, (pT 3002 0)), (7, (pT 4000 0)), (9, (i6 x1)), (10, (u64v (A.nb .add .u64 (A.nb .add .u64 (x3.getD (A.toN x1) 0) (x4.getD (A.toN x1) 0)) x0)))], [(1002, (bU 4 x2 24)), (2002, (bW 8 x3 47)), (3002, (bW 8 x4 47)), (4000, (bW 8 (x5.set (A.toN x1) (A.n2n .u32 (A.nb .add .u64 (A.nb .add .u64 (x3.getD (A.toN x1) 0) (x4.getD (A.toN x1) 0)) x0))) 47))]⟩ _ (by kernel_rfl)).trans h5
  rw [h12] at h13
  have h14 := (g13Qn A n _ _ _).trans h13
  have h3 := g13R9 A n (g13Q A n (pth 29279) (blockK 1 (g13Q A n (pth 3679) (g13W A n (pth 607) m0 (blockK 0 (g13Q A n (pth 127) (g13T kk))))))) x1 (A.nb .add .u64 (A.nb .add .u64 (x3.getD (A.toN x1) 0) (x4.getD (A.toN x1) 0)) x0) x2 x3 x4 x5
  have h15 := (g13p11111010010010 A n _ ⟨[(10, (u64v (A.nb .add .u64 (A.nb .add .u64 (x3.getD (A.toN x1) 0) (x4.getD (A.toN x1) 0)) x0))), (29, (u64v (A.nb .add .u64 (A.nb .add .u64 (x3.getD (A.toN x1) 0) (x4.getD (A.toN x1) 0)) x0))), (28, (u64v x0)), (27, (u64v (A.nb .add .u64 (x3.getD (A.toN x1) 0) (x4.getD (A.toN x1) 0)))), (26, (u64v (x4.getD (A.toN x1) 0))), (25, (u32v (x4.getD (A.toN x1) 0))), (24, (.v (.cell (.ptr 3002 0 (some ⟨A.toN x1, 1, 8, 0, 0, 0⟩))))), (23, (i6 x1)), (22, (u64v (x3.getD (A.toN x1) 0))), (21, (u32v (x3.getD (A.toN x1) 0))), (20, (.v (.cell (.ptr 2002 0 (some ⟨A.toN x1, 1, 8, 0, 0, 0⟩))))), (19, (i6 x1)), (4, (pT 1002 0)), (5, (pT 2002 0)), (6, (pT 3002 0)), (7, (pT 4000 0)), (8, (u64v x0)), (9, (i6 x1))], [(1002, (bU 4 x2 24)), (2002, (bW 8 x3 47)), (3002, (bW 8 x4 47)), (4000, (bW 8 x5 47))]⟩ _ (by kernel_rfl)).trans h3
  rw [h14] at h15
  have h16 := (g13p1111101001001 A n _ _).trans h15
  have h17 := (g13Qn A n _ _ _).trans h16
  have h1 := g13R8 A n (g13Q A n (pth 12895) (blockK 1 (g13Q A n (pth 3679) (g13W A n (pth 607) m0 (blockK 0 (g13Q A n (pth 127) (g13T kk))))))) x0 x1 x2 x3 x4 x5
  have h18 := (g13p1111101001000 A n _ ⟨[(4, (pT 1002 0)), (5, (pT 2002 0)), (6, (pT 3002 0)), (7, (pT 4000 0)), (8, (u64v x0)), (9, (i6 x1))], [(1002, (bU 4 x2 24)), (2002, (bW 8 x3 47)), (3002, (bW 8 x4 47)), (4000, (bW 8 x5 47))]⟩ _ (by kernel_rfl)).trans h1
  rw [h17] at h18
  have h19 := (g13p111110100100 A n _ _).trans h18
  have h20 := (g13p11111010010 A n _ _).trans h19
  have h21 := (g13p1111101001 A n _ _).trans h20
  exact (codeD_first (s' := ⟨[(4, (pT 1002 0)), (5, (pT 2002 0)), (6, (pT 3002 0)), (7, (pT 4000 0)), (8, (u64v x0)), (9, (i6 x1))], [(1002, (bU 4 x2 24)), (2002, (bW 8 x3 47)), (3002, (bW 8 x4 47)), (4000, (bW 8 x5 47))]⟩) (id := 8) (by kernel_rfl) (h.trans (by kernel_rfl)) _).trans (h21.trans (by kernel_rfl))
def g13L6 {R : Type} (A : Ar) (n : Nat) (kk : AV → Heap → Option R)  : Nat → Nat → Int → List Nat → List Nat → List Nat → List Nat → Option R
  | 0, _, _, _, _, _, _ => none
  | m + 1, x0, x1, x2, x3, x4, x5 => match (generalizing := false) A.ic .lss x1 8 with
  | true => g13J8 A n kk (g13L6 A n kk  m) x0 x1 x2 x3 x4 x5
  | false => match (generalizing := false) g41ok A x5 with
    | true => match (generalizing := false) g40ok A (g41r0 A x5) with
      | true => kk (aN .u64 4 (g40r0 A (g41r0 A x5))) [(1002, (bU 4 (g40r0 A (g41r0 A x5)) 24)), (4000, (bW 8 x5 47))]
      | false => none
    | false => none
set_option maxRecDepth 100000 in
theorem g13L6_eq {R : Type} (A : Ar) (n : Nat) (kk : AV → Heap → Option R)    (m : Nat) (s : St) (x0 : Nat) (x1 : Int) (x2 x3 : List Nat) (x4 x5 : List Nat) (h : keep g13an 6 s = ⟨[(4, (pT 1002 0)), (5, (pT 2002 0)), (6, (pT 3002 0)), (7, (pT 4000 0)), (8, (u64v x0)), (9, (i6 x1))], [(1002, (bU 4 x2 24)), (2002, (bW 8 x3 47)), (3002, (bW 8 x4 47)), (4000, (bW 8 x5 47))]⟩) :
    g13V A n (pth 607) m (blockK 0 (g13Q A n (pth 127) (g13T kk))) s = g13L6 A n kk  m x0 x1 x2 x3 x4 x5 := by
  induction m generalizing s x0 x1 x2 x3 x4 x5 with
  | zero => rfl
  | succ m ih =>
    have h3 := (g13Qn A n _ _ _).trans (g13J8_eq A n kk m (g13L6 A n kk  m) ih  ⟨[(16, (bO (A.ic .lss x1 8))), (15, (i6 x1)), (4, (pT 1002 0)), (5, (pT 2002 0)), (6, (pT 3002 0)), (7, (pT 4000 0)), (8, (u64v x0)), (9, (i6 x1))], [(1002, (bU 4 x2 24)), (2002, (bW 8 x3 47)), (3002, (bW 8 x4 47)), (4000, (bW 8 x5 47))]⟩ x0 x1 x2 x3 x4 x5 (by kernel_rfl))
    have h4 := (g13p111110100010 A n _ _).trans h3
    have h7 : (g13T kk) .ret ⟨[(38, (aN .u64 4 (g40r0 A (g41r0 A x5)))), (37, (aN .u32 8 (g41r0 A x5))), (36, (aN .u32 8 x5)), (4, (pT 1002 0)), (7, (pT 4000 0))], [(1002, (bU 4 (g40r0 A (g41r0 A x5)) 24)), (4000, (bW 8 x5 47))]⟩ = kk (aN .u64 4 (g40r0 A (g41r0 A x5))) [(1002, (bU 4 (g40r0 A (g41r0 A x5)) 24)), (4000, (bW 8 x5 47))] := by kernel_rfl
    have h8 := (g13p1111111 A n _ _).trans h7
    have h9 := (g13Qn A n _ _ _).trans h8
    have h5 := g13R11 A n (g13Q A n (pth 255) (g13T kk)) x2 x5
    have h10 := (g13p1111110 A n _ ⟨[(16, (bO (A.ic .lss x1 8))), (15, (i6 x1)), (4, (pT 1002 0)), (5, (pT 2002 0)), (6, (pT 3002 0)), (7, (pT 4000 0)), (8, (u64v x0)), (9, (i6 x1))], [(1002, (bU 4 x2 24)), (2002, (bW 8 x3 47)), (3002, (bW 8 x4 47)), (4000, (bW 8 x5 47))]⟩ _ (by kernel_rfl)).trans h5
    rw [h9] at h10
    have h11 := (g13p111111 A n _ _).trans h10
    have h12 := (g13Qn A n _ _ _).trans h11
    have h13 := (blockK_hit 0 _ _).trans h12
    have h14 := (g13We A n (pth 607) m _ _ _).trans h13
    have h15 := (g13Qe A n (pth 1631) _ _ _).trans h14
    have h16 := (g13p111110100011 A n _ _).trans h15
    have h17 := g13p11111010001 A n (g13Q A n (pth 1631) (g13W A n (pth 607) m (blockK 0 (g13Q A n (pth 127) (g13T kk))))) ⟨[(16, (bO (A.ic .lss x1 8))), (15, (i6 x1)), (4, (pT 1002 0)), (5, (pT 2002 0)), (6, (pT 3002 0)), (7, (pT 4000 0)), (8, (u64v x0)), (9, (i6 x1))], [(1002, (bU 4 x2 24)), (2002, (bW 8 x3 47)), (3002, (bW 8 x4 47)), (4000, (bW 8 x5 47))]⟩ (A.ic .lss x1 8) (by kernel_rfl)
    rw [h4, h16] at h17
    have h18 := (g13Qn A n _ _ _).trans h17
    have h1 := g13R6 A n (g13Q A n (pth 3167) (g13Q A n (pth 1631) (g13W A n (pth 607) m (blockK 0 (g13Q A n (pth 127) (g13T kk)))))) x0 x1 x2 x3 x4 x5
    have h19 := (g13p11111010000 A n _ ⟨[(4, (pT 1002 0)), (5, (pT 2002 0)), (6, (pT 3002 0)), (7, (pT 4000 0)), (8, (u64v x0)), (9, (i6 x1))], [(1002, (bU 4 x2 24)), (2002, (bW 8 x3 47)), (3002, (bW 8 x4 47)), (4000, (bW 8 x5 47))]⟩ _ (by kernel_rfl)).trans h1
    rw [h18] at h19
    have h20 := (g13p1111101000 A n _ _).trans h19
    have h21 := (g13p111110100 A n _ _).trans h20
    exact (loopD_first (s' := ⟨[(4, (pT 1002 0)), (5, (pT 2002 0)), (6, (pT 3002 0)), (7, (pT 4000 0)), (8, (u64v x0)), (9, (i6 x1))], [(1002, (bU 4 x2 24)), (2002, (bW 8 x3 47)), (3002, (bW 8 x4 47)), (4000, (bW 8 x5 47))]⟩) (id := 6) (by kernel_rfl) (h.trans (by kernel_rfl)) _).trans ((g13Vs A n _ m _ _).trans (h21.trans (by kernel_rfl)))
def g13 {R : Type} (A : Ar) (n : Nat) (kk : AV → Heap → Option R) (a b : List Nat) : Option R :=
  match (generalizing := false) g39ok A a with
  | true => match (generalizing := false) g39ok A b with
    | true => g13L6 A n kk  n 0 0 [0, 0, 0, 0] (g39r0 A a) (g39r0 A b) [0, 0, 0, 0, 0, 0, 0, 0]
    | false => none
  | false => none
set_option maxRecDepth 100000 in
theorem g13_eq {R : Type} (A : Ar) (n : Nat) (kk : AV → Heap → Option R) (a b : List Nat) :
    funD A gtys (g13O A) g13an n (bodyOf Try.f13) g13res [(aN .u64 4 a), (aN .u64 4 b)] [] kk = g13 A n kk a b := by
  have h13 := (g13p11111010 A n _ _).trans (g13L6_eq A n kk    n ⟨[(9, (i6 0)), (4, (pT 1002 0)), (5, (pT 2002 0)), (6, (pT 3002 0)), (7, (pT 4000 0)), (8, (u64v 0))], [(1002, (bU 4 [0, 0, 0, 0] 24)), (2002, (bW 8 (g39r0 A a) 47)), (3002, (bW 8 (g39r0 A b) 47)), (4000, (bW 8 [0, 0, 0, 0, 0, 0, 0, 0] 47))]⟩ 0 0 [0, 0, 0, 0] (g39r0 A a) (g39r0 A b) [0, 0, 0, 0, 0, 0, 0, 0] (by kernel_rfl))
  have h14 := (g13p1111101 A n _ _).trans h13
  have h15 := (g13Qn A n _ _ _).trans h14
  have h11 := g13R5 A n (g13Q A n (pth 223) (g13Q A n (pth 127) (g13T kk))) 0 [0, 0, 0, 0] (g39r0 A a) (g39r0 A b) [0, 0, 0, 0, 0, 0, 0, 0]
  have h16 := (g13p1111100 A n _ ⟨[(8, (u64v 0)), (4, (pT 1002 0)), (5, (pT 2002 0)), (6, (pT 3002 0)), (7, (pT 4000 0))], [(1002, (bU 4 [0, 0, 0, 0] 24)), (2002, (bW 8 (g39r0 A a) 47)), (3002, (bW 8 (g39r0 A b) 47)), (4000, (bW 8 [0, 0, 0, 0, 0, 0, 0, 0] 47))]⟩ _ (by kernel_rfl)).trans h11
  rw [h15] at h16
  have h17 := (g13p111110 A n _ _).trans h16
  have h18 := (g13p11111 A n _ _).trans h17
  have h19 := (g13Qn A n _ _ _).trans h18
  have h9 := g13R4 A n (g13Q A n (pth 63) (g13T kk)) [0, 0, 0, 0] (g39r0 A a) (g39r0 A b) [0, 0, 0, 0, 0, 0, 0, 0]
  have h20 := (g13p11110 A n _ ⟨[(7, (pT 4000 0)), (4, (pT 1002 0)), (5, (pT 2002 0)), (6, (pT 3002 0))], [(4000, (bW 8 [0, 0, 0, 0, 0, 0, 0, 0] 47)), (1002, (bU 4 [0, 0, 0, 0] 24)), (2002, (bW 8 (g39r0 A a) 47)), (3002, (bW 8 (g39r0 A b) 47))]⟩ _ (by kernel_rfl)).trans h9
  rw [h19] at h20
  have h21 := (g13p1111 A n _ _).trans h20
  have h22 := (g13Qn A n _ _ _).trans h21
  have h7 := g13R3 A n (g13Q A n (pth 31) (g13T kk)) [0, 0, 0, 0] (g39r0 A a) (g39r0 A b)
  have h23 := (g13p1110 A n _ ⟨[(6, (pT 3002 0)), (14, (aN .u32 8 (g39r0 A b))), (13, (aN .u64 4 b)), (3, (pT 1001 0)), (4, (pT 1002 0)), (5, (pT 2002 0))], [(3002, (bW 8 (g39r0 A b) 47)), (1001, (bU 4 b 24)), (1002, (bU 4 [0, 0, 0, 0] 24)), (2002, (bW 8 (g39r0 A a) 47))]⟩ _ (by kernel_rfl)).trans h7
  rw [h22] at h23
  have h24 := (g13p111 A n _ _).trans h23
  have h25 := (g13Qn A n _ _ _).trans h24
  have h5 := g13R2 A n (g13Q A n (pth 15) (g13T kk)) b [0, 0, 0, 0] (g39r0 A a)
  have h26 := (g13p110 A n _ ⟨[(5, (pT 2002 0)), (12, (aN .u32 8 (g39r0 A a))), (11, (aN .u64 4 a)), (2, (pT 1000 0)), (3, (pT 1001 0)), (4, (pT 1002 0))], [(2002, (bW 8 (g39r0 A a) 47)), (1000, (bU 4 a 24)), (1001, (bU 4 b 24)), (1002, (bU 4 [0, 0, 0, 0] 24))]⟩ _ (by kernel_rfl)).trans h5
  rw [h25] at h26
  have h27 := (g13p11 A n _ _).trans h26
  have h28 := (g13Qn A n _ _ _).trans h27
  have h3 := g13R1 A n (g13Q A n (pth 7) (g13T kk)) a b [0, 0, 0, 0]
  have h29 := (g13p10 A n _ ⟨[(4, (pT 1002 0)), (3, (pT 1001 0)), (2, (pT 1000 0)), (0, (aN .u64 4 a)), (1, (aN .u64 4 b))], [(1002, (bU 4 [0, 0, 0, 0] 24)), (1001, (bU 4 b 24)), (1000, (bU 4 a 24))]⟩ _ (by kernel_rfl)).trans h3
  rw [h28] at h29
  have h30 := (g13p1 A n _ _).trans h29
  have h31 := (g13Qn A n _ _ _).trans h30
  have h1 := g13R0 A n (g13Q A n (pth 3) (g13T kk)) a b
  have h32 := (g13p0 A n _ ⟨[(0, (aN .u64 4 a)), (1, (aN .u64 4 b))], []⟩ _ (by kernel_rfl)).trans h1
  rw [h31] at h32
  have h33 := (g13p A n _ _).trans h32
  exact (show funD A gtys (g13O A) g13an n (bodyOf Try.f13) g13res [(aN .u64 4 a), (aN .u64 4 b)] [] kk = g13D A n (pth 1) (g13T kk) ⟨[(0, (aN .u64 4 a)), (1, (aN .u64 4 b))], []⟩ from by kernel_rfl).trans (h33.trans (by kernel_rfl))
def g13is (o : Option AV) : Bool := match o with
  | some (aN .u64 4 _) => true
  | _ => false
def g13g0 (o : Option AV) : List Nat := match o with
  | some (aN .u64 4 x) => x
  | _ => []
theorem g13is_spec {o : Option AV} (h : g13is o = true) : o = some (aN .u64 4 (g13g0 o)) := by
  unfold g13is at h
  split at h
  · rfl
  · cases h
def g13v (A : Ar) (a b : List Nat) : Option AV := g13 A (100000) (fun v _ => some v) a b
def g13ok (A : Ar) (a b : List Nat) : Bool := g13is (g13v A a b)
def g13r0 (A : Ar) (a b : List Nat) : List Nat := g13g0 (g13v A a b)
theorem g13ok_spec {A : Ar} {a b} (h : g13ok A a b = true) : g13v A a b = some (aN .u64 4 (g13r0 A a b)) := g13is_spec h
def g13o (A : Ar) (args : List AV) : Option (Bool × AV) := match args with
  | [.v (.agg [.nums .u64 n0 a]), .v (.agg [.nums .u64 n1 b])] => some (Nat.beq n0 4 && (Nat.beq n1 4 && (g13ok A a b)), .v (.agg [.nums .u64 4 (g13r0 A a b)]))
  | _ => none
theorem g13o_sound : ∀ args v, g13o realA args = some (true, v) → Fn1 Try.prog 13 args v := by
  intro args v h
  unfold g13o at h
  split at h
  · rename_i n0 a n1 b
    simp only [Option.some.injEq, Prod.mk.injEq] at h
    obtain ⟨hc, h⟩ := h
    subst h
    · skip
      simp only [Bool.and_eq_true] at hc
      have en0 := beq_true hc.1
      subst en0
      replace hc := hc.2
      have en1 := beq_true hc.1
      subst en1
      replace hc := hc.2
      exact fn1_of mixed gtysOK g13O_sound g13O_det (an := g13an) (n := 100000) Try.func13 (c := bodyOf Try.f13) rfl (by kernel_rfl) Try.call13 (Nat.le_of_ble_eq_true rfl) (fun b => rfl) (fun _ => (g13_eq realA (100000) (fun v _ => some v) a b).trans (show g13v realA a b = _ from g13ok_spec hc))
  · cases h
/- engrosser/engrosserref03.Neg -/
def g19O (A : Ar) : Orc := orcOf [(45, g45o A), (39, g39o A), (44, g44o A), (41, g41o A), (40, g40o A)]
theorem g19O_sound : OSound Try.prog (g19O realA) := orc_sound fun f g hm args v hv => by
  simp only [List.mem_cons, List.not_mem_nil, or_false, Prod.mk.injEq] at hm
  rcases hm with ⟨rfl, rfl⟩ | ⟨rfl, rfl⟩ | ⟨rfl, rfl⟩ | ⟨rfl, rfl⟩ | ⟨rfl, rfl⟩
  · exact g45o_sound _ _ hv
  · exact g39o_sound _ _ hv
  · exact g44o_sound _ _ hv
  · exact g41o_sound _ _ hv
  · exact g40o_sound _ _ hv
theorem g19O_det : ODet (g19O realA) := orc_det _
def g19an : Ann := [(0, ([0], [])), (1, ([1, 2], [1000, 1001]))]
def g19res : List ResultVar := [.cell 2 24]
noncomputable def g19D {R : Type} (A : Ar) (n : Nat) (p : List Bool) (K : Ex → St → Option R) (s : St) : Option R := codeD A gtys (g19O A) g19an n (sub (bodyOf Try.f19) p) K s
noncomputable def g19Q {R : Type} (A : Ar) (n : Nat) (p : List Bool) (K : Ex → St → Option R) : Ex → St → Option R := seqC (g19D A n p K) K
noncomputable def g19T {R : Type} (kk : AV → Heap → Option R) : Ex → St → Option R := finD gtys g19res kk
theorem g19Qn {R : Type} (A : Ar) (n : Nat) (p : List Bool) (K : Ex → St → Option R) (s : St) : g19Q A n p K .normal s = g19D A n p K s := rfl
section
variable {R : Type} (A : Ar) (n : Nat) (K : Ex → St → Option R) (s : St)
theorem g19p : g19D A n (pth 1) K s = g19D A n (pth 2) (g19Q A n (pth 3) K) s := by kernel_rfl
theorem g19p0 (s' : St) (h : keep g19an 0 s = keep g19an 0 s') : g19D A n (pth 2) K s = g19D A n (pth 2) K s' := codeD_first (id := 0) (by kernel_rfl) h K
theorem g19p1 : g19D A n (pth 3) K s = g19D A n (pth 5) (g19Q A n (pth 7) K) s := by kernel_rfl
theorem g19p10 (s' : St) (h : keep g19an 1 s = keep g19an 1 s') : g19D A n (pth 5) K s = g19D A n (pth 5) K s' := codeD_first (id := 1) (by kernel_rfl) h K
theorem g19p11 : g19D A n (pth 7) K s = K .ret s := by kernel_rfl
theorem g19R0 (x0 : List Nat) : g19D A n (pth 2) K ⟨[(0, (aN .u64 4 x0))], []⟩ = K .normal ⟨[(2, (pT 1001 0)), (1, (pT 1000 0)), (0, (aN .u64 4 x0))], [(1001, (bU 4 [0, 0, 0, 0] 24)), (1000, (bU 4 x0 24))]⟩ := by kernel_rfl
theorem g19R1 (x0 x1 : List Nat) : g19D A n (pth 5) K ⟨[(1, (pT 1000 0)), (2, (pT 1001 0))], [(1000, (bU 4 x0 24)), (1001, (bU 4 x1 24))]⟩ = match (generalizing := false) g45ok A with
    | true => match (generalizing := false) g39ok A x0 with
      | true => match (generalizing := false) g44ok A (g45r0 A) (g39r0 A x0) with
        | true => match (generalizing := false) g41ok A (g44r0 A (g45r0 A) (g39r0 A x0)) with
          | true => match (generalizing := false) g40ok A (g41r0 A (g44r0 A (g45r0 A) (g39r0 A x0))) with
            | true => K .normal ⟨[(8, (aN .u64 4 (g40r0 A (g41r0 A (g44r0 A (g45r0 A) (g39r0 A x0)))))), (7, (aN .u32 8 (g41r0 A (g44r0 A (g45r0 A) (g39r0 A x0))))), (6, (aN .u32 8 (g44r0 A (g45r0 A) (g39r0 A x0)))), (5, (aN .u32 8 (g39r0 A x0))), (4, (aN .u64 4 x0)), (3, (aN .u32 8 (g45r0 A))), (1, (pT 1000 0)), (2, (pT 1001 0))], [(1000, (bU 4 x0 24)), (1001, (bU 4 (g40r0 A (g41r0 A (g44r0 A (g45r0 A) (g39r0 A x0)))) 24))]⟩
            | false => none
          | false => none
        | false => none
      | false => none
    | false => none := by kernel_rfl
end
def g19 {R : Type} (A : Ar) (n : Nat) (kk : AV → Heap → Option R) (a : List Nat) : Option R :=
  match (generalizing := false) g45ok A with
  | true => match (generalizing := false) g39ok A a with
    | true => match (generalizing := false) g44ok A (g45r0 A) (g39r0 A a) with
      | true => match (generalizing := false) g41ok A (g44r0 A (g45r0 A) (g39r0 A a)) with
        | true => match (generalizing := false) g40ok A (g41r0 A (g44r0 A (g45r0 A) (g39r0 A a))) with
          | true => kk (aN .u64 4 (g40r0 A (g41r0 A (g44r0 A (g45r0 A) (g39r0 A a))))) [(1000, (bU 4 a 24)), (1001, (bU 4 (g40r0 A (g41r0 A (g44r0 A (g45r0 A) (g39r0 A a)))) 24))]
          | false => none
        | false => none
      | false => none
    | false => none
  | false => none
set_option maxRecDepth 100000 in
theorem g19_eq {R : Type} (A : Ar) (n : Nat) (kk : AV → Heap → Option R) (a : List Nat) :
    funD A gtys (g19O A) g19an n (bodyOf Try.f19) g19res [(aN .u64 4 a)] [] kk = g19 A n kk a := by
  have h5 : (g19T kk) .ret ⟨[(8, (aN .u64 4 (g40r0 A (g41r0 A (g44r0 A (g45r0 A) (g39r0 A a)))))), (7, (aN .u32 8 (g41r0 A (g44r0 A (g45r0 A) (g39r0 A a))))), (6, (aN .u32 8 (g44r0 A (g45r0 A) (g39r0 A a)))), (5, (aN .u32 8 (g39r0 A a))), (4, (aN .u64 4 a)), (3, (aN .u32 8 (g45r0 A))), (1, (pT 1000 0)), (2, (pT 1001 0))], [(1000, (bU 4 a 24)), (1001, (bU 4 (g40r0 A (g41r0 A (g44r0 A (g45r0 A) (g39r0 A a)))) 24))]⟩ = kk (aN .u64 4 (g40r0 A (g41r0 A (g44r0 A (g45r0 A) (g39r0 A a))))) [(1000, (bU 4 a 24)), (1001, (bU 4 (g40r0 A (g41r0 A (g44r0 A (g45r0 A) (g39r0 A a)))) 24))] := by kernel_rfl
  have h6 := (g19p11 A n _ _).trans h5
  have h7 := (g19Qn A n _ _ _).trans h6
  have h3 := g19R1 A n (g19Q A n (pth 7) (g19T kk)) a [0, 0, 0, 0]
  have h8 := (g19p10 A n _ ⟨[(2, (pT 1001 0)), (1, (pT 1000 0)), (0, (aN .u64 4 a))], [(1001, (bU 4 [0, 0, 0, 0] 24)), (1000, (bU 4 a 24))]⟩ _ (by kernel_rfl)).trans h3
  rw [h7] at h8
  have h9 := (g19p1 A n _ _).trans h8
  have h10 := (g19Qn A n _ _ _).trans h9
  have h1 := g19R0 A n (g19Q A n (pth 3) (g19T kk)) a
  have h11 := (g19p0 A n _ ⟨[(0, (aN .u64 4 a))], []⟩ _ (by kernel_rfl)).trans h1
  rw [h10] at h11
  have h12 := (g19p A n _ _).trans h11
  exact (show funD A gtys (g19O A) g19an n (bodyOf Try.f19) g19res [(aN .u64 4 a)] [] kk = g19D A n (pth 1) (g19T kk) ⟨[(0, (aN .u64 4 a))], []⟩ from by kernel_rfl).trans (h12.trans (by kernel_rfl))
def g19is (o : Option AV) : Bool := match o with
  | some (aN .u64 4 _) => true
  | _ => false
def g19g0 (o : Option AV) : List Nat := match o with
  | some (aN .u64 4 x) => x
  | _ => []
theorem g19is_spec {o : Option AV} (h : g19is o = true) : o = some (aN .u64 4 (g19g0 o)) := by
  unfold g19is at h
  split at h
  · rfl
  · cases h
def g19v (A : Ar) (a : List Nat) : Option AV := g19 A (100000) (fun v _ => some v) a
def g19ok (A : Ar) (a : List Nat) : Bool := g19is (g19v A a)
def g19r0 (A : Ar) (a : List Nat) : List Nat := g19g0 (g19v A a)
theorem g19ok_spec {A : Ar} {a} (h : g19ok A a = true) : g19v A a = some (aN .u64 4 (g19r0 A a)) := g19is_spec h
def g19o (A : Ar) (args : List AV) : Option (Bool × AV) := match args with
  | [.v (.agg [.nums .u64 n0 a])] => some (Nat.beq n0 4 && (g19ok A a), .v (.agg [.nums .u64 4 (g19r0 A a)]))
  | _ => none
theorem g19o_sound : ∀ args v, g19o realA args = some (true, v) → Fn1 Try.prog 19 args v := by
  intro args v h
  unfold g19o at h
  split at h
  · rename_i n0 a
    simp only [Option.some.injEq, Prod.mk.injEq] at h
    obtain ⟨hc, h⟩ := h
    subst h
    · skip
      simp only [Bool.and_eq_true] at hc
      have en0 := beq_true hc.1
      subst en0
      replace hc := hc.2
      exact fn1_of mixed gtysOK g19O_sound g19O_det (an := g19an) (n := 100000) Try.func19 (c := bodyOf Try.f19) rfl (by kernel_rfl) Try.call19 (Nat.le_of_ble_eq_true rfl) (fun b => rfl) (fun _ => (g19_eq realA (100000) (fun v _ => some v) a).trans (show g19v realA a = _ from g19ok_spec hc))
  · cases h
/- engrosser/engrosserref03.Sub -/
def g15O (A : Ar) : Orc := orcOf [(19, g19o A), (13, g13o A)]
theorem g15O_sound : OSound Try.prog (g15O realA) := orc_sound fun f g hm args v hv => by
  simp only [List.mem_cons, List.not_mem_nil, or_false, Prod.mk.injEq] at hm
  rcases hm with ⟨rfl, rfl⟩ | ⟨rfl, rfl⟩
  · exact g19o_sound _ _ hv
  · exact g13o_sound _ _ hv
theorem g15O_det : ODet (g15O realA) := orc_det _
def g15an : Ann := [(0, ([0, 1], [])), (1, ([2, 3, 4], [1000, 1001, 1002]))]
def g15res : List ResultVar := [.cell 4 24]
noncomputable def g15D {R : Type} (A : Ar) (n : Nat) (p : List Bool) (K : Ex → St → Option R) (s : St) : Option R := codeD A gtys (g15O A) g15an n (sub (bodyOf Try.f15) p) K s
noncomputable def g15Q {R : Type} (A : Ar) (n : Nat) (p : List Bool) (K : Ex → St → Option R) : Ex → St → Option R := seqC (g15D A n p K) K
noncomputable def g15T {R : Type} (kk : AV → Heap → Option R) : Ex → St → Option R := finD gtys g15res kk
theorem g15Qn {R : Type} (A : Ar) (n : Nat) (p : List Bool) (K : Ex → St → Option R) (s : St) : g15Q A n p K .normal s = g15D A n p K s := rfl
section
variable {R : Type} (A : Ar) (n : Nat) (K : Ex → St → Option R) (s : St)
theorem g15p : g15D A n (pth 1) K s = g15D A n (pth 2) (g15Q A n (pth 3) K) s := by kernel_rfl
theorem g15p0 (s' : St) (h : keep g15an 0 s = keep g15an 0 s') : g15D A n (pth 2) K s = g15D A n (pth 2) K s' := codeD_first (id := 0) (by kernel_rfl) h K
theorem g15p1 : g15D A n (pth 3) K s = g15D A n (pth 5) (g15Q A n (pth 7) K) s := by kernel_rfl
theorem g15p10 (s' : St) (h : keep g15an 1 s = keep g15an 1 s') : g15D A n (pth 5) K s = g15D A n (pth 5) K s' := codeD_first (id := 1) (by kernel_rfl) h K
theorem g15p11 : g15D A n (pth 7) K s = K .ret s := by kernel_rfl
theorem g15R0 (x0 x1 : List Nat) : g15D A n (pth 2) K ⟨[(0, (aN .u64 4 x0)), (1, (aN .u64 4 x1))], []⟩ = K .normal ⟨[(4, (pT 1002 0)), (3, (pT 1001 0)), (2, (pT 1000 0)), (0, (aN .u64 4 x0)), (1, (aN .u64 4 x1))], [(1002, (bU 4 [0, 0, 0, 0] 24)), (1001, (bU 4 x1 24)), (1000, (bU 4 x0 24))]⟩ := by kernel_rfl
theorem g15R1 (x0 x1 x2 : List Nat) : g15D A n (pth 5) K ⟨[(2, (pT 1000 0)), (3, (pT 1001 0)), (4, (pT 1002 0))], [(1000, (bU 4 x0 24)), (1001, (bU 4 x1 24)), (1002, (bU 4 x2 24))]⟩ = match (generalizing := false) g19ok A x1 with
    | true => match (generalizing := false) g13ok A x0 (g19r0 A x1) with
      | true => K .normal ⟨[(8, (aN .u64 4 (g13r0 A x0 (g19r0 A x1)))), (7, (aN .u64 4 (g19r0 A x1))), (6, (aN .u64 4 x1)), (5, (aN .u64 4 x0)), (2, (pT 1000 0)), (3, (pT 1001 0)), (4, (pT 1002 0))], [(1000, (bU 4 x0 24)), (1001, (bU 4 x1 24)), (1002, (bU 4 (g13r0 A x0 (g19r0 A x1)) 24))]⟩
      | false => none
    | false => none := by kernel_rfl
end
def g15 {R : Type} (A : Ar) (n : Nat) (kk : AV → Heap → Option R) (a b : List Nat) : Option R :=
  match (generalizing := false) g19ok A b with
  | true => match (generalizing := false) g13ok A a (g19r0 A b) with
    | true => kk (aN .u64 4 (g13r0 A a (g19r0 A b))) [(1000, (bU 4 a 24)), (1001, (bU 4 b 24)), (1002, (bU 4 (g13r0 A a (g19r0 A b)) 24))]
    | false => none
  | false => none
set_option maxRecDepth 100000 in
theorem g15_eq {R : Type} (A : Ar) (n : Nat) (kk : AV → Heap → Option R) (a b : List Nat) :
    funD A gtys (g15O A) g15an n (bodyOf Try.f15) g15res [(aN .u64 4 a), (aN .u64 4 b)] [] kk = g15 A n kk a b := by
  have h5 : (g15T kk) .ret ⟨[(8, (aN .u64 4 (g13r0 A a (g19r0 A b)))), (7, (aN .u64 4 (g19r0 A b))), (6, (aN .u64 4 b)), (5, (aN .u64 4 a)), (2, (pT 1000 0)), (3, (pT 1001 0)), (4, (pT 1002 0))], [(1000, (bU 4 a 24)), (1001, (bU 4 b 24)), (1002, (bU 4 (g13r0 A a (g19r0 A b)) 24))]⟩ = kk (aN .u64 4 (g13r0 A a (g19r0 A b))) [(1000, (bU 4 a 24)), (1001, (bU 4 b 24)), (1002, (bU 4 (g13r0 A a (g19r0 A b)) 24))] := by kernel_rfl
  have h6 := (g15p11 A n _ _).trans h5
  have h7 := (g15Qn A n _ _ _).trans h6
  have h3 := g15R1 A n (g15Q A n (pth 7) (g15T kk)) a b [0, 0, 0, 0]
  have h8 := (g15p10 A n _ ⟨[(4, (pT 1002 0)), (3, (pT 1001 0)), (2, (pT 1000 0)), (0, (aN .u64 4 a)), (1, (aN .u64 4 b))], [(1002, (bU 4 [0, 0, 0, 0] 24)), (1001, (bU 4 b 24)), (1000, (bU 4 a 24))]⟩ _ (by kernel_rfl)).trans h3
  rw [h7] at h8
  have h9 := (g15p1 A n _ _).trans h8
  have h10 := (g15Qn A n _ _ _).trans h9
  have h1 := g15R0 A n (g15Q A n (pth 3) (g15T kk)) a b
  have h11 := (g15p0 A n _ ⟨[(0, (aN .u64 4 a)), (1, (aN .u64 4 b))], []⟩ _ (by kernel_rfl)).trans h1
  rw [h10] at h11
  have h12 := (g15p A n _ _).trans h11
  exact (show funD A gtys (g15O A) g15an n (bodyOf Try.f15) g15res [(aN .u64 4 a), (aN .u64 4 b)] [] kk = g15D A n (pth 1) (g15T kk) ⟨[(0, (aN .u64 4 a)), (1, (aN .u64 4 b))], []⟩ from by kernel_rfl).trans (h12.trans (by kernel_rfl))
def g15is (o : Option AV) : Bool := match o with
  | some (aN .u64 4 _) => true
  | _ => false
def g15g0 (o : Option AV) : List Nat := match o with
  | some (aN .u64 4 x) => x
  | _ => []
theorem g15is_spec {o : Option AV} (h : g15is o = true) : o = some (aN .u64 4 (g15g0 o)) := by
  unfold g15is at h
  split at h
  · rfl
  · cases h
def g15v (A : Ar) (a b : List Nat) : Option AV := g15 A (100000) (fun v _ => some v) a b
def g15ok (A : Ar) (a b : List Nat) : Bool := g15is (g15v A a b)
def g15r0 (A : Ar) (a b : List Nat) : List Nat := g15g0 (g15v A a b)
theorem g15ok_spec {A : Ar} {a b} (h : g15ok A a b = true) : g15v A a b = some (aN .u64 4 (g15r0 A a b)) := g15is_spec h
def g15o (A : Ar) (args : List AV) : Option (Bool × AV) := match args with
  | [.v (.agg [.nums .u64 n0 a]), .v (.agg [.nums .u64 n1 b])] => some (Nat.beq n0 4 && (Nat.beq n1 4 && (g15ok A a b)), .v (.agg [.nums .u64 4 (g15r0 A a b)]))
  | _ => none
theorem g15o_sound : ∀ args v, g15o realA args = some (true, v) → Fn1 Try.prog 15 args v := by
  intro args v h
  unfold g15o at h
  split at h
  · rename_i n0 a n1 b
    simp only [Option.some.injEq, Prod.mk.injEq] at h
    obtain ⟨hc, h⟩ := h
    subst h
    · skip
      simp only [Bool.and_eq_true] at hc
      have en0 := beq_true hc.1
      subst en0
      replace hc := hc.2
      have en1 := beq_true hc.1
      subst en1
      replace hc := hc.2
      exact fn1_of mixed gtysOK g15O_sound g15O_det (an := g15an) (n := 100000) Try.func15 (c := bodyOf Try.f15) rfl (by kernel_rfl) Try.call15 (Nat.le_of_ble_eq_true rfl) (fun b => rfl) (fun _ => (g15_eq realA (100000) (fun v _ => some v) a b).trans (show g15v realA a b = _ from g15ok_spec hc))
  · cases h
/- engrosser/engrosserref03.fold -/
def g43O (A : Ar) : Orc := orcOf [(41, g41o A)]
theorem g43O_sound : OSound Try.prog (g43O realA) := orc_sound fun f g hm args v hv => by
  simp only [List.mem_cons, List.not_mem_nil, or_false, Prod.mk.injEq] at hm
  rcases hm with ⟨rfl, rfl⟩
  · exact g41o_sound _ _ hv
theorem g43O_det : ODet (g43O realA) := orc_det _
def g43an : Ann := [(0, ([0], [0])), (1, ([0, 2], [0, 1000])), (2, ([0, 2, 3], [0, 1000, 2000])), (3, ([0, 2, 3, 4], [0, 1000, 2000])), (4, ([0, 2, 3, 4, 5], [0, 1000, 2000])), (5, ([0, 2, 3, 4, 5], [0, 1000, 2000])), (6, ([0, 2, 3, 4, 5], [0, 1000, 2000])), (7, ([0, 2, 3, 5, 6], [0, 1000, 2000])), (8, ([0, 2, 3, 5, 6], [0, 1000, 2000])), (9, ([2, 3, 4], [0, 1000, 2000])), (10, ([2, 3, 4], [0, 1000, 2000])), (11, ([2, 3, 7], [0, 1000, 2000])), (12, ([2, 3, 7], [0, 1000, 2000])), (13, ([2, 3, 7, 8], [0, 1000, 2000])), (14, ([2, 3, 7, 8], [0, 1000, 2000])), (15, ([2, 3, 7, 8], [0, 1000, 2000])), (16, ([2, 3, 7, 8], [0, 1000, 2000])), (17, ([2, 3, 7, 8], [0, 1000, 2000])), (18, ([2, 3, 7], [0, 1000, 2000])), (19, ([2, 3], [0, 1000, 2000]))]
def g43res : List ResultVar := [.cell 2 47]
noncomputable def g43D {R : Type} (A : Ar) (n : Nat) (p : List Bool) (K : Ex → St → Option R) (s : St) : Option R := codeD A gtys (g43O A) g43an n (sub (bodyOf Try.f43) p) K s
noncomputable def g43V {R : Type} (A : Ar) (n : Nat) (p : List Bool) (m : Nat) (K : Ex → St → Option R) (s : St) : Option R := loopD (fun K' s'' => codeD A gtys (g43O A) g43an n (sub (bodyOf Try.f43) p) K' s'') m K s
noncomputable def g43Q {R : Type} (A : Ar) (n : Nat) (p : List Bool) (K : Ex → St → Option R) : Ex → St → Option R := seqC (g43D A n p K) K
noncomputable def g43W {R : Type} (A : Ar) (n : Nat) (p : List Bool) (m : Nat) (K : Ex → St → Option R) : Ex → St → Option R := seqC (g43V A n p m K) K
noncomputable def g43T {R : Type} (kk : AV → Heap → Option R) : Ex → St → Option R := finD gtys g43res kk
theorem g43Qn {R : Type} (A : Ar) (n : Nat) (p : List Bool) (K : Ex → St → Option R) (s : St) : g43Q A n p K .normal s = g43D A n p K s := rfl
theorem g43Qe {R : Type} (A : Ar) (n : Nat) (p : List Bool) (K : Ex → St → Option R) (i : Nat) (s : St) : g43Q A n p K (.exit i) s = K (.exit i) s := rfl
theorem g43Wn {R : Type} (A : Ar) (n : Nat) (p : List Bool) (m : Nat) (K : Ex → St → Option R) (s : St) : g43W A n p m K .normal s = g43V A n p m K s := rfl
theorem g43We {R : Type} (A : Ar) (n : Nat) (p : List Bool) (m : Nat) (K : Ex → St → Option R) (i : Nat) (s : St) : g43W A n p m K (.exit i) s = K (.exit i) s := rfl
theorem g43Vs {R : Type} (A : Ar) (n : Nat) (p : List Bool) (m : Nat) (K : Ex → St → Option R) (s : St) : g43V A n p (m + 1) K s = g43D A n p (g43W A n p m K) s := rfl
section
variable {R : Type} (A : Ar) (n : Nat) (K : Ex → St → Option R) (s : St)
theorem g43p : g43D A n (pth 1) K s = g43D A n (pth 2) (g43Q A n (pth 3) K) s := by kernel_rfl
theorem g43p0 (s' : St) (h : keep g43an 0 s = keep g43an 0 s') : g43D A n (pth 2) K s = g43D A n (pth 2) K s' := codeD_first (id := 0) (by kernel_rfl) h K
theorem g43p1 : g43D A n (pth 3) K s = g43D A n (pth 5) (g43Q A n (pth 7) K) s := by kernel_rfl
theorem g43p10 (s' : St) (h : keep g43an 1 s = keep g43an 1 s') : g43D A n (pth 5) K s = g43D A n (pth 5) K s' := codeD_first (id := 1) (by kernel_rfl) h K
theorem g43p11 : g43D A n (pth 7) K s = g43D A n (pth 11) (g43Q A n (pth 15) K) s := by kernel_rfl
theorem g43p110 (s' : St) (h : keep g43an 2 s = keep g43an 2 s') : g43D A n (pth 11) K s = g43D A n (pth 11) K s' := codeD_first (id := 2) (by kernel_rfl) h K
theorem g43p111 : g43D A n (pth 15) K s = g43D A n (pth 23) (g43Q A n (pth 31) K) s := by kernel_rfl
theorem g43p1110 : g43D A n (pth 23) K s = g43D A n (pth 39) (g43Q A n (pth 55) K) s := by kernel_rfl
theorem g43p11100 (s' : St) (h : keep g43an 3 s = keep g43an 3 s') : g43D A n (pth 39) K s = g43D A n (pth 39) K s' := codeD_first (id := 3) (by kernel_rfl) h K
theorem g43p11101 : g43D A n (pth 55) K s = g43D A n (pth 87) (blockK 0 K) s := by kernel_rfl
theorem g43p111010 : g43D A n (pth 87) K s = g43V A n (pth 151) n K s := by kernel_rfl
theorem g43p1110100 : g43D A n (pth 151) K s = g43D A n (pth 279) (g43Q A n (pth 407) K) s := by kernel_rfl
theorem g43p11101000 : g43D A n (pth 279) K s = g43D A n (pth 535) (g43Q A n (pth 791) K) s := by kernel_rfl
theorem g43p111010000 (s' : St) (h : keep g43an 4 s = keep g43an 4 s') : g43D A n (pth 535) K s = g43D A n (pth 535) K s' := codeD_first (id := 4) (by kernel_rfl) h K
theorem g43p111010001 (t : Bool) : ev s (.tmp 10) = some (.v (.cell (.bool t))) → g43D A n (pth 791) K s = (match t with
    | true => g43D A n (pth 1303) K s
    | false => g43D A n (pth 1815) K s) := codeD_cond t
theorem g43p1110100010 : g43D A n (pth 1303) K s = K .normal s := by kernel_rfl
theorem g43p1110100011 : g43D A n (pth 1815) K s = K (.exit 0) s := by kernel_rfl
theorem g43p11101001 : g43D A n (pth 407) K s = g43D A n (pth 663) (g43Q A n (pth 919) K) s := by kernel_rfl
theorem g43p111010010 : g43D A n (pth 663) K s = g43D A n (pth 1175) (blockK 1 K) s := by kernel_rfl
theorem g43p1110100100 : g43D A n (pth 1175) K s = g43D A n (pth 2199) (g43Q A n (pth 3223) K) s := by kernel_rfl
theorem g43p11101001000 (s' : St) (h : keep g43an 6 s = keep g43an 6 s') : g43D A n (pth 2199) K s = g43D A n (pth 2199) K s' := codeD_first (id := 6) (by kernel_rfl) h K
theorem g43p11101001001 : g43D A n (pth 3223) K s = g43D A n (pth 5271) (g43Q A n (pth 7319) K) s := by kernel_rfl
theorem g43p111010010010 (s' : St) (h : keep g43an 7 s = keep g43an 7 s') : g43D A n (pth 5271) K s = g43D A n (pth 5271) K s' := codeD_first (id := 7) (by kernel_rfl) h K
theorem g43p111010010011 (s' : St) (h : keep g43an 8 s = keep g43an 8 s') : g43D A n (pth 7319) K s = g43D A n (pth 7319) K s' := codeD_first (id := 8) (by kernel_rfl) h K
theorem g43p111010011 (s' : St) (h : keep g43an 5 s = keep g43an 5 s') : g43D A n (pth 919) K s = g43D A n (pth 919) K s' := codeD_first (id := 5) (by kernel_rfl) h K
theorem g43p1111 : g43D A n (pth 31) K s = g43D A n (pth 47) (g43Q A n (pth 63) K) s := by kernel_rfl
theorem g43p11110 : g43D A n (pth 47) K s = g43D A n (pth 79) (blockK 2 K) s := by kernel_rfl
theorem g43p111100 : g43D A n (pth 79) K s = g43V A n (pth 143) n K s := by kernel_rfl
theorem g43p1111000 : g43D A n (pth 143) K s = g43D A n (pth 271) (g43Q A n (pth 399) K) s := by kernel_rfl
theorem g43p11110000 : g43D A n (pth 271) K s = g43D A n (pth 527) (g43Q A n (pth 783) K) s := by kernel_rfl
theorem g43p111100000 (s' : St) (h : keep g43an 9 s = keep g43an 9 s') : g43D A n (pth 527) K s = g43D A n (pth 527) K s' := codeD_first (id := 9) (by kernel_rfl) h K
theorem g43p111100001 (t : Bool) : ev s (.tmp 33) = some (.v (.cell (.bool t))) → g43D A n (pth 783) K s = (match t with
    | true => g43D A n (pth 1295) K s
    | false => g43D A n (pth 1807) K s) := codeD_cond t
theorem g43p1111000010 : g43D A n (pth 1295) K s = K .normal s := by kernel_rfl
theorem g43p1111000011 : g43D A n (pth 1807) K s = K (.exit 2) s := by kernel_rfl
theorem g43p11110001 : g43D A n (pth 399) K s = g43D A n (pth 655) (blockK 3 K) s := by kernel_rfl
theorem g43p111100010 : g43D A n (pth 655) K s = g43D A n (pth 1167) (g43Q A n (pth 1679) K) s := by kernel_rfl
theorem g43p1111000100 (s' : St) (h : keep g43an 10 s = keep g43an 10 s') : g43D A n (pth 1167) K s = g43D A n (pth 1167) K s' := codeD_first (id := 10) (by kernel_rfl) h K
theorem g43p1111000101 : g43D A n (pth 1679) K s = g43D A n (pth 2703) (g43Q A n (pth 3727) K) s := by kernel_rfl
theorem g43p11110001010 (s' : St) (h : keep g43an 11 s = keep g43an 11 s') : g43D A n (pth 2703) K s = g43D A n (pth 2703) K s' := codeD_first (id := 11) (by kernel_rfl) h K
theorem g43p11110001011 : g43D A n (pth 3727) K s = g43D A n (pth 5775) (g43Q A n (pth 7823) K) s := by kernel_rfl
theorem g43p111100010110 : g43D A n (pth 5775) K s = g43D A n (pth 9871) (g43Q A n (pth 13967) K) s := by kernel_rfl
theorem g43p1111000101100 (s' : St) (h : keep g43an 12 s = keep g43an 12 s') : g43D A n (pth 9871) K s = g43D A n (pth 9871) K s' := codeD_first (id := 12) (by kernel_rfl) h K
theorem g43p1111000101101 : g43D A n (pth 13967) K s = g43D A n (pth 22159) (blockK 4 K) s := by kernel_rfl
theorem g43p11110001011010 : g43D A n (pth 22159) K s = g43V A n (pth 38543) n K s := by kernel_rfl
theorem g43p111100010110100 : g43D A n (pth 38543) K s = g43D A n (pth 71311) (g43Q A n (pth 104079) K) s := by kernel_rfl
theorem g43p1111000101101000 : g43D A n (pth 71311) K s = g43D A n (pth 136847) (g43Q A n (pth 202383) K) s := by kernel_rfl
theorem g43p11110001011010000 (s' : St) (h : keep g43an 13 s = keep g43an 13 s') : g43D A n (pth 136847) K s = g43D A n (pth 136847) K s' := codeD_first (id := 13) (by kernel_rfl) h K
theorem g43p11110001011010001 (t : Bool) : ev s (.tmp 37) = some (.v (.cell (.bool t))) → g43D A n (pth 202383) K s = (match t with
    | true => g43D A n (pth 333455) K s
    | false => g43D A n (pth 464527) K s) := codeD_cond t
theorem g43p111100010110100010 : g43D A n (pth 333455) K s = K .normal s := by kernel_rfl
theorem g43p111100010110100011 : g43D A n (pth 464527) K s = K (.exit 4) s := by kernel_rfl
theorem g43p1111000101101001 : g43D A n (pth 104079) K s = g43D A n (pth 169615) (g43Q A n (pth 235151) K) s := by kernel_rfl
theorem g43p11110001011010010 : g43D A n (pth 169615) K s = g43D A n (pth 300687) (blockK 5 K) s := by kernel_rfl
theorem g43p111100010110100100 : g43D A n (pth 300687) K s = g43D A n (pth 562831) (g43Q A n (pth 824975) K) s := by kernel_rfl
theorem g43p1111000101101001000 (s' : St) (h : keep g43an 15 s = keep g43an 15 s') : g43D A n (pth 562831) K s = g43D A n (pth 562831) K s' := codeD_first (id := 15) (by kernel_rfl) h K
theorem g43p1111000101101001001 : g43D A n (pth 824975) K s = g43D A n (pth 1349263) (g43Q A n (pth 1873551) K) s := by kernel_rfl
theorem g43p11110001011010010010 (s' : St) (h : keep g43an 16 s = keep g43an 16 s') : g43D A n (pth 1349263) K s = g43D A n (pth 1349263) K s' := codeD_first (id := 16) (by kernel_rfl) h K
theorem g43p11110001011010010011 (s' : St) (h : keep g43an 17 s = keep g43an 17 s') : g43D A n (pth 1873551) K s = g43D A n (pth 1873551) K s' := codeD_first (id := 17) (by kernel_rfl) h K
theorem g43p11110001011010011 (s' : St) (h : keep g43an 14 s = keep g43an 14 s') : g43D A n (pth 235151) K s = g43D A n (pth 235151) K s' := codeD_first (id := 14) (by kernel_rfl) h K
theorem g43p111100010111 (s' : St) (h : keep g43an 18 s = keep g43an 18 s') : g43D A n (pth 7823) K s = g43D A n (pth 7823) K s' := codeD_first (id := 18) (by kernel_rfl) h K
theorem g43p11111 : g43D A n (pth 63) K s = g43D A n (pth 95) (g43Q A n (pth 127) K) s := by kernel_rfl
theorem g43p111110 (s' : St) (h : keep g43an 19 s = keep g43an 19 s') : g43D A n (pth 95) K s = g43D A n (pth 95) K s' := codeD_first (id := 19) (by kernel_rfl) h K
theorem g43p111111 : g43D A n (pth 127) K s = K .ret s := by kernel_rfl
theorem g43R6 (x0 x1 : Nat) (x2 : Int) (x3 : Nat) (x4 x5 x6 : List Nat) : g43D A n (pth 2199) K ⟨[(0, (sL 0 none x0 1)), (2, (pT 1000 0)), (3, (pT 2000 0)), (4, (u64v x1)), (5, (i6 x2))], [(0, ⟨[.nums .u64 x3 x4], 22, 2⟩), (1000, (bW 8 x5 47)), (2000, (bW 8 x6 47))]⟩ = match (generalizing := false) A.neg x2 with
    | true => none
    | false => match (generalizing := false) A.lt (A.toN x2) x0 with
      | true => match (generalizing := false) A.neg (A.ib .add .i64 x2 8) with
        | true => none
        | false => match (generalizing := false) A.lt (A.toN (A.ib .add .i64 x2 8)) x0 with
          | true => K .normal ⟨[(6, (u64v (A.nb .add .u64 (A.nb .add .u64 (x4.getD (A.toN x2) 0) (A.nb .mul .u64 38 (x4.getD (A.toN (A.ib .add .i64 x2 8)) 0))) x1))), (25, (u64v (A.nb .add .u64 (A.nb .add .u64 (x4.getD (A.toN x2) 0) (A.nb .mul .u64 38 (x4.getD (A.toN (A.ib .add .i64 x2 8)) 0))) x1))), (24, (u64v x1)), (23, (u64v (A.nb .add .u64 (x4.getD (A.toN x2) 0) (A.nb .mul .u64 38 (x4.getD (A.toN (A.ib .add .i64 x2 8)) 0))))), (22, (u64v (A.nb .mul .u64 38 (x4.getD (A.toN (A.ib .add .i64 x2 8)) 0)))), (21, (u64v (x4.getD (A.toN (A.ib .add .i64 x2 8)) 0))), (20, (.v (.cell (.ptr 0 0 (some ⟨A.toN (A.ib .add .i64 x2 8), 1, x0, A.toN (A.ib .add .i64 x2 8), 0, 1⟩))))), (19, (i6 (A.ib .add .i64 x2 8))), (18, (i6 x2)), (17, (sL 0 none x0 1)), (16, (u64v (x4.getD (A.toN x2) 0))), (15, (.v (.cell (.ptr 0 0 (some ⟨A.toN x2, 1, x0, A.toN x2, 0, 1⟩))))), (14, (i6 x2)), (13, (sL 0 none x0 1)), (0, (sL 0 none x0 1)), (2, (pT 1000 0)), (3, (pT 2000 0)), (4, (u64v x1)), (5, (i6 x2))], [(0, ⟨[.nums .u64 x3 x4], 22, 2⟩), (1000, (bW 8 x5 47)), (2000, (bW 8 x6 47))]⟩
          | false => none
      | false => none := by kernel_rfl
theorem g43R7 (x0 : Nat) (x1 : Int) (x2 x3 : Nat) (x4 x5 x6 : List Nat) : g43D A n (pth 5271) K ⟨[(0, (sL 0 none x0 1)), (2, (pT 1000 0)), (3, (pT 2000 0)), (5, (i6 x1)), (6, (u64v x2))], [(0, ⟨[.nums .u64 x3 x4], 22, 2⟩), (1000, (bW 8 x5 47)), (2000, (bW 8 x6 47))]⟩ = match (generalizing := false) A.neg x1 with
    | true => none
    | false => match (generalizing := false) A.lt (A.toN x1) 8 with
      | true => K .normal ⟨[(29, (.v (.cell (.ptr 2000 0 (some ⟨A.toN x1, 1, 8, 0, 0, 0⟩))))), (28, (u32v (A.n2n .u32 x2))), (27, (u64v x2)), (26, (i6 x1)), (0, (sL 0 none x0 1)), (2, (pT 1000 0)), (3, (pT 2000 0)), (5, (i6 x1)), (6, (u64v x2))], [(0, ⟨[.nums .u64 x3 x4], 22, 2⟩), (1000, (bW 8 x5 47)), (2000, (bW 8 (x6.set (A.toN x1) (A.n2n .u32 x2)) 47))]⟩
      | false => none := by kernel_rfl
theorem g43R8 (x0 : Nat) (x1 : Int) (x2 x3 : Nat) (x4 x5 x6 : List Nat) : g43D A n (pth 7319) K ⟨[(0, (sL 0 none x0 1)), (2, (pT 1000 0)), (3, (pT 2000 0)), (5, (i6 x1)), (6, (u64v x2))], [(0, ⟨[.nums .u64 x3 x4], 22, 2⟩), (1000, (bW 8 x5 47)), (2000, (bW 8 x6 47))]⟩ = K .normal ⟨[(4, (u64v (A.nsh .shr .u64 x2 32))), (31, (u64v (A.nsh .shr .u64 x2 32))), (30, (u64v x2)), (0, (sL 0 none x0 1)), (2, (pT 1000 0)), (3, (pT 2000 0)), (5, (i6 x1)), (6, (u64v x2))], [(0, ⟨[.nums .u64 x3 x4], 22, 2⟩), (1000, (bW 8 x5 47)), (2000, (bW 8 x6 47))]⟩ := by kernel_rfl
theorem g43R5 (x0 x1 : Nat) (x2 : Int) (x3 : Nat) (x4 x5 x6 : List Nat) : g43D A n (pth 919) K ⟨[(0, (sL 0 none x0 1)), (2, (pT 1000 0)), (3, (pT 2000 0)), (4, (u64v x1)), (5, (i6 x2))], [(0, ⟨[.nums .u64 x3 x4], 22, 2⟩), (1000, (bW 8 x5 47)), (2000, (bW 8 x6 47))]⟩ = K .normal ⟨[(5, (i6 (A.ib .add .i64 x2 1))), (12, (i6 (A.ib .add .i64 x2 1))), (11, (i6 x2)), (0, (sL 0 none x0 1)), (2, (pT 1000 0)), (3, (pT 2000 0)), (4, (u64v x1)), (5, (i6 x2))], [(0, ⟨[.nums .u64 x3 x4], 22, 2⟩), (1000, (bW 8 x5 47)), (2000, (bW 8 x6 47))]⟩ := by kernel_rfl
theorem g43R15 (x0 : Nat) (x1 : Int) (x2 : Nat) (x3 x4 x5 : List Nat) : g43D A n (pth 562831) K ⟨[(2, (pT 1000 0)), (3, (pT 2000 0)), (7, (u64v x0)), (8, (i6 x1))], [(0, ⟨[.nums .u64 x2 x3], 22, 2⟩), (1000, (bW 8 x4 47)), (2000, (bW 8 x5 47))]⟩ = match (generalizing := false) A.neg x1 with
    | true => none
    | false => match (generalizing := false) A.lt (A.toN x1) 8 with
      | true => K .normal ⟨[(7, (u64v (A.nb .add .u64 x0 (x5.getD (A.toN x1) 0)))), (45, (u64v (A.nb .add .u64 x0 (x5.getD (A.toN x1) 0)))), (44, (u64v (x5.getD (A.toN x1) 0))), (43, (u32v (x5.getD (A.toN x1) 0))), (42, (.v (.cell (.ptr 2000 0 (some ⟨A.toN x1, 1, 8, 0, 0, 0⟩))))), (41, (i6 x1)), (40, (u64v x0)), (2, (pT 1000 0)), (3, (pT 2000 0)), (7, (u64v x0)), (8, (i6 x1))], [(0, ⟨[.nums .u64 x2 x3], 22, 2⟩), (1000, (bW 8 x4 47)), (2000, (bW 8 x5 47))]⟩
      | false => none := by kernel_rfl
theorem g43R16 (x0 : Nat) (x1 : Int) (x2 : Nat) (x3 x4 x5 : List Nat) : g43D A n (pth 1349263) K ⟨[(2, (pT 1000 0)), (3, (pT 2000 0)), (7, (u64v x0)), (8, (i6 x1))], [(0, ⟨[.nums .u64 x2 x3], 22, 2⟩), (1000, (bW 8 x4 47)), (2000, (bW 8 x5 47))]⟩ = match (generalizing := false) A.neg x1 with
    | true => none
    | false => match (generalizing := false) A.lt (A.toN x1) 8 with
      | true => K .normal ⟨[(49, (.v (.cell (.ptr 2000 0 (some ⟨A.toN x1, 1, 8, 0, 0, 0⟩))))), (48, (u32v (A.n2n .u32 x0))), (47, (u64v x0)), (46, (i6 x1)), (2, (pT 1000 0)), (3, (pT 2000 0)), (7, (u64v x0)), (8, (i6 x1))], [(0, ⟨[.nums .u64 x2 x3], 22, 2⟩), (1000, (bW 8 x4 47)), (2000, (bW 8 (x5.set (A.toN x1) (A.n2n .u32 x0)) 47))]⟩
      | false => none := by kernel_rfl
theorem g43R17 (x0 : Nat) (x1 : Int) (x2 : Nat) (x3 x4 x5 : List Nat) : g43D A n (pth 1873551) K ⟨[(2, (pT 1000 0)), (3, (pT 2000 0)), (7, (u64v x0)), (8, (i6 x1))], [(0, ⟨[.nums .u64 x2 x3], 22, 2⟩), (1000, (bW 8 x4 47)), (2000, (bW 8 x5 47))]⟩ = K .normal ⟨[(7, (u64v (A.nsh .shr .u64 x0 32))), (51, (u64v (A.nsh .shr .u64 x0 32))), (50, (u64v x0)), (2, (pT 1000 0)), (3, (pT 2000 0)), (7, (u64v x0)), (8, (i6 x1))], [(0, ⟨[.nums .u64 x2 x3], 22, 2⟩), (1000, (bW 8 x4 47)), (2000, (bW 8 x5 47))]⟩ := by kernel_rfl
theorem g43R14 (x0 : Nat) (x1 : Int) (x2 : Nat) (x3 x4 x5 : List Nat) : g43D A n (pth 235151) K ⟨[(2, (pT 1000 0)), (3, (pT 2000 0)), (7, (u64v x0)), (8, (i6 x1))], [(0, ⟨[.nums .u64 x2 x3], 22, 2⟩), (1000, (bW 8 x4 47)), (2000, (bW 8 x5 47))]⟩ = K .normal ⟨[(8, (i6 (A.ib .add .i64 x1 1))), (39, (i6 (A.ib .add .i64 x1 1))), (38, (i6 x1)), (2, (pT 1000 0)), (3, (pT 2000 0)), (7, (u64v x0)), (8, (i6 x1))], [(0, ⟨[.nums .u64 x2 x3], 22, 2⟩), (1000, (bW 8 x4 47)), (2000, (bW 8 x5 47))]⟩ := by kernel_rfl
theorem g43R13 (x0 : Nat) (x1 : Int) (x2 : Nat) (x3 x4 x5 : List Nat) : g43D A n (pth 136847) K ⟨[(2, (pT 1000 0)), (3, (pT 2000 0)), (7, (u64v x0)), (8, (i6 x1))], [(0, ⟨[.nums .u64 x2 x3], 22, 2⟩), (1000, (bW 8 x4 47)), (2000, (bW 8 x5 47))]⟩ = K .normal ⟨[(37, (bO (A.ic .lss x1 8))), (36, (i6 x1)), (2, (pT 1000 0)), (3, (pT 2000 0)), (7, (u64v x0)), (8, (i6 x1))], [(0, ⟨[.nums .u64 x2 x3], 22, 2⟩), (1000, (bW 8 x4 47)), (2000, (bW 8 x5 47))]⟩ := by kernel_rfl
theorem g43R18 (x0 x1 : Nat) (x2 x3 x4 : List Nat) : g43D A n (pth 7823) K ⟨[(2, (pT 1000 0)), (3, (pT 2000 0)), (7, (u64v x0))], [(0, ⟨[.nums .u64 x1 x2], 22, 2⟩), (1000, (bW 8 x3 47)), (2000, (bW 8 x4 47))]⟩ = K .normal ⟨[(4, (u64v x0)), (52, (u64v x0)), (2, (pT 1000 0)), (3, (pT 2000 0)), (7, (u64v x0))], [(0, ⟨[.nums .u64 x1 x2], 22, 2⟩), (1000, (bW 8 x3 47)), (2000, (bW 8 x4 47))]⟩ := by kernel_rfl
theorem g43R10 (x0 x1 : Nat) (x2 x3 x4 : List Nat) : g43D A n (pth 1167) K ⟨[(2, (pT 1000 0)), (3, (pT 2000 0)), (4, (u64v x0))], [(0, ⟨[.nums .u64 x1 x2], 22, 2⟩), (1000, (bW 8 x3 47)), (2000, (bW 8 x4 47))]⟩ = K .normal ⟨[(7, (u64v (A.nb .mul .u64 x0 38))), (35, (u64v (A.nb .mul .u64 x0 38))), (34, (u64v x0)), (2, (pT 1000 0)), (3, (pT 2000 0)), (4, (u64v x0))], [(0, ⟨[.nums .u64 x1 x2], 22, 2⟩), (1000, (bW 8 x3 47)), (2000, (bW 8 x4 47))]⟩ := by kernel_rfl
theorem g43R11 (x0 x1 : Nat) (x2 x3 x4 : List Nat) : g43D A n (pth 2703) K ⟨[(2, (pT 1000 0)), (3, (pT 2000 0)), (7, (u64v x0))], [(0, ⟨[.nums .u64 x1 x2], 22, 2⟩), (1000, (bW 8 x3 47)), (2000, (bW 8 x4 47))]⟩ = K .normal ⟨[(4, (u64v 0)), (2, (pT 1000 0)), (3, (pT 2000 0)), (7, (u64v x0))], [(0, ⟨[.nums .u64 x1 x2], 22, 2⟩), (1000, (bW 8 x3 47)), (2000, (bW 8 x4 47))]⟩ := by kernel_rfl
theorem g43R12 (x0 x1 : Nat) (x2 x3 x4 : List Nat) : g43D A n (pth 9871) K ⟨[(2, (pT 1000 0)), (3, (pT 2000 0)), (7, (u64v x0))], [(0, ⟨[.nums .u64 x1 x2], 22, 2⟩), (1000, (bW 8 x3 47)), (2000, (bW 8 x4 47))]⟩ = K .normal ⟨[(8, (i6 0)), (2, (pT 1000 0)), (3, (pT 2000 0)), (7, (u64v x0))], [(0, ⟨[.nums .u64 x1 x2], 22, 2⟩), (1000, (bW 8 x3 47)), (2000, (bW 8 x4 47))]⟩ := by kernel_rfl
theorem g43R9 (x0 x1 : Nat) (x2 x3 x4 : List Nat) : g43D A n (pth 527) K ⟨[(2, (pT 1000 0)), (3, (pT 2000 0)), (4, (u64v x0))], [(0, ⟨[.nums .u64 x1 x2], 22, 2⟩), (1000, (bW 8 x3 47)), (2000, (bW 8 x4 47))]⟩ = K .normal ⟨[(33, (bO (A.nc .gtr x0 0))), (32, (u64v x0)), (2, (pT 1000 0)), (3, (pT 2000 0)), (4, (u64v x0))], [(0, ⟨[.nums .u64 x1 x2], 22, 2⟩), (1000, (bW 8 x3 47)), (2000, (bW 8 x4 47))]⟩ := by kernel_rfl
theorem g43R19 (x0 : Nat) (x1 x2 x3 : List Nat) : g43D A n (pth 95) K ⟨[(2, (pT 1000 0)), (3, (pT 2000 0))], [(0, ⟨[.nums .u64 x0 x1], 22, 2⟩), (1000, (bW 8 x2 47)), (2000, (bW 8 x3 47))]⟩ = match (generalizing := false) g41ok A x3 with
    | true => K .normal ⟨[(54, (aN .u32 8 (g41r0 A x3))), (53, (aN .u32 8 x3)), (2, (pT 1000 0)), (3, (pT 2000 0))], [(0, ⟨[.nums .u64 x0 x1], 22, 2⟩), (1000, (bW 8 (g41r0 A x3) 47)), (2000, (bW 8 x3 47))]⟩
    | false => none := by kernel_rfl
theorem g43R4 (x0 x1 : Nat) (x2 : Int) (x3 : Nat) (x4 x5 x6 : List Nat) : g43D A n (pth 535) K ⟨[(0, (sL 0 none x0 1)), (2, (pT 1000 0)), (3, (pT 2000 0)), (4, (u64v x1)), (5, (i6 x2))], [(0, ⟨[.nums .u64 x3 x4], 22, 2⟩), (1000, (bW 8 x5 47)), (2000, (bW 8 x6 47))]⟩ = K .normal ⟨[(10, (bO (A.ic .lss x2 8))), (9, (i6 x2)), (0, (sL 0 none x0 1)), (2, (pT 1000 0)), (3, (pT 2000 0)), (4, (u64v x1)), (5, (i6 x2))], [(0, ⟨[.nums .u64 x3 x4], 22, 2⟩), (1000, (bW 8 x5 47)), (2000, (bW 8 x6 47))]⟩ := by kernel_rfl
theorem g43R0 (x0 x1 : Nat) (x2 : List Nat) : g43D A n (pth 2) K ⟨[(0, (sL 0 none x0 1))], [(0, ⟨[.nums .u64 x1 x2], 22, 2⟩)]⟩ = K .normal ⟨[(2, (pT 1000 0)), (0, (sL 0 none x0 1))], [(1000, (bW 8 [0, 0, 0, 0, 0, 0, 0, 0] 47)), (0, ⟨[.nums .u64 x1 x2], 22, 2⟩)]⟩ := by kernel_rfl
theorem g43R1 (x0 x1 : Nat) (x2 x3 : List Nat) : g43D A n (pth 5) K ⟨[(0, (sL 0 none x0 1)), (2, (pT 1000 0))], [(0, ⟨[.nums .u64 x1 x2], 22, 2⟩), (1000, (bW 8 x3 47))]⟩ = K .normal ⟨[(3, (pT 2000 0)), (0, (sL 0 none x0 1)), (2, (pT 1000 0))], [(2000, (bW 8 [0, 0, 0, 0, 0, 0, 0, 0] 47)), (0, ⟨[.nums .u64 x1 x2], 22, 2⟩), (1000, (bW 8 x3 47))]⟩ := by kernel_rfl
theorem g43R2 (x0 x1 : Nat) (x2 x3 x4 : List Nat) : g43D A n (pth 11) K ⟨[(0, (sL 0 none x0 1)), (2, (pT 1000 0)), (3, (pT 2000 0))], [(0, ⟨[.nums .u64 x1 x2], 22, 2⟩), (1000, (bW 8 x3 47)), (2000, (bW 8 x4 47))]⟩ = K .normal ⟨[(4, (u64v 0)), (0, (sL 0 none x0 1)), (2, (pT 1000 0)), (3, (pT 2000 0))], [(0, ⟨[.nums .u64 x1 x2], 22, 2⟩), (1000, (bW 8 x3 47)), (2000, (bW 8 x4 47))]⟩ := by kernel_rfl
theorem g43R3 (x0 x1 x2 : Nat) (x3 x4 x5 : List Nat) : g43D A n (pth 39) K ⟨[(0, (sL 0 none x0 1)), (2, (pT 1000 0)), (3, (pT 2000 0)), (4, (u64v x1))], [(0, ⟨[.nums .u64 x2 x3], 22, 2⟩), (1000, (bW 8 x4 47)), (2000, (bW 8 x5 47))]⟩ = K .normal ⟨[(5, (i6 0)), (0, (sL 0 none x0 1)), (2, (pT 1000 0)), (3, (pT 2000 0)), (4, (u64v x1))], [(0, ⟨[.nums .u64 x2 x3], 22, 2⟩), (1000, (bW 8 x4 47)), (2000, (bW 8 x5 47))]⟩ := by kernel_rfl
end
def g43J6 {R : Type} (A : Ar) (n : Nat) (kk : AV → Heap → Option R) (lg43L4 : Nat → Nat → Int → Nat → List Nat → List Nat → List Nat → Option R) (x0 x1 : Nat) (x2 : Int) (x3 : Nat) (x4 x5 x6 : List Nat) : Option R :=
  match (generalizing := false) A.neg x2 with
  | true => none
  | false => match (generalizing := false) A.lt (A.toN x2) x0 with
    | true => match (generalizing := false) A.neg (A.ib .add .i64 x2 8) with
      | true => none
      | false => match (generalizing := false) A.lt (A.toN (A.ib .add .i64 x2 8)) x0 with
        | true => match (generalizing := false) A.neg x2 with
          | true => none
          | false => match (generalizing := false) A.lt (A.toN x2) 8 with
            | true => lg43L4 x0 (A.nsh .shr .u64 (A.nb .add .u64 (A.nb .add .u64 (x4.getD (A.toN x2) 0) (A.nb .mul .u64 38 (x4.getD (A.toN (A.ib .add .i64 x2 8)) 0))) x1) 32) (A.ib .add .i64 x2 1) x3 x4 x5 (x6.set (A.toN x2) (A.n2n .u32 (A.nb .add .u64 (A.nb .add .u64 (x4.getD (A.toN x2) 0) (A.nb .mul .u64 38 (x4.getD (A.toN (A.ib .add .i64 x2 8)) 0))) x1)))
            | false => none
        | false => none
    | false => none
set_option maxRecDepth 100000 in
theorem g43J6_eq {R : Type} (A : Ar) (n : Nat) (kk : AV → Heap → Option R) (m0 : Nat) (lg43L4 : Nat → Nat → Int → Nat → List Nat → List Nat → List Nat → Option R) 
    (hg43L4 : ∀ (s : St) (x0 x1 : Nat) (x2 : Int) (x3 : Nat) (x4 x5 x6 : List Nat), keep g43an 4 s = ⟨[(0, (sL 0 none x0 1)), (2, (pT 1000 0)), (3, (pT 2000 0)), (4, (u64v x1)), (5, (i6 x2))], [(0, ⟨[.nums .u64 x3 x4], 22, 2⟩), (1000, (bW 8 x5 47)), (2000, (bW 8 x6 47))]⟩ → g43V A n (pth 151) m0 (blockK 0 (g43Q A n (pth 31) (g43T kk))) s = lg43L4 x0 x1 x2 x3 x4 x5 x6) (s : St) (x0 x1 : Nat) (x2 : Int) (x3 : Nat) (x4 x5 x6 : List Nat) (h : keep g43an 6 s = ⟨[(0, (sL 0 none x0 1)), (2, (pT 1000 0)), (3, (pT 2000 0)), (4, (u64v x1)), (5, (i6 x2))], [(0, ⟨[.nums .u64 x3 x4], 22, 2⟩), (1000, (bW 8 x5 47)), (2000, (bW 8 x6 47))]⟩) :
    g43D A n (pth 407) (g43W A n (pth 151) m0 (blockK 0 (g43Q A n (pth 31) (g43T kk)))) s = g43J6 A n kk lg43L4 x0 x1 x2 x3 x4 x5 x6 := by
  have h9 := (g43Wn A n _ _ _ _).trans (hg43L4 ⟨[(5, (i6 (A.ib .add .i64 x2 1))), (12, (i6 (A.ib .add .i64 x2 1))), (11, (i6 x2)), (0, (sL 0 none x0 1)), (2, (pT 1000 0)), (3, (pT 2000 0)), (4, (u64v (A.nsh .shr .u64 (A.nb .add .u64 (A.nb .add .u64 (x4.getD (A.toN x2) 0) (A.nb .mul .u64 38 (x4.getD (A.toN (A.ib .add .i64 x2 8)) 0))) x1) 32))), (5, (i6 x2))], [(0, ⟨[.nums .u64 x3 x4], 22, 2⟩), (1000, (bW 8 x5 47)), (2000, (bW 8 (x6.set (A.toN x2) (A.n2n .u32 (A.nb .add .u64 (A.nb .add .u64 (x4.getD (A.toN x2) 0) (A.nb .mul .u64 38 (x4.getD (A.toN (A.ib .add .i64 x2 8)) 0))) x1))) 47))]⟩ x0 (A.nsh .shr .u64 (A.nb .add .u64 (A.nb .add .u64 (x4.getD (A.toN x2) 0) (A.nb .mul .u64 38 (x4.getD (A.toN (A.ib .add .i64 x2 8)) 0))) x1) 32) (A.ib .add .i64 x2 1) x3 x4 x5 (x6.set (A.toN x2) (A.n2n .u32 (A.nb .add .u64 (A.nb .add .u64 (x4.getD (A.toN x2) 0) (A.nb .mul .u64 38 (x4.getD (A.toN (A.ib .add .i64 x2 8)) 0))) x1))) (by kernel_rfl))
  have h7 := g43R5 A n (g43W A n (pth 151) m0 (blockK 0 (g43Q A n (pth 31) (g43T kk)))) x0 (A.nsh .shr .u64 (A.nb .add .u64 (A.nb .add .u64 (x4.getD (A.toN x2) 0) (A.nb .mul .u64 38 (x4.getD (A.toN (A.ib .add .i64 x2 8)) 0))) x1) 32) x2 x3 x4 x5 (x6.set (A.toN x2) (A.n2n .u32 (A.nb .add .u64 (A.nb .add .u64 (x4.getD (A.toN x2) 0) (A.nb .mul .u64 38 (x4.getD (A.toN (A.ib .add .i64 x2 8)) 0))) x1)))
  have h10 := (g43p111010011 A n _ ⟨[(4, (u64v (A.nsh .shr .u64 (A.nb .add .u64 (A.nb .add .u64 (x4.getD (A.toN x2) 0) (A.nb .mul .u64 38 (x4.getD (A.toN (A.ib .add .i64 x2 8)) 0))) x1) 32))), (31, (u64v (A.nsh .shr .u64 (A.nb .add .u64 (A.nb .add .u64 (x4.getD (A.toN x2) 0) (A.nb .mul .u64 38 (x4.getD (A.toN (A.ib .add .i64 x2 8)) 0))) x1) 32))), (30, (u64v (A.nb .add .u64 (A.nb .add .u64 (x4.getD (A.toN x2) 0) (A.nb .mul .u64 38 (x4.getD (A.toN (A.ib .add .i64 x2 8)) 0))) x1))), (0, (sL 0 none x0 1)), (2, (pT 1000 0)), (3, (pT 2000 0)), (5, (i6 x2)), (6, (u64v (A.nb .add .u64 (A.nb .add .u64 (x4.getD (A.toN x2) 0) (A.nb .mul .u64 38 (x4.getD (A.toN (A.ib .add .i64 x2 8)) 0))) x1)))], [(0, ⟨[.nums .u64 x3 x4], 22, 2⟩), (1000, (bW 8 x5 47)), (2000, (bW 8 (x6.set (A.toN x2) (A.n2n .u32 (A.nb .add .u64 (A.nb .add .u64 (x4.getD (A.toN x2) 0) (A.nb .mul .u64 38 (x4.getD (A.toN (A.ib .add .i64 x2 8)) 0))) x1))) 47))]⟩ _ (by kernel_rfl)).trans h7
  rw [h9] at h10
  have h11 := (g43Qn A n _ _ _).trans h10
  have h12 := (blockK_n 1 _ _).trans h11
  have h5 := g43R8 A n (blockK 1 (g43Q A n (pth 919) (g43W A n (pth 151) m0 (blockK 0 (g43Q A n (pth 31) (g43T kk)))))) x0 x2 (A.nb .add .u64 (A.nb .add .u64 (x4.getD (A.toN x2) 0) (A.nb .mul .u64 38 (x4.getD (A.toN (A.ib .add .i64 x2 8)) 0))) x1) x3 x4 x5 (x6.set (A.toN x2) (A.n2n .u32 (A.nb .add .u64 (A.nb .add .u64 (x4.getD (A.toN x2) 0) (A.nb .mul .u64 38 (x4.getD (A.toN (A.ib .add .i64 x2 8)) 0))) x1)))
  have h13 := (g43p111010010011 A n _ ⟨[(29, (.v (.cell (.ptr 2000 0 (some ⟨A.toN x2, 1, 8, 0, 0, 0⟩))))), (28, (u32v (A.n2n .u32 (A.nb .add .u64 (A.nb .add .u64 (x4.getD (A.toN x2) 0) (A.nb .mul .u64 38 (x4.getD (A.toN (A.ib .add .i64 x2 8)) 0))) x1)))), (27, (u64v (A.nb .add .u64 (A.nb .add .u64 (x4.getD (A.toN x2) 0) (A.nb .mul .u64 38 (x4.getD (A.toN (A.ib .add .i64 x2 8)) 0))) x1))), (26, (i6 x2)), (0, (sL 0 none x0 1)), (2, (pT 1000 0)), (3, (pT 2000 0)), (5, (i6 x2)), (6, (u64v (A.nb .add .u64 (A.nb .add .u64 (x4.getD (A.toN x2) 0) (A.nb .mul .u64 38 (x4.getD (A.toN (A.ib .add .i64 x2 8)) 0))) x1)))], [(0, ⟨[.nums .u64 x3 x4], 22, 2⟩), (1000, (bW 8 x5 47)), (2000, (bW 8 (x6.set (A.toN x2) (A.n2n .u32 (A.nb .add .u64 (A.nb .add .u64 (x4.getD (A.toN x2) 0) (A.nb .mul .u64 38 (x4.getD (A.toN (A.ib .add .i64 x2 8)) 0))) x1))) 47))]⟩ _ (by kernel_rfl)).trans h5
  rw [h12] at h13
  have h14 := (g43Qn A n _ _ _).trans h13
  have h3 := g43R7 A n (g43Q A n (pth 7319) (blockK 1 (g43Q A n (pth 919) (g43W A n (pth 151) m0 (blockK 0 (g43Q A n (pth 31) (g43T kk))))))) x0 x2 (A.nb .add .u64 (A.nb .add .u64 (x4.getD (A.toN x2) 0) (A.nb .mul .u64 38 (x4.getD (A.toN (A.ib .add .i64 x2 8)) 0))) x1) x3 x4 x5 x6
  have h15 := (g43p111010010010 A n _ ⟨[(6, (u64v (A.nb .add .u64 (A.nb .add .u64 (x4.getD (A.toN x2) 0) (A.nb .mul .u64 38 (x4.getD (A.toN (A.ib .add .i64 x2 8)) 0))) x1))), (25, (u64v (A.nb .add .u64 (A.nb .add .u64 (x4.getD (A.toN x2) 0) (A.nb .mul .u64 38 (x4.getD (A.toN (A.ib .add .i64 x2 8)) 0))) x1))), (24, (u64v x1)), (23, (u64v (A.nb .add .u64 (x4.getD (A.toN x2) 0) (A.nb .mul .u64 38 (x4.getD (A.toN (A.ib .add .i64 x2 8)) 0))))), (22, (u64v (A.nb .mul .u64 38 (x4.getD (A.toN (A.ib .add .i64 x2 8)) 0)))), (21, (u64v (x4.getD (A.toN (A.ib .add .i64 x2 8)) 0))), (20, (.v (.cell (.ptr 0 0 (some ⟨A.toN (A.ib .add .i64 x2 8), 1, x0, A.toN (A.ib .add .i64 x2 8), 0, 1⟩))))), (19, (i6 (A.ib .add .i64 x2 8))), (18, (i6 x2)), (17, (sL 0 none x0 1)), (16, (u64v (x4.getD (A.toN x2) 0))), (15, (.v (.cell (.ptr 0 0 (some ⟨A.toN x2, 1, x0, A.toN x2, 0, 1⟩))))), (14, (i6 x2)), (13, (sL 0 none x0 1)), (0, (sL 0 none x0 1)), (2, (pT 1000 0)), (3, (pT 2000 0)), (4, (u64v x1)), (5, (i6 x2))], [(0, ⟨[.nums .u64 x3 x4], 22, 2⟩), (1000, (bW 8 x5 47)), (2000, (bW 8 x6 47))]⟩ _ (by kernel_rfl)).trans h3
  rw [h14] at h15
  have h16 := (g43p11101001001 A n _ _).trans h15
  have h17 := (g43Qn A n _ _ _).trans h16
  have h1 := g43R6 A n (g43Q A n (pth 3223) (blockK 1 (g43Q A n (pth 919) (g43W A n (pth 151) m0 (blockK 0 (g43Q A n (pth 31) (g43T kk))))))) x0 x1 x2 x3 x4 x5 x6
  have h18 := (g43p11101001000 A n _ ⟨[(0, (sL 0 none x0 1)), (2, (pT 1000 0)), (3, (pT 2000 0)), (4, (u64v x1)), (5, (i6 x2))], [(0, ⟨[.nums .u64 x3 x4], 22, 2⟩), (1000, (bW 8 x5 47)), (2000, (bW 8 x6 47))]⟩ _ (by kernel_rfl)).trans h1
  rw [h17] at h18
  have h19 := (g43p1110100100 A n _ _).trans h18
  have h20 := (g43p111010010 A n _ _).trans h19
  have h21 := (g43p11101001 A n _ _).trans h20
  exact (codeD_first (s' := ⟨[(0, (sL 0 none x0 1)), (2, (pT 1000 0)), (3, (pT 2000 0)), (4, (u64v x1)), (5, (i6 x2))], [(0, ⟨[.nums .u64 x3 x4], 22, 2⟩), (1000, (bW 8 x5 47)), (2000, (bW 8 x6 47))]⟩) (id := 6) (by kernel_rfl) (h.trans (by kernel_rfl)) _).trans (h21.trans (by kernel_rfl))
def g43J15 {R : Type} (A : Ar) (n : Nat) (kk : AV → Heap → Option R) (lg43L9 : Nat → Nat → List Nat → List Nat → List Nat → Option R) (lg43L13 : Nat → Int → Nat → List Nat → List Nat → List Nat → Option R) (x0 : Nat) (x1 : Int) (x2 : Nat) (x3 x4 x5 : List Nat) : Option R :=
  match (generalizing := false) A.neg x1 with
  | true => none
  | false => match (generalizing := false) A.lt (A.toN x1) 8 with
    | true => match (generalizing := false) A.neg x1 with
      | true => none
      | false => match (generalizing := false) A.lt (A.toN x1) 8 with
        | true => lg43L13 (A.nsh .shr .u64 (A.nb .add .u64 x0 (x5.getD (A.toN x1) 0)) 32) (A.ib .add .i64 x1 1) x2 x3 x4 (x5.set (A.toN x1) (A.n2n .u32 (A.nb .add .u64 x0 (x5.getD (A.toN x1) 0))))
        | false => none
    | false => none
set_option maxRecDepth 100000 in
theorem g43J15_eq {R : Type} (A : Ar) (n : Nat) (kk : AV → Heap → Option R) (m0 m1 : Nat) (lg43L9 : Nat → Nat → List Nat → List Nat → List Nat → Option R) (lg43L13 : Nat → Int → Nat → List Nat → List Nat → List Nat → Option R) 
    (hg43L9 : ∀ (s : St) (x0 x1 : Nat) (x2 x3 x4 : List Nat), keep g43an 9 s = ⟨[(2, (pT 1000 0)), (3, (pT 2000 0)), (4, (u64v x0))], [(0, ⟨[.nums .u64 x1 x2], 22, 2⟩), (1000, (bW 8 x3 47)), (2000, (bW 8 x4 47))]⟩ → g43V A n (pth 143) m0 (blockK 2 (g43Q A n (pth 63) (g43T kk))) s = lg43L9 x0 x1 x2 x3 x4)
    (hg43L13 : ∀ (s : St) (x0 : Nat) (x1 : Int) (x2 : Nat) (x3 x4 x5 : List Nat), keep g43an 13 s = ⟨[(2, (pT 1000 0)), (3, (pT 2000 0)), (7, (u64v x0)), (8, (i6 x1))], [(0, ⟨[.nums .u64 x2 x3], 22, 2⟩), (1000, (bW 8 x4 47)), (2000, (bW 8 x5 47))]⟩ → g43V A n (pth 38543) m1 (blockK 4 (g43Q A n (pth 7823) (blockK 3 (g43W A n (pth 143) m0 (blockK 2 (g43Q A n (pth 63) (g43T kk))))))) s = lg43L13 x0 x1 x2 x3 x4 x5) (s : St) (x0 : Nat) (x1 : Int) (x2 : Nat) (x3 x4 x5 : List Nat) (h : keep g43an 15 s = ⟨[(2, (pT 1000 0)), (3, (pT 2000 0)), (7, (u64v x0)), (8, (i6 x1))], [(0, ⟨[.nums .u64 x2 x3], 22, 2⟩), (1000, (bW 8 x4 47)), (2000, (bW 8 x5 47))]⟩) :
    g43D A n (pth 104079) (g43W A n (pth 38543) m1 (blockK 4 (g43Q A n (pth 7823) (blockK 3 (g43W A n (pth 143) m0 (blockK 2 (g43Q A n (pth 63) (g43T kk)))))))) s = g43J15 A n kk lg43L9 lg43L13 x0 x1 x2 x3 x4 x5 := by
  have h9 := (g43Wn A n _ _ _ _).trans (hg43L13 ⟨[(8, (i6 (A.ib .add .i64 x1 1))), (39, (i6 (A.ib .add .i64 x1 1))), (38, (i6 x1)), (2, (pT 1000 0)), (3, (pT 2000 0)), (7, (u64v (A.nsh .shr .u64 (A.nb .add .u64 x0 (x5.getD (A.toN x1) 0)) 32))), (8, (i6 x1))], [(0, ⟨[.nums .u64 x2 x3], 22, 2⟩), (1000, (bW 8 x4 47)), (2000, (bW 8 (x5.set (A.toN x1) (A.n2n .u32 (A.nb .add .u64 x0 (x5.getD (A.toN x1) 0)))) 47))]⟩ (A.nsh .shr .u64 (A.nb .add .u64 x0 (x5.getD (A.toN x1) 0)) 32) (A.ib .add .i64 x1 1) x2 x3 x4 (x5.set (A.toN x1) (A.n2n .u32 (A.nb .add .u64 x0 (x5.getD (A.toN x1) 0)))) (by kernel_rfl))
  have h7 := g43R14 A n (g43W A n (pth 38543) m1 (blockK 4 (g43Q A n (pth 7823) (blockK 3 (g43W A n (pth 143) m0 (blockK 2 (g43Q A n (pth 63) (g43T kk)))))))) (A.nsh .shr .u64 (A.nb .add .u64 x0 (x5.getD (A.toN x1) 0)) 32) x1 x2 x3 x4 (x5.set (A.toN x1) (A.n2n .u32 (A.nb .add .u64 x0 (x5.getD (A.toN x1) 0))))
  have h10 := (g43p11110001011010011 A n _ ⟨[(7, (u64v (A.nsh .shr .u64 (A.nb .add .u64 x0 (x5.getD (A.toN x1) 0)) 32))), (51, (u64v (A.nsh .shr .u64 (A.nb .add .u64 x0 (x5.getD (A.toN x1) 0)) 32))), (50, (u64v (A.nb .add .u64 x0 (x5.getD (A.toN x1) 0)))), (2, (pT 1000 0)), (3, (pT 2000 0)), (7, (u64v (A.nb .add .u64 x0 (x5.getD (A.toN x1) 0)))), (8, (i6 x1))], [(0, ⟨[.nums .u64 x2 x3], 22, 2⟩), (1000, (bW 8 x4 47)), (2000, (bW 8 (x5.set (A.toN x1) (A.n2n .u32 (A.nb .add .u64 x0 (x5.getD (A.toN x1) 0)))) 47))]⟩ _ (by kernel_rfl)).trans h7
  rw [h9] at h10
  have h11 := (g43Qn A n _ _ _).trans h10
  have h12 := (blockK_n 5 _ _).trans h11
  have h5 := g43R17 A n (blockK 5 (g43Q A n (pth 235151) (g43W A n (pth 38543) m1 (blockK 4 (g43Q A n (pth 7823) (blockK 3 (g43W A n (pth 143) m0 (blockK 2 (g43Q A n (pth 63) (g43T kk)))))))))) (A.nb .add .u64 x0 (x5.getD (A.toN x1) 0)) x1 x2 x3 x4 (x5.set (A.toN x1) (A.n2n .u32 (A.nb .add .u64 x0 (x5.getD (A.toN x1) 0))))
  have h13 := (g43p11110001011010010011 A n _ ⟨[(49, (.v (.cell (.ptr 2000 0 (some ⟨A.toN x1, 1, 8, 0, 0, 0⟩))))), (48, (u32v (A.n2n .u32 (A.nb .add .u64 x0 (x5.getD (A.toN x1) 0))))), (47, (u64v (A.nb .add .u64 x0 (x5.getD (A.toN x1) 0)))), (46, (i6 x1)), (2, (pT 1000 0)), (3, (pT 2000 0)), (7, (u64v (A.nb .add .u64 x0 (x5.getD (A.toN x1) 0)))), (8, (i6 x1))], [(0, ⟨[.nums .u64 x2 x3], 22, 2⟩), (1000, (bW 8 x4 47)), (2000, (bW 8 (x5.set (A.toN x1) (A.n2n .u32 (A.nb .add .u64 x0 (x5.getD (A.toN x1) 0)))) 47))]⟩ _ (by kernel_rfl)).trans h5
  rw [h12] at h13
  have h14 := (g43Qn A n _ _ _).trans h13
  have h3 := g43R16 A n (g43Q A n (pth 1873551) (blockK 5 (g43Q A n (pth 235151) (g43W A n (pth 38543) m1 (blockK 4 (g43Q A n (pth 7823) (blockK 3 (g43W A n (pth 143) m0 (blockK 2 (g43Q A n (pth 63) (g43T kk))))))))))) (A.nb .add .u64 x0 (x5.getD (A.toN x1) 0)) x1 x2 x3 x4 x5
  have h15 := (g43p11110001011010010010 A n _ ⟨[(7, (u64v (A.nb .add .u64 x0 (x5.getD (A.toN x1) 0)))), (45, (u64v (A.nb .add .u64 x0 (x5.getD (A.toN x1) 0)))), (44, (u64v (x5.getD (A.toN x1) 0))), (43, (u32v (x5.getD (A.toN x1) 0))), (42, (.v (.cell (.ptr 2000 0 (some ⟨A.toN x1, 1, 8, 0, 0, 0⟩))))), (41, (i6 x1)), (40, (u64v x0)), (2, (pT 1000 0)), (3, (pT 2000 0)), (7, (u64v x0)), (8, (i6 x1))], [(0, ⟨[.nums .u64 x2 x3], 22, 2⟩), (1000, (bW 8 x4 47)), (2000, (bW 8 x5 47))]⟩ _ (by kernel_rfl)).trans h3
  rw [h14] at h15
  have h16 := (g43p1111000101101001001 A n _ _).trans h15
  have h17 := (g43Qn A n _ _ _).trans h16
  have h1 := g43R15 A n (g43Q A n (pth 824975) (blockK 5 (g43Q A n (pth 235151) (g43W A n (pth 38543) m1 (blockK 4 (g43Q A n (pth 7823) (blockK 3 (g43W A n (pth 143) m0 (blockK 2 (g43Q A n (pth 63) (g43T kk))))))))))) x0 x1 x2 x3 x4 x5
  have h18 := (g43p1111000101101001000 A n _ ⟨[(2, (pT 1000 0)), (3, (pT 2000 0)), (7, (u64v x0)), (8, (i6 x1))], [(0, ⟨[.nums .u64 x2 x3], 22, 2⟩), (1000, (bW 8 x4 47)), (2000, (bW 8 x5 47))]⟩ _ (by kernel_rfl)).trans h1
  rw [h17] at h18
  have h19 := (g43p111100010110100100 A n _ _).trans h18
  have h20 := (g43p11110001011010010 A n _ _).trans h19
  have h21 := (g43p1111000101101001 A n _ _).trans h20
  exact (codeD_first (s' := ⟨[(2, (pT 1000 0)), (3, (pT 2000 0)), (7, (u64v x0)), (8, (i6 x1))], [(0, ⟨[.nums .u64 x2 x3], 22, 2⟩), (1000, (bW 8 x4 47)), (2000, (bW 8 x5 47))]⟩) (id := 15) (by kernel_rfl) (h.trans (by kernel_rfl)) _).trans (h21.trans (by kernel_rfl))
def g43L13 {R : Type} (A : Ar) (n : Nat) (kk : AV → Heap → Option R) (lg43L9 : Nat → Nat → List Nat → List Nat → List Nat → Option R) : Nat → Nat → Int → Nat → List Nat → List Nat → List Nat → Option R
  | 0, _, _, _, _, _, _ => none
  | m + 1, x0, x1, x2, x3, x4, x5 => match (generalizing := false) A.ic .lss x1 8 with
  | true => g43J15 A n kk lg43L9 (g43L13 A n kk lg43L9 m) x0 x1 x2 x3 x4 x5
  | false => lg43L9 x0 x2 x3 x4 x5
set_option maxRecDepth 100000 in
theorem g43L13_eq {R : Type} (A : Ar) (n : Nat) (kk : AV → Heap → Option R) (m0 : Nat) (lg43L9 : Nat → Nat → List Nat → List Nat → List Nat → Option R) 
    (hg43L9 : ∀ (s : St) (x0 x1 : Nat) (x2 x3 x4 : List Nat), keep g43an 9 s = ⟨[(2, (pT 1000 0)), (3, (pT 2000 0)), (4, (u64v x0))], [(0, ⟨[.nums .u64 x1 x2], 22, 2⟩), (1000, (bW 8 x3 47)), (2000, (bW 8 x4 47))]⟩ → g43V A n (pth 143) m0 (blockK 2 (g43Q A n (pth 63) (g43T kk))) s = lg43L9 x0 x1 x2 x3 x4) (m : Nat) (s : St) (x0 : Nat) (x1 : Int) (x2 : Nat) (x3 x4 x5 : List Nat) (h : keep g43an 13 s = ⟨[(2, (pT 1000 0)), (3, (pT 2000 0)), (7, (u64v x0)), (8, (i6 x1))], [(0, ⟨[.nums .u64 x2 x3], 22, 2⟩), (1000, (bW 8 x4 47)), (2000, (bW 8 x5 47))]⟩) :
    g43V A n (pth 38543) m (blockK 4 (g43Q A n (pth 7823) (blockK 3 (g43W A n (pth 143) m0 (blockK 2 (g43Q A n (pth 63) (g43T kk))))))) s = g43L13 A n kk lg43L9 m x0 x1 x2 x3 x4 x5 := by
  induction m generalizing s x0 x1 x2 x3 x4 x5 with
  | zero => rfl
  | succ m ih =>
    have h3 := (g43Qn A n _ _ _).trans (g43J15_eq A n kk m0 m lg43L9 (g43L13 A n kk lg43L9 m) hg43L9 ih  ⟨[(37, (bO (A.ic .lss x1 8))), (36, (i6 x1)), (2, (pT 1000 0)), (3, (pT 2000 0)), (7, (u64v x0)), (8, (i6 x1))], [(0, ⟨[.nums .u64 x2 x3], 22, 2⟩), (1000, (bW 8 x4 47)), (2000, (bW 8 x5 47))]⟩ x0 x1 x2 x3 x4 x5 (by kernel_rfl))
    have h4 := (g43p111100010110100010 A n _ _).trans h3
    have h7 := (g43Wn A n _ _ _ _).trans (hg43L9 ⟨[(4, (u64v x0)), (52, (u64v x0)), (2, (pT 1000 0)), (3, (pT 2000 0)), (7, (u64v x0))], [(0, ⟨[.nums .u64 x2 x3], 22, 2⟩), (1000, (bW 8 x4 47)), (2000, (bW 8 x5 47))]⟩ x0 x2 x3 x4 x5 (by kernel_rfl))
    have h8 := (blockK_n 3 _ _).trans h7
    have h5 := g43R18 A n (blockK 3 (g43W A n (pth 143) m0 (blockK 2 (g43Q A n (pth 63) (g43T kk))))) x0 x2 x3 x4 x5
    have h9 := (g43p111100010111 A n _ ⟨[(37, (bO (A.ic .lss x1 8))), (36, (i6 x1)), (2, (pT 1000 0)), (3, (pT 2000 0)), (7, (u64v x0)), (8, (i6 x1))], [(0, ⟨[.nums .u64 x2 x3], 22, 2⟩), (1000, (bW 8 x4 47)), (2000, (bW 8 x5 47))]⟩ _ (by kernel_rfl)).trans h5
    rw [h8] at h9
    have h10 := (g43Qn A n _ _ _).trans h9
    have h11 := (blockK_hit 4 _ _).trans h10
    have h12 := (g43We A n (pth 38543) m _ _ _).trans h11
    have h13 := (g43Qe A n (pth 104079) _ _ _).trans h12
    have h14 := (g43p111100010110100011 A n _ _).trans h13
    have h15 := g43p11110001011010001 A n (g43Q A n (pth 104079) (g43W A n (pth 38543) m (blockK 4 (g43Q A n (pth 7823) (blockK 3 (g43W A n (pth 143) m0 (blockK 2 (g43Q A n (pth 63) (g43T kk))))))))) ⟨[(37, (bO (A.ic .lss x1 8))), (36, (i6 x1)), (2, (pT 1000 0)), (3, (pT 2000 0)), (7, (u64v x0)), (8, (i6 x1))], [(0, ⟨[.nums .u64 x2 x3], 22, 2⟩), (1000, (bW 8 x4 47)), (2000, (bW 8 x5 47))]⟩ (A.ic .lss x1 8) (by kernel_rfl)
    rw [h4, h14] at h15
    have h16 := (g43Qn A n _ _ _).trans h15
    have h1 := g43R13 A n (g43Q A n (pth 202383) (g43Q A n (pth 104079) (g43W A n (pth 38543) m (blockK 4 (g43Q A n (pth 7823) (blockK 3 (g43W A n (pth 143) m0 (blockK 2 (g43Q A n (pth 63) (g43T kk)))))))))) x0 x1 x2 x3 x4 x5
    have h17 := (g43p11110001011010000 A n _ ⟨[(2, (pT 1000 0)), (3, (pT 2000 0)), (7, (u64v x0)), (8, (i6 x1))], [(0, ⟨[.nums .u64 x2 x3], 22, 2⟩), (1000, (bW 8 x4 47)), (2000, (bW 8 x5 47))]⟩ _ (by kernel_rfl)).trans h1
    rw [h16] at h17
    have h18 := (g43p1111000101101000 A n _ _).trans h17
    have h19 := (g43p111100010110100 A n _ _).trans h18
    exact (loopD_first (s' := ⟨[(2, (pT 1000 0)), (3, (pT 2000 0)), (7, (u64v x0)), (8, (i6 x1))], [(0, ⟨[.nums .u64 x2 x3], 22, 2⟩), (1000, (bW 8 x4 47)), (2000, (bW 8 x5 47))]⟩) (id := 13) (by kernel_rfl) (h.trans (by kernel_rfl)) _).trans ((g43Vs A n _ m _ _).trans (h19.trans (by kernel_rfl)))
def g43J10 {R : Type} (A : Ar) (n : Nat) (kk : AV → Heap → Option R) (lg43L9 : Nat → Nat → List Nat → List Nat → List Nat → Option R) (x0 x1 : Nat) (x2 x3 x4 : List Nat) : Option R :=
  g43L13 A n kk lg43L9 n (A.nb .mul .u64 x0 38) 0 x1 x2 x3 x4
set_option maxRecDepth 100000 in
theorem g43J10_eq {R : Type} (A : Ar) (n : Nat) (kk : AV → Heap → Option R) (m0 : Nat) (lg43L9 : Nat → Nat → List Nat → List Nat → List Nat → Option R) 
    (hg43L9 : ∀ (s : St) (x0 x1 : Nat) (x2 x3 x4 : List Nat), keep g43an 9 s = ⟨[(2, (pT 1000 0)), (3, (pT 2000 0)), (4, (u64v x0))], [(0, ⟨[.nums .u64 x1 x2], 22, 2⟩), (1000, (bW 8 x3 47)), (2000, (bW 8 x4 47))]⟩ → g43V A n (pth 143) m0 (blockK 2 (g43Q A n (pth 63) (g43T kk))) s = lg43L9 x0 x1 x2 x3 x4) (s : St) (x0 x1 : Nat) (x2 x3 x4 : List Nat) (h : keep g43an 10 s = ⟨[(2, (pT 1000 0)), (3, (pT 2000 0)), (4, (u64v x0))], [(0, ⟨[.nums .u64 x1 x2], 22, 2⟩), (1000, (bW 8 x3 47)), (2000, (bW 8 x4 47))]⟩) :
    g43D A n (pth 399) (g43W A n (pth 143) m0 (blockK 2 (g43Q A n (pth 63) (g43T kk)))) s = g43J10 A n kk lg43L9 x0 x1 x2 x3 x4 := by
  have h7 := (g43p11110001011010 A n _ _).trans (g43L13_eq A n kk m0 lg43L9 hg43L9 n ⟨[(8, (i6 0)), (2, (pT 1000 0)), (3, (pT 2000 0)), (7, (u64v (A.nb .mul .u64 x0 38)))], [(0, ⟨[.nums .u64 x1 x2], 22, 2⟩), (1000, (bW 8 x3 47)), (2000, (bW 8 x4 47))]⟩ (A.nb .mul .u64 x0 38) 0 x1 x2 x3 x4 (by kernel_rfl))
  have h8 := (g43p1111000101101 A n _ _).trans h7
  have h9 := (g43Qn A n _ _ _).trans h8
  have h5 := g43R12 A n (g43Q A n (pth 13967) (g43Q A n (pth 7823) (blockK 3 (g43W A n (pth 143) m0 (blockK 2 (g43Q A n (pth 63) (g43T kk))))))) (A.nb .mul .u64 x0 38) x1 x2 x3 x4
  have h10 := (g43p1111000101100 A n _ ⟨[(4, (u64v 0)), (2, (pT 1000 0)), (3, (pT 2000 0)), (7, (u64v (A.nb .mul .u64 x0 38)))], [(0, ⟨[.nums .u64 x1 x2], 22, 2⟩), (1000, (bW 8 x3 47)), (2000, (bW 8 x4 47))]⟩ _ (by kernel_rfl)).trans h5
  rw [h9] at h10
  have h11 := (g43p111100010110 A n _ _).trans h10
  have h12 := (g43p11110001011 A n _ _).trans h11
  have h13 := (g43Qn A n _ _ _).trans h12
  have h3 := g43R11 A n (g43Q A n (pth 3727) (blockK 3 (g43W A n (pth 143) m0 (blockK 2 (g43Q A n (pth 63) (g43T kk)))))) (A.nb .mul .u64 x0 38) x1 x2 x3 x4
  have h14 := (g43p11110001010 A n _ ⟨[(7, (u64v (A.nb .mul .u64 x0 38))), (35, (u64v (A.nb .mul .u64 x0 38))), (34, (u64v x0)), (2, (pT 1000 0)), (3, (pT 2000 0)), (4, (u64v x0))], [(0, ⟨[.nums .u64 x1 x2], 22, 2⟩), (1000, (bW 8 x3 47)), (2000, (bW 8 x4 47))]⟩ _ (by kernel_rfl)).trans h3
  rw [h13] at h14
  have h15 := (g43p1111000101 A n _ _).trans h14
  have h16 := (g43Qn A n _ _ _).trans h15
  have h1 := g43R10 A n (g43Q A n (pth 1679) (blockK 3 (g43W A n (pth 143) m0 (blockK 2 (g43Q A n (pth 63) (g43T kk)))))) x0 x1 x2 x3 x4
  have h17 := (g43p1111000100 A n _ ⟨[(2, (pT 1000 0)), (3, (pT 2000 0)), (4, (u64v x0))], [(0, ⟨[.nums .u64 x1 x2], 22, 2⟩), (1000, (bW 8 x3 47)), (2000, (bW 8 x4 47))]⟩ _ (by kernel_rfl)).trans h1
  rw [h16] at h17
  have h18 := (g43p111100010 A n _ _).trans h17
  have h19 := (g43p11110001 A n _ _).trans h18
  exact (codeD_first (s' := ⟨[(2, (pT 1000 0)), (3, (pT 2000 0)), (4, (u64v x0))], [(0, ⟨[.nums .u64 x1 x2], 22, 2⟩), (1000, (bW 8 x3 47)), (2000, (bW 8 x4 47))]⟩) (id := 10) (by kernel_rfl) (h.trans (by kernel_rfl)) _).trans (h19.trans (by kernel_rfl))
def g43L9 {R : Type} (A : Ar) (n : Nat) (kk : AV → Heap → Option R)  : Nat → Nat → Nat → List Nat → List Nat → List Nat → Option R
  | 0, _, _, _, _, _ => none
  | m + 1, x0, x1, x2, x3, x4 => match (generalizing := false) A.nc .gtr x0 0 with
  | true => g43J10 A n kk (g43L9 A n kk  m) x0 x1 x2 x3 x4
  | false => match (generalizing := false) g41ok A x4 with
    | true => kk (aN .u32 8 (g41r0 A x4)) [(0, ⟨[.nums .u64 x1 x2], 22, 2⟩), (1000, (bW 8 (g41r0 A x4) 47)), (2000, (bW 8 x4 47))]
    | false => none
set_option maxRecDepth 100000 in
theorem g43L9_eq {R : Type} (A : Ar) (n : Nat) (kk : AV → Heap → Option R)    (m : Nat) (s : St) (x0 x1 : Nat) (x2 x3 x4 : List Nat) (h : keep g43an 9 s = ⟨[(2, (pT 1000 0)), (3, (pT 2000 0)), (4, (u64v x0))], [(0, ⟨[.nums .u64 x1 x2], 22, 2⟩), (1000, (bW 8 x3 47)), (2000, (bW 8 x4 47))]⟩) :
    g43V A n (pth 143) m (blockK 2 (g43Q A n (pth 63) (g43T kk))) s = g43L9 A n kk  m x0 x1 x2 x3 x4 := by
  induction m generalizing s x0 x1 x2 x3 x4 with
  | zero => rfl
  | succ m ih =>
    have h3 := (g43Qn A n _ _ _).trans (g43J10_eq A n kk m (g43L9 A n kk  m) ih  ⟨[(33, (bO (A.nc .gtr x0 0))), (32, (u64v x0)), (2, (pT 1000 0)), (3, (pT 2000 0)), (4, (u64v x0))], [(0, ⟨[.nums .u64 x1 x2], 22, 2⟩), (1000, (bW 8 x3 47)), (2000, (bW 8 x4 47))]⟩ x0 x1 x2 x3 x4 (by kernel_rfl))
    have h4 := (g43p1111000010 A n _ _).trans h3
    have h7 : (g43T kk) .ret ⟨[(54, (aN .u32 8 (g41r0 A x4))), (53, (aN .u32 8 x4)), (2, (pT 1000 0)), (3, (pT 2000 0))], [(0, ⟨[.nums .u64 x1 x2], 22, 2⟩), (1000, (bW 8 (g41r0 A x4) 47)), (2000, (bW 8 x4 47))]⟩ = kk (aN .u32 8 (g41r0 A x4)) [(0, ⟨[.nums .u64 x1 x2], 22, 2⟩), (1000, (bW 8 (g41r0 A x4) 47)), (2000, (bW 8 x4 47))] := by kernel_rfl
    have h8 := (g43p111111 A n _ _).trans h7
    have h9 := (g43Qn A n _ _ _).trans h8
    have h5 := g43R19 A n (g43Q A n (pth 127) (g43T kk)) x1 x2 x3 x4
    have h10 := (g43p111110 A n _ ⟨[(33, (bO (A.nc .gtr x0 0))), (32, (u64v x0)), (2, (pT 1000 0)), (3, (pT 2000 0)), (4, (u64v x0))], [(0, ⟨[.nums .u64 x1 x2], 22, 2⟩), (1000, (bW 8 x3 47)), (2000, (bW 8 x4 47))]⟩ _ (by kernel_rfl)).trans h5
    rw [h9] at h10
    have h11 := (g43p11111 A n _ _).trans h10
    have h12 := (g43Qn A n _ _ _).trans h11
    have h13 := (blockK_hit 2 _ _).trans h12
    have h14 := (g43We A n (pth 143) m _ _ _).trans h13
    have h15 := (g43Qe A n (pth 399) _ _ _).trans h14
    have h16 := (g43p1111000011 A n _ _).trans h15
    have h17 := g43p111100001 A n (g43Q A n (pth 399) (g43W A n (pth 143) m (blockK 2 (g43Q A n (pth 63) (g43T kk))))) ⟨[(33, (bO (A.nc .gtr x0 0))), (32, (u64v x0)), (2, (pT 1000 0)), (3, (pT 2000 0)), (4, (u64v x0))], [(0, ⟨[.nums .u64 x1 x2], 22, 2⟩), (1000, (bW 8 x3 47)), (2000, (bW 8 x4 47))]⟩ (A.nc .gtr x0 0) (by kernel_rfl)
    rw [h4, h16] at h17
    have h18 := (g43Qn A n _ _ _).trans h17
    have h1 := g43R9 A n (g43Q A n (pth 783) (g43Q A n (pth 399) (g43W A n (pth 143) m (blockK 2 (g43Q A n (pth 63) (g43T kk)))))) x0 x1 x2 x3 x4
    have h19 := (g43p111100000 A n _ ⟨[(2, (pT 1000 0)), (3, (pT 2000 0)), (4, (u64v x0))], [(0, ⟨[.nums .u64 x1 x2], 22, 2⟩), (1000, (bW 8 x3 47)), (2000, (bW 8 x4 47))]⟩ _ (by kernel_rfl)).trans h1
    rw [h18] at h19
    have h20 := (g43p11110000 A n _ _).trans h19
    have h21 := (g43p1111000 A n _ _).trans h20
    exact (loopD_first (s' := ⟨[(2, (pT 1000 0)), (3, (pT 2000 0)), (4, (u64v x0))], [(0, ⟨[.nums .u64 x1 x2], 22, 2⟩), (1000, (bW 8 x3 47)), (2000, (bW 8 x4 47))]⟩) (id := 9) (by kernel_rfl) (h.trans (by kernel_rfl)) _).trans ((g43Vs A n _ m _ _).trans (h21.trans (by kernel_rfl)))
def g43J9 {R : Type} (A : Ar) (n : Nat) (kk : AV → Heap → Option R)  (x0 x1 : Nat) (x2 x3 x4 : List Nat) : Option R :=
  g43L9 A n kk  n x0 x1 x2 x3 x4
set_option maxRecDepth 100000 in
theorem g43J9_eq {R : Type} (A : Ar) (n : Nat) (kk : AV → Heap → Option R)    (s : St) (x0 x1 : Nat) (x2 x3 x4 : List Nat) (h : keep g43an 9 s = ⟨[(2, (pT 1000 0)), (3, (pT 2000 0)), (4, (u64v x0))], [(0, ⟨[.nums .u64 x1 x2], 22, 2⟩), (1000, (bW 8 x3 47)), (2000, (bW 8 x4 47))]⟩) :
    g43D A n (pth 31) (g43T kk) s = g43J9 A n kk  x0 x1 x2 x3 x4 := by
  have h1 := (g43p111100 A n _ _).trans (g43L9_eq A n kk    n ⟨[(2, (pT 1000 0)), (3, (pT 2000 0)), (4, (u64v x0))], [(0, ⟨[.nums .u64 x1 x2], 22, 2⟩), (1000, (bW 8 x3 47)), (2000, (bW 8 x4 47))]⟩ x0 x1 x2 x3 x4 (by kernel_rfl))
  have h2 := (g43p11110 A n _ _).trans h1
  have h3 := (g43p1111 A n _ _).trans h2
  exact (codeD_first (s' := ⟨[(2, (pT 1000 0)), (3, (pT 2000 0)), (4, (u64v x0))], [(0, ⟨[.nums .u64 x1 x2], 22, 2⟩), (1000, (bW 8 x3 47)), (2000, (bW 8 x4 47))]⟩) (id := 9) (by kernel_rfl) (h.trans (by kernel_rfl)) _).trans (h3.trans (by kernel_rfl))
def g43L4 {R : Type} (A : Ar) (n : Nat) (kk : AV → Heap → Option R)  : Nat → Nat → Nat → Int → Nat → List Nat → List Nat → List Nat → Option R
  | 0, _, _, _, _, _, _, _ => none
  | m + 1, x0, x1, x2, x3, x4, x5, x6 => match (generalizing := false) A.ic .lss x2 8 with
  | true => g43J6 A n kk (g43L4 A n kk  m) x0 x1 x2 x3 x4 x5 x6
  | false => g43J9 A n kk  x1 x3 x4 x5 x6
set_option maxRecDepth 100000 in
theorem g43L4_eq {R : Type} (A : Ar) (n : Nat) (kk : AV → Heap → Option R)    (m : Nat) (s : St) (x0 x1 : Nat) (x2 : Int) (x3 : Nat) (x4 x5 x6 : List Nat) (h : keep g43an 4 s = ⟨[(0, (sL 0 none x0 1)), (2, (pT 1000 0)), (3, (pT 2000 0)), (4, (u64v x1)), (5, (i6 x2))], [(0, ⟨[.nums .u64 x3 x4], 22, 2⟩), (1000, (bW 8 x5 47)), (2000, (bW 8 x6 47))]⟩) :
    g43V A n (pth 151) m (blockK 0 (g43Q A n (pth 31) (g43T kk))) s = g43L4 A n kk  m x0 x1 x2 x3 x4 x5 x6 := by
  induction m generalizing s x0 x1 x2 x3 x4 x5 x6 with
  | zero => rfl
  | succ m ih =>
    have h3 := (g43Qn A n _ _ _).trans (g43J6_eq A n kk m (g43L4 A n kk  m) ih  ⟨[(10, (bO (A.ic .lss x2 8))), (9, (i6 x2)), (0, (sL 0 none x0 1)), (2, (pT 1000 0)), (3, (pT 2000 0)), (4, (u64v x1)), (5, (i6 x2))], [(0, ⟨[.nums .u64 x3 x4], 22, 2⟩), (1000, (bW 8 x5 47)), (2000, (bW 8 x6 47))]⟩ x0 x1 x2 x3 x4 x5 x6 (by kernel_rfl))
    have h4 := (g43p1110100010 A n _ _).trans h3
    have h5 := (g43Qn A n _ _ _).trans (g43J9_eq A n kk     ⟨[(10, (bO (A.ic .lss x2 8))), (9, (i6 x2)), (0, (sL 0 none x0 1)), (2, (pT 1000 0)), (3, (pT 2000 0)), (4, (u64v x1)), (5, (i6 x2))], [(0, ⟨[.nums .u64 x3 x4], 22, 2⟩), (1000, (bW 8 x5 47)), (2000, (bW 8 x6 47))]⟩ x1 x3 x4 x5 x6 (by kernel_rfl))
    have h6 := (blockK_hit 0 _ _).trans h5
    have h7 := (g43We A n (pth 151) m _ _ _).trans h6
    have h8 := (g43Qe A n (pth 407) _ _ _).trans h7
    have h9 := (g43p1110100011 A n _ _).trans h8
    have h10 := g43p111010001 A n (g43Q A n (pth 407) (g43W A n (pth 151) m (blockK 0 (g43Q A n (pth 31) (g43T kk))))) ⟨[(10, (bO (A.ic .lss x2 8))), (9, (i6 x2)), (0, (sL 0 none x0 1)), (2, (pT 1000 0)), (3, (pT 2000 0)), (4, (u64v x1)), (5, (i6 x2))], [(0, ⟨[.nums .u64 x3 x4], 22, 2⟩), (1000, (bW 8 x5 47)), (2000, (bW 8 x6 47))]⟩ (A.ic .lss x2 8) (by kernel_rfl)
    rw [h4, h9] at h10
    have h11 := (g43Qn A n _ _ _).trans h10
    have h1 := g43R4 A n (g43Q A n (pth 791) (g43Q A n (pth 407) (g43W A n (pth 151) m (blockK 0 (g43Q A n (pth 31) (g43T kk)))))) x0 x1 x2 x3 x4 x5 x6
    have h12 := (g43p111010000 A n _ ⟨[(0, (sL 0 none x0 1)), (2, (pT 1000 0)), (3, (pT 2000 0)), (4, (u64v x1)), (5, (i6 x2))], [(0, ⟨[.nums .u64 x3 x4], 22, 2⟩), (1000, (bW 8 x5 47)), (2000, (bW 8 x6 47))]⟩ _ (by kernel_rfl)).trans h1
    rw [h11] at h12
    have h13 := (g43p11101000 A n _ _).trans h12
    have h14 := (g43p1110100 A n _ _).trans h13
    exact (loopD_first (s' := ⟨[(0, (sL 0 none x0 1)), (2, (pT 1000 0)), (3, (pT 2000 0)), (4, (u64v x1)), (5, (i6 x2))], [(0, ⟨[.nums .u64 x3 x4], 22, 2⟩), (1000, (bW 8 x5 47)), (2000, (bW 8 x6 47))]⟩) (id := 4) (by kernel_rfl) (h.trans (by kernel_rfl)) _).trans ((g43Vs A n _ m _ _).trans (h14.trans (by kernel_rfl)))
def g43 {R : Type} (A : Ar) (n : Nat) (kk : AV → Heap → Option R) (x0 x1 : Nat) (x2 : List Nat) : Option R :=
  g43L4 A n kk  n x0 0 0 x1 x2 [0, 0, 0, 0, 0, 0, 0, 0] [0, 0, 0, 0, 0, 0, 0, 0]
set_option maxRecDepth 100000 in
theorem g43_eq {R : Type} (A : Ar) (n : Nat) (kk : AV → Heap → Option R) (x0 x1 : Nat) (x2 : List Nat) :
    funD A gtys (g43O A) g43an n (bodyOf Try.f43) g43res [(sL 0 none x0 1)] [(0, ⟨[.nums .u64 x1 x2], 22, 2⟩)] kk = g43 A n kk x0 x1 x2 := by
  have h9 := (g43p111010 A n _ _).trans (g43L4_eq A n kk    n ⟨[(5, (i6 0)), (0, (sL 0 none x0 1)), (2, (pT 1000 0)), (3, (pT 2000 0)), (4, (u64v 0))], [(0, ⟨[.nums .u64 x1 x2], 22, 2⟩), (1000, (bW 8 [0, 0, 0, 0, 0, 0, 0, 0] 47)), (2000, (bW 8 [0, 0, 0, 0, 0, 0, 0, 0] 47))]⟩ x0 0 0 x1 x2 [0, 0, 0, 0, 0, 0, 0, 0] [0, 0, 0, 0, 0, 0, 0, 0] (by kernel_rfl))
  have h10 := (g43p11101 A n _ _).trans h9
  have h11 := (g43Qn A n _ _ _).trans h10
  have h7 := g43R3 A n (g43Q A n (pth 55) (g43Q A n (pth 31) (g43T kk))) x0 0 x1 x2 [0, 0, 0, 0, 0, 0, 0, 0] [0, 0, 0, 0, 0, 0, 0, 0]
  have h12 := (g43p11100 A n _ ⟨[(4, (u64v 0)), (0, (sL 0 none x0 1)), (2, (pT 1000 0)), (3, (pT 2000 0))], [(0, ⟨[.nums .u64 x1 x2], 22, 2⟩), (1000, (bW 8 [0, 0, 0, 0, 0, 0, 0, 0] 47)), (2000, (bW 8 [0, 0, 0, 0, 0, 0, 0, 0] 47))]⟩ _ (by kernel_rfl)).trans h7
  rw [h11] at h12
  have h13 := (g43p1110 A n _ _).trans h12
  have h14 := (g43p111 A n _ _).trans h13
  have h15 := (g43Qn A n _ _ _).trans h14
  have h5 := g43R2 A n (g43Q A n (pth 15) (g43T kk)) x0 x1 x2 [0, 0, 0, 0, 0, 0, 0, 0] [0, 0, 0, 0, 0, 0, 0, 0]
  have h16 := (g43p110 A n _ ⟨[(3, (pT 2000 0)), (0, (sL 0 none x0 1)), (2, (pT 1000 0))], [(2000, (bW 8 [0, 0, 0, 0, 0, 0, 0, 0] 47)), (0, ⟨[.nums .u64 x1 x2], 22, 2⟩), (1000, (bW 8 [0, 0, 0, 0, 0, 0, 0, 0] 47))]⟩ _ (by kernel_rfl)).trans h5
  rw [h15] at h16
  have h17 := (g43p11 A n _ _).trans h16
  have h18 := (g43Qn A n _ _ _).trans h17
  have h3 := g43R1 A n (g43Q A n (pth 7) (g43T kk)) x0 x1 x2 [0, 0, 0, 0, 0, 0, 0, 0]
  have h19 := (g43p10 A n _ ⟨[(2, (pT 1000 0)), (0, (sL 0 none x0 1))], [(1000, (bW 8 [0, 0, 0, 0, 0, 0, 0, 0] 47)), (0, ⟨[.nums .u64 x1 x2], 22, 2⟩)]⟩ _ (by kernel_rfl)).trans h3
  rw [h18] at h19
  have h20 := (g43p1 A n _ _).trans h19
  have h21 := (g43Qn A n _ _ _).trans h20
  have h1 := g43R0 A n (g43Q A n (pth 3) (g43T kk)) x0 x1 x2
  have h22 := (g43p0 A n _ ⟨[(0, (sL 0 none x0 1))], [(0, ⟨[.nums .u64 x1 x2], 22, 2⟩)]⟩ _ (by kernel_rfl)).trans h1
  rw [h21] at h22
  have h23 := (g43p A n _ _).trans h22
  exact (show funD A gtys (g43O A) g43an n (bodyOf Try.f43) g43res [(sL 0 none x0 1)] [(0, ⟨[.nums .u64 x1 x2], 22, 2⟩)] kk = g43D A n (pth 1) (g43T kk) ⟨[(0, (sL 0 none x0 1))], [(0, ⟨[.nums .u64 x1 x2], 22, 2⟩)]⟩ from by kernel_rfl).trans (h23.trans (by kernel_rfl))
def g43is (o : Option (AV × Heap)) : Bool := match o with
  | some (.v (.agg [.nums .u32 n0 _]), [(n1, ⟨[.nums .u64 _ _], n2, n3⟩)]) => Nat.beq n0 8 && (Nat.beq n1 0 && (Nat.beq n2 22 && (Nat.beq n3 2)))
  | _ => false
def g43g0 (o : Option (AV × Heap)) : List Nat := match o with
  | some (.v (.agg [.nums .u32 _ x]), [(_, ⟨[.nums .u64 _ _], _, _⟩)]) => x
  | _ => []
def g43g1 (o : Option (AV × Heap)) : Nat := match o with
  | some (.v (.agg [.nums .u32 _ _]), [(_, ⟨[.nums .u64 x _], _, _⟩)]) => x
  | _ => 0
def g43g2 (o : Option (AV × Heap)) : List Nat := match o with
  | some (.v (.agg [.nums .u32 _ _]), [(_, ⟨[.nums .u64 _ x], _, _⟩)]) => x
  | _ => []
theorem g43is_spec {o : Option (AV × Heap)} (h : g43is o = true) : o = some ((aN .u32 8 (g43g0 o)), [(0, ⟨[.nums .u64 (g43g1 o) (g43g2 o)], 22, 2⟩)]) := by
  unfold g43is at h
  split at h
  · rename_i n0 z1 n1 z3 z4 n2 n3
    simp only [Bool.and_eq_true] at h
    have en0 := beq_true h.1
    subst en0
    replace h := h.2
    have en1 := beq_true h.1
    subst en1
    replace h := h.2
    have en2 := beq_true h.1
    subst en2
    replace h := h.2
    have en3 := beq_true h
    subst en3
    rfl
  · cases h
def g43v (A : Ar) (x0 x1 : Nat) (x2 : List Nat) : Option (AV × Heap) := g43 A (100000) (outH [0] none) x0 x1 x2
def g43ok (A : Ar) (x0 x1 : Nat) (x2 : List Nat) : Bool := g43is (g43v A x0 x1 x2)
def g43r0 (A : Ar) (x0 x1 : Nat) (x2 : List Nat) : List Nat := g43g0 (g43v A x0 x1 x2)
def g43r1 (A : Ar) (x0 x1 : Nat) (x2 : List Nat) : Nat := g43g1 (g43v A x0 x1 x2)
def g43r2 (A : Ar) (x0 x1 : Nat) (x2 : List Nat) : List Nat := g43g2 (g43v A x0 x1 x2)
theorem g43ok_spec {A : Ar} {x0 x1 x2} (h : g43ok A x0 x1 x2 = true) : g43v A x0 x1 x2 = some ((aN .u32 8 (g43r0 A x0 x1 x2)), [(0, ⟨[.nums .u64 (g43r1 A x0 x1 x2) (g43r2 A x0 x1 x2)], 22, 2⟩)]) := g43is_spec h
def g43o (A : Ar) (args : List AV) (h : Heap) : Option (Bool × AV × Heap) := match args, h with
  | [.v (.cell (.sl n0 none x0 n1))], [(n2, ⟨[.nums .u64 x1 x2], n3, n4⟩)] => some (Nat.beq n0 0 && (Nat.beq n1 1 && (Nat.beq n2 0 && (Nat.beq n3 22 && (Nat.beq n4 2 && (g43ok A x0 x1 x2))))), (aN .u32 8 (g43r0 A x0 x1 x2)), [(0, ⟨[.nums .u64 (g43r1 A x0 x1 x2) (g43r2 A x0 x1 x2)], 22, 2⟩)])
  | _, _ => none
theorem g43o_sound : ∀ args h v h', g43o realA args h = some (true, v, h') → FnH Try.prog 43 args h v h' := by
  intro args h v h' hh
  unfold g43o at hh
  split at hh
  · rename_i n0 x0 n1 n2 x1 x2 n3 n4
    simp only [Option.some.injEq, Prod.mk.injEq] at hh
    obtain ⟨hc, hv, hh⟩ := hh
    subst hv
    subst hh
    simp only [Bool.and_eq_true] at hc
    have en0 := beq_true hc.1
    subst en0
    replace hc := hc.2
    have en1 := beq_true hc.1
    subst en1
    replace hc := hc.2
    have en2 := beq_true hc.1
    subst en2
    replace hc := hc.2
    have en3 := beq_true hc.1
    subst en3
    replace hc := hc.2
    have en4 := beq_true hc.1
    subst en4
    replace hc := hc.2
    exact fnh_of mixed gtysOK g43O_sound g43O_det (an := g43an) (n := 100000) Try.func43 (c := bodyOf Try.f43) rfl (by kernel_rfl) Try.call43 (Nat.le_of_ble_eq_true rfl) (pins := [0]) (nilr := none) (fun _ => (g43_eq realA (100000) (outH [0] none) x0 x1 x2).trans (show g43v realA x0 x1 x2 = _ from g43ok_spec hc))
  · cases hh
end Go.Sx
