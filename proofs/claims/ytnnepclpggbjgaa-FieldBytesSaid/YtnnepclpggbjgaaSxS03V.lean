import Derived.Test.YtnnepclpggbjgaaSxS03I
/- printed by sxgen -/
namespace Go.Sx
open Go.Proofs
set_option linter.unusedVariables false
/- engrosser/engrosserref03.prime -/
def g45O (A : Ar) : Orc := orcOf []
theorem g45O_sound : OSound Try.prog (g45O realA) := orc_sound fun f g hm args v hv => by
  cases hm
theorem g45O_det : ODet (g45O realA) := orc_det _
def g45an : Ann := [(0, ([], [])), (1, ([0], [1000]))]
def g45res : List ResultVar := [.cell 0 47]
noncomputable def g45D {R : Type} (A : Ar) (n : Nat) (p : List Bool) (K : Ex → St → Option R) (s : St) : Option R := codeD A gtys (g45O A) g45an n (sub (bodyOf Try.f45) p) K s
noncomputable def g45Q {R : Type} (A : Ar) (n : Nat) (p : List Bool) (K : Ex → St → Option R) : Ex → St → Option R := seqC (g45D A n p K) K
noncomputable def g45T {R : Type} (kk : AV → Heap → Option R) : Ex → St → Option R := finD gtys g45res kk
theorem g45Qn {R : Type} (A : Ar) (n : Nat) (p : List Bool) (K : Ex → St → Option R) (s : St) : g45Q A n p K .normal s = g45D A n p K s := rfl
theorem g45F {R : Type} (A : Ar) (n : Nat) (p : List Bool) (i : Nat) (K : Ex → St → Option R) (s s' : St) (hf : firstReg (sub (bodyOf Try.f45) p) = some i) (h : keep g45an i s = keep g45an i s') : g45D A n p K s = g45D A n p K s' := codeD_first hf h K
section
variable {R : Type} (A : Ar) (n : Nat) (K : Ex → St → Option R) (s : St)
theorem g45p1 : g45D A n (pth 1) K s = g45D A n (pth 2) (g45Q A n (pth 3) K) s := by kernel_rfl
theorem g45p3 : g45D A n (pth 3) K s = g45D A n (pth 5) (g45Q A n (pth 7) K) s := by kernel_rfl
theorem g45p7 : g45D A n (pth 7) K s = K .ret s := by kernel_rfl
def g45R0s0 (A : Ar)  : St := ⟨[(0, (pT 1000 0))], [(1000, (bW 8 [0, 0, 0, 0, 0, 0, 0, 0] 47))]⟩
theorem g45R0 : g45D A n (pth 2) K ⟨[], []⟩ = K .normal (g45R0s0 A) := by kernel_rfl
def g45R1s0 (A : Ar) (x0 : List Nat) : St := ⟨[(1, (aN .u32 8 (((((((([0, 0, 0, 0, 0, 0, 0, 0].set 0 4294967277).set 1 4294967295).set 2 4294967295).set 3 4294967295).set 4 4294967295).set 5 4294967295).set 6 4294967295).set 7 2147483647))), (0, (pT 1000 0))], [(1000, (bW 8 (((((((([0, 0, 0, 0, 0, 0, 0, 0].set 0 4294967277).set 1 4294967295).set 2 4294967295).set 3 4294967295).set 4 4294967295).set 5 4294967295).set 6 4294967295).set 7 2147483647) 47))]⟩
theorem g45R1 (x0 : List Nat) : g45D A n (pth 5) K ⟨[(0, (pT 1000 0))], [(1000, (bW 8 x0 47))]⟩ = K .normal (g45R1s0 A x0) := by kernel_rfl
end
def g45 {R : Type} (A : Ar) (n : Nat) (kk : AV → Heap → Option R)  : Option R :=
  kk (aN .u32 8 (((((((([0, 0, 0, 0, 0, 0, 0, 0].set 0 4294967277).set 1 4294967295).set 2 4294967295).set 3 4294967295).set 4 4294967295).set 5 4294967295).set 6 4294967295).set 7 2147483647)) [(1000, (bW 8 (((((((([0, 0, 0, 0, 0, 0, 0, 0].set 0 4294967277).set 1 4294967295).set 2 4294967295).set 3 4294967295).set 4 4294967295).set 5 4294967295).set 6 4294967295).set 7 2147483647) 47))]
set_option maxRecDepth 100000 in
theorem g45_eq {R : Type} (A : Ar) (n : Nat) (kk : AV → Heap → Option R)  :
    funD A gtys (g45O A) g45an n (bodyOf Try.f45) g45res [] [] kk = g45 A n kk  := by
  have h1 : (g45T kk) .ret (g45R1s0 A [0, 0, 0, 0, 0, 0, 0, 0]) = kk (aN .u32 8 (((((((([0, 0, 0, 0, 0, 0, 0, 0].set 0 4294967277).set 1 4294967295).set 2 4294967295).set 3 4294967295).set 4 4294967295).set 5 4294967295).set 6 4294967295).set 7 2147483647)) [(1000, (bW 8 (((((((([0, 0, 0, 0, 0, 0, 0, 0].set 0 4294967277).set 1 4294967295).set 2 4294967295).set 3 4294967295).set 4 4294967295).set 5 4294967295).set 6 4294967295).set 7 2147483647) 47))] := by kernel_rfl
  have h2 := (g45p7 A n _ _).trans h1
  have h3 := (g45Qn A n _ _ _).trans h2
  have h4 := (g45F A n _ 1 _ (g45R0s0 A) _ (by kernel_rfl) (by kernel_rfl)).trans (g45R1 A n (g45Q A n (pth 7) (g45T kk)) [0, 0, 0, 0, 0, 0, 0, 0])
  rw [h3] at h4
  have h5 := (g45p3 A n _ _).trans h4
  have h6 := (g45Qn A n _ _ _).trans h5
  have h7 := (g45F A n _ 0 _ ⟨[], []⟩ _ (by kernel_rfl) (by kernel_rfl)).trans (g45R0 A n (g45Q A n (pth 3) (g45T kk)) )
  rw [h6] at h7
  have h8 := (g45p1 A n _ _).trans h7
  exact (show funD A gtys (g45O A) g45an n (bodyOf Try.f45) g45res [] [] kk = g45D A n (pth 1) (g45T kk) ⟨[], []⟩ from by kernel_rfl).trans (h8.trans (by kernel_rfl))
def g45is (o : Option AV) : Bool := match o with
  | some (aN .u32 8 _) => true
  | _ => false
def g45g0 (o : Option AV) : List Nat := match o with
  | some (aN .u32 8 x) => x
  | _ => []
theorem g45is_spec {o : Option AV} (h : g45is o = true) : o = some (aN .u32 8 (g45g0 o)) := by
  unfold g45is at h
  split at h
  · rfl
  · cases h
def g45v (A : Ar)  : Option AV := g45 A (100000) (fun v _ => some v) 
def g45ok (A : Ar)  : Bool := g45is (g45v A )
def g45r0 (A : Ar)  : List Nat := g45g0 (g45v A )
theorem g45ok_spec {A : Ar} (h : g45ok A = true) : g45v A = some (aN .u32 8 (g45r0 A)) := g45is_spec h
def g45o (A : Ar) (args : List AV) : Option (Bool × AV) := match args with
  | [] => some (g45ok A , .v (.agg [.nums .u32 8 (g45r0 A)]))
  | _ => none
theorem g45o_sound : ∀ args v, g45o realA args = some (true, v) → Fn1 Try.prog 45 args v := by
  intro args v h
  unfold g45o at h
  split at h
  · simp only [Option.some.injEq, Prod.mk.injEq] at h
    obtain ⟨hc, h⟩ := h
    subst h
    · skip
      exact fn1_of mixed gtysOK g45O_sound g45O_det (an := g45an) (n := 100000) Try.func45 (c := bodyOf Try.f45) rfl (by kernel_rfl) Try.call45 (Nat.le_of_ble_eq_true rfl) (fun b => rfl) (fun _ => (g45_eq realA (100000) (fun v _ => some v) ).trans (show g45v realA  = _ from g45ok_spec hc))
  · cases h
/- engrosser/engrosserref03.less -/
def g48O (A : Ar) : Orc := orcOf []
theorem g48O_sound : OSound Try.prog (g48O realA) := orc_sound fun f g hm args v hv => by
  cases hm
theorem g48O_det : ODet (g48O realA) := orc_det _
def g48an : Ann := [(0, ([0, 1], [])), (1, ([2, 3], [1000, 1001])), (2, ([2, 3, 5], [1000, 1001])), (3, ([2, 3, 5], [1000, 1001])), (4, ([2, 3, 5], [1000, 1001])), (5, ([2, 3, 5], [1000, 1001])), (6, ([], []))]
def g48res : List ResultVar := [.tmp 4]
noncomputable def g48D {R : Type} (A : Ar) (n : Nat) (p : List Bool) (K : Ex → St → Option R) (s : St) : Option R := codeD A gtys (g48O A) g48an n (sub (bodyOf Try.f48) p) K s
noncomputable def g48V {R : Type} (A : Ar) (n : Nat) (p : List Bool) (m : Nat) (K : Ex → St → Option R) (s : St) : Option R := loopD (fun K' s'' => codeD A gtys (g48O A) g48an n (sub (bodyOf Try.f48) p) K' s'') m K s
noncomputable def g48Q {R : Type} (A : Ar) (n : Nat) (p : List Bool) (K : Ex → St → Option R) : Ex → St → Option R := seqC (g48D A n p K) K
noncomputable def g48W {R : Type} (A : Ar) (n : Nat) (p : List Bool) (m : Nat) (K : Ex → St → Option R) : Ex → St → Option R := seqC (g48V A n p m K) K
noncomputable def g48T {R : Type} (kk : AV → Heap → Option R) : Ex → St → Option R := finD gtys g48res kk
theorem g48Qn {R : Type} (A : Ar) (n : Nat) (p : List Bool) (K : Ex → St → Option R) (s : St) : g48Q A n p K .normal s = g48D A n p K s := rfl
theorem g48Qe {R : Type} (A : Ar) (n : Nat) (p : List Bool) (K : Ex → St → Option R) (i : Nat) (s : St) : g48Q A n p K (.exit i) s = K (.exit i) s := rfl
theorem g48Qr {R : Type} (A : Ar) (n : Nat) (p : List Bool) (K : Ex → St → Option R) (s : St) : g48Q A n p K .ret s = K .ret s := rfl
theorem g48Wn {R : Type} (A : Ar) (n : Nat) (p : List Bool) (m : Nat) (K : Ex → St → Option R) (s : St) : g48W A n p m K .normal s = g48V A n p m K s := rfl
theorem g48We {R : Type} (A : Ar) (n : Nat) (p : List Bool) (m : Nat) (K : Ex → St → Option R) (i : Nat) (s : St) : g48W A n p m K (.exit i) s = K (.exit i) s := rfl
theorem g48Wr {R : Type} (A : Ar) (n : Nat) (p : List Bool) (m : Nat) (K : Ex → St → Option R) (s : St) : g48W A n p m K .ret s = K .ret s := rfl
theorem g48Vs {R : Type} (A : Ar) (n : Nat) (p : List Bool) (m : Nat) (K : Ex → St → Option R) (s : St) : g48V A n p (m + 1) K s = g48D A n p (g48W A n p m K) s := rfl
theorem g48F {R : Type} (A : Ar) (n : Nat) (p : List Bool) (i : Nat) (K : Ex → St → Option R) (s s' : St) (hf : firstReg (sub (bodyOf Try.f48) p) = some i) (h : keep g48an i s = keep g48an i s') : g48D A n p K s = g48D A n p K s' := codeD_first hf h K
section
variable {R : Type} (A : Ar) (n : Nat) (K : Ex → St → Option R) (s : St)
theorem g48p1 : g48D A n (pth 1) K s = g48D A n (pth 2) (g48Q A n (pth 3) K) s := by kernel_rfl
theorem g48p3 : g48D A n (pth 3) K s = g48D A n (pth 5) (g48Q A n (pth 7) K) s := by kernel_rfl
theorem g48p5 : g48D A n (pth 5) K s = g48D A n (pth 9) (g48Q A n (pth 13) K) s := by kernel_rfl
theorem g48p13 : g48D A n (pth 13) K s = g48D A n (pth 21) (blockK 0 K) s := by kernel_rfl
theorem g48p21 : g48D A n (pth 21) K s = g48V A n (pth 37) n K s := by kernel_rfl
theorem g48p37 : g48D A n (pth 37) K s = g48D A n (pth 69) (g48Q A n (pth 101) K) s := by kernel_rfl
theorem g48p69 : g48D A n (pth 69) K s = g48D A n (pth 133) (g48Q A n (pth 197) K) s := by kernel_rfl
theorem g48p197 (t : Bool) : ev s (.tmp 7) = some (.v (.cell (.bool t))) → g48D A n (pth 197) K s = (match t with
    | true => g48D A n (pth 325) K s
    | false => g48D A n (pth 453) K s) := codeD_cond t
theorem g48p325 : g48D A n (pth 325) K s = K .normal s := by kernel_rfl
theorem g48p453 : g48D A n (pth 453) K s = K (.exit 0) s := by kernel_rfl
theorem g48p101 : g48D A n (pth 101) K s = g48D A n (pth 165) (g48Q A n (pth 229) K) s := by kernel_rfl
theorem g48p165 : g48D A n (pth 165) K s = g48D A n (pth 293) (blockK 1 K) s := by kernel_rfl
theorem g48p293 : g48D A n (pth 293) K s = g48D A n (pth 549) (g48Q A n (pth 805) K) s := by kernel_rfl
theorem g48p805 (t : Bool) : ev s (.tmp 16) = some (.v (.cell (.bool t))) → g48D A n (pth 805) K s = (match t with
    | true => g48D A n (pth 1317) K s
    | false => g48D A n (pth 1829) K s) := codeD_cond t
theorem g48p1317 : g48D A n (pth 1317) K s = g48D A n (pth 2341) (g48Q A n (pth 3365) K) s := by kernel_rfl
theorem g48p3365 : g48D A n (pth 3365) K s = K .ret s := by kernel_rfl
theorem g48p1829 : g48D A n (pth 1829) K s = K .normal s := by kernel_rfl
theorem g48p7 : g48D A n (pth 7) K s = g48D A n (pth 11) (g48Q A n (pth 15) K) s := by kernel_rfl
theorem g48p15 : g48D A n (pth 15) K s = K .ret s := by kernel_rfl
def g48R4s0 (A : Ar) (x0 : Int) (x1 x2 : List Nat) : St := ⟨[(16, (bO (A.nc .neq (x1.getD (A.toN x0) 0) (x2.getD (A.toN x0) 0)))), (15, (u32v (x2.getD (A.toN x0) 0))), (14, (.v (.cell (.ptr 1001 0 (some ⟨A.toN x0, 1, 8, 0, 0, 0⟩))))), (13, (i6 x0)), (12, (u32v (x1.getD (A.toN x0) 0))), (11, (.v (.cell (.ptr 1000 0 (some ⟨A.toN x0, 1, 8, 0, 0, 0⟩))))), (10, (i6 x0)), (2, (pT 1000 0)), (3, (pT 1001 0)), (5, (i6 x0))], [(1000, (bW 8 x1 47)), (1001, (bW 8 x2 47))]⟩
theorem g48R4 (x0 : Int) (x1 x2 : List Nat) : g48D A n (pth 549) K ⟨[(2, (pT 1000 0)), (3, (pT 1001 0)), (5, (i6 x0))], [(1000, (bW 8 x1 47)), (1001, (bW 8 x2 47))]⟩ = match (generalizing := false) A.neg x0 with
    | true => none
    | false => match (generalizing := false) A.lt (A.toN x0) 8 with
      | true => match (generalizing := false) A.neg x0 with
        | true => none
        | false => match (generalizing := false) A.lt (A.toN x0) 8 with
          | true => K .normal (g48R4s0 A x0 x1 x2)
          | false => none
      | false => none := by kernel_rfl
def g48R5s0 (A : Ar) (x0 : Int) (x1 x2 : List Nat) : St := ⟨[(4, (bO (A.nc .lss (x1.getD (A.toN x0) 0) (x2.getD (A.toN x0) 0)))), (23, (bO (A.nc .lss (x1.getD (A.toN x0) 0) (x2.getD (A.toN x0) 0)))), (22, (u32v (x2.getD (A.toN x0) 0))), (21, (.v (.cell (.ptr 1001 0 (some ⟨A.toN x0, 1, 8, 0, 0, 0⟩))))), (20, (i6 x0)), (19, (u32v (x1.getD (A.toN x0) 0))), (18, (.v (.cell (.ptr 1000 0 (some ⟨A.toN x0, 1, 8, 0, 0, 0⟩))))), (17, (i6 x0)), (2, (pT 1000 0)), (3, (pT 1001 0)), (5, (i6 x0))], [(1000, (bW 8 x1 47)), (1001, (bW 8 x2 47))]⟩
theorem g48R5 (x0 : Int) (x1 x2 : List Nat) : g48D A n (pth 2341) K ⟨[(2, (pT 1000 0)), (3, (pT 1001 0)), (5, (i6 x0))], [(1000, (bW 8 x1 47)), (1001, (bW 8 x2 47))]⟩ = match (generalizing := false) A.neg x0 with
    | true => none
    | false => match (generalizing := false) A.lt (A.toN x0) 8 with
      | true => match (generalizing := false) A.neg x0 with
        | true => none
        | false => match (generalizing := false) A.lt (A.toN x0) 8 with
          | true => K .normal (g48R5s0 A x0 x1 x2)
          | false => none
      | false => none := by kernel_rfl
def g48R3s0 (A : Ar) (x0 : Int) (x1 x2 : List Nat) : St := ⟨[(5, (i6 (A.ib .sub .i64 x0 1))), (9, (i6 (A.ib .sub .i64 x0 1))), (8, (i6 x0)), (2, (pT 1000 0)), (3, (pT 1001 0)), (5, (i6 x0))], [(1000, (bW 8 x1 47)), (1001, (bW 8 x2 47))]⟩
theorem g48R3 (x0 : Int) (x1 x2 : List Nat) : g48D A n (pth 229) K ⟨[(2, (pT 1000 0)), (3, (pT 1001 0)), (5, (i6 x0))], [(1000, (bW 8 x1 47)), (1001, (bW 8 x2 47))]⟩ = K .normal (g48R3s0 A x0 x1 x2) := by kernel_rfl
def g48R2s0 (A : Ar) (x0 : Int) (x1 x2 : List Nat) : St := ⟨[(7, (bO (A.ic .geq x0 0))), (6, (i6 x0)), (2, (pT 1000 0)), (3, (pT 1001 0)), (5, (i6 x0))], [(1000, (bW 8 x1 47)), (1001, (bW 8 x2 47))]⟩
theorem g48R2 (x0 : Int) (x1 x2 : List Nat) : g48D A n (pth 133) K ⟨[(2, (pT 1000 0)), (3, (pT 1001 0)), (5, (i6 x0))], [(1000, (bW 8 x1 47)), (1001, (bW 8 x2 47))]⟩ = K .normal (g48R2s0 A x0 x1 x2) := by kernel_rfl
def g48R6s0 (A : Ar)  : St := ⟨[(4, (bO false))], []⟩
theorem g48R6 : g48D A n (pth 11) K ⟨[], []⟩ = K .normal (g48R6s0 A) := by kernel_rfl
def g48R0s0 (A : Ar) (x0 x1 : List Nat) : St := ⟨[(4, (bO false)), (3, (pT 1001 0)), (2, (pT 1000 0)), (0, (aN .u32 8 x0)), (1, (aN .u32 8 x1))], [(1001, (bW 8 x1 47)), (1000, (bW 8 x0 47))]⟩
theorem g48R0 (x0 x1 : List Nat) : g48D A n (pth 2) K ⟨[(0, (aN .u32 8 x0)), (1, (aN .u32 8 x1))], []⟩ = K .normal (g48R0s0 A x0 x1) := by kernel_rfl
def g48R1s0 (A : Ar) (x0 x1 : List Nat) : St := ⟨[(5, (i6 7)), (2, (pT 1000 0)), (3, (pT 1001 0))], [(1000, (bW 8 x0 47)), (1001, (bW 8 x1 47))]⟩
theorem g48R1 (x0 x1 : List Nat) : g48D A n (pth 9) K ⟨[(2, (pT 1000 0)), (3, (pT 1001 0))], [(1000, (bW 8 x0 47)), (1001, (bW 8 x1 47))]⟩ = K .normal (g48R1s0 A x0 x1) := by kernel_rfl
end
def g48J4 {R : Type} (A : Ar) (n : Nat) (kk : AV → Heap → Option R) (lg48L2 : Int → List Nat → List Nat → Option R) (x0 : Int) (x1 x2 : List Nat) : Option R :=
  match (generalizing := false) A.neg x0 with
  | true => none
  | false => match (generalizing := false) A.lt (A.toN x0) 8 with
    | true => match (generalizing := false) A.neg x0 with
      | true => none
      | false => match (generalizing := false) A.lt (A.toN x0) 8 with
        | true => match (generalizing := false) A.nc .neq (x1.getD (A.toN x0) 0) (x2.getD (A.toN x0) 0) with
          | true => match (generalizing := false) A.neg x0 with
            | true => none
            | false => match (generalizing := false) A.lt (A.toN x0) 8 with
              | true => match (generalizing := false) A.neg x0 with
                | true => none
                | false => match (generalizing := false) A.lt (A.toN x0) 8 with
                  | true => kk (bO (A.nc .lss (x1.getD (A.toN x0) 0) (x2.getD (A.toN x0) 0))) [(1000, (bW 8 x1 47)), (1001, (bW 8 x2 47))]
                  | false => none
              | false => none
          | false => lg48L2 (A.ib .sub .i64 x0 1) x1 x2
        | false => none
    | false => none
set_option maxRecDepth 100000 in
theorem g48J4_eq {R : Type} (A : Ar) (n : Nat) (kk : AV → Heap → Option R) (m0 : Nat) (lg48L2 : Int → List Nat → List Nat → Option R) 
    (hg48L2 : ∀ (s : St) (x0 : Int) (x1 x2 : List Nat), keep g48an 2 s = ⟨[(2, (pT 1000 0)), (3, (pT 1001 0)), (5, (i6 x0))], [(1000, (bW 8 x1 47)), (1001, (bW 8 x2 47))]⟩ → g48V A n (pth 37) m0 (blockK 0 (g48Q A n (pth 7) (g48T kk))) s = lg48L2 x0 x1 x2) (s : St) (x0 : Int) (x1 x2 : List Nat) (h : keep g48an 4 s = ⟨[(2, (pT 1000 0)), (3, (pT 1001 0)), (5, (i6 x0))], [(1000, (bW 8 x1 47)), (1001, (bW 8 x2 47))]⟩) :
    g48D A n (pth 101) (g48W A n (pth 37) m0 (blockK 0 (g48Q A n (pth 7) (g48T kk)))) s = g48J4 A n kk lg48L2 x0 x1 x2 := by
  have h1 : (g48T kk) .ret (g48R5s0 A x0 x1 x2) = kk (bO (A.nc .lss (x1.getD (A.toN x0) 0) (x2.getD (A.toN x0) 0))) [(1000, (bW 8 x1 47)), (1001, (bW 8 x2 47))] := by kernel_rfl
  have h2 := (g48Qr A n (pth 7) _ _).trans h1
  have h3 := (blockK_r 0 _ _).trans h2
  have h4 := (g48Wr A n (pth 37) m0 _ _).trans h3
  have h5 := (g48Qr A n (pth 229) _ _).trans h4
  have h6 := (blockK_r 1 _ _).trans h5
  have h7 := (g48p3365 A n _ _).trans h6
  have h8 := (g48Qn A n _ _ _).trans h7
  have h9 := (g48F A n _ 5 _ (g48R4s0 A x0 x1 x2) _ (by kernel_rfl) (by kernel_rfl)).trans (g48R5 A n (g48Q A n (pth 3365) (blockK 1 (g48Q A n (pth 229) (g48W A n (pth 37) m0 (blockK 0 (g48Q A n (pth 7) (g48T kk))))))) x0 x1 x2)
  rw [h8] at h9
  have h10 := (g48p1317 A n _ _).trans h9
  have h11 := (g48Wn A n _ _ _ _).trans (hg48L2 (g48R3s0 A x0 x1 x2) (A.ib .sub .i64 x0 1) x1 x2 (by kernel_rfl))
  have h12 := (g48F A n _ 3 _ (g48R4s0 A x0 x1 x2) _ (by kernel_rfl) (by kernel_rfl)).trans (g48R3 A n (g48W A n (pth 37) m0 (blockK 0 (g48Q A n (pth 7) (g48T kk)))) x0 x1 x2)
  rw [h11] at h12
  have h13 := (g48Qn A n _ _ _).trans h12
  have h14 := (blockK_n 1 _ _).trans h13
  have h15 := (g48p1829 A n _ _).trans h14
  have h16 := g48p805 A n (blockK 1 (g48Q A n (pth 229) (g48W A n (pth 37) m0 (blockK 0 (g48Q A n (pth 7) (g48T kk)))))) (g48R4s0 A x0 x1 x2) (A.nc .neq (x1.getD (A.toN x0) 0) (x2.getD (A.toN x0) 0)) (by kernel_rfl)
  rw [h10, h15] at h16
  have h17 := (g48Qn A n _ _ _).trans h16
  have h18 := (g48F A n _ 4 _ ⟨[(2, (pT 1000 0)), (3, (pT 1001 0)), (5, (i6 x0))], [(1000, (bW 8 x1 47)), (1001, (bW 8 x2 47))]⟩ _ (by kernel_rfl) (by kernel_rfl)).trans (g48R4 A n (g48Q A n (pth 805) (blockK 1 (g48Q A n (pth 229) (g48W A n (pth 37) m0 (blockK 0 (g48Q A n (pth 7) (g48T kk))))))) x0 x1 x2)
  rw [h17] at h18
  have h19 := (g48p293 A n _ _).trans h18
  have h20 := (g48p165 A n _ _).trans h19
  have h21 := (g48p101 A n _ _).trans h20
  exact (g48F A n _ 4 _ _ ⟨[(2, (pT 1000 0)), (3, (pT 1001 0)), (5, (i6 x0))], [(1000, (bW 8 x1 47)), (1001, (bW 8 x2 47))]⟩ (by kernel_rfl) (h.trans (by kernel_rfl))).trans (h21.trans (by kernel_rfl))
def g48L2 {R : Type} (A : Ar) (n : Nat) (kk : AV → Heap → Option R)  : Nat → Int → List Nat → List Nat → Option R
  | 0, _, _, _ => none
  | m + 1, x0, x1, x2 => match (generalizing := false) A.ic .geq x0 0 with
  | true => g48J4 A n kk (g48L2 A n kk  m) x0 x1 x2
  | false => kk (bO false) []
set_option maxRecDepth 100000 in
theorem g48L2_eq {R : Type} (A : Ar) (n : Nat) (kk : AV → Heap → Option R)    (m : Nat) (s : St) (x0 : Int) (x1 x2 : List Nat) (h : keep g48an 2 s = ⟨[(2, (pT 1000 0)), (3, (pT 1001 0)), (5, (i6 x0))], [(1000, (bW 8 x1 47)), (1001, (bW 8 x2 47))]⟩) :
    g48V A n (pth 37) m (blockK 0 (g48Q A n (pth 7) (g48T kk))) s = g48L2 A n kk  m x0 x1 x2 := by
  induction m generalizing s x0 x1 x2 with
  | zero => rfl
  | succ m ih =>
    have h1 := (g48Qn A n _ _ _).trans (g48J4_eq A n kk m (g48L2 A n kk  m) ih  (g48R2s0 A x0 x1 x2) x0 x1 x2 (by kernel_rfl))
    have h2 := (g48p325 A n _ _).trans h1
    have h3 : (g48T kk) .ret (g48R6s0 A) = kk (bO false) [] := by kernel_rfl
    have h4 := (g48p15 A n _ _).trans h3
    have h5 := (g48Qn A n _ _ _).trans h4
    have h6 := (g48F A n _ 6 _ (g48R2s0 A x0 x1 x2) _ (by kernel_rfl) (by kernel_rfl)).trans (g48R6 A n (g48Q A n (pth 15) (g48T kk)) )
    rw [h5] at h6
    have h7 := (g48p7 A n _ _).trans h6
    have h8 := (g48Qn A n _ _ _).trans h7
    have h9 := (blockK_hit 0 _ _).trans h8
    have h10 := (g48We A n (pth 37) m _ _ _).trans h9
    have h11 := (g48Qe A n (pth 101) _ _ _).trans h10
    have h12 := (g48p453 A n _ _).trans h11
    have h13 := g48p197 A n (g48Q A n (pth 101) (g48W A n (pth 37) m (blockK 0 (g48Q A n (pth 7) (g48T kk))))) (g48R2s0 A x0 x1 x2) (A.ic .geq x0 0) (by kernel_rfl)
    rw [h2, h12] at h13
    have h14 := (g48Qn A n _ _ _).trans h13
    have h15 := (g48F A n _ 2 _ ⟨[(2, (pT 1000 0)), (3, (pT 1001 0)), (5, (i6 x0))], [(1000, (bW 8 x1 47)), (1001, (bW 8 x2 47))]⟩ _ (by kernel_rfl) (by kernel_rfl)).trans (g48R2 A n (g48Q A n (pth 197) (g48Q A n (pth 101) (g48W A n (pth 37) m (blockK 0 (g48Q A n (pth 7) (g48T kk)))))) x0 x1 x2)
    rw [h14] at h15
    have h16 := (g48p69 A n _ _).trans h15
    have h17 := (g48p37 A n _ _).trans h16
    exact (loopD_first (s' := ⟨[(2, (pT 1000 0)), (3, (pT 1001 0)), (5, (i6 x0))], [(1000, (bW 8 x1 47)), (1001, (bW 8 x2 47))]⟩) (id := 2) (by kernel_rfl) (h.trans (by kernel_rfl)) _).trans ((g48Vs A n _ m _ _).trans (h17.trans (by kernel_rfl)))
def g48 {R : Type} (A : Ar) (n : Nat) (kk : AV → Heap → Option R) (a b : List Nat) : Option R :=
  g48L2 A n kk  n 7 a b
set_option maxRecDepth 100000 in
theorem g48_eq {R : Type} (A : Ar) (n : Nat) (kk : AV → Heap → Option R) (a b : List Nat) :
    funD A gtys (g48O A) g48an n (bodyOf Try.f48) g48res [(aN .u32 8 a), (aN .u32 8 b)] [] kk = g48 A n kk a b := by
  have h1 := (g48p21 A n _ _).trans (g48L2_eq A n kk    n (g48R1s0 A a b) 7 a b (by kernel_rfl))
  have h2 := (g48p13 A n _ _).trans h1
  have h3 := (g48Qn A n _ _ _).trans h2
  have h4 := (g48F A n _ 1 _ (g48R0s0 A a b) _ (by kernel_rfl) (by kernel_rfl)).trans (g48R1 A n (g48Q A n (pth 13) (g48Q A n (pth 7) (g48T kk))) a b)
  rw [h3] at h4
  have h5 := (g48p5 A n _ _).trans h4
  have h6 := (g48p3 A n _ _).trans h5
  have h7 := (g48Qn A n _ _ _).trans h6
  have h8 := (g48F A n _ 0 _ ⟨[(0, (aN .u32 8 a)), (1, (aN .u32 8 b))], []⟩ _ (by kernel_rfl) (by kernel_rfl)).trans (g48R0 A n (g48Q A n (pth 3) (g48T kk)) a b)
  rw [h7] at h8
  have h9 := (g48p1 A n _ _).trans h8
  exact (show funD A gtys (g48O A) g48an n (bodyOf Try.f48) g48res [(aN .u32 8 a), (aN .u32 8 b)] [] kk = g48D A n (pth 1) (g48T kk) ⟨[(0, (aN .u32 8 a)), (1, (aN .u32 8 b))], []⟩ from by kernel_rfl).trans (h9.trans (by kernel_rfl))
def g48is (o : Option AV) : Bool := match o with
  | some (.v (.cell (.bool _))) => true
  | _ => false
def g48g0 (o : Option AV) : Bool := match o with
  | some (.v (.cell (.bool x))) => x
  | _ => false
theorem g48is_spec {o : Option AV} (h : g48is o = true) : o = some (.v (.cell (.bool (g48g0 o)))) := by
  unfold g48is at h
  split at h
  · rfl
  · cases h
def g48v (A : Ar) (a b : List Nat) : Option AV := g48 A (100000) (fun v _ => some v) a b
def g48ok (A : Ar) (a b : List Nat) : Bool := g48is (g48v A a b)
def g48r0 (A : Ar) (a b : List Nat) : Bool := g48g0 (g48v A a b)
theorem g48ok_spec {A : Ar} {a b} (h : g48ok A a b = true) : g48v A a b = some (.v (.cell (.bool (g48r0 A a b)))) := g48is_spec h
def g48o (A : Ar) (args : List AV) : Option (Bool × AV) := match args with
  | [.v (.agg [.nums .u32 n0 a]), .v (.agg [.nums .u32 n1 b])] => some (Nat.beq n0 8 && (Nat.beq n1 8 && (g48ok A a b)), .v (.cell (.bool (g48r0 A a b))))
  | _ => none
theorem g48o_sound : ∀ args v, g48o realA args = some (true, v) → Fn1 Try.prog 48 args v := by
  intro args v h
  unfold g48o at h
  split at h
  · rename_i n0 a n1 b
    simp only [Option.some.injEq, Prod.mk.injEq] at h
    obtain ⟨hc, h⟩ := h
    subst h
    · skip
      simp only [Bool.and_eq_true] at hc
      have en0 := beq_true hc.1
      subst en0
      replace hc := hc.2
      have en1 := beq_true hc.1
      subst en1
      replace hc := hc.2
      exact fn1_of mixed gtysOK g48O_sound g48O_det (an := g48an) (n := 100000) Try.func48 (c := bodyOf Try.f48) rfl (by kernel_rfl) Try.call48 (Nat.le_of_ble_eq_true rfl) (fun b => rfl) (fun _ => (g48_eq realA (100000) (fun v _ => some v) a b).trans (show g48v realA a b = _ from g48ok_spec hc))
  · cases h
/- engrosser/engrosserref03.minus -/
def g44O (A : Ar) : Orc := orcOf []
theorem g44O_sound : OSound Try.prog (g44O realA) := orc_sound fun f g hm args v hv => by
  cases hm
theorem g44O_det : ODet (g44O realA) := orc_det _
def g44an : Ann := [(0, ([0, 1], [])), (1, ([2, 3, 4], [1000, 1001, 1002])), (2, ([2, 3, 4, 5], [1000, 1001, 1002, 2000])), (3, ([2, 3, 4, 5, 6], [1000, 1001, 1002, 2000])), (4, ([2, 3, 4, 5, 6, 7], [1000, 1001, 1002, 2000])), (5, ([2, 3, 4, 5, 6, 7], [1000, 1001, 1002, 2000])), (6, ([2, 3, 4, 5, 6, 7], [1000, 1001, 1002, 2000])), (7, ([2, 3, 4, 5, 7, 8], [1000, 1001, 1002, 2000])), (8, ([2, 3, 4, 5, 7, 8], [1000, 1001, 1002, 2000])), (9, ([4, 5], [1002, 2000]))]
def g44res : List ResultVar := [.cell 4 47]
noncomputable def g44D {R : Type} (A : Ar) (n : Nat) (p : List Bool) (K : Ex → St → Option R) (s : St) : Option R := codeD A gtys (g44O A) g44an n (sub (bodyOf Try.f44) p) K s
noncomputable def g44V {R : Type} (A : Ar) (n : Nat) (p : List Bool) (m : Nat) (K : Ex → St → Option R) (s : St) : Option R := loopD (fun K' s'' => codeD A gtys (g44O A) g44an n (sub (bodyOf Try.f44) p) K' s'') m K s
noncomputable def g44Q {R : Type} (A : Ar) (n : Nat) (p : List Bool) (K : Ex → St → Option R) : Ex → St → Option R := seqC (g44D A n p K) K
noncomputable def g44W {R : Type} (A : Ar) (n : Nat) (p : List Bool) (m : Nat) (K : Ex → St → Option R) : Ex → St → Option R := seqC (g44V A n p m K) K
noncomputable def g44T {R : Type} (kk : AV → Heap → Option R) : Ex → St → Option R := finD gtys g44res kk
theorem g44Qn {R : Type} (A : Ar) (n : Nat) (p : List Bool) (K : Ex → St → Option R) (s : St) : g44Q A n p K .normal s = g44D A n p K s := rfl
theorem g44Qe {R : Type} (A : Ar) (n : Nat) (p : List Bool) (K : Ex → St → Option R) (i : Nat) (s : St) : g44Q A n p K (.exit i) s = K (.exit i) s := rfl
theorem g44Wn {R : Type} (A : Ar) (n : Nat) (p : List Bool) (m : Nat) (K : Ex → St → Option R) (s : St) : g44W A n p m K .normal s = g44V A n p m K s := rfl
theorem g44We {R : Type} (A : Ar) (n : Nat) (p : List Bool) (m : Nat) (K : Ex → St → Option R) (i : Nat) (s : St) : g44W A n p m K (.exit i) s = K (.exit i) s := rfl
theorem g44Vs {R : Type} (A : Ar) (n : Nat) (p : List Bool) (m : Nat) (K : Ex → St → Option R) (s : St) : g44V A n p (m + 1) K s = g44D A n p (g44W A n p m K) s := rfl
theorem g44F {R : Type} (A : Ar) (n : Nat) (p : List Bool) (i : Nat) (K : Ex → St → Option R) (s s' : St) (hf : firstReg (sub (bodyOf Try.f44) p) = some i) (h : keep g44an i s = keep g44an i s') : g44D A n p K s = g44D A n p K s' := codeD_first hf h K
section
variable {R : Type} (A : Ar) (n : Nat) (K : Ex → St → Option R) (s : St)
theorem g44p1 : g44D A n (pth 1) K s = g44D A n (pth 2) (g44Q A n (pth 3) K) s := by kernel_rfl
theorem g44p3 : g44D A n (pth 3) K s = g44D A n (pth 5) (g44Q A n (pth 7) K) s := by kernel_rfl
theorem g44p7 : g44D A n (pth 7) K s = g44D A n (pth 11) (g44Q A n (pth 15) K) s := by kernel_rfl
theorem g44p15 : g44D A n (pth 15) K s = g44D A n (pth 23) (g44Q A n (pth 31) K) s := by kernel_rfl
theorem g44p23 : g44D A n (pth 23) K s = g44D A n (pth 39) (g44Q A n (pth 55) K) s := by kernel_rfl
theorem g44p55 : g44D A n (pth 55) K s = g44D A n (pth 87) (blockK 0 K) s := by kernel_rfl
theorem g44p87 : g44D A n (pth 87) K s = g44V A n (pth 151) n K s := by kernel_rfl
theorem g44p151 : g44D A n (pth 151) K s = g44D A n (pth 279) (g44Q A n (pth 407) K) s := by kernel_rfl
theorem g44p279 : g44D A n (pth 279) K s = g44D A n (pth 535) (g44Q A n (pth 791) K) s := by kernel_rfl
theorem g44p791 (t : Bool) : ev s (.tmp 10) = some (.v (.cell (.bool t))) → g44D A n (pth 791) K s = (match t with
    | true => g44D A n (pth 1303) K s
    | false => g44D A n (pth 1815) K s) := codeD_cond t
theorem g44p1303 : g44D A n (pth 1303) K s = K .normal s := by kernel_rfl
theorem g44p1815 : g44D A n (pth 1815) K s = K (.exit 0) s := by kernel_rfl
theorem g44p407 : g44D A n (pth 407) K s = g44D A n (pth 663) (g44Q A n (pth 919) K) s := by kernel_rfl
theorem g44p663 : g44D A n (pth 663) K s = g44D A n (pth 1175) (blockK 1 K) s := by kernel_rfl
theorem g44p1175 : g44D A n (pth 1175) K s = g44D A n (pth 2199) (g44Q A n (pth 3223) K) s := by kernel_rfl
theorem g44p3223 : g44D A n (pth 3223) K s = g44D A n (pth 5271) (g44Q A n (pth 7319) K) s := by kernel_rfl
theorem g44p31 : g44D A n (pth 31) K s = g44D A n (pth 47) (g44Q A n (pth 63) K) s := by kernel_rfl
theorem g44p63 : g44D A n (pth 63) K s = K .ret s := by kernel_rfl
def g44R6s0 (A : Ar) (x0 : Nat) (x1 : Int) (x2 x3 : List Nat) (x4 x5 : List Nat) : St := ⟨[(8, (u64v (A.nb .sub .u64 (A.nb .sub .u64 (A.nb .add .u64 (x2.getD (A.toN x1) 0) 4294967296) (x3.getD (A.toN x1) 0)) x0))), (24, (u64v (A.nb .sub .u64 (A.nb .sub .u64 (A.nb .add .u64 (x2.getD (A.toN x1) 0) 4294967296) (x3.getD (A.toN x1) 0)) x0))), (23, (u64v x0)), (22, (u64v (A.nb .sub .u64 (A.nb .add .u64 (x2.getD (A.toN x1) 0) 4294967296) (x3.getD (A.toN x1) 0)))), (21, (u64v (x3.getD (A.toN x1) 0))), (20, (u32v (x3.getD (A.toN x1) 0))), (19, (.v (.cell (.ptr 1001 0 (some ⟨A.toN x1, 1, 8, 0, 0, 0⟩))))), (18, (i6 x1)), (17, (u64v (A.nb .add .u64 (x2.getD (A.toN x1) 0) 4294967296))), (16, (u64v (x2.getD (A.toN x1) 0))), (15, (u32v (x2.getD (A.toN x1) 0))), (14, (.v (.cell (.ptr 1000 0 (some ⟨A.toN x1, 1, 8, 0, 0, 0⟩))))), (13, (i6 x1)), (2, (pT 1000 0)), (3, (pT 1001 0)), (4, (pT 1002 0)), (5, (pT 2000 0)), (6, (u64v x0)), (7, (i6 x1))], [(1000, (bW 8 x2 47)), (1001, (bW 8 x3 47)), (1002, (bW 8 x4 47)), (2000, (bW 8 x5 47))]⟩
theorem g44R6 (x0 : Nat) (x1 : Int) (x2 x3 : List Nat) (x4 x5 : List Nat) : g44D A n (pth 2199) K ⟨[(2, (pT 1000 0)), (3, (pT 1001 0)), (4, (pT 1002 0)), (5, (pT 2000 0)), (6, (u64v x0)), (7, (i6 x1))], [(1000, (bW 8 x2 47)), (1001, (bW 8 x3 47)), (1002, (bW 8 x4 47)), (2000, (bW 8 x5 47))]⟩ = match (generalizing := false) A.neg x1 with
    | true => none
    | false => match (generalizing := false) A.lt (A.toN x1) 8 with
      | true => match (generalizing := false) A.neg x1 with
        | true => none
        | false => match (generalizing := false) A.lt (A.toN x1) 8 with
          | true => K .normal (g44R6s0 A x0 x1 x2 x3 x4 x5)
          | false => none
      | false => none := by kernel_rfl
def g44R7s0 (A : Ar) (x0 : Int) (x1 : Nat) (x2 x3 : List Nat) (x4 x5 : List Nat) : St := ⟨[(28, (.v (.cell (.ptr 2000 0 (some ⟨A.toN x0, 1, 8, 0, 0, 0⟩))))), (27, (u32v (A.n2n .u32 x1))), (26, (u64v x1)), (25, (i6 x0)), (2, (pT 1000 0)), (3, (pT 1001 0)), (4, (pT 1002 0)), (5, (pT 2000 0)), (7, (i6 x0)), (8, (u64v x1))], [(1000, (bW 8 x2 47)), (1001, (bW 8 x3 47)), (1002, (bW 8 x4 47)), (2000, (bW 8 (x5.set (A.toN x0) (A.n2n .u32 x1)) 47))]⟩
theorem g44R7 (x0 : Int) (x1 : Nat) (x2 x3 : List Nat) (x4 x5 : List Nat) : g44D A n (pth 5271) K ⟨[(2, (pT 1000 0)), (3, (pT 1001 0)), (4, (pT 1002 0)), (5, (pT 2000 0)), (7, (i6 x0)), (8, (u64v x1))], [(1000, (bW 8 x2 47)), (1001, (bW 8 x3 47)), (1002, (bW 8 x4 47)), (2000, (bW 8 x5 47))]⟩ = match (generalizing := false) A.neg x0 with
    | true => none
    | false => match (generalizing := false) A.lt (A.toN x0) 8 with
      | true => K .normal (g44R7s0 A x0 x1 x2 x3 x4 x5)
      | false => none := by kernel_rfl
def g44R8s0 (A : Ar) (x0 : Int) (x1 : Nat) (x2 x3 : List Nat) (x4 x5 : List Nat) : St := ⟨[(6, (u64v (A.nb .sub .u64 1 (A.nsh .shr .u64 x1 32)))), (31, (u64v (A.nb .sub .u64 1 (A.nsh .shr .u64 x1 32)))), (30, (u64v (A.nsh .shr .u64 x1 32))), (29, (u64v x1)), (2, (pT 1000 0)), (3, (pT 1001 0)), (4, (pT 1002 0)), (5, (pT 2000 0)), (7, (i6 x0)), (8, (u64v x1))], [(1000, (bW 8 x2 47)), (1001, (bW 8 x3 47)), (1002, (bW 8 x4 47)), (2000, (bW 8 x5 47))]⟩
theorem g44R8 (x0 : Int) (x1 : Nat) (x2 x3 : List Nat) (x4 x5 : List Nat) : g44D A n (pth 7319) K ⟨[(2, (pT 1000 0)), (3, (pT 1001 0)), (4, (pT 1002 0)), (5, (pT 2000 0)), (7, (i6 x0)), (8, (u64v x1))], [(1000, (bW 8 x2 47)), (1001, (bW 8 x3 47)), (1002, (bW 8 x4 47)), (2000, (bW 8 x5 47))]⟩ = K .normal (g44R8s0 A x0 x1 x2 x3 x4 x5) := by kernel_rfl
def g44R5s0 (A : Ar) (x0 : Nat) (x1 : Int) (x2 x3 : List Nat) (x4 x5 : List Nat) : St := ⟨[(7, (i6 (A.ib .add .i64 x1 1))), (12, (i6 (A.ib .add .i64 x1 1))), (11, (i6 x1)), (2, (pT 1000 0)), (3, (pT 1001 0)), (4, (pT 1002 0)), (5, (pT 2000 0)), (6, (u64v x0)), (7, (i6 x1))], [(1000, (bW 8 x2 47)), (1001, (bW 8 x3 47)), (1002, (bW 8 x4 47)), (2000, (bW 8 x5 47))]⟩
theorem g44R5 (x0 : Nat) (x1 : Int) (x2 x3 : List Nat) (x4 x5 : List Nat) : g44D A n (pth 919) K ⟨[(2, (pT 1000 0)), (3, (pT 1001 0)), (4, (pT 1002 0)), (5, (pT 2000 0)), (6, (u64v x0)), (7, (i6 x1))], [(1000, (bW 8 x2 47)), (1001, (bW 8 x3 47)), (1002, (bW 8 x4 47)), (2000, (bW 8 x5 47))]⟩ = K .normal (g44R5s0 A x0 x1 x2 x3 x4 x5) := by kernel_rfl
def g44R4s0 (A : Ar) (x0 : Nat) (x1 : Int) (x2 x3 : List Nat) (x4 x5 : List Nat) : St := ⟨[(10, (bO (A.ic .lss x1 8))), (9, (i6 x1)), (2, (pT 1000 0)), (3, (pT 1001 0)), (4, (pT 1002 0)), (5, (pT 2000 0)), (6, (u64v x0)), (7, (i6 x1))], [(1000, (bW 8 x2 47)), (1001, (bW 8 x3 47)), (1002, (bW 8 x4 47)), (2000, (bW 8 x5 47))]⟩
theorem g44R4 (x0 : Nat) (x1 : Int) (x2 x3 : List Nat) (x4 x5 : List Nat) : g44D A n (pth 535) K ⟨[(2, (pT 1000 0)), (3, (pT 1001 0)), (4, (pT 1002 0)), (5, (pT 2000 0)), (6, (u64v x0)), (7, (i6 x1))], [(1000, (bW 8 x2 47)), (1001, (bW 8 x3 47)), (1002, (bW 8 x4 47)), (2000, (bW 8 x5 47))]⟩ = K .normal (g44R4s0 A x0 x1 x2 x3 x4 x5) := by kernel_rfl
def g44R9s0 (A : Ar) (x0 x1 : List Nat) : St := ⟨[(32, (aN .u32 8 x1)), (4, (pT 1002 0)), (5, (pT 2000 0))], [(1002, (bW 8 x1 47)), (2000, (bW 8 x1 47))]⟩
theorem g44R9 (x0 x1 : List Nat) : g44D A n (pth 47) K ⟨[(4, (pT 1002 0)), (5, (pT 2000 0))], [(1002, (bW 8 x0 47)), (2000, (bW 8 x1 47))]⟩ = K .normal (g44R9s0 A x0 x1) := by kernel_rfl
def g44R0s0 (A : Ar) (x0 x1 : List Nat) : St := ⟨[(4, (pT 1002 0)), (3, (pT 1001 0)), (2, (pT 1000 0)), (0, (aN .u32 8 x0)), (1, (aN .u32 8 x1))], [(1002, (bW 8 [0, 0, 0, 0, 0, 0, 0, 0] 47)), (1001, (bW 8 x1 47)), (1000, (bW 8 x0 47))]⟩
theorem g44R0 (x0 x1 : List Nat) : g44D A n (pth 2) K ⟨[(0, (aN .u32 8 x0)), (1, (aN .u32 8 x1))], []⟩ = K .normal (g44R0s0 A x0 x1) := by kernel_rfl
def g44R1s0 (A : Ar) (x0 x1 x2 : List Nat) : St := ⟨[(5, (pT 2000 0)), (2, (pT 1000 0)), (3, (pT 1001 0)), (4, (pT 1002 0))], [(2000, (bW 8 [0, 0, 0, 0, 0, 0, 0, 0] 47)), (1000, (bW 8 x0 47)), (1001, (bW 8 x1 47)), (1002, (bW 8 x2 47))]⟩
theorem g44R1 (x0 x1 x2 : List Nat) : g44D A n (pth 5) K ⟨[(2, (pT 1000 0)), (3, (pT 1001 0)), (4, (pT 1002 0))], [(1000, (bW 8 x0 47)), (1001, (bW 8 x1 47)), (1002, (bW 8 x2 47))]⟩ = K .normal (g44R1s0 A x0 x1 x2) := by kernel_rfl
def g44R2s0 (A : Ar) (x0 x1 : List Nat) (x2 x3 : List Nat) : St := ⟨[(6, (u64v 0)), (2, (pT 1000 0)), (3, (pT 1001 0)), (4, (pT 1002 0)), (5, (pT 2000 0))], [(1000, (bW 8 x0 47)), (1001, (bW 8 x1 47)), (1002, (bW 8 x2 47)), (2000, (bW 8 x3 47))]⟩
theorem g44R2 (x0 x1 : List Nat) (x2 x3 : List Nat) : g44D A n (pth 11) K ⟨[(2, (pT 1000 0)), (3, (pT 1001 0)), (4, (pT 1002 0)), (5, (pT 2000 0))], [(1000, (bW 8 x0 47)), (1001, (bW 8 x1 47)), (1002, (bW 8 x2 47)), (2000, (bW 8 x3 47))]⟩ = K .normal (g44R2s0 A x0 x1 x2 x3) := by kernel_rfl
def g44R3s0 (A : Ar) (x0 : Nat) (x1 x2 : List Nat) (x3 x4 : List Nat) : St := ⟨[(7, (i6 0)), (2, (pT 1000 0)), (3, (pT 1001 0)), (4, (pT 1002 0)), (5, (pT 2000 0)), (6, (u64v x0))], [(1000, (bW 8 x1 47)), (1001, (bW 8 x2 47)), (1002, (bW 8 x3 47)), (2000, (bW 8 x4 47))]⟩
theorem g44R3 (x0 : Nat) (x1 x2 : List Nat) (x3 x4 : List Nat) : g44D A n (pth 39) K ⟨[(2, (pT 1000 0)), (3, (pT 1001 0)), (4, (pT 1002 0)), (5, (pT 2000 0)), (6, (u64v x0))], [(1000, (bW 8 x1 47)), (1001, (bW 8 x2 47)), (1002, (bW 8 x3 47)), (2000, (bW 8 x4 47))]⟩ = K .normal (g44R3s0 A x0 x1 x2 x3 x4) := by kernel_rfl
end
def g44J6 {R : Type} (A : Ar) (n : Nat) (kk : AV → Heap → Option R) (lg44L4 : Nat → Int → List Nat → List Nat → List Nat → List Nat → Option R) (x0 : Nat) (x1 : Int) (x2 x3 : List Nat) (x4 x5 : List Nat) : Option R :=
  match (generalizing := false) A.neg x1 with
  | true => none
  | false => match (generalizing := false) A.lt (A.toN x1) 8 with
    | true => match (generalizing := false) A.neg x1 with
      | true => none
      | false => match (generalizing := false) A.lt (A.toN x1) 8 with
        | true => match (generalizing := false) A.neg x1 with
          | true => none
          | false => match (generalizing := false) A.lt (A.toN x1) 8 with
            | true => lg44L4 (A.nb .sub .u64 1 (A.nsh .shr .u64 (A.nb .sub .u64 (A.nb .sub .u64 (A.nb .add .u64 (x2.getD (A.toN x1) 0) 4294967296) (x3.getD (A.toN x1) 0)) x0) 32)) (A.ib .add .i64 x1 1) x2 x3 x4 (x5.set (A.toN x1) (A.n2n .u32 (A.nb .sub .u64 (A.nb .sub .u64 (A.nb .add .u64 (x2.getD (A.toN x1) 0) 4294967296) (x3.getD (A.toN x1) 0)) x0)))
            | false => none
        | false => none
    | false => none
set_option maxRecDepth 100000 in
theorem g44J6_eq {R : Type} (A : Ar) (n : Nat) (kk : AV → Heap → Option R) (m0 : Nat) (lg44L4 : Nat → Int → List Nat → List Nat → List Nat → List Nat → Option R) 
    (hg44L4 : ∀ (s : St) (x0 : Nat) (x1 : Int) (x2 x3 : List Nat) (x4 x5 : List Nat), keep g44an 4 s = ⟨[(2, (pT 1000 0)), (3, (pT 1001 0)), (4, (pT 1002 0)), (5, (pT 2000 0)), (6, (u64v x0)), (7, (i6 x1))], [(1000, (bW 8 x2 47)), (1001, (bW 8 x3 47)), (1002, (bW 8 x4 47)), (2000, (bW 8 x5 47))]⟩ → g44V A n (pth 151) m0 (blockK 0 (g44Q A n (pth 31) (g44T kk))) s = lg44L4 x0 x1 x2 x3 x4 x5) (s : St) (x0 : Nat) (x1 : Int) (x2 x3 : List Nat) (x4 x5 : List Nat) (h : keep g44an 6 s = ⟨[(2, (pT 1000 0)), (3, (pT 1001 0)), (4, (pT 1002 0)), (5, (pT 2000 0)), (6, (u64v x0)), (7, (i6 x1))], [(1000, (bW 8 x2 47)), (1001, (bW 8 x3 47)), (1002, (bW 8 x4 47)), (2000, (bW 8 x5 47))]⟩) :
    g44D A n (pth 407) (g44W A n (pth 151) m0 (blockK 0 (g44Q A n (pth 31) (g44T kk)))) s = g44J6 A n kk lg44L4 x0 x1 x2 x3 x4 x5 := by
  have h1 := (g44Wn A n _ _ _ _).trans (hg44L4 (g44R5s0 A (A.nb .sub .u64 1 (A.nsh .shr .u64 (A.nb .sub .u64 (A.nb .sub .u64 (A.nb .add .u64 (x2.getD (A.toN x1) 0) 4294967296) (x3.getD (A.toN x1) 0)) x0) 32)) x1 x2 x3 x4 (x5.set (A.toN x1) (A.n2n .u32 (A.nb .sub .u64 (A.nb .sub .u64 (A.nb .add .u64 (x2.getD (A.toN x1) 0) 4294967296) (x3.getD (A.toN x1) 0)) x0)))) (A.nb .sub .u64 1 (A.nsh .shr .u64 (A.nb .sub .u64 (A.nb .sub .u64 (A.nb .add .u64 (x2.getD (A.toN x1) 0) 4294967296) (x3.getD (A.toN x1) 0)) x0) 32)) (A.ib .add .i64 x1 1) x2 x3 x4 (x5.set (A.toN x1) (A.n2n .u32 (A.nb .sub .u64 (A.nb .sub .u64 (A.nb .add .u64 (x2.getD (A.toN x1) 0) 4294967296) (x3.getD (A.toN x1) 0)) x0))) (by kernel_rfl))
  have h2 := (g44F A n _ 5 _ (g44R8s0 A x1 (A.nb .sub .u64 (A.nb .sub .u64 (A.nb .add .u64 (x2.getD (A.toN x1) 0) 4294967296) (x3.getD (A.toN x1) 0)) x0) x2 x3 x4 (x5.set (A.toN x1) (A.n2n .u32 (A.nb .sub .u64 (A.nb .sub .u64 (A.nb .add .u64 (x2.getD (A.toN x1) 0) 4294967296) (x3.getD (A.toN x1) 0)) x0)))) _ (by kernel_rfl) (by kernel_rfl)).trans (g44R5 A n (g44W A n (pth 151) m0 (blockK 0 (g44Q A n (pth 31) (g44T kk)))) (A.nb .sub .u64 1 (A.nsh .shr .u64 (A.nb .sub .u64 (A.nb .sub .u64 (A.nb .add .u64 (x2.getD (A.toN x1) 0) 4294967296) (x3.getD (A.toN x1) 0)) x0) 32)) x1 x2 x3 x4 (x5.set (A.toN x1) (A.n2n .u32 (A.nb .sub .u64 (A.nb .sub .u64 (A.nb .add .u64 (x2.getD (A.toN x1) 0) 4294967296) (x3.getD (A.toN x1) 0)) x0))))
  rw [h1] at h2
  have h3 := (g44Qn A n _ _ _).trans h2
  have h4 := (blockK_n 1 _ _).trans h3
  have h5 := (g44F A n _ 8 _ (g44R7s0 A x1 (A.nb .sub .u64 (A.nb .sub .u64 (A.nb .add .u64 (x2.getD (A.toN x1) 0) 4294967296) (x3.getD (A.toN x1) 0)) x0) x2 x3 x4 x5) _ (by kernel_rfl) (by kernel_rfl)).trans (g44R8 A n (blockK 1 (g44Q A n (pth 919) (g44W A n (pth 151) m0 (blockK 0 (g44Q A n (pth 31) (g44T kk)))))) x1 (A.nb .sub .u64 (A.nb .sub .u64 (A.nb .add .u64 (x2.getD (A.toN x1) 0) 4294967296) (x3.getD (A.toN x1) 0)) x0) x2 x3 x4 (x5.set (A.toN x1) (A.n2n .u32 (A.nb .sub .u64 (A.nb .sub .u64 (A.nb .add .u64 (x2.getD (A.toN x1) 0) 4294967296) (x3.getD (A.toN x1) 0)) x0))))
  rw [h4] at h5
  have h6 := (g44Qn A n _ _ _).trans h5
  have h7 := (g44F A n _ 7 _ (g44R6s0 A x0 x1 x2 x3 x4 x5) _ (by kernel_rfl) (by kernel_rfl)).trans (g44R7 A n (g44Q A n (pth 7319) (blockK 1 (g44Q A n (pth 919) (g44W A n (pth 151) m0 (blockK 0 (g44Q A n (pth 31) (g44T kk))))))) x1 (A.nb .sub .u64 (A.nb .sub .u64 (A.nb .add .u64 (x2.getD (A.toN x1) 0) 4294967296) (x3.getD (A.toN x1) 0)) x0) x2 x3 x4 x5)
  rw [h6] at h7
  have h8 := (g44p3223 A n _ _).trans h7
  have h9 := (g44Qn A n _ _ _).trans h8
  have h10 := (g44F A n _ 6 _ ⟨[(2, (pT 1000 0)), (3, (pT 1001 0)), (4, (pT 1002 0)), (5, (pT 2000 0)), (6, (u64v x0)), (7, (i6 x1))], [(1000, (bW 8 x2 47)), (1001, (bW 8 x3 47)), (1002, (bW 8 x4 47)), (2000, (bW 8 x5 47))]⟩ _ (by kernel_rfl) (by kernel_rfl)).trans (g44R6 A n (g44Q A n (pth 3223) (blockK 1 (g44Q A n (pth 919) (g44W A n (pth 151) m0 (blockK 0 (g44Q A n (pth 31) (g44T kk))))))) x0 x1 x2 x3 x4 x5)
  rw [h9] at h10
  have h11 := (g44p1175 A n _ _).trans h10
  have h12 := (g44p663 A n _ _).trans h11
  have h13 := (g44p407 A n _ _).trans h12
  exact (g44F A n _ 6 _ _ ⟨[(2, (pT 1000 0)), (3, (pT 1001 0)), (4, (pT 1002 0)), (5, (pT 2000 0)), (6, (u64v x0)), (7, (i6 x1))], [(1000, (bW 8 x2 47)), (1001, (bW 8 x3 47)), (1002, (bW 8 x4 47)), (2000, (bW 8 x5 47))]⟩ (by kernel_rfl) (h.trans (by kernel_rfl))).trans (h13.trans (by kernel_rfl))
def g44L4 {R : Type} (A : Ar) (n : Nat) (kk : AV → Heap → Option R)  : Nat → Nat → Int → List Nat → List Nat → List Nat → List Nat → Option R
  | 0, _, _, _, _, _, _ => none
  | m + 1, x0, x1, x2, x3, x4, x5 => match (generalizing := false) A.ic .lss x1 8 with
  | true => g44J6 A n kk (g44L4 A n kk  m) x0 x1 x2 x3 x4 x5
  | false => kk (aN .u32 8 x5) [(1002, (bW 8 x5 47)), (2000, (bW 8 x5 47))]
set_option maxRecDepth 100000 in
theorem g44L4_eq {R : Type} (A : Ar) (n : Nat) (kk : AV → Heap → Option R)    (m : Nat) (s : St) (x0 : Nat) (x1 : Int) (x2 x3 : List Nat) (x4 x5 : List Nat) (h : keep g44an 4 s = ⟨[(2, (pT 1000 0)), (3, (pT 1001 0)), (4, (pT 1002 0)), (5, (pT 2000 0)), (6, (u64v x0)), (7, (i6 x1))], [(1000, (bW 8 x2 47)), (1001, (bW 8 x3 47)), (1002, (bW 8 x4 47)), (2000, (bW 8 x5 47))]⟩) :
    g44V A n (pth 151) m (blockK 0 (g44Q A n (pth 31) (g44T kk))) s = g44L4 A n kk  m x0 x1 x2 x3 x4 x5 := by
  induction m generalizing s x0 x1 x2 x3 x4 x5 with
  | zero => rfl
  | succ m ih =>
    have h1 := (g44Qn A n _ _ _).trans (g44J6_eq A n kk m (g44L4 A n kk  m) ih  (g44R4s0 A x0 x1 x2 x3 x4 x5) x0 x1 x2 x3 x4 x5 (by kernel_rfl))
    have h2 := (g44p1303 A n _ _).trans h1
    have h3 : (g44T kk) .ret (g44R9s0 A x4 x5) = kk (aN .u32 8 x5) [(1002, (bW 8 x5 47)), (2000, (bW 8 x5 47))] := by kernel_rfl
    have h4 := (g44p63 A n _ _).trans h3
    have h5 := (g44Qn A n _ _ _).trans h4
    have h6 := (g44F A n _ 9 _ (g44R4s0 A x0 x1 x2 x3 x4 x5) _ (by kernel_rfl) (by kernel_rfl)).trans (g44R9 A n (g44Q A n (pth 63) (g44T kk)) x4 x5)
    rw [h5] at h6
    have h7 := (g44p31 A n _ _).trans h6
    have h8 := (g44Qn A n _ _ _).trans h7
    have h9 := (blockK_hit 0 _ _).trans h8
    have h10 := (g44We A n (pth 151) m _ _ _).trans h9
    have h11 := (g44Qe A n (pth 407) _ _ _).trans h10
    have h12 := (g44p1815 A n _ _).trans h11
    have h13 := g44p791 A n (g44Q A n (pth 407) (g44W A n (pth 151) m (blockK 0 (g44Q A n (pth 31) (g44T kk))))) (g44R4s0 A x0 x1 x2 x3 x4 x5) (A.ic .lss x1 8) (by kernel_rfl)
    rw [h2, h12] at h13
    have h14 := (g44Qn A n _ _ _).trans h13
    have h15 := (g44F A n _ 4 _ ⟨[(2, (pT 1000 0)), (3, (pT 1001 0)), (4, (pT 1002 0)), (5, (pT 2000 0)), (6, (u64v x0)), (7, (i6 x1))], [(1000, (bW 8 x2 47)), (1001, (bW 8 x3 47)), (1002, (bW 8 x4 47)), (2000, (bW 8 x5 47))]⟩ _ (by kernel_rfl) (by kernel_rfl)).trans (g44R4 A n (g44Q A n (pth 791) (g44Q A n (pth 407) (g44W A n (pth 151) m (blockK 0 (g44Q A n (pth 31) (g44T kk)))))) x0 x1 x2 x3 x4 x5)
    rw [h14] at h15
    have h16 := (g44p279 A n _ _).trans h15
    have h17 := (g44p151 A n _ _).trans h16
    exact (loopD_first (s' := ⟨[(2, (pT 1000 0)), (3, (pT 1001 0)), (4, (pT 1002 0)), (5, (pT 2000 0)), (6, (u64v x0)), (7, (i6 x1))], [(1000, (bW 8 x2 47)), (1001, (bW 8 x3 47)), (1002, (bW 8 x4 47)), (2000, (bW 8 x5 47))]⟩) (id := 4) (by kernel_rfl) (h.trans (by kernel_rfl)) _).trans ((g44Vs A n _ m _ _).trans (h17.trans (by kernel_rfl)))
def g44 {R : Type} (A : Ar) (n : Nat) (kk : AV → Heap → Option R) (a b : List Nat) : Option R :=
  g44L4 A n kk  n 0 0 a b [0, 0, 0, 0, 0, 0, 0, 0] [0, 0, 0, 0, 0, 0, 0, 0]
set_option maxRecDepth 100000 in
theorem g44_eq {R : Type} (A : Ar) (n : Nat) (kk : AV → Heap → Option R) (a b : List Nat) :
    funD A gtys (g44O A) g44an n (bodyOf Try.f44) g44res [(aN .u32 8 a), (aN .u32 8 b)] [] kk = g44 A n kk a b := by
  have h1 := (g44p87 A n _ _).trans (g44L4_eq A n kk    n (g44R3s0 A 0 a b [0, 0, 0, 0, 0, 0, 0, 0] [0, 0, 0, 0, 0, 0, 0, 0]) 0 0 a b [0, 0, 0, 0, 0, 0, 0, 0] [0, 0, 0, 0, 0, 0, 0, 0] (by kernel_rfl))
  have h2 := (g44p55 A n _ _).trans h1
  have h3 := (g44Qn A n _ _ _).trans h2
  have h4 := (g44F A n _ 3 _ (g44R2s0 A a b [0, 0, 0, 0, 0, 0, 0, 0] [0, 0, 0, 0, 0, 0, 0, 0]) _ (by kernel_rfl) (by kernel_rfl)).trans (g44R3 A n (g44Q A n (pth 55) (g44Q A n (pth 31) (g44T kk))) 0 a b [0, 0, 0, 0, 0, 0, 0, 0] [0, 0, 0, 0, 0, 0, 0, 0])
  rw [h3] at h4
  have h5 := (g44p23 A n _ _).trans h4
  have h6 := (g44p15 A n _ _).trans h5
  have h7 := (g44Qn A n _ _ _).trans h6
  have h8 := (g44F A n _ 2 _ (g44R1s0 A a b [0, 0, 0, 0, 0, 0, 0, 0]) _ (by kernel_rfl) (by kernel_rfl)).trans (g44R2 A n (g44Q A n (pth 15) (g44T kk)) a b [0, 0, 0, 0, 0, 0, 0, 0] [0, 0, 0, 0, 0, 0, 0, 0])
  rw [h7] at h8
  have h9 := (g44p7 A n _ _).trans h8
  have h10 := (g44Qn A n _ _ _).trans h9
  have h11 := (g44F A n _ 1 _ (g44R0s0 A a b) _ (by kernel_rfl) (by kernel_rfl)).trans (g44R1 A n (g44Q A n (pth 7) (g44T kk)) a b [0, 0, 0, 0, 0, 0, 0, 0])
  rw [h10] at h11
  have h12 := (g44p3 A n _ _).trans h11
  have h13 := (g44Qn A n _ _ _).trans h12
  have h14 := (g44F A n _ 0 _ ⟨[(0, (aN .u32 8 a)), (1, (aN .u32 8 b))], []⟩ _ (by kernel_rfl) (by kernel_rfl)).trans (g44R0 A n (g44Q A n (pth 3) (g44T kk)) a b)
  rw [h13] at h14
  have h15 := (g44p1 A n _ _).trans h14
  exact (show funD A gtys (g44O A) g44an n (bodyOf Try.f44) g44res [(aN .u32 8 a), (aN .u32 8 b)] [] kk = g44D A n (pth 1) (g44T kk) ⟨[(0, (aN .u32 8 a)), (1, (aN .u32 8 b))], []⟩ from by kernel_rfl).trans (h15.trans (by kernel_rfl))
def g44is (o : Option AV) : Bool := match o with
  | some (aN .u32 8 _) => true
  | _ => false
def g44g0 (o : Option AV) : List Nat := match o with
  | some (aN .u32 8 x) => x
  | _ => []
theorem g44is_spec {o : Option AV} (h : g44is o = true) : o = some (aN .u32 8 (g44g0 o)) := by
  unfold g44is at h
  split at h
  · rfl
  · cases h
def g44v (A : Ar) (a b : List Nat) : Option AV := g44 A (100000) (fun v _ => some v) a b
def g44ok (A : Ar) (a b : List Nat) : Bool := g44is (g44v A a b)
def g44r0 (A : Ar) (a b : List Nat) : List Nat := g44g0 (g44v A a b)
theorem g44ok_spec {A : Ar} {a b} (h : g44ok A a b = true) : g44v A a b = some (aN .u32 8 (g44r0 A a b)) := g44is_spec h
def g44o (A : Ar) (args : List AV) : Option (Bool × AV) := match args with
  | [.v (.agg [.nums .u32 n0 a]), .v (.agg [.nums .u32 n1 b])] => some (Nat.beq n0 8 && (Nat.beq n1 8 && (g44ok A a b)), .v (.agg [.nums .u32 8 (g44r0 A a b)]))
  | _ => none
theorem g44o_sound : ∀ args v, g44o realA args = some (true, v) → Fn1 Try.prog 44 args v := by
  intro args v h
  unfold g44o at h
  split at h
  · rename_i n0 a n1 b
    simp only [Option.some.injEq, Prod.mk.injEq] at h
    obtain ⟨hc, h⟩ := h
    subst h
    · skip
      simp only [Bool.and_eq_true] at hc
      have en0 := beq_true hc.1
      subst en0
      replace hc := hc.2
      have en1 := beq_true hc.1
      subst en1
      replace hc := hc.2
      exact fn1_of mixed gtysOK g44O_sound g44O_det (an := g44an) (n := 100000) Try.func44 (c := bodyOf Try.f44) rfl (by kernel_rfl) Try.call44 (Nat.le_of_ble_eq_true rfl) (fun b => rfl) (fun _ => (g44_eq realA (100000) (fun v _ => some v) a b).trans (show g44v realA a b = _ from g44ok_spec hc))
  · cases h
/- engrosser/engrosserref03.below -/
def g41O (A : Ar) : Orc := orcOf [(45, g45o A), (48, g48o A), (44, g44o A)]
theorem g41O_sound : OSound Try.prog (g41O realA) := orc_sound fun f g hm args v hv => by
  simp only [List.mem_cons, List.not_mem_nil, or_false, Prod.mk.injEq] at hm
  rcases hm with ⟨rfl, rfl⟩ | ⟨rfl, rfl⟩ | ⟨rfl, rfl⟩
  · exact g45o_sound _ _ hv
  · exact g48o_sound _ _ hv
  · exact g44o_sound _ _ hv
theorem g41O_det : ODet (g41O realA) := orc_det _
def g41an : Ann := [(0, ([0], [])), (1, ([1, 2], [1000, 1001])), (2, ([1, 2], [1000, 1001])), (3, ([1, 2], [1000, 1001]))]
def g41res : List ResultVar := [.cell 2 47]
noncomputable def g41D {R : Type} (A : Ar) (n : Nat) (p : List Bool) (K : Ex → St → Option R) (s : St) : Option R := codeD A gtys (g41O A) g41an n (sub (bodyOf Try.f41) p) K s
noncomputable def g41V {R : Type} (A : Ar) (n : Nat) (p : List Bool) (m : Nat) (K : Ex → St → Option R) (s : St) : Option R := loopD (fun K' s'' => codeD A gtys (g41O A) g41an n (sub (bodyOf Try.f41) p) K' s'') m K s
noncomputable def g41Q {R : Type} (A : Ar) (n : Nat) (p : List Bool) (K : Ex → St → Option R) : Ex → St → Option R := seqC (g41D A n p K) K
noncomputable def g41W {R : Type} (A : Ar) (n : Nat) (p : List Bool) (m : Nat) (K : Ex → St → Option R) : Ex → St → Option R := seqC (g41V A n p m K) K
noncomputable def g41T {R : Type} (kk : AV → Heap → Option R) : Ex → St → Option R := finD gtys g41res kk
theorem g41Qn {R : Type} (A : Ar) (n : Nat) (p : List Bool) (K : Ex → St → Option R) (s : St) : g41Q A n p K .normal s = g41D A n p K s := rfl
theorem g41Qe {R : Type} (A : Ar) (n : Nat) (p : List Bool) (K : Ex → St → Option R) (i : Nat) (s : St) : g41Q A n p K (.exit i) s = K (.exit i) s := rfl
theorem g41Wn {R : Type} (A : Ar) (n : Nat) (p : List Bool) (m : Nat) (K : Ex → St → Option R) (s : St) : g41W A n p m K .normal s = g41V A n p m K s := rfl
theorem g41We {R : Type} (A : Ar) (n : Nat) (p : List Bool) (m : Nat) (K : Ex → St → Option R) (i : Nat) (s : St) : g41W A n p m K (.exit i) s = K (.exit i) s := rfl
theorem g41Vs {R : Type} (A : Ar) (n : Nat) (p : List Bool) (m : Nat) (K : Ex → St → Option R) (s : St) : g41V A n p (m + 1) K s = g41D A n p (g41W A n p m K) s := rfl
theorem g41F {R : Type} (A : Ar) (n : Nat) (p : List Bool) (i : Nat) (K : Ex → St → Option R) (s s' : St) (hf : firstReg (sub (bodyOf Try.f41) p) = some i) (h : keep g41an i s = keep g41an i s') : g41D A n p K s = g41D A n p K s' := codeD_first hf h K
section
variable {R : Type} (A : Ar) (n : Nat) (K : Ex → St → Option R) (s : St)
theorem g41p1 : g41D A n (pth 1) K s = g41D A n (pth 2) (g41Q A n (pth 3) K) s := by kernel_rfl
theorem g41p3 : g41D A n (pth 3) K s = g41D A n (pth 5) (g41Q A n (pth 7) K) s := by kernel_rfl
theorem g41p5 : g41D A n (pth 5) K s = g41D A n (pth 9) (blockK 0 K) s := by kernel_rfl
theorem g41p9 : g41D A n (pth 9) K s = g41V A n (pth 17) n K s := by kernel_rfl
theorem g41p17 : g41D A n (pth 17) K s = g41D A n (pth 33) (g41Q A n (pth 49) K) s := by kernel_rfl
theorem g41p33 : g41D A n (pth 33) K s = g41D A n (pth 65) (g41Q A n (pth 97) K) s := by kernel_rfl
theorem g41p97 (t : Bool) : ev s (.tmp 6) = some (.v (.cell (.bool t))) → g41D A n (pth 97) K s = (match t with
    | true => g41D A n (pth 161) K s
    | false => g41D A n (pth 225) K s) := codeD_cond t
theorem g41p161 : g41D A n (pth 161) K s = K .normal s := by kernel_rfl
theorem g41p225 : g41D A n (pth 225) K s = K (.exit 0) s := by kernel_rfl
theorem g41p49 : g41D A n (pth 49) K s = g41D A n (pth 81) (blockK 1 K) s := by kernel_rfl
theorem g41p7 : g41D A n (pth 7) K s = g41D A n (pth 11) (g41Q A n (pth 15) K) s := by kernel_rfl
theorem g41p15 : g41D A n (pth 15) K s = K .ret s := by kernel_rfl
def g41R1s0 (A : Ar) (x0 x1 : List Nat) : St := ⟨[(6, (bO (!(g48r0 A x0 (g45r0 A))))), (5, (bO (g48r0 A x0 (g45r0 A)))), (4, (aN .u32 8 (g45r0 A))), (3, (aN .u32 8 x0)), (1, (pT 1000 0)), (2, (pT 1001 0))], [(1000, (bW 8 x0 47)), (1001, (bW 8 x1 47))]⟩
theorem g41R1 (x0 x1 : List Nat) : g41D A n (pth 65) K ⟨[(1, (pT 1000 0)), (2, (pT 1001 0))], [(1000, (bW 8 x0 47)), (1001, (bW 8 x1 47))]⟩ = match (generalizing := false) g45ok A with
    | true => match (generalizing := false) g48ok A x0 (g45r0 A) with
      | true => K .normal (g41R1s0 A x0 x1)
      | false => none
    | false => none := by kernel_rfl
def g41R2s0 (A : Ar) (x0 x1 : List Nat) : St := ⟨[(9, (aN .u32 8 (g44r0 A x0 (g45r0 A)))), (8, (aN .u32 8 (g45r0 A))), (7, (aN .u32 8 x0)), (1, (pT 1000 0)), (2, (pT 1001 0))], [(1000, (bW 8 (g44r0 A x0 (g45r0 A)) 47)), (1001, (bW 8 x1 47))]⟩
theorem g41R2 (x0 x1 : List Nat) : g41D A n (pth 81) K ⟨[(1, (pT 1000 0)), (2, (pT 1001 0))], [(1000, (bW 8 x0 47)), (1001, (bW 8 x1 47))]⟩ = match (generalizing := false) g45ok A with
    | true => match (generalizing := false) g44ok A x0 (g45r0 A) with
      | true => K .normal (g41R2s0 A x0 x1)
      | false => none
    | false => none := by kernel_rfl
def g41R3s0 (A : Ar) (x0 x1 : List Nat) : St := ⟨[(10, (aN .u32 8 x0)), (1, (pT 1000 0)), (2, (pT 1001 0))], [(1000, (bW 8 x0 47)), (1001, (bW 8 x0 47))]⟩
theorem g41R3 (x0 x1 : List Nat) : g41D A n (pth 11) K ⟨[(1, (pT 1000 0)), (2, (pT 1001 0))], [(1000, (bW 8 x0 47)), (1001, (bW 8 x1 47))]⟩ = K .normal (g41R3s0 A x0 x1) := by kernel_rfl
def g41R0s0 (A : Ar) (x0 : List Nat) : St := ⟨[(2, (pT 1001 0)), (1, (pT 1000 0)), (0, (aN .u32 8 x0))], [(1001, (bW 8 [0, 0, 0, 0, 0, 0, 0, 0] 47)), (1000, (bW 8 x0 47))]⟩
theorem g41R0 (x0 : List Nat) : g41D A n (pth 2) K ⟨[(0, (aN .u32 8 x0))], []⟩ = K .normal (g41R0s0 A x0) := by kernel_rfl
end
def g41L1 {R : Type} (A : Ar) (n : Nat) (kk : AV → Heap → Option R)  : Nat → List Nat → List Nat → Option R
  | 0, _, _ => none
  | m + 1, x0, x1 => match (generalizing := false) g45ok A with
  | true => match (generalizing := false) g48ok A x0 (g45r0 A) with
    | true => match (generalizing := false) !(g48r0 A x0 (g45r0 A)) with
      | true => match (generalizing := false) g45ok A with
        | true => match (generalizing := false) g44ok A x0 (g45r0 A) with
          | true => g41L1 A n kk  m (g44r0 A x0 (g45r0 A)) x1
          | false => none
        | false => none
      | false => kk (aN .u32 8 x0) [(1000, (bW 8 x0 47)), (1001, (bW 8 x0 47))]
    | false => none
  | false => none
set_option maxRecDepth 100000 in
theorem g41L1_eq {R : Type} (A : Ar) (n : Nat) (kk : AV → Heap → Option R)    (m : Nat) (s : St) (x0 x1 : List Nat) (h : keep g41an 1 s = ⟨[(1, (pT 1000 0)), (2, (pT 1001 0))], [(1000, (bW 8 x0 47)), (1001, (bW 8 x1 47))]⟩) :
    g41V A n (pth 17) m (blockK 0 (g41Q A n (pth 7) (g41T kk))) s = g41L1 A n kk  m x0 x1 := by
  induction m generalizing s x0 x1 with
  | zero => rfl
  | succ m ih =>
    have h1 := (g41Wn A n _ _ _ _).trans (ih (g41R2s0 A x0 x1) (g44r0 A x0 (g45r0 A)) x1 (by kernel_rfl))
    have h2 := (blockK_n 1 _ _).trans h1
    have h3 := (g41F A n _ 2 _ (g41R1s0 A x0 x1) _ (by kernel_rfl) (by kernel_rfl)).trans (g41R2 A n (blockK 1 (g41W A n (pth 17) m (blockK 0 (g41Q A n (pth 7) (g41T kk))))) x0 x1)
    rw [h2] at h3
    have h4 := (g41p49 A n _ _).trans h3
    have h5 := (g41Qn A n _ _ _).trans h4
    have h6 := (g41p161 A n _ _).trans h5
    have h7 : (g41T kk) .ret (g41R3s0 A x0 x1) = kk (aN .u32 8 x0) [(1000, (bW 8 x0 47)), (1001, (bW 8 x0 47))] := by kernel_rfl
    have h8 := (g41p15 A n _ _).trans h7
    have h9 := (g41Qn A n _ _ _).trans h8
    have h10 := (g41F A n _ 3 _ (g41R1s0 A x0 x1) _ (by kernel_rfl) (by kernel_rfl)).trans (g41R3 A n (g41Q A n (pth 15) (g41T kk)) x0 x1)
    rw [h9] at h10
    have h11 := (g41p7 A n _ _).trans h10
    have h12 := (g41Qn A n _ _ _).trans h11
    have h13 := (blockK_hit 0 _ _).trans h12
    have h14 := (g41We A n (pth 17) m _ _ _).trans h13
    have h15 := (g41Qe A n (pth 49) _ _ _).trans h14
    have h16 := (g41p225 A n _ _).trans h15
    have h17 := g41p97 A n (g41Q A n (pth 49) (g41W A n (pth 17) m (blockK 0 (g41Q A n (pth 7) (g41T kk))))) (g41R1s0 A x0 x1) (!(g48r0 A x0 (g45r0 A))) (by kernel_rfl)
    rw [h6, h16] at h17
    have h18 := (g41Qn A n _ _ _).trans h17
    have h19 := (g41F A n _ 1 _ ⟨[(1, (pT 1000 0)), (2, (pT 1001 0))], [(1000, (bW 8 x0 47)), (1001, (bW 8 x1 47))]⟩ _ (by kernel_rfl) (by kernel_rfl)).trans (g41R1 A n (g41Q A n (pth 97) (g41Q A n (pth 49) (g41W A n (pth 17) m (blockK 0 (g41Q A n (pth 7) (g41T kk)))))) x0 x1)
    rw [h18] at h19
    have h20 := (g41p33 A n _ _).trans h19
    have h21 := (g41p17 A n _ _).trans h20
    exact (loopD_first (s' := ⟨[(1, (pT 1000 0)), (2, (pT 1001 0))], [(1000, (bW 8 x0 47)), (1001, (bW 8 x1 47))]⟩) (id := 1) (by kernel_rfl) (h.trans (by kernel_rfl)) _).trans ((g41Vs A n _ m _ _).trans (h21.trans (by kernel_rfl)))
def g41 {R : Type} (A : Ar) (n : Nat) (kk : AV → Heap → Option R) (a : List Nat) : Option R :=
  g41L1 A n kk  n a [0, 0, 0, 0, 0, 0, 0, 0]
set_option maxRecDepth 100000 in
theorem g41_eq {R : Type} (A : Ar) (n : Nat) (kk : AV → Heap → Option R) (a : List Nat) :
    funD A gtys (g41O A) g41an n (bodyOf Try.f41) g41res [(aN .u32 8 a)] [] kk = g41 A n kk a := by
  have h1 := (g41p9 A n _ _).trans (g41L1_eq A n kk    n (g41R0s0 A a) a [0, 0, 0, 0, 0, 0, 0, 0] (by kernel_rfl))
  have h2 := (g41p5 A n _ _).trans h1
  have h3 := (g41p3 A n _ _).trans h2
  have h4 := (g41Qn A n _ _ _).trans h3
  have h5 := (g41F A n _ 0 _ ⟨[(0, (aN .u32 8 a))], []⟩ _ (by kernel_rfl) (by kernel_rfl)).trans (g41R0 A n (g41Q A n (pth 3) (g41T kk)) a)
  rw [h4] at h5
  have h6 := (g41p1 A n _ _).trans h5
  exact (show funD A gtys (g41O A) g41an n (bodyOf Try.f41) g41res [(aN .u32 8 a)] [] kk = g41D A n (pth 1) (g41T kk) ⟨[(0, (aN .u32 8 a))], []⟩ from by kernel_rfl).trans (h6.trans (by kernel_rfl))
def g41is (o : Option AV) : Bool := match o with
  | some (aN .u32 8 _) => true
  | _ => false
def g41g0 (o : Option AV) : List Nat := match o with
  | some (aN .u32 8 x) => x
  | _ => []
theorem g41is_spec {o : Option AV} (h : g41is o = true) : o = some (aN .u32 8 (g41g0 o)) := by
  unfold g41is at h
  split at h
  · rfl
  · cases h
def g41v (A : Ar) (a : List Nat) : Option AV := g41 A (100000) (fun v _ => some v) a
def g41ok (A : Ar) (a : List Nat) : Bool := g41is (g41v A a)
def g41r0 (A : Ar) (a : List Nat) : List Nat := g41g0 (g41v A a)
theorem g41ok_spec {A : Ar} {a} (h : g41ok A a = true) : g41v A a = some (aN .u32 8 (g41r0 A a)) := g41is_spec h
def g41o (A : Ar) (args : List AV) : Option (Bool × AV) := match args with
  | [.v (.agg [.nums .u32 n0 a])] => some (Nat.beq n0 8 && (g41ok A a), .v (.agg [.nums .u32 8 (g41r0 A a)]))
  | _ => none
theorem g41o_sound : ∀ args v, g41o realA args = some (true, v) → Fn1 Try.prog 41 args v := by
  intro args v h
  unfold g41o at h
  split at h
  · rename_i n0 a
    simp only [Option.some.injEq, Prod.mk.injEq] at h
    obtain ⟨hc, h⟩ := h
    subst h
    · skip
      simp only [Bool.and_eq_true] at hc
      have en0 := beq_true hc.1
      subst en0
      replace hc := hc.2
      exact fn1_of mixed gtysOK g41O_sound g41O_det (an := g41an) (n := 100000) Try.func41 (c := bodyOf Try.f41) rfl (by kernel_rfl) Try.call41 (Nat.le_of_ble_eq_true rfl) (fun b => rfl) (fun _ => (g41_eq realA (100000) (fun v _ => some v) a).trans (show g41v realA a = _ from g41ok_spec hc))
  · cases h
/- engrosser/engrosserref03.digits -/
def g39O (A : Ar) : Orc := orcOf [(41, g41o A)]
theorem g39O_sound : OSound Try.prog (g39O realA) := orc_sound fun f g hm args v hv => by
  simp only [List.mem_cons, List.not_mem_nil, or_false, Prod.mk.injEq] at hm
  rcases hm with ⟨rfl, rfl⟩
  · exact g41o_sound _ _ hv
theorem g39O_det : ODet (g39O realA) := orc_det _
def g39an : Ann := [(0, ([0], [])), (1, ([1, 2], [1000, 1001])), (2, ([1, 2, 3], [1000, 1001, 2000])), (3, ([1, 2, 3, 4], [1000, 1001, 2000])), (4, ([1, 2, 3, 4], [1000, 1001, 2000])), (5, ([1, 2, 3, 4], [1000, 1001, 2000])), (6, ([1, 2, 3, 4], [1000, 1001, 2000])), (7, ([2, 3], [1001, 2000]))]
def g39res : List ResultVar := [.cell 2 47]
noncomputable def g39D {R : Type} (A : Ar) (n : Nat) (p : List Bool) (K : Ex → St → Option R) (s : St) : Option R := codeD A gtys (g39O A) g39an n (sub (bodyOf Try.f39) p) K s
noncomputable def g39V {R : Type} (A : Ar) (n : Nat) (p : List Bool) (m : Nat) (K : Ex → St → Option R) (s : St) : Option R := loopD (fun K' s'' => codeD A gtys (g39O A) g39an n (sub (bodyOf Try.f39) p) K' s'') m K s
noncomputable def g39Q {R : Type} (A : Ar) (n : Nat) (p : List Bool) (K : Ex → St → Option R) : Ex → St → Option R := seqC (g39D A n p K) K
noncomputable def g39W {R : Type} (A : Ar) (n : Nat) (p : List Bool) (m : Nat) (K : Ex → St → Option R) : Ex → St → Option R := seqC (g39V A n p m K) K
noncomputable def g39T {R : Type} (kk : AV → Heap → Option R) : Ex → St → Option R := finD gtys g39res kk
theorem g39Qn {R : Type} (A : Ar) (n : Nat) (p : List Bool) (K : Ex → St → Option R) (s : St) : g39Q A n p K .normal s = g39D A n p K s := rfl
theorem g39Qe {R : Type} (A : Ar) (n : Nat) (p : List Bool) (K : Ex → St → Option R) (i : Nat) (s : St) : g39Q A n p K (.exit i) s = K (.exit i) s := rfl
theorem g39Wn {R : Type} (A : Ar) (n : Nat) (p : List Bool) (m : Nat) (K : Ex → St → Option R) (s : St) : g39W A n p m K .normal s = g39V A n p m K s := rfl
theorem g39We {R : Type} (A : Ar) (n : Nat) (p : List Bool) (m : Nat) (K : Ex → St → Option R) (i : Nat) (s : St) : g39W A n p m K (.exit i) s = K (.exit i) s := rfl
theorem g39Vs {R : Type} (A : Ar) (n : Nat) (p : List Bool) (m : Nat) (K : Ex → St → Option R) (s : St) : g39V A n p (m + 1) K s = g39D A n p (g39W A n p m K) s := rfl
theorem g39F {R : Type} (A : Ar) (n : Nat) (p : List Bool) (i : Nat) (K : Ex → St → Option R) (s s' : St) (hf : firstReg (sub (bodyOf Try.f39) p) = some i) (h : keep g39an i s = keep g39an i s') : g39D A n p K s = g39D A n p K s' := codeD_first hf h K
section
variable {R : Type} (A : Ar) (n : Nat) (K : Ex → St → Option R) (s : St)
theorem g39p1 : g39D A n (pth 1) K s = g39D A n (pth 2) (g39Q A n (pth 3) K) s := by kernel_rfl
theorem g39p3 : g39D A n (pth 3) K s = g39D A n (pth 5) (g39Q A n (pth 7) K) s := by kernel_rfl
theorem g39p7 : g39D A n (pth 7) K s = g39D A n (pth 11) (g39Q A n (pth 15) K) s := by kernel_rfl
theorem g39p11 : g39D A n (pth 11) K s = g39D A n (pth 19) (g39Q A n (pth 27) K) s := by kernel_rfl
theorem g39p27 : g39D A n (pth 27) K s = g39D A n (pth 43) (blockK 0 K) s := by kernel_rfl
theorem g39p43 : g39D A n (pth 43) K s = g39V A n (pth 75) n K s := by kernel_rfl
theorem g39p75 : g39D A n (pth 75) K s = g39D A n (pth 139) (g39Q A n (pth 203) K) s := by kernel_rfl
theorem g39p139 : g39D A n (pth 139) K s = g39D A n (pth 267) (g39Q A n (pth 395) K) s := by kernel_rfl
theorem g39p395 (t : Bool) : ev s (.tmp 6) = some (.v (.cell (.bool t))) → g39D A n (pth 395) K s = (match t with
    | true => g39D A n (pth 651) K s
    | false => g39D A n (pth 907) K s) := codeD_cond t
theorem g39p651 : g39D A n (pth 651) K s = K .normal s := by kernel_rfl
theorem g39p907 : g39D A n (pth 907) K s = K (.exit 0) s := by kernel_rfl
theorem g39p203 : g39D A n (pth 203) K s = g39D A n (pth 331) (g39Q A n (pth 459) K) s := by kernel_rfl
theorem g39p331 : g39D A n (pth 331) K s = g39D A n (pth 587) (blockK 1 K) s := by kernel_rfl
theorem g39p587 : g39D A n (pth 587) K s = g39D A n (pth 1099) (g39Q A n (pth 1611) K) s := by kernel_rfl
theorem g39p15 : g39D A n (pth 15) K s = g39D A n (pth 23) (g39Q A n (pth 31) K) s := by kernel_rfl
theorem g39p31 : g39D A n (pth 31) K s = K .ret s := by kernel_rfl
def g39R5s0 (A : Ar) (x0 : Int) (x1 x2 x3 : List Nat) : St := ⟨[(15, (.v (.cell (.ptr 2000 0 (some ⟨A.toN (A.ib .mul .i64 2 x0), 1, 8, 0, 0, 0⟩))))), (14, (u32v (A.n2n .u32 (x1.getD (A.toN x0) 0)))), (13, (u64v (x1.getD (A.toN x0) 0))), (12, (.v (.cell (.ptr 1000 0 (some ⟨A.toN x0, 1, 4, 0, 0, 0⟩))))), (11, (i6 x0)), (10, (i6 (A.ib .mul .i64 2 x0))), (9, (i6 x0)), (1, (pT 1000 0)), (2, (pT 1001 0)), (3, (pT 2000 0)), (4, (i6 x0))], [(1000, (bU 4 x1 24)), (1001, (bW 8 x2 47)), (2000, (bW 8 (x3.set (A.toN (A.ib .mul .i64 2 x0)) (A.n2n .u32 (x1.getD (A.toN x0) 0))) 47))]⟩
theorem g39R5 (x0 : Int) (x1 x2 x3 : List Nat) : g39D A n (pth 1099) K ⟨[(1, (pT 1000 0)), (2, (pT 1001 0)), (3, (pT 2000 0)), (4, (i6 x0))], [(1000, (bU 4 x1 24)), (1001, (bW 8 x2 47)), (2000, (bW 8 x3 47))]⟩ = match (generalizing := false) A.neg x0 with
    | true => none
    | false => match (generalizing := false) A.lt (A.toN x0) 4 with
      | true => match (generalizing := false) A.neg (A.ib .mul .i64 2 x0) with
        | true => none
        | false => match (generalizing := false) A.lt (A.toN (A.ib .mul .i64 2 x0)) 8 with
          | true => K .normal (g39R5s0 A x0 x1 x2 x3)
          | false => none
      | false => none := by kernel_rfl
def g39R6s0 (A : Ar) (x0 : Int) (x1 x2 x3 : List Nat) : St := ⟨[(24, (.v (.cell (.ptr 2000 0 (some ⟨A.toN (A.ib .add .i64 (A.ib .mul .i64 2 x0) 1), 1, 8, 0, 0, 0⟩))))), (23, (u32v (A.n2n .u32 (A.nsh .shr .u64 (x1.getD (A.toN x0) 0) 32)))), (22, (u64v (A.nsh .shr .u64 (x1.getD (A.toN x0) 0) 32))), (21, (u64v (x1.getD (A.toN x0) 0))), (20, (.v (.cell (.ptr 1000 0 (some ⟨A.toN x0, 1, 4, 0, 0, 0⟩))))), (19, (i6 x0)), (18, (i6 (A.ib .add .i64 (A.ib .mul .i64 2 x0) 1))), (17, (i6 (A.ib .mul .i64 2 x0))), (16, (i6 x0)), (1, (pT 1000 0)), (2, (pT 1001 0)), (3, (pT 2000 0)), (4, (i6 x0))], [(1000, (bU 4 x1 24)), (1001, (bW 8 x2 47)), (2000, (bW 8 (x3.set (A.toN (A.ib .add .i64 (A.ib .mul .i64 2 x0) 1)) (A.n2n .u32 (A.nsh .shr .u64 (x1.getD (A.toN x0) 0) 32))) 47))]⟩
theorem g39R6 (x0 : Int) (x1 x2 x3 : List Nat) : g39D A n (pth 1611) K ⟨[(1, (pT 1000 0)), (2, (pT 1001 0)), (3, (pT 2000 0)), (4, (i6 x0))], [(1000, (bU 4 x1 24)), (1001, (bW 8 x2 47)), (2000, (bW 8 x3 47))]⟩ = match (generalizing := false) A.neg x0 with
    | true => none
    | false => match (generalizing := false) A.lt (A.toN x0) 4 with
      | true => match (generalizing := false) A.neg (A.ib .add .i64 (A.ib .mul .i64 2 x0) 1) with
        | true => none
        | false => match (generalizing := false) A.lt (A.toN (A.ib .add .i64 (A.ib .mul .i64 2 x0) 1)) 8 with
          | true => K .normal (g39R6s0 A x0 x1 x2 x3)
          | false => none
      | false => none := by kernel_rfl
def g39R4s0 (A : Ar) (x0 : Int) (x1 x2 x3 : List Nat) : St := ⟨[(4, (i6 (A.ib .add .i64 x0 1))), (8, (i6 (A.ib .add .i64 x0 1))), (7, (i6 x0)), (1, (pT 1000 0)), (2, (pT 1001 0)), (3, (pT 2000 0)), (4, (i6 x0))], [(1000, (bU 4 x1 24)), (1001, (bW 8 x2 47)), (2000, (bW 8 x3 47))]⟩
theorem g39R4 (x0 : Int) (x1 x2 x3 : List Nat) : g39D A n (pth 459) K ⟨[(1, (pT 1000 0)), (2, (pT 1001 0)), (3, (pT 2000 0)), (4, (i6 x0))], [(1000, (bU 4 x1 24)), (1001, (bW 8 x2 47)), (2000, (bW 8 x3 47))]⟩ = K .normal (g39R4s0 A x0 x1 x2 x3) := by kernel_rfl
def g39R3s0 (A : Ar) (x0 : Int) (x1 x2 x3 : List Nat) : St := ⟨[(6, (bO (A.ic .lss x0 4))), (5, (i6 x0)), (1, (pT 1000 0)), (2, (pT 1001 0)), (3, (pT 2000 0)), (4, (i6 x0))], [(1000, (bU 4 x1 24)), (1001, (bW 8 x2 47)), (2000, (bW 8 x3 47))]⟩
theorem g39R3 (x0 : Int) (x1 x2 x3 : List Nat) : g39D A n (pth 267) K ⟨[(1, (pT 1000 0)), (2, (pT 1001 0)), (3, (pT 2000 0)), (4, (i6 x0))], [(1000, (bU 4 x1 24)), (1001, (bW 8 x2 47)), (2000, (bW 8 x3 47))]⟩ = K .normal (g39R3s0 A x0 x1 x2 x3) := by kernel_rfl
def g39R7s0 (A : Ar) (x0 x1 : List Nat) : St := ⟨[(26, (aN .u32 8 (g41r0 A x1))), (25, (aN .u32 8 x1)), (2, (pT 1001 0)), (3, (pT 2000 0))], [(1001, (bW 8 (g41r0 A x1) 47)), (2000, (bW 8 x1 47))]⟩
theorem g39R7 (x0 x1 : List Nat) : g39D A n (pth 23) K ⟨[(2, (pT 1001 0)), (3, (pT 2000 0))], [(1001, (bW 8 x0 47)), (2000, (bW 8 x1 47))]⟩ = match (generalizing := false) g41ok A x1 with
    | true => K .normal (g39R7s0 A x0 x1)
    | false => none := by kernel_rfl
def g39R0s0 (A : Ar) (x0 : List Nat) : St := ⟨[(2, (pT 1001 0)), (1, (pT 1000 0)), (0, (aN .u64 4 x0))], [(1001, (bW 8 [0, 0, 0, 0, 0, 0, 0, 0] 47)), (1000, (bU 4 x0 24))]⟩
theorem g39R0 (x0 : List Nat) : g39D A n (pth 2) K ⟨[(0, (aN .u64 4 x0))], []⟩ = K .normal (g39R0s0 A x0) := by kernel_rfl
def g39R1s0 (A : Ar) (x0 x1 : List Nat) : St := ⟨[(3, (pT 2000 0)), (1, (pT 1000 0)), (2, (pT 1001 0))], [(2000, (bW 8 [0, 0, 0, 0, 0, 0, 0, 0] 47)), (1000, (bU 4 x0 24)), (1001, (bW 8 x1 47))]⟩
theorem g39R1 (x0 x1 : List Nat) : g39D A n (pth 5) K ⟨[(1, (pT 1000 0)), (2, (pT 1001 0))], [(1000, (bU 4 x0 24)), (1001, (bW 8 x1 47))]⟩ = K .normal (g39R1s0 A x0 x1) := by kernel_rfl
def g39R2s0 (A : Ar) (x0 x1 x2 : List Nat) : St := ⟨[(4, (i6 0)), (1, (pT 1000 0)), (2, (pT 1001 0)), (3, (pT 2000 0))], [(1000, (bU 4 x0 24)), (1001, (bW 8 x1 47)), (2000, (bW 8 x2 47))]⟩
theorem g39R2 (x0 x1 x2 : List Nat) : g39D A n (pth 19) K ⟨[(1, (pT 1000 0)), (2, (pT 1001 0)), (3, (pT 2000 0))], [(1000, (bU 4 x0 24)), (1001, (bW 8 x1 47)), (2000, (bW 8 x2 47))]⟩ = K .normal (g39R2s0 A x0 x1 x2) := by kernel_rfl
end
def g39J5 {R : Type} (A : Ar) (n : Nat) (kk : AV → Heap → Option R) (lg39L3 : Int → List Nat → List Nat → List Nat → Option R) (x0 : Int) (x1 x2 x3 : List Nat) : Option R :=
  match (generalizing := false) A.neg x0 with
  | true => none
  | false => match (generalizing := false) A.lt (A.toN x0) 4 with
    | true => match (generalizing := false) A.neg (A.ib .mul .i64 2 x0) with
      | true => none
      | false => match (generalizing := false) A.lt (A.toN (A.ib .mul .i64 2 x0)) 8 with
        | true => match (generalizing := false) A.neg x0 with
          | true => none
          | false => match (generalizing := false) A.lt (A.toN x0) 4 with
            | true => match (generalizing := false) A.neg (A.ib .add .i64 (A.ib .mul .i64 2 x0) 1) with
              | true => none
              | false => match (generalizing := false) A.lt (A.toN (A.ib .add .i64 (A.ib .mul .i64 2 x0) 1)) 8 with
                | true => lg39L3 (A.ib .add .i64 x0 1) x1 x2 ((x3.set (A.toN (A.ib .mul .i64 2 x0)) (A.n2n .u32 (x1.getD (A.toN x0) 0))).set (A.toN (A.ib .add .i64 (A.ib .mul .i64 2 x0) 1)) (A.n2n .u32 (A.nsh .shr .u64 (x1.getD (A.toN x0) 0) 32)))
                | false => none
            | false => none
        | false => none
    | false => none
set_option maxRecDepth 100000 in
theorem g39J5_eq {R : Type} (A : Ar) (n : Nat) (kk : AV → Heap → Option R) (m0 : Nat) (lg39L3 : Int → List Nat → List Nat → List Nat → Option R) 
    (hg39L3 : ∀ (s : St) (x0 : Int) (x1 x2 x3 : List Nat), keep g39an 3 s = ⟨[(1, (pT 1000 0)), (2, (pT 1001 0)), (3, (pT 2000 0)), (4, (i6 x0))], [(1000, (bU 4 x1 24)), (1001, (bW 8 x2 47)), (2000, (bW 8 x3 47))]⟩ → g39V A n (pth 75) m0 (blockK 0 (g39Q A n (pth 15) (g39T kk))) s = lg39L3 x0 x1 x2 x3) (s : St) (x0 : Int) (x1 x2 x3 : List Nat) (h : keep g39an 5 s = ⟨[(1, (pT 1000 0)), (2, (pT 1001 0)), (3, (pT 2000 0)), (4, (i6 x0))], [(1000, (bU 4 x1 24)), (1001, (bW 8 x2 47)), (2000, (bW 8 x3 47))]⟩) :
    g39D A n (pth 203) (g39W A n (pth 75) m0 (blockK 0 (g39Q A n (pth 15) (g39T kk)))) s = g39J5 A n kk lg39L3 x0 x1 x2 x3 := by
  have h1 := (g39Wn A n _ _ _ _).trans (hg39L3 (g39R4s0 A x0 x1 x2 ((x3.set (A.toN (A.ib .mul .i64 2 x0)) (A.n2n .u32 (x1.getD (A.toN x0) 0))).set (A.toN (A.ib .add .i64 (A.ib .mul .i64 2 x0) 1)) (A.n2n .u32 (A.nsh .shr .u64 (x1.getD (A.toN x0) 0) 32)))) (A.ib .add .i64 x0 1) x1 x2 ((x3.set (A.toN (A.ib .mul .i64 2 x0)) (A.n2n .u32 (x1.getD (A.toN x0) 0))).set (A.toN (A.ib .add .i64 (A.ib .mul .i64 2 x0) 1)) (A.n2n .u32 (A.nsh .shr .u64 (x1.getD (A.toN x0) 0) 32))) (by kernel_rfl))
  have h2 := (g39F A n _ 4 _ (g39R6s0 A x0 x1 x2 (x3.set (A.toN (A.ib .mul .i64 2 x0)) (A.n2n .u32 (x1.getD (A.toN x0) 0)))) _ (by kernel_rfl) (by kernel_rfl)).trans (g39R4 A n (g39W A n (pth 75) m0 (blockK 0 (g39Q A n (pth 15) (g39T kk)))) x0 x1 x2 ((x3.set (A.toN (A.ib .mul .i64 2 x0)) (A.n2n .u32 (x1.getD (A.toN x0) 0))).set (A.toN (A.ib .add .i64 (A.ib .mul .i64 2 x0) 1)) (A.n2n .u32 (A.nsh .shr .u64 (x1.getD (A.toN x0) 0) 32))))
  rw [h1] at h2
  have h3 := (g39Qn A n _ _ _).trans h2
  have h4 := (blockK_n 1 _ _).trans h3
  have h5 := (g39F A n _ 6 _ (g39R5s0 A x0 x1 x2 x3) _ (by kernel_rfl) (by kernel_rfl)).trans (g39R6 A n (blockK 1 (g39Q A n (pth 459) (g39W A n (pth 75) m0 (blockK 0 (g39Q A n (pth 15) (g39T kk)))))) x0 x1 x2 (x3.set (A.toN (A.ib .mul .i64 2 x0)) (A.n2n .u32 (x1.getD (A.toN x0) 0))))
  rw [h4] at h5
  have h6 := (g39Qn A n _ _ _).trans h5
  have h7 := (g39F A n _ 5 _ ⟨[(1, (pT 1000 0)), (2, (pT 1001 0)), (3, (pT 2000 0)), (4, (i6 x0))], [(1000, (bU 4 x1 24)), (1001, (bW 8 x2 47)), (2000, (bW 8 x3 47))]⟩ _ (by kernel_rfl) (by kernel_rfl)).trans (g39R5 A n (g39Q A n (pth 1611) (blockK 1 (g39Q A n (pth 459) (g39W A n (pth 75) m0 (blockK 0 (g39Q A n (pth 15) (g39T kk))))))) x0 x1 x2 x3)
  rw [h6] at h7
  have h8 := (g39p587 A n _ _).trans h7
  have h9 := (g39p331 A n _ _).trans h8
  have h10 := (g39p203 A n _ _).trans h9
  exact (g39F A n _ 5 _ _ ⟨[(1, (pT 1000 0)), (2, (pT 1001 0)), (3, (pT 2000 0)), (4, (i6 x0))], [(1000, (bU 4 x1 24)), (1001, (bW 8 x2 47)), (2000, (bW 8 x3 47))]⟩ (by kernel_rfl) (h.trans (by kernel_rfl))).trans (h10.trans (by kernel_rfl))
def g39L3 {R : Type} (A : Ar) (n : Nat) (kk : AV → Heap → Option R)  : Nat → Int → List Nat → List Nat → List Nat → Option R
  | 0, _, _, _, _ => none
  | m + 1, x0, x1, x2, x3 => match (generalizing := false) A.ic .lss x0 4 with
  | true => g39J5 A n kk (g39L3 A n kk  m) x0 x1 x2 x3
  | false => match (generalizing := false) g41ok A x3 with
    | true => kk (aN .u32 8 (g41r0 A x3)) [(1001, (bW 8 (g41r0 A x3) 47)), (2000, (bW 8 x3 47))]
    | false => none
set_option maxRecDepth 100000 in
theorem g39L3_eq {R : Type} (A : Ar) (n : Nat) (kk : AV → Heap → Option R)    (m : Nat) (s : St) (x0 : Int) (x1 x2 x3 : List Nat) (h : keep g39an 3 s = ⟨[(1, (pT 1000 0)), (2, (pT 1001 0)), (3, (pT 2000 0)), (4, (i6 x0))], [(1000, (bU 4 x1 24)), (1001, (bW 8 x2 47)), (2000, (bW 8 x3 47))]⟩) :
    g39V A n (pth 75) m (blockK 0 (g39Q A n (pth 15) (g39T kk))) s = g39L3 A n kk  m x0 x1 x2 x3 := by
  induction m generalizing s x0 x1 x2 x3 with
  | zero => rfl
  | succ m ih =>
    have h1 := (g39Qn A n _ _ _).trans (g39J5_eq A n kk m (g39L3 A n kk  m) ih  (g39R3s0 A x0 x1 x2 x3) x0 x1 x2 x3 (by kernel_rfl))
    have h2 := (g39p651 A n _ _).trans h1
    have h3 : (g39T kk) .ret (g39R7s0 A x2 x3) = kk (aN .u32 8 (g41r0 A x3)) [(1001, (bW 8 (g41r0 A x3) 47)), (2000, (bW 8 x3 47))] := by kernel_rfl
    have h4 := (g39p31 A n _ _).trans h3
    have h5 := (g39Qn A n _ _ _).trans h4
    have h6 := (g39F A n _ 7 _ (g39R3s0 A x0 x1 x2 x3) _ (by kernel_rfl) (by kernel_rfl)).trans (g39R7 A n (g39Q A n (pth 31) (g39T kk)) x2 x3)
    rw [h5] at h6
    have h7 := (g39p15 A n _ _).trans h6
    have h8 := (g39Qn A n _ _ _).trans h7
    have h9 := (blockK_hit 0 _ _).trans h8
    have h10 := (g39We A n (pth 75) m _ _ _).trans h9
    have h11 := (g39Qe A n (pth 203) _ _ _).trans h10
    have h12 := (g39p907 A n _ _).trans h11
    have h13 := g39p395 A n (g39Q A n (pth 203) (g39W A n (pth 75) m (blockK 0 (g39Q A n (pth 15) (g39T kk))))) (g39R3s0 A x0 x1 x2 x3) (A.ic .lss x0 4) (by kernel_rfl)
    rw [h2, h12] at h13
    have h14 := (g39Qn A n _ _ _).trans h13
    have h15 := (g39F A n _ 3 _ ⟨[(1, (pT 1000 0)), (2, (pT 1001 0)), (3, (pT 2000 0)), (4, (i6 x0))], [(1000, (bU 4 x1 24)), (1001, (bW 8 x2 47)), (2000, (bW 8 x3 47))]⟩ _ (by kernel_rfl) (by kernel_rfl)).trans (g39R3 A n (g39Q A n (pth 395) (g39Q A n (pth 203) (g39W A n (pth 75) m (blockK 0 (g39Q A n (pth 15) (g39T kk)))))) x0 x1 x2 x3)
    rw [h14] at h15
    have h16 := (g39p139 A n _ _).trans h15
    have h17 := (g39p75 A n _ _).trans h16
    exact (loopD_first (s' := ⟨[(1, (pT 1000 0)), (2, (pT 1001 0)), (3, (pT 2000 0)), (4, (i6 x0))], [(1000, (bU 4 x1 24)), (1001, (bW 8 x2 47)), (2000, (bW 8 x3 47))]⟩) (id := 3) (by kernel_rfl) (h.trans (by kernel_rfl)) _).trans ((g39Vs A n _ m _ _).trans (h17.trans (by kernel_rfl)))
def g39 {R : Type} (A : Ar) (n : Nat) (kk : AV → Heap → Option R) (a : List Nat) : Option R :=
  g39L3 A n kk  n 0 a [0, 0, 0, 0, 0, 0, 0, 0] [0, 0, 0, 0, 0, 0, 0, 0]
set_option maxRecDepth 100000 in
theorem g39_eq {R : Type} (A : Ar) (n : Nat) (kk : AV → Heap → Option R) (a : List Nat) :
    funD A gtys (g39O A) g39an n (bodyOf Try.f39) g39res [(aN .u64 4 a)] [] kk = g39 A n kk a := by
  have h1 := (g39p43 A n _ _).trans (g39L3_eq A n kk    n (g39R2s0 A a [0, 0, 0, 0, 0, 0, 0, 0] [0, 0, 0, 0, 0, 0, 0, 0]) 0 a [0, 0, 0, 0, 0, 0, 0, 0] [0, 0, 0, 0, 0, 0, 0, 0] (by kernel_rfl))
  have h2 := (g39p27 A n _ _).trans h1
  have h3 := (g39Qn A n _ _ _).trans h2
  have h4 := (g39F A n _ 2 _ (g39R1s0 A a [0, 0, 0, 0, 0, 0, 0, 0]) _ (by kernel_rfl) (by kernel_rfl)).trans (g39R2 A n (g39Q A n (pth 27) (g39Q A n (pth 15) (g39T kk))) a [0, 0, 0, 0, 0, 0, 0, 0] [0, 0, 0, 0, 0, 0, 0, 0])
  rw [h3] at h4
  have h5 := (g39p11 A n _ _).trans h4
  have h6 := (g39p7 A n _ _).trans h5
  have h7 := (g39Qn A n _ _ _).trans h6
  have h8 := (g39F A n _ 1 _ (g39R0s0 A a) _ (by kernel_rfl) (by kernel_rfl)).trans (g39R1 A n (g39Q A n (pth 7) (g39T kk)) a [0, 0, 0, 0, 0, 0, 0, 0])
  rw [h7] at h8
  have h9 := (g39p3 A n _ _).trans h8
  have h10 := (g39Qn A n _ _ _).trans h9
  have h11 := (g39F A n _ 0 _ ⟨[(0, (aN .u64 4 a))], []⟩ _ (by kernel_rfl) (by kernel_rfl)).trans (g39R0 A n (g39Q A n (pth 3) (g39T kk)) a)
  rw [h10] at h11
  have h12 := (g39p1 A n _ _).trans h11
  exact (show funD A gtys (g39O A) g39an n (bodyOf Try.f39) g39res [(aN .u64 4 a)] [] kk = g39D A n (pth 1) (g39T kk) ⟨[(0, (aN .u64 4 a))], []⟩ from by kernel_rfl).trans (h12.trans (by kernel_rfl))
def g39is (o : Option AV) : Bool := match o with
  | some (aN .u32 8 _) => true
  | _ => false
def g39g0 (o : Option AV) : List Nat := match o with
  | some (aN .u32 8 x) => x
  | _ => []
theorem g39is_spec {o : Option AV} (h : g39is o = true) : o = some (aN .u32 8 (g39g0 o)) := by
  unfold g39is at h
  split at h
  · rfl
  · cases h
def g39v (A : Ar) (a : List Nat) : Option AV := g39 A (100000) (fun v _ => some v) a
def g39ok (A : Ar) (a : List Nat) : Bool := g39is (g39v A a)
def g39r0 (A : Ar) (a : List Nat) : List Nat := g39g0 (g39v A a)
theorem g39ok_spec {A : Ar} {a} (h : g39ok A a = true) : g39v A a = some (aN .u32 8 (g39r0 A a)) := g39is_spec h
def g39o (A : Ar) (args : List AV) : Option (Bool × AV) := match args with
  | [.v (.agg [.nums .u64 n0 a])] => some (Nat.beq n0 4 && (g39ok A a), .v (.agg [.nums .u32 8 (g39r0 A a)]))
  | _ => none
theorem g39o_sound : ∀ args v, g39o realA args = some (true, v) → Fn1 Try.prog 39 args v := by
  intro args v h
  unfold g39o at h
  split at h
  · rename_i n0 a
    simp only [Option.some.injEq, Prod.mk.injEq] at h
    obtain ⟨hc, h⟩ := h
    subst h
    · skip
      simp only [Bool.and_eq_true] at hc
      have en0 := beq_true hc.1
      subst en0
      replace hc := hc.2
      exact fn1_of mixed gtysOK g39O_sound g39O_det (an := g39an) (n := 100000) Try.func39 (c := bodyOf Try.f39) rfl (by kernel_rfl) Try.call39 (Nat.le_of_ble_eq_true rfl) (fun b => rfl) (fun _ => (g39_eq realA (100000) (fun v _ => some v) a).trans (show g39v realA a = _ from g39ok_spec hc))
  · cases h
/- engrosser/engrosserref03.words -/
def g40O (A : Ar) : Orc := orcOf []
theorem g40O_sound : OSound Try.prog (g40O realA) := orc_sound fun f g hm args v hv => by
  cases hm
theorem g40O_det : ODet (g40O realA) := orc_det _
def g40an : Ann := [(0, ([0], [])), (1, ([1, 2], [1000, 1001])), (2, ([1, 2, 3], [1000, 1001, 2000])), (3, ([1, 2, 3, 4], [1000, 1001, 2000])), (4, ([1, 2, 3, 4], [1000, 1001, 2000])), (5, ([1, 2, 3, 4], [1000, 1001, 2000])), (6, ([2, 3], [1001, 2000]))]
def g40res : List ResultVar := [.cell 2 24]
noncomputable def g40D {R : Type} (A : Ar) (n : Nat) (p : List Bool) (K : Ex → St → Option R) (s : St) : Option R := codeD A gtys (g40O A) g40an n (sub (bodyOf Try.f40) p) K s
noncomputable def g40V {R : Type} (A : Ar) (n : Nat) (p : List Bool) (m : Nat) (K : Ex → St → Option R) (s : St) : Option R := loopD (fun K' s'' => codeD A gtys (g40O A) g40an n (sub (bodyOf Try.f40) p) K' s'') m K s
noncomputable def g40Q {R : Type} (A : Ar) (n : Nat) (p : List Bool) (K : Ex → St → Option R) : Ex → St → Option R := seqC (g40D A n p K) K
noncomputable def g40W {R : Type} (A : Ar) (n : Nat) (p : List Bool) (m : Nat) (K : Ex → St → Option R) : Ex → St → Option R := seqC (g40V A n p m K) K
noncomputable def g40T {R : Type} (kk : AV → Heap → Option R) : Ex → St → Option R := finD gtys g40res kk
theorem g40Qn {R : Type} (A : Ar) (n : Nat) (p : List Bool) (K : Ex → St → Option R) (s : St) : g40Q A n p K .normal s = g40D A n p K s := rfl
theorem g40Qe {R : Type} (A : Ar) (n : Nat) (p : List Bool) (K : Ex → St → Option R) (i : Nat) (s : St) : g40Q A n p K (.exit i) s = K (.exit i) s := rfl
theorem g40Wn {R : Type} (A : Ar) (n : Nat) (p : List Bool) (m : Nat) (K : Ex → St → Option R) (s : St) : g40W A n p m K .normal s = g40V A n p m K s := rfl
theorem g40We {R : Type} (A : Ar) (n : Nat) (p : List Bool) (m : Nat) (K : Ex → St → Option R) (i : Nat) (s : St) : g40W A n p m K (.exit i) s = K (.exit i) s := rfl
theorem g40Vs {R : Type} (A : Ar) (n : Nat) (p : List Bool) (m : Nat) (K : Ex → St → Option R) (s : St) : g40V A n p (m + 1) K s = g40D A n p (g40W A n p m K) s := rfl
theorem g40F {R : Type} (A : Ar) (n : Nat) (p : List Bool) (i : Nat) (K : Ex → St → Option R) (s s' : St) (hf : firstReg (sub (bodyOf Try.f40) p) = some i) (h : keep g40an i s = keep g40an i s') : g40D A n p K s = g40D A n p K s' := codeD_first hf h K
section
variable {R : Type} (A : Ar) (n : Nat) (K : Ex → St → Option R) (s : St)
theorem g40p1 : g40D A n (pth 1) K s = g40D A n (pth 2) (g40Q A n (pth 3) K) s := by kernel_rfl
theorem g40p3 : g40D A n (pth 3) K s = g40D A n (pth 5) (g40Q A n (pth 7) K) s := by kernel_rfl
theorem g40p7 : g40D A n (pth 7) K s = g40D A n (pth 11) (g40Q A n (pth 15) K) s := by kernel_rfl
theorem g40p11 : g40D A n (pth 11) K s = g40D A n (pth 19) (g40Q A n (pth 27) K) s := by kernel_rfl
theorem g40p27 : g40D A n (pth 27) K s = g40D A n (pth 43) (blockK 0 K) s := by kernel_rfl
theorem g40p43 : g40D A n (pth 43) K s = g40V A n (pth 75) n K s := by kernel_rfl
theorem g40p75 : g40D A n (pth 75) K s = g40D A n (pth 139) (g40Q A n (pth 203) K) s := by kernel_rfl
theorem g40p139 : g40D A n (pth 139) K s = g40D A n (pth 267) (g40Q A n (pth 395) K) s := by kernel_rfl
theorem g40p395 (t : Bool) : ev s (.tmp 6) = some (.v (.cell (.bool t))) → g40D A n (pth 395) K s = (match t with
    | true => g40D A n (pth 651) K s
    | false => g40D A n (pth 907) K s) := codeD_cond t
theorem g40p651 : g40D A n (pth 651) K s = K .normal s := by kernel_rfl
theorem g40p907 : g40D A n (pth 907) K s = K (.exit 0) s := by kernel_rfl
theorem g40p203 : g40D A n (pth 203) K s = g40D A n (pth 331) (g40Q A n (pth 459) K) s := by kernel_rfl
theorem g40p331 : g40D A n (pth 331) K s = g40D A n (pth 587) (blockK 1 K) s := by kernel_rfl
theorem g40p15 : g40D A n (pth 15) K s = g40D A n (pth 23) (g40Q A n (pth 31) K) s := by kernel_rfl
theorem g40p31 : g40D A n (pth 31) K s = K .ret s := by kernel_rfl
def g40R5s0 (A : Ar) (x0 : Int) (x1 x2 x3 : List Nat) : St := ⟨[(23, (.v (.cell (.ptr 2000 0 (some ⟨A.toN x0, 1, 4, 0, 0, 0⟩))))), (22, (u64v (A.nb .or .u64 (x1.getD (A.toN (A.ib .mul .i64 2 x0)) 0) (A.nsh .shl .u64 (x1.getD (A.toN (A.ib .add .i64 (A.ib .mul .i64 2 x0) 1)) 0) 32)))), (21, (u64v (A.nsh .shl .u64 (x1.getD (A.toN (A.ib .add .i64 (A.ib .mul .i64 2 x0) 1)) 0) 32))), (20, (u64v (x1.getD (A.toN (A.ib .add .i64 (A.ib .mul .i64 2 x0) 1)) 0))), (19, (u32v (x1.getD (A.toN (A.ib .add .i64 (A.ib .mul .i64 2 x0) 1)) 0))), (18, (.v (.cell (.ptr 1000 0 (some ⟨A.toN (A.ib .add .i64 (A.ib .mul .i64 2 x0) 1), 1, 8, 0, 0, 0⟩))))), (17, (i6 (A.ib .add .i64 (A.ib .mul .i64 2 x0) 1))), (16, (i6 (A.ib .mul .i64 2 x0))), (15, (i6 x0)), (14, (u64v (x1.getD (A.toN (A.ib .mul .i64 2 x0)) 0))), (13, (u32v (x1.getD (A.toN (A.ib .mul .i64 2 x0)) 0))), (12, (.v (.cell (.ptr 1000 0 (some ⟨A.toN (A.ib .mul .i64 2 x0), 1, 8, 0, 0, 0⟩))))), (11, (i6 (A.ib .mul .i64 2 x0))), (10, (i6 x0)), (9, (i6 x0)), (1, (pT 1000 0)), (2, (pT 1001 0)), (3, (pT 2000 0)), (4, (i6 x0))], [(1000, (bW 8 x1 47)), (1001, (bU 4 x2 24)), (2000, (bU 4 (x3.set (A.toN x0) (A.nb .or .u64 (x1.getD (A.toN (A.ib .mul .i64 2 x0)) 0) (A.nsh .shl .u64 (x1.getD (A.toN (A.ib .add .i64 (A.ib .mul .i64 2 x0) 1)) 0) 32))) 24))]⟩
theorem g40R5 (x0 : Int) (x1 x2 x3 : List Nat) : g40D A n (pth 587) K ⟨[(1, (pT 1000 0)), (2, (pT 1001 0)), (3, (pT 2000 0)), (4, (i6 x0))], [(1000, (bW 8 x1 47)), (1001, (bU 4 x2 24)), (2000, (bU 4 x3 24))]⟩ = match (generalizing := false) A.neg (A.ib .mul .i64 2 x0) with
    | true => none
    | false => match (generalizing := false) A.lt (A.toN (A.ib .mul .i64 2 x0)) 8 with
      | true => match (generalizing := false) A.neg (A.ib .add .i64 (A.ib .mul .i64 2 x0) 1) with
        | true => none
        | false => match (generalizing := false) A.lt (A.toN (A.ib .add .i64 (A.ib .mul .i64 2 x0) 1)) 8 with
          | true => match (generalizing := false) A.neg x0 with
            | true => none
            | false => match (generalizing := false) A.lt (A.toN x0) 4 with
              | true => K .normal (g40R5s0 A x0 x1 x2 x3)
              | false => none
          | false => none
      | false => none := by kernel_rfl
def g40R4s0 (A : Ar) (x0 : Int) (x1 x2 x3 : List Nat) : St := ⟨[(4, (i6 (A.ib .add .i64 x0 1))), (8, (i6 (A.ib .add .i64 x0 1))), (7, (i6 x0)), (1, (pT 1000 0)), (2, (pT 1001 0)), (3, (pT 2000 0)), (4, (i6 x0))], [(1000, (bW 8 x1 47)), (1001, (bU 4 x2 24)), (2000, (bU 4 x3 24))]⟩
theorem g40R4 (x0 : Int) (x1 x2 x3 : List Nat) : g40D A n (pth 459) K ⟨[(1, (pT 1000 0)), (2, (pT 1001 0)), (3, (pT 2000 0)), (4, (i6 x0))], [(1000, (bW 8 x1 47)), (1001, (bU 4 x2 24)), (2000, (bU 4 x3 24))]⟩ = K .normal (g40R4s0 A x0 x1 x2 x3) := by kernel_rfl
def g40R3s0 (A : Ar) (x0 : Int) (x1 x2 x3 : List Nat) : St := ⟨[(6, (bO (A.ic .lss x0 4))), (5, (i6 x0)), (1, (pT 1000 0)), (2, (pT 1001 0)), (3, (pT 2000 0)), (4, (i6 x0))], [(1000, (bW 8 x1 47)), (1001, (bU 4 x2 24)), (2000, (bU 4 x3 24))]⟩
theorem g40R3 (x0 : Int) (x1 x2 x3 : List Nat) : g40D A n (pth 267) K ⟨[(1, (pT 1000 0)), (2, (pT 1001 0)), (3, (pT 2000 0)), (4, (i6 x0))], [(1000, (bW 8 x1 47)), (1001, (bU 4 x2 24)), (2000, (bU 4 x3 24))]⟩ = K .normal (g40R3s0 A x0 x1 x2 x3) := by kernel_rfl
def g40R6s0 (A : Ar) (x0 x1 : List Nat) : St := ⟨[(24, (aN .u64 4 x1)), (2, (pT 1001 0)), (3, (pT 2000 0))], [(1001, (bU 4 x1 24)), (2000, (bU 4 x1 24))]⟩
theorem g40R6 (x0 x1 : List Nat) : g40D A n (pth 23) K ⟨[(2, (pT 1001 0)), (3, (pT 2000 0))], [(1001, (bU 4 x0 24)), (2000, (bU 4 x1 24))]⟩ = K .normal (g40R6s0 A x0 x1) := by kernel_rfl
def g40R0s0 (A : Ar) (x0 : List Nat) : St := ⟨[(2, (pT 1001 0)), (1, (pT 1000 0)), (0, (aN .u32 8 x0))], [(1001, (bU 4 [0, 0, 0, 0] 24)), (1000, (bW 8 x0 47))]⟩
theorem g40R0 (x0 : List Nat) : g40D A n (pth 2) K ⟨[(0, (aN .u32 8 x0))], []⟩ = K .normal (g40R0s0 A x0) := by kernel_rfl
def g40R1s0 (A : Ar) (x0 x1 : List Nat) : St := ⟨[(3, (pT 2000 0)), (1, (pT 1000 0)), (2, (pT 1001 0))], [(2000, (bU 4 [0, 0, 0, 0] 24)), (1000, (bW 8 x0 47)), (1001, (bU 4 x1 24))]⟩
theorem g40R1 (x0 x1 : List Nat) : g40D A n (pth 5) K ⟨[(1, (pT 1000 0)), (2, (pT 1001 0))], [(1000, (bW 8 x0 47)), (1001, (bU 4 x1 24))]⟩ = K .normal (g40R1s0 A x0 x1) := by kernel_rfl
def g40R2s0 (A : Ar) (x0 x1 x2 : List Nat) : St := ⟨[(4, (i6 0)), (1, (pT 1000 0)), (2, (pT 1001 0)), (3, (pT 2000 0))], [(1000, (bW 8 x0 47)), (1001, (bU 4 x1 24)), (2000, (bU 4 x2 24))]⟩
theorem g40R2 (x0 x1 x2 : List Nat) : g40D A n (pth 19) K ⟨[(1, (pT 1000 0)), (2, (pT 1001 0)), (3, (pT 2000 0))], [(1000, (bW 8 x0 47)), (1001, (bU 4 x1 24)), (2000, (bU 4 x2 24))]⟩ = K .normal (g40R2s0 A x0 x1 x2) := by kernel_rfl
end
def g40J5 {R : Type} (A : Ar) (n : Nat) (kk : AV → Heap → Option R) (lg40L3 : Int → List Nat → List Nat → List Nat → Option R) (x0 : Int) (x1 x2 x3 : List Nat) : Option R :=
  match (generalizing := false) A.neg (A.ib .mul .i64 2 x0) with
  | true => none
  | false => match (generalizing := false) A.lt (A.toN (A.ib .mul .i64 2 x0)) 8 with
    | true => match (generalizing := false) A.neg (A.ib .add .i64 (A.ib .mul .i64 2 x0) 1) with
      | true => none
      | false => match (generalizing := false) A.lt (A.toN (A.ib .add .i64 (A.ib .mul .i64 2 x0) 1)) 8 with
        | true => match (generalizing := false) A.neg x0 with
          | true => none
          | false => match (generalizing := false) A.lt (A.toN x0) 4 with
            | true => lg40L3 (A.ib .add .i64 x0 1) x1 x2 (x3.set (A.toN x0) (A.nb .or .u64 (x1.getD (A.toN (A.ib .mul .i64 2 x0)) 0) (A.nsh .shl .u64 (x1.getD (A.toN (A.ib .add .i64 (A.ib .mul .i64 2 x0) 1)) 0) 32)))
            | false => none
        | false => none
    | false => none
set_option maxRecDepth 100000 in
theorem g40J5_eq {R : Type} (A : Ar) (n : Nat) (kk : AV → Heap → Option R) (m0 : Nat) (lg40L3 : Int → List Nat → List Nat → List Nat → Option R) 
    (hg40L3 : ∀ (s : St) (x0 : Int) (x1 x2 x3 : List Nat), keep g40an 3 s = ⟨[(1, (pT 1000 0)), (2, (pT 1001 0)), (3, (pT 2000 0)), (4, (i6 x0))], [(1000, (bW 8 x1 47)), (1001, (bU 4 x2 24)), (2000, (bU 4 x3 24))]⟩ → g40V A n (pth 75) m0 (blockK 0 (g40Q A n (pth 15) (g40T kk))) s = lg40L3 x0 x1 x2 x3) (s : St) (x0 : Int) (x1 x2 x3 : List Nat) (h : keep g40an 5 s = ⟨[(1, (pT 1000 0)), (2, (pT 1001 0)), (3, (pT 2000 0)), (4, (i6 x0))], [(1000, (bW 8 x1 47)), (1001, (bU 4 x2 24)), (2000, (bU 4 x3 24))]⟩) :
    g40D A n (pth 203) (g40W A n (pth 75) m0 (blockK 0 (g40Q A n (pth 15) (g40T kk)))) s = g40J5 A n kk lg40L3 x0 x1 x2 x3 := by
  have h1 := (g40Wn A n _ _ _ _).trans (hg40L3 (g40R4s0 A x0 x1 x2 (x3.set (A.toN x0) (A.nb .or .u64 (x1.getD (A.toN (A.ib .mul .i64 2 x0)) 0) (A.nsh .shl .u64 (x1.getD (A.toN (A.ib .add .i64 (A.ib .mul .i64 2 x0) 1)) 0) 32)))) (A.ib .add .i64 x0 1) x1 x2 (x3.set (A.toN x0) (A.nb .or .u64 (x1.getD (A.toN (A.ib .mul .i64 2 x0)) 0) (A.nsh .shl .u64 (x1.getD (A.toN (A.ib .add .i64 (A.ib .mul .i64 2 x0) 1)) 0) 32))) (by kernel_rfl))
  have h2 := (g40F A n _ 4 _ (g40R5s0 A x0 x1 x2 x3) _ (by kernel_rfl) (by kernel_rfl)).trans (g40R4 A n (g40W A n (pth 75) m0 (blockK 0 (g40Q A n (pth 15) (g40T kk)))) x0 x1 x2 (x3.set (A.toN x0) (A.nb .or .u64 (x1.getD (A.toN (A.ib .mul .i64 2 x0)) 0) (A.nsh .shl .u64 (x1.getD (A.toN (A.ib .add .i64 (A.ib .mul .i64 2 x0) 1)) 0) 32))))
  rw [h1] at h2
  have h3 := (g40Qn A n _ _ _).trans h2
  have h4 := (blockK_n 1 _ _).trans h3
  have h5 := (g40F A n _ 5 _ ⟨[(1, (pT 1000 0)), (2, (pT 1001 0)), (3, (pT 2000 0)), (4, (i6 x0))], [(1000, (bW 8 x1 47)), (1001, (bU 4 x2 24)), (2000, (bU 4 x3 24))]⟩ _ (by kernel_rfl) (by kernel_rfl)).trans (g40R5 A n (blockK 1 (g40Q A n (pth 459) (g40W A n (pth 75) m0 (blockK 0 (g40Q A n (pth 15) (g40T kk)))))) x0 x1 x2 x3)
  rw [h4] at h5
  have h6 := (g40p331 A n _ _).trans h5
  have h7 := (g40p203 A n _ _).trans h6
  exact (g40F A n _ 5 _ _ ⟨[(1, (pT 1000 0)), (2, (pT 1001 0)), (3, (pT 2000 0)), (4, (i6 x0))], [(1000, (bW 8 x1 47)), (1001, (bU 4 x2 24)), (2000, (bU 4 x3 24))]⟩ (by kernel_rfl) (h.trans (by kernel_rfl))).trans (h7.trans (by kernel_rfl))
def g40L3 {R : Type} (A : Ar) (n : Nat) (kk : AV → Heap → Option R)  : Nat → Int → List Nat → List Nat → List Nat → Option R
  | 0, _, _, _, _ => none
  | m + 1, x0, x1, x2, x3 => match (generalizing := false) A.ic .lss x0 4 with
  | true => g40J5 A n kk (g40L3 A n kk  m) x0 x1 x2 x3
  | false => kk (aN .u64 4 x3) [(1001, (bU 4 x3 24)), (2000, (bU 4 x3 24))]
set_option maxRecDepth 100000 in
theorem g40L3_eq {R : Type} (A : Ar) (n : Nat) (kk : AV → Heap → Option R)    (m : Nat) (s : St) (x0 : Int) (x1 x2 x3 : List Nat) (h : keep g40an 3 s = ⟨[(1, (pT 1000 0)), (2, (pT 1001 0)), (3, (pT 2000 0)), (4, (i6 x0))], [(1000, (bW 8 x1 47)), (1001, (bU 4 x2 24)), (2000, (bU 4 x3 24))]⟩) :
    g40V A n (pth 75) m (blockK 0 (g40Q A n (pth 15) (g40T kk))) s = g40L3 A n kk  m x0 x1 x2 x3 := by
  induction m generalizing s x0 x1 x2 x3 with
  | zero => rfl
  | succ m ih =>
    have h1 := (g40Qn A n _ _ _).trans (g40J5_eq A n kk m (g40L3 A n kk  m) ih  (g40R3s0 A x0 x1 x2 x3) x0 x1 x2 x3 (by kernel_rfl))
    have h2 := (g40p651 A n _ _).trans h1
    have h3 : (g40T kk) .ret (g40R6s0 A x2 x3) = kk (aN .u64 4 x3) [(1001, (bU 4 x3 24)), (2000, (bU 4 x3 24))] := by kernel_rfl
    have h4 := (g40p31 A n _ _).trans h3
    have h5 := (g40Qn A n _ _ _).trans h4
    have h6 := (g40F A n _ 6 _ (g40R3s0 A x0 x1 x2 x3) _ (by kernel_rfl) (by kernel_rfl)).trans (g40R6 A n (g40Q A n (pth 31) (g40T kk)) x2 x3)
    rw [h5] at h6
    have h7 := (g40p15 A n _ _).trans h6
    have h8 := (g40Qn A n _ _ _).trans h7
    have h9 := (blockK_hit 0 _ _).trans h8
    have h10 := (g40We A n (pth 75) m _ _ _).trans h9
    have h11 := (g40Qe A n (pth 203) _ _ _).trans h10
    have h12 := (g40p907 A n _ _).trans h11
    have h13 := g40p395 A n (g40Q A n (pth 203) (g40W A n (pth 75) m (blockK 0 (g40Q A n (pth 15) (g40T kk))))) (g40R3s0 A x0 x1 x2 x3) (A.ic .lss x0 4) (by kernel_rfl)
    rw [h2, h12] at h13
    have h14 := (g40Qn A n _ _ _).trans h13
    have h15 := (g40F A n _ 3 _ ⟨[(1, (pT 1000 0)), (2, (pT 1001 0)), (3, (pT 2000 0)), (4, (i6 x0))], [(1000, (bW 8 x1 47)), (1001, (bU 4 x2 24)), (2000, (bU 4 x3 24))]⟩ _ (by kernel_rfl) (by kernel_rfl)).trans (g40R3 A n (g40Q A n (pth 395) (g40Q A n (pth 203) (g40W A n (pth 75) m (blockK 0 (g40Q A n (pth 15) (g40T kk)))))) x0 x1 x2 x3)
    rw [h14] at h15
    have h16 := (g40p139 A n _ _).trans h15
    have h17 := (g40p75 A n _ _).trans h16
    exact (loopD_first (s' := ⟨[(1, (pT 1000 0)), (2, (pT 1001 0)), (3, (pT 2000 0)), (4, (i6 x0))], [(1000, (bW 8 x1 47)), (1001, (bU 4 x2 24)), (2000, (bU 4 x3 24))]⟩) (id := 3) (by kernel_rfl) (h.trans (by kernel_rfl)) _).trans ((g40Vs A n _ m _ _).trans (h17.trans (by kernel_rfl)))
def g40 {R : Type} (A : Ar) (n : Nat) (kk : AV → Heap → Option R) (a : List Nat) : Option R :=
  g40L3 A n kk  n 0 a [0, 0, 0, 0] [0, 0, 0, 0]
set_option maxRecDepth 100000 in
theorem g40_eq {R : Type} (A : Ar) (n : Nat) (kk : AV → Heap → Option R) (a : List Nat) :
    funD A gtys (g40O A) g40an n (bodyOf Try.f40) g40res [(aN .u32 8 a)] [] kk = g40 A n kk a := by
  have h1 := (g40p43 A n _ _).trans (g40L3_eq A n kk    n (g40R2s0 A a [0, 0, 0, 0] [0, 0, 0, 0]) 0 a [0, 0, 0, 0] [0, 0, 0, 0] (by kernel_rfl))
  have h2 := (g40p27 A n _ _).trans h1
  have h3 := (g40Qn A n _ _ _).trans h2
  have h4 := (g40F A n _ 2 _ (g40R1s0 A a [0, 0, 0, 0]) _ (by kernel_rfl) (by kernel_rfl)).trans (g40R2 A n (g40Q A n (pth 27) (g40Q A n (pth 15) (g40T kk))) a [0, 0, 0, 0] [0, 0, 0, 0])
  rw [h3] at h4
  have h5 := (g40p11 A n _ _).trans h4
  have h6 := (g40p7 A n _ _).trans h5
  have h7 := (g40Qn A n _ _ _).trans h6
  have h8 := (g40F A n _ 1 _ (g40R0s0 A a) _ (by kernel_rfl) (by kernel_rfl)).trans (g40R1 A n (g40Q A n (pth 7) (g40T kk)) a [0, 0, 0, 0])
  rw [h7] at h8
  have h9 := (g40p3 A n _ _).trans h8
  have h10 := (g40Qn A n _ _ _).trans h9
  have h11 := (g40F A n _ 0 _ ⟨[(0, (aN .u32 8 a))], []⟩ _ (by kernel_rfl) (by kernel_rfl)).trans (g40R0 A n (g40Q A n (pth 3) (g40T kk)) a)
  rw [h10] at h11
  have h12 := (g40p1 A n _ _).trans h11
  exact (show funD A gtys (g40O A) g40an n (bodyOf Try.f40) g40res [(aN .u32 8 a)] [] kk = g40D A n (pth 1) (g40T kk) ⟨[(0, (aN .u32 8 a))], []⟩ from by kernel_rfl).trans (h12.trans (by kernel_rfl))
def g40is (o : Option AV) : Bool := match o with
  | some (aN .u64 4 _) => true
  | _ => false
def g40g0 (o : Option AV) : List Nat := match o with
  | some (aN .u64 4 x) => x
  | _ => []
theorem g40is_spec {o : Option AV} (h : g40is o = true) : o = some (aN .u64 4 (g40g0 o)) := by
  unfold g40is at h
  split at h
  · rfl
  · cases h
def g40v (A : Ar) (a : List Nat) : Option AV := g40 A (100000) (fun v _ => some v) a
def g40ok (A : Ar) (a : List Nat) : Bool := g40is (g40v A a)
def g40r0 (A : Ar) (a : List Nat) : List Nat := g40g0 (g40v A a)
theorem g40ok_spec {A : Ar} {a} (h : g40ok A a = true) : g40v A a = some (aN .u64 4 (g40r0 A a)) := g40is_spec h
def g40o (A : Ar) (args : List AV) : Option (Bool × AV) := match args with
  | [.v (.agg [.nums .u32 n0 a])] => some (Nat.beq n0 8 && (g40ok A a), .v (.agg [.nums .u64 4 (g40r0 A a)]))
  | _ => none
theorem g40o_sound : ∀ args v, g40o realA args = some (true, v) → Fn1 Try.prog 40 args v := by
  intro args v h
  unfold g40o at h
  split at h
  · rename_i n0 a
    simp only [Option.some.injEq, Prod.mk.injEq] at h
    obtain ⟨hc, h⟩ := h
    subst h
    · skip
      simp only [Bool.and_eq_true] at hc
      have en0 := beq_true hc.1
      subst en0
      replace hc := hc.2
      exact fn1_of mixed gtysOK g40O_sound g40O_det (an := g40an) (n := 100000) Try.func40 (c := bodyOf Try.f40) rfl (by kernel_rfl) Try.call40 (Nat.le_of_ble_eq_true rfl) (fun b => rfl) (fun _ => (g40_eq realA (100000) (fun v _ => some v) a).trans (show g40v realA a = _ from g40ok_spec hc))
  · cases h
section
variable {R : Type} (A : Ar) (n : Nat) (K : Ex → St → Option R) (s : St)
end
section
variable {R : Type} (A : Ar) (n : Nat) (K : Ex → St → Option R) (s : St)
end
section
variable {R : Type} (A : Ar) (n : Nat) (K : Ex → St → Option R) (s : St)
end
section
variable {R : Type} (A : Ar) (n : Nat) (K : Ex → St → Option R) (s : St)
end
section
variable {R : Type} (A : Ar) (n : Nat) (K : Ex → St → Option R) (s : St)
end
end Go.Sx
