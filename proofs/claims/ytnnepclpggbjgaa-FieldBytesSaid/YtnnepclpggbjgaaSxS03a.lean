import Derived.Test.YtnnepclpggbjgaaChecked
import Derived.Test.YtnnepclpggbjgaaSxK3
import Derived.Test.YtnnepclpggbjgaaSxHr
/- printed by sxgen -/
namespace Go.Sx
open Go.Proofs
set_option linter.unusedVariables false
theorem mixed : Try.prog.follows .mixedOrders = true := Try.checked.mixed
def gtyList : List (Nat × Ty) := [(3, ⟨.int .i64, 1, 8, (.cell (.int .i64 0)), [], 0, 0, false⟩),
  (4, ⟨.bool, 1, 1, (.cell (.bool false)), [], 0, 0, false⟩),
  (5, ⟨.int .u8, 1, 1, (.cell (.nat .u8 0)), [], 0, 0, false⟩),
  (9, ⟨.string, 1, 16, (.cell (.str [])), [], 0, 0, false⟩),
  (22, ⟨.int .u64, 1, 8, (.cell (.nat .u64 0)), [], 0, 0, false⟩),
  (23, ⟨.array, 4, 32, (.agg [.nums .u64 4 [0, 0, 0, 0]]), [], 4, 22, true⟩),
  (24, ⟨.array, 4, 32, (.agg [.nums .u64 4 [0, 0, 0, 0]]), [], 4, 22, true⟩),
  (40, ⟨.int .u32, 1, 4, (.cell (.nat .u32 0)), [], 0, 0, false⟩),
  (44, ⟨.array, 5, 40, (.agg [.nums .u64 5 [0, 0, 0, 0, 0]]), [], 5, 22, true⟩),
  (47, ⟨.array, 8, 32, (.agg [.nums .u32 8 [0, 0, 0, 0, 0, 0, 0, 0]]), [], 8, 40, true⟩),
  (53, ⟨.slice, 1, 24, (.cell .nils), [], 0, 22, false⟩),
  (58, ⟨.slice, 1, 24, (.cell .nils), [], 0, 5, false⟩),
  (62, ⟨.struct, 2, 16, (.agg [.nums .u64 2 [0, 0]]), [(0, 22), (1, 22)], 0, 0, false⟩),
  (63, ⟨.array, 10, 80, (.agg [.nums .u64 10 [0, 0, 0, 0, 0, 0, 0, 0, 0, 0]]), [], 5, 62, false⟩)]
def gtys : Tys := fun t => lk t gtyList
theorem gtysOK0 : allL (fun p => tyB Try.prog p.1 p.2) gtyList = true := by kernel_rfl
theorem gtysOK : TyOK Try.prog gtys := tyOK_of gtysOK0 (eqB_spec gtysOK0 (by kernel_rfl))
/- engrosser/field.Small -/
def g23O (A : Ar) : Orc := orcOf []
theorem g23O_sound : OSound Try.prog (g23O realA) := orc_sound fun f g hm args v hv => by
  cases hm
theorem g23O_det : ODet (g23O realA) := orc_det _
def g23an : Ann := [(0, ([0], [])), (1, ([0, 2], [1000]))]
def g23res : List ResultVar := [.cell 2 24]
noncomputable def g23D {R : Type} (A : Ar) (n : Nat) (p : List Bool) (K : Ex → St → Option R) (s : St) : Option R := codeD A gtys (g23O A) g23an n (sub (bodyOf Try.f23) p) K s
noncomputable def g23Q {R : Type} (A : Ar) (n : Nat) (p : List Bool) (K : Ex → St → Option R) : Ex → St → Option R := seqC (g23D A n p K) K
noncomputable def g23T {R : Type} (kk : AV → Heap → Option R) : Ex → St → Option R := finD gtys g23res kk
theorem g23Qn {R : Type} (A : Ar) (n : Nat) (p : List Bool) (K : Ex → St → Option R) (s : St) : g23Q A n p K .normal s = g23D A n p K s := rfl
theorem g23F {R : Type} (A : Ar) (n : Nat) (p : List Bool) (i : Nat) (K : Ex → St → Option R) (s s' : St) (hf : firstReg (sub (bodyOf Try.f23) p) = some i) (h : keep g23an i s = keep g23an i s') : g23D A n p K s = g23D A n p K s' := codeD_first hf h K
section
variable {R : Type} (A : Ar) (n : Nat) (K : Ex → St → Option R) (s : St)
theorem g23p1 : g23D A n (pth 1) K s = g23D A n (pth 2) (g23Q A n (pth 3) K) s := by kernel_rfl
theorem g23p3 : g23D A n (pth 3) K s = g23D A n (pth 5) (g23Q A n (pth 7) K) s := by kernel_rfl
theorem g23p7 : g23D A n (pth 7) K s = K .ret s := by kernel_rfl
def g23R0s0 (A : Ar) (x0 : Nat) : St := ⟨[(2, (pT 1000 0)), (0, (u64v x0))], [(1000, (bU 4 [0, 0, 0, 0] 24))]⟩
theorem g23R0 (x0 : Nat) : g23D A n (pth 2) K ⟨[(0, (u64v x0))], []⟩ = K .normal (g23R0s0 A x0) := by kernel_rfl
def g23R1s0 (A : Ar) (x0 : Nat) (x1 : List Nat) : St := ⟨[(4, (aN .u64 4 ([0, 0, 0, 0].set 0 x0))), (3, (u64v x0)), (0, (u64v x0)), (2, (pT 1000 0))], [(1000, (bU 4 ([0, 0, 0, 0].set 0 x0) 24))]⟩
theorem g23R1 (x0 : Nat) (x1 : List Nat) : g23D A n (pth 5) K ⟨[(0, (u64v x0)), (2, (pT 1000 0))], [(1000, (bU 4 x1 24))]⟩ = K .normal (g23R1s0 A x0 x1) := by kernel_rfl
end
def g23 {R : Type} (A : Ar) (n : Nat) (kk : AV → Heap → Option R) (a : Nat) : Option R :=
  kk (aN .u64 4 ([0, 0, 0, 0].set 0 a)) [(1000, (bU 4 ([0, 0, 0, 0].set 0 a) 24))]
set_option maxRecDepth 100000 in
theorem g23_eq {R : Type} (A : Ar) (n : Nat) (kk : AV → Heap → Option R) (a : Nat) :
    funD A gtys (g23O A) g23an n (bodyOf Try.f23) g23res [(u64v a)] [] kk = g23 A n kk a := by
  have h1 : (g23T kk) .ret (g23R1s0 A a [0, 0, 0, 0]) = kk (aN .u64 4 ([0, 0, 0, 0].set 0 a)) [(1000, (bU 4 ([0, 0, 0, 0].set 0 a) 24))] := by kernel_rfl
  have h2 := (g23p7 A n _ _).trans h1
  have h3 := (g23Qn A n _ _ _).trans h2
  have h4 := (g23F A n _ 1 _ (g23R0s0 A a) _ (by kernel_rfl) (by kernel_rfl)).trans (g23R1 A n (g23Q A n (pth 7) (g23T kk)) a [0, 0, 0, 0])
  rw [h3] at h4
  have h5 := (g23p3 A n _ _).trans h4
  have h6 := (g23Qn A n _ _ _).trans h5
  have h7 := (g23F A n _ 0 _ ⟨[(0, (u64v a))], []⟩ _ (by kernel_rfl) (by kernel_rfl)).trans (g23R0 A n (g23Q A n (pth 3) (g23T kk)) a)
  rw [h6] at h7
  have h8 := (g23p1 A n _ _).trans h7
  exact (show funD A gtys (g23O A) g23an n (bodyOf Try.f23) g23res [(u64v a)] [] kk = g23D A n (pth 1) (g23T kk) ⟨[(0, (u64v a))], []⟩ from by kernel_rfl).trans (h8.trans (by kernel_rfl))
def g23is (o : Option AV) : Bool := match o with
  | some (aN .u64 4 _) => true
  | _ => false
def g23g0 (o : Option AV) : List Nat := match o with
  | some (aN .u64 4 x) => x
  | _ => []
theorem g23is_spec {o : Option AV} (h : g23is o = true) : o = some (aN .u64 4 (g23g0 o)) := by
  unfold g23is at h
  split at h
  · rfl
  · cases h
def g23v (A : Ar) (a : Nat) : Option AV := g23 A (100000) (fun v _ => some v) a
def g23ok (A : Ar) (a : Nat) : Bool := g23is (g23v A a)
def g23r0 (A : Ar) (a : Nat) : List Nat := g23g0 (g23v A a)
theorem g23ok_spec {A : Ar} {a} (h : g23ok A a = true) : g23v A a = some (aN .u64 4 (g23r0 A a)) := g23is_spec h
def g23o (A : Ar) (args : List AV) : Option (Bool × AV) := match args with
  | [.v (.cell (.nat .u64 a))] => some (g23ok A a, .v (.agg [.nums .u64 4 (g23r0 A a)]))
  | _ => none
theorem g23o_sound : ∀ args v, g23o realA args = some (true, v) → Fn1 Try.prog 23 args v := by
  intro args v h
  unfold g23o at h
  split at h
  · rename_i a
    simp only [Option.some.injEq, Prod.mk.injEq] at h
    obtain ⟨hc, h⟩ := h
    subst h
    · skip
      exact fn1_of mixed gtysOK g23O_sound g23O_det (an := g23an) (n := 100000) Try.func23 (c := bodyOf Try.f23) rfl (by kernel_rfl) Try.call23 (Nat.le_of_ble_eq_true rfl) (fun b => rfl) (fun _ => (g23_eq realA (100000) (fun v _ => some v) a).trans (show g23v realA a = _ from g23ok_spec hc))
  · cases h
/- (engrosser/field.limbs).carry -/
def g47O (A : Ar) : Orc := orcOf []
theorem g47O_sound : OSound Try.prog (g47O realA) := orc_sound fun f g hm args v hv => by
  cases hm
theorem g47O_det : ODet (g47O realA) := orc_det _
def g47an : Ann := [(0, ([0], [])), (1, ([1, 2], [1000, 1001])), (2, ([1, 2, 3], [1000, 1001])), (3, ([1, 2, 3, 5], [1000, 1001])), (4, ([1, 2, 3, 5], [1000, 1001])), (5, ([1, 2, 3, 4, 5], [1000, 1001])), (6, ([1, 2, 4, 5], [1000, 1001])), (7, ([1, 2, 3, 4, 5], [1000, 1001])), (8, ([1, 2, 3, 5], [1000, 1001])), (9, ([1, 2, 3], [1000, 1001])), (10, ([1, 2], [1000, 1001]))]
def g47res : List ResultVar := [.cell 2 44]
noncomputable def g47D {R : Type} (A : Ar) (n : Nat) (p : List Bool) (K : Ex → St → Option R) (s : St) : Option R := codeD A gtys (g47O A) g47an n (sub (bodyOf Try.f47) p) K s
noncomputable def g47V {R : Type} (A : Ar) (n : Nat) (p : List Bool) (m : Nat) (K : Ex → St → Option R) (s : St) : Option R := loopD (fun K' s'' => codeD A gtys (g47O A) g47an n (sub (bodyOf Try.f47) p) K' s'') m K s
noncomputable def g47Q {R : Type} (A : Ar) (n : Nat) (p : List Bool) (K : Ex → St → Option R) : Ex → St → Option R := seqC (g47D A n p K) K
noncomputable def g47W {R : Type} (A : Ar) (n : Nat) (p : List Bool) (m : Nat) (K : Ex → St → Option R) : Ex → St → Option R := seqC (g47V A n p m K) K
noncomputable def g47T {R : Type} (kk : AV → Heap → Option R) : Ex → St → Option R := finD gtys g47res kk
theorem g47Qn {R : Type} (A : Ar) (n : Nat) (p : List Bool) (K : Ex → St → Option R) (s : St) : g47Q A n p K .normal s = g47D A n p K s := rfl
theorem g47Qe {R : Type} (A : Ar) (n : Nat) (p : List Bool) (K : Ex → St → Option R) (i : Nat) (s : St) : g47Q A n p K (.exit i) s = K (.exit i) s := rfl
theorem g47Wn {R : Type} (A : Ar) (n : Nat) (p : List Bool) (m : Nat) (K : Ex → St → Option R) (s : St) : g47W A n p m K .normal s = g47V A n p m K s := rfl
theorem g47We {R : Type} (A : Ar) (n : Nat) (p : List Bool) (m : Nat) (K : Ex → St → Option R) (i : Nat) (s : St) : g47W A n p m K (.exit i) s = K (.exit i) s := rfl
theorem g47Vs {R : Type} (A : Ar) (n : Nat) (p : List Bool) (m : Nat) (K : Ex → St → Option R) (s : St) : g47V A n p (m + 1) K s = g47D A n p (g47W A n p m K) s := rfl
theorem g47F {R : Type} (A : Ar) (n : Nat) (p : List Bool) (i : Nat) (K : Ex → St → Option R) (s s' : St) (hf : firstReg (sub (bodyOf Try.f47) p) = some i) (h : keep g47an i s = keep g47an i s') : g47D A n p K s = g47D A n p K s' := codeD_first hf h K
section
variable {R : Type} (A : Ar) (n : Nat) (K : Ex → St → Option R) (s : St)
theorem g47p1 : g47D A n (pth 1) K s = g47D A n (pth 2) (g47Q A n (pth 3) K) s := by kernel_rfl
theorem g47p3 : g47D A n (pth 3) K s = g47D A n (pth 5) (g47Q A n (pth 7) K) s := by kernel_rfl
theorem g47p7 : g47D A n (pth 7) K s = g47D A n (pth 11) (g47Q A n (pth 15) K) s := by kernel_rfl
theorem g47p11 : g47D A n (pth 11) K s = g47D A n (pth 19) (g47Q A n (pth 27) K) s := by kernel_rfl
theorem g47p27 : g47D A n (pth 27) K s = g47D A n (pth 43) (blockK 0 K) s := by kernel_rfl
theorem g47p43 : g47D A n (pth 43) K s = g47V A n (pth 75) n K s := by kernel_rfl
theorem g47p75 : g47D A n (pth 75) K s = g47D A n (pth 139) (g47Q A n (pth 203) K) s := by kernel_rfl
theorem g47p203 : g47D A n (pth 203) K s = g47D A n (pth 331) (g47Q A n (pth 459) K) s := by kernel_rfl
theorem g47p331 (t : Bool) : ev s (.tmp 6) = some (.v (.cell (.bool t))) → g47D A n (pth 331) K s = (match t with
    | true => g47D A n (pth 587) K s
    | false => g47D A n (pth 843) K s) := codeD_cond t
theorem g47p587 : g47D A n (pth 587) K s = K .normal s := by kernel_rfl
theorem g47p843 : g47D A n (pth 843) K s = K (.exit 0) s := by kernel_rfl
theorem g47p459 : g47D A n (pth 459) K s = g47D A n (pth 715) (g47Q A n (pth 971) K) s := by kernel_rfl
theorem g47p715 : g47D A n (pth 715) K s = g47D A n (pth 1227) (blockK 1 K) s := by kernel_rfl
theorem g47p1227 : g47D A n (pth 1227) K s = g47D A n (pth 2251) (g47Q A n (pth 3275) K) s := by kernel_rfl
theorem g47p3275 : g47D A n (pth 3275) K s = g47D A n (pth 5323) (g47Q A n (pth 7371) K) s := by kernel_rfl
theorem g47p7371 : g47D A n (pth 7371) K s = g47D A n (pth 11467) (g47Q A n (pth 15563) K) s := by kernel_rfl
theorem g47p15 : g47D A n (pth 15) K s = g47D A n (pth 23) (g47Q A n (pth 31) K) s := by kernel_rfl
theorem g47p31 : g47D A n (pth 31) K s = g47D A n (pth 47) (g47Q A n (pth 63) K) s := by kernel_rfl
theorem g47p63 : g47D A n (pth 63) K s = K .ret s := by kernel_rfl
def g47R4s0 (A : Ar) (x0 : Nat) (x1 : Int) (x2 x3 : List Nat) : St := ⟨[(4, (i6 x1)), (7, (i6 x1)), (1, (pT 1000 0)), (2, (pT 1001 0)), (3, (u64v x0)), (5, (i6 x1))], [(1000, (bU 5 x2 44)), (1001, (bU 5 x3 44))]⟩
theorem g47R4 (x0 : Nat) (x1 : Int) (x2 x3 : List Nat) : g47D A n (pth 2251) K ⟨[(1, (pT 1000 0)), (2, (pT 1001 0)), (3, (u64v x0)), (5, (i6 x1))], [(1000, (bU 5 x2 44)), (1001, (bU 5 x3 44))]⟩ = K .normal (g47R4s0 A x0 x1 x2 x3) := by kernel_rfl
def g47R5s0 (A : Ar) (x0 : Nat) (x1 x2 : Int) (x3 x4 : List Nat) : St := ⟨[(13, (.v (.cell (.ptr 1000 0 (some ⟨A.toN x1, 1, 5, 0, 0, 0⟩))))), (12, (u64v (A.nb .add .u64 (x3.getD (A.toN x1) 0) x0))), (11, (u64v x0)), (10, (u64v (x3.getD (A.toN x1) 0))), (9, (.v (.cell (.ptr 1000 0 (some ⟨A.toN x1, 1, 5, 0, 0, 0⟩))))), (8, (i6 x1)), (1, (pT 1000 0)), (2, (pT 1001 0)), (3, (u64v x0)), (4, (i6 x1)), (5, (i6 x2))], [(1000, (bU 5 (x3.set (A.toN x1) (A.nb .add .u64 (x3.getD (A.toN x1) 0) x0)) 44)), (1001, (bU 5 x4 44))]⟩
theorem g47R5 (x0 : Nat) (x1 x2 : Int) (x3 x4 : List Nat) : g47D A n (pth 5323) K ⟨[(1, (pT 1000 0)), (2, (pT 1001 0)), (3, (u64v x0)), (4, (i6 x1)), (5, (i6 x2))], [(1000, (bU 5 x3 44)), (1001, (bU 5 x4 44))]⟩ = match (generalizing := false) A.neg x1 with
    | true => none
    | false => match (generalizing := false) A.lt (A.toN x1) 5 with
      | true => match (generalizing := false) A.neg x1 with
        | true => none
        | false => match (generalizing := false) A.lt (A.toN x1) 5 with
          | true => K .normal (g47R5s0 A x0 x1 x2 x3 x4)
          | false => none
      | false => none := by kernel_rfl
def g47R6s0 (A : Ar) (x0 x1 : Int) (x2 x3 : List Nat) : St := ⟨[(3, (u64v (A.nsh .shr .u64 (x2.getD (A.toN x0) 0) 51))), (17, (u64v (A.nsh .shr .u64 (x2.getD (A.toN x0) 0) 51))), (16, (u64v (x2.getD (A.toN x0) 0))), (15, (.v (.cell (.ptr 1000 0 (some ⟨A.toN x0, 1, 5, 0, 0, 0⟩))))), (14, (i6 x0)), (1, (pT 1000 0)), (2, (pT 1001 0)), (4, (i6 x0)), (5, (i6 x1))], [(1000, (bU 5 x2 44)), (1001, (bU 5 x3 44))]⟩
theorem g47R6 (x0 x1 : Int) (x2 x3 : List Nat) : g47D A n (pth 11467) K ⟨[(1, (pT 1000 0)), (2, (pT 1001 0)), (4, (i6 x0)), (5, (i6 x1))], [(1000, (bU 5 x2 44)), (1001, (bU 5 x3 44))]⟩ = match (generalizing := false) A.neg x0 with
    | true => none
    | false => match (generalizing := false) A.lt (A.toN x0) 5 with
      | true => K .normal (g47R6s0 A x0 x1 x2 x3)
      | false => none := by kernel_rfl
def g47R7s0 (A : Ar) (x0 : Nat) (x1 x2 : Int) (x3 x4 : List Nat) : St := ⟨[(22, (.v (.cell (.ptr 1000 0 (some ⟨A.toN x1, 1, 5, 0, 0, 0⟩))))), (21, (u64v (A.nb .and .u64 (x3.getD (A.toN x1) 0) 2251799813685247))), (20, (u64v (x3.getD (A.toN x1) 0))), (19, (.v (.cell (.ptr 1000 0 (some ⟨A.toN x1, 1, 5, 0, 0, 0⟩))))), (18, (i6 x1)), (1, (pT 1000 0)), (2, (pT 1001 0)), (3, (u64v x0)), (4, (i6 x1)), (5, (i6 x2))], [(1000, (bU 5 (x3.set (A.toN x1) (A.nb .and .u64 (x3.getD (A.toN x1) 0) 2251799813685247)) 44)), (1001, (bU 5 x4 44))]⟩
theorem g47R7 (x0 : Nat) (x1 x2 : Int) (x3 x4 : List Nat) : g47D A n (pth 15563) K ⟨[(1, (pT 1000 0)), (2, (pT 1001 0)), (3, (u64v x0)), (4, (i6 x1)), (5, (i6 x2))], [(1000, (bU 5 x3 44)), (1001, (bU 5 x4 44))]⟩ = match (generalizing := false) A.neg x1 with
    | true => none
    | false => match (generalizing := false) A.lt (A.toN x1) 5 with
      | true => match (generalizing := false) A.neg x1 with
        | true => none
        | false => match (generalizing := false) A.lt (A.toN x1) 5 with
          | true => K .normal (g47R7s0 A x0 x1 x2 x3 x4)
          | false => none
      | false => none := by kernel_rfl
def g47R8s0 (A : Ar) (x0 : Nat) (x1 : Int) (x2 x3 : List Nat) : St := ⟨[(5, (i6 (A.ib .add .i64 x1 1))), (23, (i6 (A.ib .add .i64 x1 1))), (1, (pT 1000 0)), (2, (pT 1001 0)), (3, (u64v x0)), (5, (i6 x1))], [(1000, (bU 5 x2 44)), (1001, (bU 5 x3 44))]⟩
theorem g47R8 (x0 : Nat) (x1 : Int) (x2 x3 : List Nat) : g47D A n (pth 971) K ⟨[(1, (pT 1000 0)), (2, (pT 1001 0)), (3, (u64v x0)), (5, (i6 x1))], [(1000, (bU 5 x2 44)), (1001, (bU 5 x3 44))]⟩ = K .normal (g47R8s0 A x0 x1 x2 x3) := by kernel_rfl
def g47R9s0 (A : Ar) (x0 : Nat) (x1 x2 : List Nat) : St := ⟨[(29, (pT 1000 0)), (28, (u64v (A.nb .add .u64 (x1.getD 0 0) (A.nb .mul .u64 x0 19)))), (27, (u64v (A.nb .mul .u64 x0 19))), (26, (u64v x0)), (25, (u64v (x1.getD 0 0))), (24, (pT 1000 0)), (1, (pT 1000 0)), (2, (pT 1001 0)), (3, (u64v x0))], [(1000, (bU 5 (x1.set 0 (A.nb .add .u64 (x1.getD 0 0) (A.nb .mul .u64 x0 19))) 44)), (1001, (bU 5 x2 44))]⟩
theorem g47R9 (x0 : Nat) (x1 x2 : List Nat) : g47D A n (pth 23) K ⟨[(1, (pT 1000 0)), (2, (pT 1001 0)), (3, (u64v x0))], [(1000, (bU 5 x1 44)), (1001, (bU 5 x2 44))]⟩ = K .normal (g47R9s0 A x0 x1 x2) := by kernel_rfl
def g47R10s0 (A : Ar) (x0 x1 : List Nat) : St := ⟨[(30, (aN .u64 5 x0)), (1, (pT 1000 0)), (2, (pT 1001 0))], [(1000, (bU 5 x0 44)), (1001, (bU 5 x0 44))]⟩
theorem g47R10 (x0 x1 : List Nat) : g47D A n (pth 47) K ⟨[(1, (pT 1000 0)), (2, (pT 1001 0))], [(1000, (bU 5 x0 44)), (1001, (bU 5 x1 44))]⟩ = K .normal (g47R10s0 A x0 x1) := by kernel_rfl
def g47R3s0 (A : Ar) (x0 : Nat) (x1 : Int) (x2 x3 : List Nat) : St := ⟨[(6, (bO (A.ic .lss x1 5))), (1, (pT 1000 0)), (2, (pT 1001 0)), (3, (u64v x0)), (5, (i6 x1))], [(1000, (bU 5 x2 44)), (1001, (bU 5 x3 44))]⟩
theorem g47R3 (x0 : Nat) (x1 : Int) (x2 x3 : List Nat) : g47D A n (pth 139) K ⟨[(1, (pT 1000 0)), (2, (pT 1001 0)), (3, (u64v x0)), (5, (i6 x1))], [(1000, (bU 5 x2 44)), (1001, (bU 5 x3 44))]⟩ = K .normal (g47R3s0 A x0 x1 x2 x3) := by kernel_rfl
def g47R0s0 (A : Ar) (x0 : List Nat) : St := ⟨[(2, (pT 1001 0)), (1, (pT 1000 0)), (0, (aN .u64 5 x0))], [(1001, (bU 5 [0, 0, 0, 0, 0] 44)), (1000, (bU 5 x0 44))]⟩
theorem g47R0 (x0 : List Nat) : g47D A n (pth 2) K ⟨[(0, (aN .u64 5 x0))], []⟩ = K .normal (g47R0s0 A x0) := by kernel_rfl
def g47R1s0 (A : Ar) (x0 x1 : List Nat) : St := ⟨[(3, (u64v 0)), (1, (pT 1000 0)), (2, (pT 1001 0))], [(1000, (bU 5 x0 44)), (1001, (bU 5 x1 44))]⟩
theorem g47R1 (x0 x1 : List Nat) : g47D A n (pth 5) K ⟨[(1, (pT 1000 0)), (2, (pT 1001 0))], [(1000, (bU 5 x0 44)), (1001, (bU 5 x1 44))]⟩ = K .normal (g47R1s0 A x0 x1) := by kernel_rfl
def g47R2s0 (A : Ar) (x0 : Nat) (x1 x2 : List Nat) : St := ⟨[(5, (i6 0)), (1, (pT 1000 0)), (2, (pT 1001 0)), (3, (u64v x0))], [(1000, (bU 5 x1 44)), (1001, (bU 5 x2 44))]⟩
theorem g47R2 (x0 : Nat) (x1 x2 : List Nat) : g47D A n (pth 19) K ⟨[(1, (pT 1000 0)), (2, (pT 1001 0)), (3, (u64v x0))], [(1000, (bU 5 x1 44)), (1001, (bU 5 x2 44))]⟩ = K .normal (g47R2s0 A x0 x1 x2) := by kernel_rfl
end
def g47J4 {R : Type} (A : Ar) (n : Nat) (kk : AV → Heap → Option R) (lg47L3 : Nat → Int → List Nat → List Nat → Option R) (x0 : Nat) (x1 : Int) (x2 x3 : List Nat) : Option R :=
  match (generalizing := false) A.neg x1 with
  | true => none
  | false => match (generalizing := false) A.lt (A.toN x1) 5 with
    | true => match (generalizing := false) A.neg x1 with
      | true => none
      | false => match (generalizing := false) A.lt (A.toN x1) 5 with
        | true => match (generalizing := false) A.neg x1 with
          | true => none
          | false => match (generalizing := false) A.lt (A.toN x1) 5 with
            | true => match (generalizing := false) A.neg x1 with
              | true => none
              | false => match (generalizing := false) A.lt (A.toN x1) 5 with
                | true => match (generalizing := false) A.neg x1 with
                  | true => none
                  | false => match (generalizing := false) A.lt (A.toN x1) 5 with
                    | true => lg47L3 (A.nsh .shr .u64 ((x2.set (A.toN x1) (A.nb .add .u64 (x2.getD (A.toN x1) 0) x0)).getD (A.toN x1) 0) 51) (A.ib .add .i64 x1 1) ((x2.set (A.toN x1) (A.nb .add .u64 (x2.getD (A.toN x1) 0) x0)).set (A.toN x1) (A.nb .and .u64 ((x2.set (A.toN x1) (A.nb .add .u64 (x2.getD (A.toN x1) 0) x0)).getD (A.toN x1) 0) 2251799813685247)) x3
                    | false => none
                | false => none
            | false => none
        | false => none
    | false => none
set_option maxRecDepth 100000 in
theorem g47J4_eq {R : Type} (A : Ar) (n : Nat) (kk : AV → Heap → Option R) (m0 : Nat) (lg47L3 : Nat → Int → List Nat → List Nat → Option R) 
    (hg47L3 : ∀ (s : St) (x0 : Nat) (x1 : Int) (x2 x3 : List Nat), keep g47an 3 s = ⟨[(1, (pT 1000 0)), (2, (pT 1001 0)), (3, (u64v x0)), (5, (i6 x1))], [(1000, (bU 5 x2 44)), (1001, (bU 5 x3 44))]⟩ → g47V A n (pth 75) m0 (blockK 0 (g47Q A n (pth 15) (g47T kk))) s = lg47L3 x0 x1 x2 x3) (s : St) (x0 : Nat) (x1 : Int) (x2 x3 : List Nat) (h : keep g47an 4 s = ⟨[(1, (pT 1000 0)), (2, (pT 1001 0)), (3, (u64v x0)), (5, (i6 x1))], [(1000, (bU 5 x2 44)), (1001, (bU 5 x3 44))]⟩) :
    g47D A n (pth 459) (g47W A n (pth 75) m0 (blockK 0 (g47Q A n (pth 15) (g47T kk)))) s = g47J4 A n kk lg47L3 x0 x1 x2 x3 := by
  have h1 := (g47Wn A n _ _ _ _).trans (hg47L3 (g47R8s0 A (A.nsh .shr .u64 ((x2.set (A.toN x1) (A.nb .add .u64 (x2.getD (A.toN x1) 0) x0)).getD (A.toN x1) 0) 51) x1 ((x2.set (A.toN x1) (A.nb .add .u64 (x2.getD (A.toN x1) 0) x0)).set (A.toN x1) (A.nb .and .u64 ((x2.set (A.toN x1) (A.nb .add .u64 (x2.getD (A.toN x1) 0) x0)).getD (A.toN x1) 0) 2251799813685247)) x3) (A.nsh .shr .u64 ((x2.set (A.toN x1) (A.nb .add .u64 (x2.getD (A.toN x1) 0) x0)).getD (A.toN x1) 0) 51) (A.ib .add .i64 x1 1) ((x2.set (A.toN x1) (A.nb .add .u64 (x2.getD (A.toN x1) 0) x0)).set (A.toN x1) (A.nb .and .u64 ((x2.set (A.toN x1) (A.nb .add .u64 (x2.getD (A.toN x1) 0) x0)).getD (A.toN x1) 0) 2251799813685247)) x3 (by kernel_rfl))
  have h2 := (g47F A n _ 8 _ (g47R7s0 A (A.nsh .shr .u64 ((x2.set (A.toN x1) (A.nb .add .u64 (x2.getD (A.toN x1) 0) x0)).getD (A.toN x1) 0) 51) x1 x1 (x2.set (A.toN x1) (A.nb .add .u64 (x2.getD (A.toN x1) 0) x0)) x3) _ (by kernel_rfl) (by kernel_rfl)).trans (g47R8 A n (g47W A n (pth 75) m0 (blockK 0 (g47Q A n (pth 15) (g47T kk)))) (A.nsh .shr .u64 ((x2.set (A.toN x1) (A.nb .add .u64 (x2.getD (A.toN x1) 0) x0)).getD (A.toN x1) 0) 51) x1 ((x2.set (A.toN x1) (A.nb .add .u64 (x2.getD (A.toN x1) 0) x0)).set (A.toN x1) (A.nb .and .u64 ((x2.set (A.toN x1) (A.nb .add .u64 (x2.getD (A.toN x1) 0) x0)).getD (A.toN x1) 0) 2251799813685247)) x3)
  rw [h1] at h2
  have h3 := (g47Qn A n _ _ _).trans h2
  have h4 := (blockK_n 1 _ _).trans h3
  have h5 := (g47F A n _ 7 _ (g47R6s0 A x1 x1 (x2.set (A.toN x1) (A.nb .add .u64 (x2.getD (A.toN x1) 0) x0)) x3) _ (by kernel_rfl) (by kernel_rfl)).trans (g47R7 A n (blockK 1 (g47Q A n (pth 971) (g47W A n (pth 75) m0 (blockK 0 (g47Q A n (pth 15) (g47T kk)))))) (A.nsh .shr .u64 ((x2.set (A.toN x1) (A.nb .add .u64 (x2.getD (A.toN x1) 0) x0)).getD (A.toN x1) 0) 51) x1 x1 (x2.set (A.toN x1) (A.nb .add .u64 (x2.getD (A.toN x1) 0) x0)) x3)
  rw [h4] at h5
  have h6 := (g47Qn A n _ _ _).trans h5
  have h7 := (g47F A n _ 6 _ (g47R5s0 A x0 x1 x1 x2 x3) _ (by kernel_rfl) (by kernel_rfl)).trans (g47R6 A n (g47Q A n (pth 15563) (blockK 1 (g47Q A n (pth 971) (g47W A n (pth 75) m0 (blockK 0 (g47Q A n (pth 15) (g47T kk))))))) x1 x1 (x2.set (A.toN x1) (A.nb .add .u64 (x2.getD (A.toN x1) 0) x0)) x3)
  rw [h6] at h7
  have h8 := (g47p7371 A n _ _).trans h7
  have h9 := (g47Qn A n _ _ _).trans h8
  have h10 := (g47F A n _ 5 _ (g47R4s0 A x0 x1 x2 x3) _ (by kernel_rfl) (by kernel_rfl)).trans (g47R5 A n (g47Q A n (pth 7371) (blockK 1 (g47Q A n (pth 971) (g47W A n (pth 75) m0 (blockK 0 (g47Q A n (pth 15) (g47T kk))))))) x0 x1 x1 x2 x3)
  rw [h9] at h10
  have h11 := (g47p3275 A n _ _).trans h10
  have h12 := (g47Qn A n _ _ _).trans h11
  have h13 := (g47F A n _ 4 _ ⟨[(1, (pT 1000 0)), (2, (pT 1001 0)), (3, (u64v x0)), (5, (i6 x1))], [(1000, (bU 5 x2 44)), (1001, (bU 5 x3 44))]⟩ _ (by kernel_rfl) (by kernel_rfl)).trans (g47R4 A n (g47Q A n (pth 3275) (blockK 1 (g47Q A n (pth 971) (g47W A n (pth 75) m0 (blockK 0 (g47Q A n (pth 15) (g47T kk))))))) x0 x1 x2 x3)
  rw [h12] at h13
  have h14 := (g47p1227 A n _ _).trans h13
  have h15 := (g47p715 A n _ _).trans h14
  have h16 := (g47p459 A n _ _).trans h15
  exact (g47F A n _ 4 _ _ ⟨[(1, (pT 1000 0)), (2, (pT 1001 0)), (3, (u64v x0)), (5, (i6 x1))], [(1000, (bU 5 x2 44)), (1001, (bU 5 x3 44))]⟩ (by kernel_rfl) (h.trans (by kernel_rfl))).trans (h16.trans (by kernel_rfl))
def g47J9 {R : Type} (A : Ar) (n : Nat) (kk : AV → Heap → Option R)  (x0 : Nat) (x1 x2 : List Nat) : Option R :=
  kk (aN .u64 5 (x1.set 0 (A.nb .add .u64 (x1.getD 0 0) (A.nb .mul .u64 x0 19)))) [(1000, (bU 5 (x1.set 0 (A.nb .add .u64 (x1.getD 0 0) (A.nb .mul .u64 x0 19))) 44)), (1001, (bU 5 (x1.set 0 (A.nb .add .u64 (x1.getD 0 0) (A.nb .mul .u64 x0 19))) 44))]
set_option maxRecDepth 100000 in
theorem g47J9_eq {R : Type} (A : Ar) (n : Nat) (kk : AV → Heap → Option R)    (s : St) (x0 : Nat) (x1 x2 : List Nat) (h : keep g47an 9 s = ⟨[(1, (pT 1000 0)), (2, (pT 1001 0)), (3, (u64v x0))], [(1000, (bU 5 x1 44)), (1001, (bU 5 x2 44))]⟩) :
    g47D A n (pth 15) (g47T kk) s = g47J9 A n kk  x0 x1 x2 := by
  have h1 : (g47T kk) .ret (g47R10s0 A (x1.set 0 (A.nb .add .u64 (x1.getD 0 0) (A.nb .mul .u64 x0 19))) x2) = kk (aN .u64 5 (x1.set 0 (A.nb .add .u64 (x1.getD 0 0) (A.nb .mul .u64 x0 19)))) [(1000, (bU 5 (x1.set 0 (A.nb .add .u64 (x1.getD 0 0) (A.nb .mul .u64 x0 19))) 44)), (1001, (bU 5 (x1.set 0 (A.nb .add .u64 (x1.getD 0 0) (A.nb .mul .u64 x0 19))) 44))] := by kernel_rfl
  have h2 := (g47p63 A n _ _).trans h1
  have h3 := (g47Qn A n _ _ _).trans h2
  have h4 := (g47F A n _ 10 _ (g47R9s0 A x0 x1 x2) _ (by kernel_rfl) (by kernel_rfl)).trans (g47R10 A n (g47Q A n (pth 63) (g47T kk)) (x1.set 0 (A.nb .add .u64 (x1.getD 0 0) (A.nb .mul .u64 x0 19))) x2)
  rw [h3] at h4
  have h5 := (g47p31 A n _ _).trans h4
  have h6 := (g47Qn A n _ _ _).trans h5
  have h7 := (g47F A n _ 9 _ ⟨[(1, (pT 1000 0)), (2, (pT 1001 0)), (3, (u64v x0))], [(1000, (bU 5 x1 44)), (1001, (bU 5 x2 44))]⟩ _ (by kernel_rfl) (by kernel_rfl)).trans (g47R9 A n (g47Q A n (pth 31) (g47T kk)) x0 x1 x2)
  rw [h6] at h7
  have h8 := (g47p15 A n _ _).trans h7
  exact (g47F A n _ 9 _ _ ⟨[(1, (pT 1000 0)), (2, (pT 1001 0)), (3, (u64v x0))], [(1000, (bU 5 x1 44)), (1001, (bU 5 x2 44))]⟩ (by kernel_rfl) (h.trans (by kernel_rfl))).trans (h8.trans (by kernel_rfl))
def g47L3 {R : Type} (A : Ar) (n : Nat) (kk : AV → Heap → Option R)  : Nat → Nat → Int → List Nat → List Nat → Option R
  | 0, _, _, _, _ => none
  | m + 1, x0, x1, x2, x3 => match (generalizing := false) A.ic .lss x1 5 with
  | true => g47J4 A n kk (g47L3 A n kk  m) x0 x1 x2 x3
  | false => g47J9 A n kk  x0 x2 x3
set_option maxRecDepth 100000 in
theorem g47L3_eq {R : Type} (A : Ar) (n : Nat) (kk : AV → Heap → Option R)    (m : Nat) (s : St) (x0 : Nat) (x1 : Int) (x2 x3 : List Nat) (h : keep g47an 3 s = ⟨[(1, (pT 1000 0)), (2, (pT 1001 0)), (3, (u64v x0)), (5, (i6 x1))], [(1000, (bU 5 x2 44)), (1001, (bU 5 x3 44))]⟩) :
    g47V A n (pth 75) m (blockK 0 (g47Q A n (pth 15) (g47T kk))) s = g47L3 A n kk  m x0 x1 x2 x3 := by
  induction m generalizing s x0 x1 x2 x3 with
  | zero => rfl
  | succ m ih =>
    have h1 := (g47Qn A n _ _ _).trans (g47J4_eq A n kk m (g47L3 A n kk  m) ih  (g47R3s0 A x0 x1 x2 x3) x0 x1 x2 x3 (by kernel_rfl))
    have h2 := (g47p587 A n _ _).trans h1
    have h3 := (g47Qn A n _ _ _).trans (g47J9_eq A n kk     (g47R3s0 A x0 x1 x2 x3) x0 x2 x3 (by kernel_rfl))
    have h4 := (blockK_hit 0 _ _).trans h3
    have h5 := (g47We A n (pth 75) m _ _ _).trans h4
    have h6 := (g47Qe A n (pth 459) _ _ _).trans h5
    have h7 := (g47p843 A n _ _).trans h6
    have h8 := g47p331 A n (g47Q A n (pth 459) (g47W A n (pth 75) m (blockK 0 (g47Q A n (pth 15) (g47T kk))))) (g47R3s0 A x0 x1 x2 x3) (A.ic .lss x1 5) (by kernel_rfl)
    rw [h2, h7] at h8
    have h9 := (g47p203 A n _ _).trans h8
    have h10 := (g47Qn A n _ _ _).trans h9
    have h11 := (g47F A n _ 3 _ ⟨[(1, (pT 1000 0)), (2, (pT 1001 0)), (3, (u64v x0)), (5, (i6 x1))], [(1000, (bU 5 x2 44)), (1001, (bU 5 x3 44))]⟩ _ (by kernel_rfl) (by kernel_rfl)).trans (g47R3 A n (g47Q A n (pth 203) (g47W A n (pth 75) m (blockK 0 (g47Q A n (pth 15) (g47T kk))))) x0 x1 x2 x3)
    rw [h10] at h11
    have h12 := (g47p75 A n _ _).trans h11
    exact (loopD_first (s' := ⟨[(1, (pT 1000 0)), (2, (pT 1001 0)), (3, (u64v x0)), (5, (i6 x1))], [(1000, (bU 5 x2 44)), (1001, (bU 5 x3 44))]⟩) (id := 3) (by kernel_rfl) (h.trans (by kernel_rfl)) _).trans ((g47Vs A n _ m _ _).trans (h12.trans (by kernel_rfl)))
def g47 {R : Type} (A : Ar) (n : Nat) (kk : AV → Heap → Option R) (a : List Nat) : Option R :=
  g47L3 A n kk  n 0 0 a [0, 0, 0, 0, 0]
set_option maxRecDepth 100000 in
theorem g47_eq {R : Type} (A : Ar) (n : Nat) (kk : AV → Heap → Option R) (a : List Nat) :
    funD A gtys (g47O A) g47an n (bodyOf Try.f47) g47res [(aN .u64 5 a)] [] kk = g47 A n kk a := by
  have h1 := (g47p43 A n _ _).trans (g47L3_eq A n kk    n (g47R2s0 A 0 a [0, 0, 0, 0, 0]) 0 0 a [0, 0, 0, 0, 0] (by kernel_rfl))
  have h2 := (g47p27 A n _ _).trans h1
  have h3 := (g47Qn A n _ _ _).trans h2
  have h4 := (g47F A n _ 2 _ (g47R1s0 A a [0, 0, 0, 0, 0]) _ (by kernel_rfl) (by kernel_rfl)).trans (g47R2 A n (g47Q A n (pth 27) (g47Q A n (pth 15) (g47T kk))) 0 a [0, 0, 0, 0, 0])
  rw [h3] at h4
  have h5 := (g47p11 A n _ _).trans h4
  have h6 := (g47p7 A n _ _).trans h5
  have h7 := (g47Qn A n _ _ _).trans h6
  have h8 := (g47F A n _ 1 _ (g47R0s0 A a) _ (by kernel_rfl) (by kernel_rfl)).trans (g47R1 A n (g47Q A n (pth 7) (g47T kk)) a [0, 0, 0, 0, 0])
  rw [h7] at h8
  have h9 := (g47p3 A n _ _).trans h8
  have h10 := (g47Qn A n _ _ _).trans h9
  have h11 := (g47F A n _ 0 _ ⟨[(0, (aN .u64 5 a))], []⟩ _ (by kernel_rfl) (by kernel_rfl)).trans (g47R0 A n (g47Q A n (pth 3) (g47T kk)) a)
  rw [h10] at h11
  have h12 := (g47p1 A n _ _).trans h11
  exact (show funD A gtys (g47O A) g47an n (bodyOf Try.f47) g47res [(aN .u64 5 a)] [] kk = g47D A n (pth 1) (g47T kk) ⟨[(0, (aN .u64 5 a))], []⟩ from by kernel_rfl).trans (h12.trans (by kernel_rfl))
def g47is (o : Option AV) : Bool := match o with
  | some (aN .u64 5 _) => true
  | _ => false
def g47g0 (o : Option AV) : List Nat := match o with
  | some (aN .u64 5 x) => x
  | _ => []
theorem g47is_spec {o : Option AV} (h : g47is o = true) : o = some (aN .u64 5 (g47g0 o)) := by
  unfold g47is at h
  split at h
  · rfl
  · cases h
def g47v (A : Ar) (a : List Nat) : Option AV := g47 A (100000) (fun v _ => some v) a
def g47ok (A : Ar) (a : List Nat) : Bool := g47is (g47v A a)
def g47r0 (A : Ar) (a : List Nat) : List Nat := g47g0 (g47v A a)
theorem g47ok_spec {A : Ar} {a} (h : g47ok A a = true) : g47v A a = some (aN .u64 5 (g47r0 A a)) := g47is_spec h
def g47o (A : Ar) (args : List AV) : Option (Bool × AV) := match args with
  | [.v (.agg [.nums .u64 n0 a])] => some (Nat.beq n0 5 && (g47ok A a), .v (.agg [.nums .u64 5 (g47r0 A a)]))
  | _ => none
theorem g47o_sound : ∀ args v, g47o realA args = some (true, v) → Fn1 Try.prog 47 args v := by
  intro args v h
  unfold g47o at h
  split at h
  · rename_i n0 a
    simp only [Option.some.injEq, Prod.mk.injEq] at h
    obtain ⟨hc, h⟩ := h
    subst h
    · skip
      simp only [Bool.and_eq_true] at hc
      have en0 := beq_true hc.1
      subst en0
      replace hc := hc.2
      exact fn1_of mixed gtysOK g47O_sound g47O_det (an := g47an) (n := 100000) Try.func47 (c := bodyOf Try.f47) rfl (by kernel_rfl) Try.call47 (Nat.le_of_ble_eq_true rfl) (fun b => rfl) (fun _ => (g47_eq realA (100000) (fun v _ => some v) a).trans (show g47v realA a = _ from g47ok_spec hc))
  · cases h
/- engrosser/field.load -/
def g37O (A : Ar) : Orc := orcOf [(47, g47o A)]
theorem g37O_sound : OSound Try.prog (g37O realA) := orc_sound fun f g hm args v hv => by
  simp only [List.mem_cons, List.not_mem_nil, or_false, Prod.mk.injEq] at hm
  rcases hm with ⟨rfl, rfl⟩
  · exact g47o_sound _ _ hv
theorem g37O_det : ODet (g37O realA) := orc_det _
def g37an : Ann := [(0, ([0], [])), (1, ([1, 2], [1000, 1001])), (2, ([2, 3], [1001, 2031]))]
def g37res : List ResultVar := [.cell 2 44]
noncomputable def g37D {R : Type} (A : Ar) (n : Nat) (p : List Bool) (K : Ex → St → Option R) (s : St) : Option R := codeD A gtys (g37O A) g37an n (sub (bodyOf Try.f37) p) K s
noncomputable def g37Q {R : Type} (A : Ar) (n : Nat) (p : List Bool) (K : Ex → St → Option R) : Ex → St → Option R := seqC (g37D A n p K) K
noncomputable def g37T {R : Type} (kk : AV → Heap → Option R) : Ex → St → Option R := finD gtys g37res kk
theorem g37Qn {R : Type} (A : Ar) (n : Nat) (p : List Bool) (K : Ex → St → Option R) (s : St) : g37Q A n p K .normal s = g37D A n p K s := rfl
theorem g37F {R : Type} (A : Ar) (n : Nat) (p : List Bool) (i : Nat) (K : Ex → St → Option R) (s s' : St) (hf : firstReg (sub (bodyOf Try.f37) p) = some i) (h : keep g37an i s = keep g37an i s') : g37D A n p K s = g37D A n p K s' := codeD_first hf h K
section
variable {R : Type} (A : Ar) (n : Nat) (K : Ex → St → Option R) (s : St)
theorem g37p1 : g37D A n (pth 1) K s = g37D A n (pth 2) (g37Q A n (pth 3) K) s := by kernel_rfl
theorem g37p3 : g37D A n (pth 3) K s = g37D A n (pth 5) (g37Q A n (pth 7) K) s := by kernel_rfl
theorem g37p7 : g37D A n (pth 7) K s = g37D A n (pth 11) (g37Q A n (pth 15) K) s := by kernel_rfl
theorem g37p15 : g37D A n (pth 15) K s = K .ret s := by kernel_rfl
def g37R0s0 (A : Ar) (x0 : List Nat) : St := ⟨[(2, (pT 1001 0)), (1, (pT 1000 0)), (0, (aN .u64 4 x0))], [(1001, (bU 5 [0, 0, 0, 0, 0] 44)), (1000, (bU 4 x0 24))]⟩
theorem g37R0 (x0 : List Nat) : g37D A n (pth 2) K ⟨[(0, (aN .u64 4 x0))], []⟩ = K .normal (g37R0s0 A x0) := by kernel_rfl
def g37R1s0 (A : Ar) (x0 x1 : List Nat) : St := ⟨[(3, (pT 2031 0)), (34, (aN .u64 5 ((((([0, 0, 0, 0, 0].set 0 (A.nb .and .u64 (x0.getD 0 0) 2251799813685247)).set 1 (A.nb .and .u64 (A.nb .or .u64 (A.nsh .shr .u64 (x0.getD 0 0) 51) (A.nsh .shl .u64 (x0.getD 1 0) 13)) 2251799813685247)).set 2 (A.nb .and .u64 (A.nb .or .u64 (A.nsh .shr .u64 (x0.getD 1 0) 38) (A.nsh .shl .u64 (x0.getD 2 0) 26)) 2251799813685247)).set 3 (A.nb .and .u64 (A.nb .or .u64 (A.nsh .shr .u64 (x0.getD 2 0) 25) (A.nsh .shl .u64 (x0.getD 3 0) 39)) 2251799813685247)).set 4 (A.nsh .shr .u64 (x0.getD 3 0) 12)))), (33, (u64v (A.nsh .shr .u64 (x0.getD 3 0) 12))), (32, (u64v (x0.getD 3 0))), (31, (pT 1000 3)), (30, (u64v (A.nb .and .u64 (A.nb .or .u64 (A.nsh .shr .u64 (x0.getD 2 0) 25) (A.nsh .shl .u64 (x0.getD 3 0) 39)) 2251799813685247))), (29, (u64v (A.nb .or .u64 (A.nsh .shr .u64 (x0.getD 2 0) 25) (A.nsh .shl .u64 (x0.getD 3 0) 39)))), (28, (u64v (A.nsh .shl .u64 (x0.getD 3 0) 39))), (27, (u64v (x0.getD 3 0))), (26, (pT 1000 3)), (25, (u64v (A.nsh .shr .u64 (x0.getD 2 0) 25))), (24, (u64v (x0.getD 2 0))), (23, (pT 1000 2)), (22, (u64v (A.nb .and .u64 (A.nb .or .u64 (A.nsh .shr .u64 (x0.getD 1 0) 38) (A.nsh .shl .u64 (x0.getD 2 0) 26)) 2251799813685247))), (21, (u64v (A.nb .or .u64 (A.nsh .shr .u64 (x0.getD 1 0) 38) (A.nsh .shl .u64 (x0.getD 2 0) 26)))), (20, (u64v (A.nsh .shl .u64 (x0.getD 2 0) 26))), (19, (u64v (x0.getD 2 0))), (18, (pT 1000 2)), (17, (u64v (A.nsh .shr .u64 (x0.getD 1 0) 38))), (16, (u64v (x0.getD 1 0))), (15, (pT 1000 1)), (14, (u64v (A.nb .and .u64 (A.nb .or .u64 (A.nsh .shr .u64 (x0.getD 0 0) 51) (A.nsh .shl .u64 (x0.getD 1 0) 13)) 2251799813685247))), (13, (u64v (A.nb .or .u64 (A.nsh .shr .u64 (x0.getD 0 0) 51) (A.nsh .shl .u64 (x0.getD 1 0) 13)))), (12, (u64v (A.nsh .shl .u64 (x0.getD 1 0) 13))), (11, (u64v (x0.getD 1 0))), (10, (pT 1000 1)), (9, (u64v (A.nsh .shr .u64 (x0.getD 0 0) 51))), (8, (u64v (x0.getD 0 0))), (7, (pT 1000 0)), (6, (u64v (A.nb .and .u64 (x0.getD 0 0) 2251799813685247))), (5, (u64v (x0.getD 0 0))), (4, (pT 1000 0)), (1, (pT 1000 0)), (2, (pT 1001 0))], [(2031, (bU 5 ((((([0, 0, 0, 0, 0].set 0 (A.nb .and .u64 (x0.getD 0 0) 2251799813685247)).set 1 (A.nb .and .u64 (A.nb .or .u64 (A.nsh .shr .u64 (x0.getD 0 0) 51) (A.nsh .shl .u64 (x0.getD 1 0) 13)) 2251799813685247)).set 2 (A.nb .and .u64 (A.nb .or .u64 (A.nsh .shr .u64 (x0.getD 1 0) 38) (A.nsh .shl .u64 (x0.getD 2 0) 26)) 2251799813685247)).set 3 (A.nb .and .u64 (A.nb .or .u64 (A.nsh .shr .u64 (x0.getD 2 0) 25) (A.nsh .shl .u64 (x0.getD 3 0) 39)) 2251799813685247)).set 4 (A.nsh .shr .u64 (x0.getD 3 0) 12)) 44)), (1000, (bU 4 x0 24)), (1001, (bU 5 x1 44))]⟩
theorem g37R1 (x0 x1 : List Nat) : g37D A n (pth 5) K ⟨[(1, (pT 1000 0)), (2, (pT 1001 0))], [(1000, (bU 4 x0 24)), (1001, (bU 5 x1 44))]⟩ = K .normal (g37R1s0 A x0 x1) := by kernel_rfl
def g37R2s0 (A : Ar) (x0 x1 : List Nat) : St := ⟨[(36, (aN .u64 5 (g47r0 A x1))), (35, (aN .u64 5 x1)), (2, (pT 1001 0)), (3, (pT 2031 0))], [(1001, (bU 5 (g47r0 A x1) 44)), (2031, (bU 5 x1 44))]⟩
theorem g37R2 (x0 x1 : List Nat) : g37D A n (pth 11) K ⟨[(2, (pT 1001 0)), (3, (pT 2031 0))], [(1001, (bU 5 x0 44)), (2031, (bU 5 x1 44))]⟩ = match (generalizing := false) g47ok A x1 with
    | true => K .normal (g37R2s0 A x0 x1)
    | false => none := by kernel_rfl
end
def g37 {R : Type} (A : Ar) (n : Nat) (kk : AV → Heap → Option R) (a : List Nat) : Option R :=
  match (generalizing := false) g47ok A ((((([0, 0, 0, 0, 0].set 0 (A.nb .and .u64 (a.getD 0 0) 2251799813685247)).set 1 (A.nb .and .u64 (A.nb .or .u64 (A.nsh .shr .u64 (a.getD 0 0) 51) (A.nsh .shl .u64 (a.getD 1 0) 13)) 2251799813685247)).set 2 (A.nb .and .u64 (A.nb .or .u64 (A.nsh .shr .u64 (a.getD 1 0) 38) (A.nsh .shl .u64 (a.getD 2 0) 26)) 2251799813685247)).set 3 (A.nb .and .u64 (A.nb .or .u64 (A.nsh .shr .u64 (a.getD 2 0) 25) (A.nsh .shl .u64 (a.getD 3 0) 39)) 2251799813685247)).set 4 (A.nsh .shr .u64 (a.getD 3 0) 12)) with
  | true => kk (aN .u64 5 (g47r0 A ((((([0, 0, 0, 0, 0].set 0 (A.nb .and .u64 (a.getD 0 0) 2251799813685247)).set 1 (A.nb .and .u64 (A.nb .or .u64 (A.nsh .shr .u64 (a.getD 0 0) 51) (A.nsh .shl .u64 (a.getD 1 0) 13)) 2251799813685247)).set 2 (A.nb .and .u64 (A.nb .or .u64 (A.nsh .shr .u64 (a.getD 1 0) 38) (A.nsh .shl .u64 (a.getD 2 0) 26)) 2251799813685247)).set 3 (A.nb .and .u64 (A.nb .or .u64 (A.nsh .shr .u64 (a.getD 2 0) 25) (A.nsh .shl .u64 (a.getD 3 0) 39)) 2251799813685247)).set 4 (A.nsh .shr .u64 (a.getD 3 0) 12)))) [(1001, (bU 5 (g47r0 A ((((([0, 0, 0, 0, 0].set 0 (A.nb .and .u64 (a.getD 0 0) 2251799813685247)).set 1 (A.nb .and .u64 (A.nb .or .u64 (A.nsh .shr .u64 (a.getD 0 0) 51) (A.nsh .shl .u64 (a.getD 1 0) 13)) 2251799813685247)).set 2 (A.nb .and .u64 (A.nb .or .u64 (A.nsh .shr .u64 (a.getD 1 0) 38) (A.nsh .shl .u64 (a.getD 2 0) 26)) 2251799813685247)).set 3 (A.nb .and .u64 (A.nb .or .u64 (A.nsh .shr .u64 (a.getD 2 0) 25) (A.nsh .shl .u64 (a.getD 3 0) 39)) 2251799813685247)).set 4 (A.nsh .shr .u64 (a.getD 3 0) 12))) 44)), (2031, (bU 5 ((((([0, 0, 0, 0, 0].set 0 (A.nb .and .u64 (a.getD 0 0) 2251799813685247)).set 1 (A.nb .and .u64 (A.nb .or .u64 (A.nsh .shr .u64 (a.getD 0 0) 51) (A.nsh .shl .u64 (a.getD 1 0) 13)) 2251799813685247)).set 2 (A.nb .and .u64 (A.nb .or .u64 (A.nsh .shr .u64 (a.getD 1 0) 38) (A.nsh .shl .u64 (a.getD 2 0) 26)) 2251799813685247)).set 3 (A.nb .and .u64 (A.nb .or .u64 (A.nsh .shr .u64 (a.getD 2 0) 25) (A.nsh .shl .u64 (a.getD 3 0) 39)) 2251799813685247)).set 4 (A.nsh .shr .u64 (a.getD 3 0) 12)) 44))]
  | false => none
set_option maxRecDepth 100000 in
theorem g37_eq {R : Type} (A : Ar) (n : Nat) (kk : AV → Heap → Option R) (a : List Nat) :
    funD A gtys (g37O A) g37an n (bodyOf Try.f37) g37res [(aN .u64 4 a)] [] kk = g37 A n kk a := by
  have h1 : (g37T kk) .ret (g37R2s0 A [0, 0, 0, 0, 0] ((((([0, 0, 0, 0, 0].set 0 (A.nb .and .u64 (a.getD 0 0) 2251799813685247)).set 1 (A.nb .and .u64 (A.nb .or .u64 (A.nsh .shr .u64 (a.getD 0 0) 51) (A.nsh .shl .u64 (a.getD 1 0) 13)) 2251799813685247)).set 2 (A.nb .and .u64 (A.nb .or .u64 (A.nsh .shr .u64 (a.getD 1 0) 38) (A.nsh .shl .u64 (a.getD 2 0) 26)) 2251799813685247)).set 3 (A.nb .and .u64 (A.nb .or .u64 (A.nsh .shr .u64 (a.getD 2 0) 25) (A.nsh .shl .u64 (a.getD 3 0) 39)) 2251799813685247)).set 4 (A.nsh .shr .u64 (a.getD 3 0) 12))) = kk (aN .u64 5 (g47r0 A ((((([0, 0, 0, 0, 0].set 0 (A.nb .and .u64 (a.getD 0 0) 2251799813685247)).set 1 (A.nb .and .u64 (A.nb .or .u64 (A.nsh .shr .u64 (a.getD 0 0) 51) (A.nsh .shl .u64 (a.getD 1 0) 13)) 2251799813685247)).set 2 (A.nb .and .u64 (A.nb .or .u64 (A.nsh .shr .u64 (a.getD 1 0) 38) (A.nsh .shl .u64 (a.getD 2 0) 26)) 2251799813685247)).set 3 (A.nb .and .u64 (A.nb .or .u64 (A.nsh .shr .u64 (a.getD 2 0) 25) (A.nsh .shl .u64 (a.getD 3 0) 39)) 2251799813685247)).set 4 (A.nsh .shr .u64 (a.getD 3 0) 12)))) [(1001, (bU 5 (g47r0 A ((((([0, 0, 0, 0, 0].set 0 (A.nb .and .u64 (a.getD 0 0) 2251799813685247)).set 1 (A.nb .and .u64 (A.nb .or .u64 (A.nsh .shr .u64 (a.getD 0 0) 51) (A.nsh .shl .u64 (a.getD 1 0) 13)) 2251799813685247)).set 2 (A.nb .and .u64 (A.nb .or .u64 (A.nsh .shr .u64 (a.getD 1 0) 38) (A.nsh .shl .u64 (a.getD 2 0) 26)) 2251799813685247)).set 3 (A.nb .and .u64 (A.nb .or .u64 (A.nsh .shr .u64 (a.getD 2 0) 25) (A.nsh .shl .u64 (a.getD 3 0) 39)) 2251799813685247)).set 4 (A.nsh .shr .u64 (a.getD 3 0) 12))) 44)), (2031, (bU 5 ((((([0, 0, 0, 0, 0].set 0 (A.nb .and .u64 (a.getD 0 0) 2251799813685247)).set 1 (A.nb .and .u64 (A.nb .or .u64 (A.nsh .shr .u64 (a.getD 0 0) 51) (A.nsh .shl .u64 (a.getD 1 0) 13)) 2251799813685247)).set 2 (A.nb .and .u64 (A.nb .or .u64 (A.nsh .shr .u64 (a.getD 1 0) 38) (A.nsh .shl .u64 (a.getD 2 0) 26)) 2251799813685247)).set 3 (A.nb .and .u64 (A.nb .or .u64 (A.nsh .shr .u64 (a.getD 2 0) 25) (A.nsh .shl .u64 (a.getD 3 0) 39)) 2251799813685247)).set 4 (A.nsh .shr .u64 (a.getD 3 0) 12)) 44))] := by kernel_rfl
  have h2 := (g37p15 A n _ _).trans h1
  have h3 := (g37Qn A n _ _ _).trans h2
  have h4 := (g37F A n _ 2 _ (g37R1s0 A a [0, 0, 0, 0, 0]) _ (by kernel_rfl) (by kernel_rfl)).trans (g37R2 A n (g37Q A n (pth 15) (g37T kk)) [0, 0, 0, 0, 0] ((((([0, 0, 0, 0, 0].set 0 (A.nb .and .u64 (a.getD 0 0) 2251799813685247)).set 1 (A.nb .and .u64 (A.nb .or .u64 (A.nsh .shr .u64 (a.getD 0 0) 51) (A.nsh .shl .u64 (a.getD 1 0) 13)) 2251799813685247)).set 2 (A.nb .and .u64 (A.nb .or .u64 (A.nsh .shr .u64 (a.getD 1 0) 38) (A.nsh .shl .u64 (a.getD 2 0) 26)) 2251799813685247)).set 3 (A.nb .and .u64 (A.nb .or .u64 (A.nsh .shr .u64 (a.getD 2 0) 25) (A.nsh .shl .u64 (a.getD 3 0) 39)) 2251799813685247)).set 4 (A.nsh .shr .u64 (a.getD 3 0) 12)))
  rw [h3] at h4
  have h5 := (g37p7 A n _ _).trans h4
  have h6 := (g37Qn A n _ _ _).trans h5
  have h7 := (g37F A n _ 1 _ (g37R0s0 A a) _ (by kernel_rfl) (by kernel_rfl)).trans (g37R1 A n (g37Q A n (pth 7) (g37T kk)) a [0, 0, 0, 0, 0])
  rw [h6] at h7
  have h8 := (g37p3 A n _ _).trans h7
  have h9 := (g37Qn A n _ _ _).trans h8
  have h10 := (g37F A n _ 0 _ ⟨[(0, (aN .u64 4 a))], []⟩ _ (by kernel_rfl) (by kernel_rfl)).trans (g37R0 A n (g37Q A n (pth 3) (g37T kk)) a)
  rw [h9] at h10
  have h11 := (g37p1 A n _ _).trans h10
  exact (show funD A gtys (g37O A) g37an n (bodyOf Try.f37) g37res [(aN .u64 4 a)] [] kk = g37D A n (pth 1) (g37T kk) ⟨[(0, (aN .u64 4 a))], []⟩ from by kernel_rfl).trans (h11.trans (by kernel_rfl))
def g37is (o : Option AV) : Bool := match o with
  | some (aN .u64 5 _) => true
  | _ => false
def g37g0 (o : Option AV) : List Nat := match o with
  | some (aN .u64 5 x) => x
  | _ => []
theorem g37is_spec {o : Option AV} (h : g37is o = true) : o = some (aN .u64 5 (g37g0 o)) := by
  unfold g37is at h
  split at h
  · rfl
  · cases h
def g37v (A : Ar) (a : List Nat) : Option AV := g37 A (100000) (fun v _ => some v) a
def g37ok (A : Ar) (a : List Nat) : Bool := g37is (g37v A a)
def g37r0 (A : Ar) (a : List Nat) : List Nat := g37g0 (g37v A a)
theorem g37ok_spec {A : Ar} {a} (h : g37ok A a = true) : g37v A a = some (aN .u64 5 (g37r0 A a)) := g37is_spec h
def g37o (A : Ar) (args : List AV) : Option (Bool × AV) := match args with
  | [.v (.agg [.nums .u64 n0 a])] => some (Nat.beq n0 4 && (g37ok A a), .v (.agg [.nums .u64 5 (g37r0 A a)]))
  | _ => none
theorem g37o_sound : ∀ args v, g37o realA args = some (true, v) → Fn1 Try.prog 37 args v := by
  intro args v h
  unfold g37o at h
  split at h
  · rename_i n0 a
    simp only [Option.some.injEq, Prod.mk.injEq] at h
    obtain ⟨hc, h⟩ := h
    subst h
    · skip
      simp only [Bool.and_eq_true] at hc
      have en0 := beq_true hc.1
      subst en0
      replace hc := hc.2
      exact fn1_of mixed gtysOK g37O_sound g37O_det (an := g37an) (n := 100000) Try.func37 (c := bodyOf Try.f37) rfl (by kernel_rfl) Try.call37 (Nat.le_of_ble_eq_true rfl) (fun b => rfl) (fun _ => (g37_eq realA (100000) (fun v _ => some v) a).trans (show g37v realA a = _ from g37ok_spec hc))
  · cases h
/- math/bits.Mul64 -/
def g52O (A : Ar) : Orc := orcOf []
theorem g52O_sound : OSound Try.prog (g52O realA) := orc_sound fun f g hm args v hv => by
  cases hm
theorem g52O_det : ODet (g52O realA) := orc_det _
def g52an : Ann := [(0, ([0, 1], [])), (1, ([0, 1], [])), (2, ([0, 1, 6], [])), (3, ([0, 1, 6, 7], [])), (4, ([0, 1, 6, 7, 8], [])), (5, ([0, 1, 6, 7, 8, 9], [])), (6, ([0, 1, 6, 7, 8, 9, 10], [])), (7, ([0, 1, 6, 7, 9, 11], [])), (8, ([0, 1, 6, 7, 9, 11, 12], [])), (9, ([0, 1, 6, 7, 9, 12, 13], [])), (10, ([0, 1, 7, 9, 12, 13], [])), (11, ([0, 1, 4], []))]
def g52res : List ResultVar := [.tmp 4, .tmp 5]
noncomputable def g52D {R : Type} (A : Ar) (n : Nat) (p : List Bool) (K : Ex → St → Option R) (s : St) : Option R := codeD A gtys (g52O A) g52an n (sub (bodyOf Try.f52) p) K s
noncomputable def g52Q {R : Type} (A : Ar) (n : Nat) (p : List Bool) (K : Ex → St → Option R) : Ex → St → Option R := seqC (g52D A n p K) K
noncomputable def g52T {R : Type} (kk : AV → Heap → Option R) : Ex → St → Option R := finD gtys g52res kk
theorem g52Qn {R : Type} (A : Ar) (n : Nat) (p : List Bool) (K : Ex → St → Option R) (s : St) : g52Q A n p K .normal s = g52D A n p K s := rfl
theorem g52F {R : Type} (A : Ar) (n : Nat) (p : List Bool) (i : Nat) (K : Ex → St → Option R) (s s' : St) (hf : firstReg (sub (bodyOf Try.f52) p) = some i) (h : keep g52an i s = keep g52an i s') : g52D A n p K s = g52D A n p K s' := codeD_first hf h K
section
variable {R : Type} (A : Ar) (n : Nat) (K : Ex → St → Option R) (s : St)
theorem g52p1 : g52D A n (pth 1) K s = g52D A n (pth 2) (g52Q A n (pth 3) K) s := by kernel_rfl
theorem g52p3 : g52D A n (pth 3) K s = g52D A n (pth 5) (g52Q A n (pth 7) K) s := by kernel_rfl
theorem g52p7 : g52D A n (pth 7) K s = g52D A n (pth 11) (g52Q A n (pth 15) K) s := by kernel_rfl
theorem g52p15 : g52D A n (pth 15) K s = g52D A n (pth 23) (g52Q A n (pth 31) K) s := by kernel_rfl
theorem g52p31 : g52D A n (pth 31) K s = g52D A n (pth 47) (g52Q A n (pth 63) K) s := by kernel_rfl
theorem g52p63 : g52D A n (pth 63) K s = g52D A n (pth 95) (g52Q A n (pth 127) K) s := by kernel_rfl
theorem g52p127 : g52D A n (pth 127) K s = g52D A n (pth 191) (g52Q A n (pth 255) K) s := by kernel_rfl
theorem g52p255 : g52D A n (pth 255) K s = g52D A n (pth 383) (g52Q A n (pth 511) K) s := by kernel_rfl
theorem g52p511 : g52D A n (pth 511) K s = g52D A n (pth 767) (g52Q A n (pth 1023) K) s := by kernel_rfl
theorem g52p1023 : g52D A n (pth 1023) K s = g52D A n (pth 1535) (g52Q A n (pth 2047) K) s := by kernel_rfl
theorem g52p2047 : g52D A n (pth 2047) K s = g52D A n (pth 3071) (g52Q A n (pth 4095) K) s := by kernel_rfl
theorem g52p4095 : g52D A n (pth 4095) K s = g52D A n (pth 6143) (g52Q A n (pth 8191) K) s := by kernel_rfl
theorem g52p8191 : g52D A n (pth 8191) K s = K .ret s := by kernel_rfl
def g52R0s0 (A : Ar) (x0 x1 : Nat) : St := ⟨[(5, (u64v 0)), (4, (u64v 0)), (0, (u64v x0)), (1, (u64v x1))], []⟩
theorem g52R0 (x0 x1 : Nat) : g52D A n (pth 2) K ⟨[(0, (u64v x0)), (1, (u64v x1))], []⟩ = K .normal (g52R0s0 A x0 x1) := by kernel_rfl
def g52R1s0 (A : Ar) (x0 x1 : Nat) : St := ⟨[(6, (u64v (A.nb .and .u64 x0 4294967295))), (15, (u64v (A.nb .and .u64 x0 4294967295))), (14, (u64v x0)), (0, (u64v x0)), (1, (u64v x1))], []⟩
theorem g52R1 (x0 x1 : Nat) : g52D A n (pth 5) K ⟨[(0, (u64v x0)), (1, (u64v x1))], []⟩ = K .normal (g52R1s0 A x0 x1) := by kernel_rfl
def g52R2s0 (A : Ar) (x0 x1 x2 : Nat) : St := ⟨[(7, (u64v (A.nsh .shr .u64 x0 32))), (17, (u64v (A.nsh .shr .u64 x0 32))), (16, (u64v x0)), (0, (u64v x0)), (1, (u64v x1)), (6, (u64v x2))], []⟩
theorem g52R2 (x0 x1 x2 : Nat) : g52D A n (pth 11) K ⟨[(0, (u64v x0)), (1, (u64v x1)), (6, (u64v x2))], []⟩ = K .normal (g52R2s0 A x0 x1 x2) := by kernel_rfl
def g52R3s0 (A : Ar) (x0 x1 : Nat) (x2 x3 : Nat) : St := ⟨[(8, (u64v (A.nb .and .u64 x1 4294967295))), (19, (u64v (A.nb .and .u64 x1 4294967295))), (18, (u64v x1)), (0, (u64v x0)), (1, (u64v x1)), (6, (u64v x2)), (7, (u64v x3))], []⟩
theorem g52R3 (x0 x1 : Nat) (x2 x3 : Nat) : g52D A n (pth 23) K ⟨[(0, (u64v x0)), (1, (u64v x1)), (6, (u64v x2)), (7, (u64v x3))], []⟩ = K .normal (g52R3s0 A x0 x1 x2 x3) := by kernel_rfl
def g52R4s0 (A : Ar) (x0 x1 : Nat) (x2 x3 x4 : Nat) : St := ⟨[(9, (u64v (A.nsh .shr .u64 x1 32))), (21, (u64v (A.nsh .shr .u64 x1 32))), (20, (u64v x1)), (0, (u64v x0)), (1, (u64v x1)), (6, (u64v x2)), (7, (u64v x3)), (8, (u64v x4))], []⟩
theorem g52R4 (x0 x1 : Nat) (x2 x3 x4 : Nat) : g52D A n (pth 47) K ⟨[(0, (u64v x0)), (1, (u64v x1)), (6, (u64v x2)), (7, (u64v x3)), (8, (u64v x4))], []⟩ = K .normal (g52R4s0 A x0 x1 x2 x3 x4) := by kernel_rfl
def g52R5s0 (A : Ar) (x0 x1 : Nat) (x2 x3 : Nat) (x4 x5 : Nat) : St := ⟨[(10, (u64v (A.nb .mul .u64 x2 x4))), (24, (u64v (A.nb .mul .u64 x2 x4))), (23, (u64v x4)), (22, (u64v x2)), (0, (u64v x0)), (1, (u64v x1)), (6, (u64v x2)), (7, (u64v x3)), (8, (u64v x4)), (9, (u64v x5))], []⟩
theorem g52R5 (x0 x1 : Nat) (x2 x3 : Nat) (x4 x5 : Nat) : g52D A n (pth 95) K ⟨[(0, (u64v x0)), (1, (u64v x1)), (6, (u64v x2)), (7, (u64v x3)), (8, (u64v x4)), (9, (u64v x5))], []⟩ = K .normal (g52R5s0 A x0 x1 x2 x3 x4 x5) := by kernel_rfl
def g52R6s0 (A : Ar) (x0 x1 : Nat) (x2 x3 : Nat) (x4 x5 x6 : Nat) : St := ⟨[(11, (u64v (A.nb .add .u64 (A.nb .mul .u64 x3 x4) (A.nsh .shr .u64 x6 32)))), (30, (u64v (A.nb .add .u64 (A.nb .mul .u64 x3 x4) (A.nsh .shr .u64 x6 32)))), (29, (u64v (A.nsh .shr .u64 x6 32))), (28, (u64v x6)), (27, (u64v (A.nb .mul .u64 x3 x4))), (26, (u64v x4)), (25, (u64v x3)), (0, (u64v x0)), (1, (u64v x1)), (6, (u64v x2)), (7, (u64v x3)), (8, (u64v x4)), (9, (u64v x5)), (10, (u64v x6))], []⟩
theorem g52R6 (x0 x1 : Nat) (x2 x3 : Nat) (x4 x5 x6 : Nat) : g52D A n (pth 191) K ⟨[(0, (u64v x0)), (1, (u64v x1)), (6, (u64v x2)), (7, (u64v x3)), (8, (u64v x4)), (9, (u64v x5)), (10, (u64v x6))], []⟩ = K .normal (g52R6s0 A x0 x1 x2 x3 x4 x5 x6) := by kernel_rfl
def g52R7s0 (A : Ar) (x0 x1 : Nat) (x2 x3 : Nat) (x4 x5 : Nat) : St := ⟨[(12, (u64v (A.nb .and .u64 x5 4294967295))), (32, (u64v (A.nb .and .u64 x5 4294967295))), (31, (u64v x5)), (0, (u64v x0)), (1, (u64v x1)), (6, (u64v x2)), (7, (u64v x3)), (9, (u64v x4)), (11, (u64v x5))], []⟩
theorem g52R7 (x0 x1 : Nat) (x2 x3 : Nat) (x4 x5 : Nat) : g52D A n (pth 383) K ⟨[(0, (u64v x0)), (1, (u64v x1)), (6, (u64v x2)), (7, (u64v x3)), (9, (u64v x4)), (11, (u64v x5))], []⟩ = K .normal (g52R7s0 A x0 x1 x2 x3 x4 x5) := by kernel_rfl
def g52R8s0 (A : Ar) (x0 x1 : Nat) (x2 x3 : Nat) (x4 x5 x6 : Nat) : St := ⟨[(13, (u64v (A.nsh .shr .u64 x5 32))), (34, (u64v (A.nsh .shr .u64 x5 32))), (33, (u64v x5)), (0, (u64v x0)), (1, (u64v x1)), (6, (u64v x2)), (7, (u64v x3)), (9, (u64v x4)), (11, (u64v x5)), (12, (u64v x6))], []⟩
theorem g52R8 (x0 x1 : Nat) (x2 x3 : Nat) (x4 x5 x6 : Nat) : g52D A n (pth 767) K ⟨[(0, (u64v x0)), (1, (u64v x1)), (6, (u64v x2)), (7, (u64v x3)), (9, (u64v x4)), (11, (u64v x5)), (12, (u64v x6))], []⟩ = K .normal (g52R8s0 A x0 x1 x2 x3 x4 x5 x6) := by kernel_rfl
def g52R9s0 (A : Ar) (x0 x1 : Nat) (x2 x3 : Nat) (x4 x5 x6 : Nat) : St := ⟨[(12, (u64v (A.nb .add .u64 x5 (A.nb .mul .u64 x2 x4)))), (39, (u64v (A.nb .add .u64 x5 (A.nb .mul .u64 x2 x4)))), (38, (u64v (A.nb .mul .u64 x2 x4))), (37, (u64v x4)), (36, (u64v x2)), (35, (u64v x5)), (0, (u64v x0)), (1, (u64v x1)), (6, (u64v x2)), (7, (u64v x3)), (9, (u64v x4)), (12, (u64v x5)), (13, (u64v x6))], []⟩
theorem g52R9 (x0 x1 : Nat) (x2 x3 : Nat) (x4 x5 x6 : Nat) : g52D A n (pth 1535) K ⟨[(0, (u64v x0)), (1, (u64v x1)), (6, (u64v x2)), (7, (u64v x3)), (9, (u64v x4)), (12, (u64v x5)), (13, (u64v x6))], []⟩ = K .normal (g52R9s0 A x0 x1 x2 x3 x4 x5 x6) := by kernel_rfl
def g52R10s0 (A : Ar) (x0 x1 : Nat) (x2 x3 : Nat) (x4 x5 : Nat) : St := ⟨[(4, (u64v (A.nb .add .u64 (A.nb .add .u64 (A.nb .mul .u64 x2 x3) x5) (A.nsh .shr .u64 x4 32)))), (47, (u64v (A.nb .add .u64 (A.nb .add .u64 (A.nb .mul .u64 x2 x3) x5) (A.nsh .shr .u64 x4 32)))), (46, (u64v (A.nsh .shr .u64 x4 32))), (45, (u64v x4)), (44, (u64v (A.nb .add .u64 (A.nb .mul .u64 x2 x3) x5))), (43, (u64v x5)), (42, (u64v (A.nb .mul .u64 x2 x3))), (41, (u64v x3)), (40, (u64v x2)), (0, (u64v x0)), (1, (u64v x1)), (7, (u64v x2)), (9, (u64v x3)), (12, (u64v x4)), (13, (u64v x5))], []⟩
theorem g52R10 (x0 x1 : Nat) (x2 x3 : Nat) (x4 x5 : Nat) : g52D A n (pth 3071) K ⟨[(0, (u64v x0)), (1, (u64v x1)), (7, (u64v x2)), (9, (u64v x3)), (12, (u64v x4)), (13, (u64v x5))], []⟩ = K .normal (g52R10s0 A x0 x1 x2 x3 x4 x5) := by kernel_rfl
def g52R11s0 (A : Ar) (x0 x1 x2 : Nat) : St := ⟨[(5, (u64v (A.nb .mul .u64 x0 x1))), (50, (u64v (A.nb .mul .u64 x0 x1))), (49, (u64v x1)), (48, (u64v x0)), (0, (u64v x0)), (1, (u64v x1)), (4, (u64v x2))], []⟩
theorem g52R11 (x0 x1 x2 : Nat) : g52D A n (pth 6143) K ⟨[(0, (u64v x0)), (1, (u64v x1)), (4, (u64v x2))], []⟩ = K .normal (g52R11s0 A x0 x1 x2) := by kernel_rfl
end
def g52 {R : Type} (A : Ar) (n : Nat) (kk : AV → Heap → Option R) (a b : Nat) : Option R :=
  kk (.tup [(.cell (.nat .u64 (A.nb .add .u64 (A.nb .add .u64 (A.nb .mul .u64 (A.nsh .shr .u64 a 32) (A.nsh .shr .u64 b 32)) (A.nsh .shr .u64 (A.nb .add .u64 (A.nb .mul .u64 (A.nsh .shr .u64 a 32) (A.nb .and .u64 b 4294967295)) (A.nsh .shr .u64 (A.nb .mul .u64 (A.nb .and .u64 a 4294967295) (A.nb .and .u64 b 4294967295)) 32)) 32)) (A.nsh .shr .u64 (A.nb .add .u64 (A.nb .and .u64 (A.nb .add .u64 (A.nb .mul .u64 (A.nsh .shr .u64 a 32) (A.nb .and .u64 b 4294967295)) (A.nsh .shr .u64 (A.nb .mul .u64 (A.nb .and .u64 a 4294967295) (A.nb .and .u64 b 4294967295)) 32)) 4294967295) (A.nb .mul .u64 (A.nb .and .u64 a 4294967295) (A.nsh .shr .u64 b 32))) 32)))), (.cell (.nat .u64 (A.nb .mul .u64 a b)))]) []
set_option maxRecDepth 100000 in
theorem g52_eq {R : Type} (A : Ar) (n : Nat) (kk : AV → Heap → Option R) (a b : Nat) :
    funD A gtys (g52O A) g52an n (bodyOf Try.f52) g52res [(u64v a), (u64v b)] [] kk = g52 A n kk a b := by
  have h1 : (g52T kk) .ret (g52R11s0 A a b (A.nb .add .u64 (A.nb .add .u64 (A.nb .mul .u64 (A.nsh .shr .u64 a 32) (A.nsh .shr .u64 b 32)) (A.nsh .shr .u64 (A.nb .add .u64 (A.nb .mul .u64 (A.nsh .shr .u64 a 32) (A.nb .and .u64 b 4294967295)) (A.nsh .shr .u64 (A.nb .mul .u64 (A.nb .and .u64 a 4294967295) (A.nb .and .u64 b 4294967295)) 32)) 32)) (A.nsh .shr .u64 (A.nb .add .u64 (A.nb .and .u64 (A.nb .add .u64 (A.nb .mul .u64 (A.nsh .shr .u64 a 32) (A.nb .and .u64 b 4294967295)) (A.nsh .shr .u64 (A.nb .mul .u64 (A.nb .and .u64 a 4294967295) (A.nb .and .u64 b 4294967295)) 32)) 4294967295) (A.nb .mul .u64 (A.nb .and .u64 a 4294967295) (A.nsh .shr .u64 b 32))) 32))) = kk (.tup [(.cell (.nat .u64 (A.nb .add .u64 (A.nb .add .u64 (A.nb .mul .u64 (A.nsh .shr .u64 a 32) (A.nsh .shr .u64 b 32)) (A.nsh .shr .u64 (A.nb .add .u64 (A.nb .mul .u64 (A.nsh .shr .u64 a 32) (A.nb .and .u64 b 4294967295)) (A.nsh .shr .u64 (A.nb .mul .u64 (A.nb .and .u64 a 4294967295) (A.nb .and .u64 b 4294967295)) 32)) 32)) (A.nsh .shr .u64 (A.nb .add .u64 (A.nb .and .u64 (A.nb .add .u64 (A.nb .mul .u64 (A.nsh .shr .u64 a 32) (A.nb .and .u64 b 4294967295)) (A.nsh .shr .u64 (A.nb .mul .u64 (A.nb .and .u64 a 4294967295) (A.nb .and .u64 b 4294967295)) 32)) 4294967295) (A.nb .mul .u64 (A.nb .and .u64 a 4294967295) (A.nsh .shr .u64 b 32))) 32)))), (.cell (.nat .u64 (A.nb .mul .u64 a b)))]) [] := by kernel_rfl
  have h2 := (g52p8191 A n _ _).trans h1
  have h3 := (g52Qn A n _ _ _).trans h2
  have h4 := (g52F A n _ 11 _ (g52R10s0 A a b (A.nsh .shr .u64 a 32) (A.nsh .shr .u64 b 32) (A.nb .add .u64 (A.nb .and .u64 (A.nb .add .u64 (A.nb .mul .u64 (A.nsh .shr .u64 a 32) (A.nb .and .u64 b 4294967295)) (A.nsh .shr .u64 (A.nb .mul .u64 (A.nb .and .u64 a 4294967295) (A.nb .and .u64 b 4294967295)) 32)) 4294967295) (A.nb .mul .u64 (A.nb .and .u64 a 4294967295) (A.nsh .shr .u64 b 32))) (A.nsh .shr .u64 (A.nb .add .u64 (A.nb .mul .u64 (A.nsh .shr .u64 a 32) (A.nb .and .u64 b 4294967295)) (A.nsh .shr .u64 (A.nb .mul .u64 (A.nb .and .u64 a 4294967295) (A.nb .and .u64 b 4294967295)) 32)) 32)) _ (by kernel_rfl) (by kernel_rfl)).trans (g52R11 A n (g52Q A n (pth 8191) (g52T kk)) a b (A.nb .add .u64 (A.nb .add .u64 (A.nb .mul .u64 (A.nsh .shr .u64 a 32) (A.nsh .shr .u64 b 32)) (A.nsh .shr .u64 (A.nb .add .u64 (A.nb .mul .u64 (A.nsh .shr .u64 a 32) (A.nb .and .u64 b 4294967295)) (A.nsh .shr .u64 (A.nb .mul .u64 (A.nb .and .u64 a 4294967295) (A.nb .and .u64 b 4294967295)) 32)) 32)) (A.nsh .shr .u64 (A.nb .add .u64 (A.nb .and .u64 (A.nb .add .u64 (A.nb .mul .u64 (A.nsh .shr .u64 a 32) (A.nb .and .u64 b 4294967295)) (A.nsh .shr .u64 (A.nb .mul .u64 (A.nb .and .u64 a 4294967295) (A.nb .and .u64 b 4294967295)) 32)) 4294967295) (A.nb .mul .u64 (A.nb .and .u64 a 4294967295) (A.nsh .shr .u64 b 32))) 32)))
  rw [h3] at h4
  have h5 := (g52p4095 A n _ _).trans h4
  have h6 := (g52Qn A n _ _ _).trans h5
  have h7 := (g52F A n _ 10 _ (g52R9s0 A a b (A.nb .and .u64 a 4294967295) (A.nsh .shr .u64 a 32) (A.nsh .shr .u64 b 32) (A.nb .and .u64 (A.nb .add .u64 (A.nb .mul .u64 (A.nsh .shr .u64 a 32) (A.nb .and .u64 b 4294967295)) (A.nsh .shr .u64 (A.nb .mul .u64 (A.nb .and .u64 a 4294967295) (A.nb .and .u64 b 4294967295)) 32)) 4294967295) (A.nsh .shr .u64 (A.nb .add .u64 (A.nb .mul .u64 (A.nsh .shr .u64 a 32) (A.nb .and .u64 b 4294967295)) (A.nsh .shr .u64 (A.nb .mul .u64 (A.nb .and .u64 a 4294967295) (A.nb .and .u64 b 4294967295)) 32)) 32)) _ (by kernel_rfl) (by kernel_rfl)).trans (g52R10 A n (g52Q A n (pth 4095) (g52T kk)) a b (A.nsh .shr .u64 a 32) (A.nsh .shr .u64 b 32) (A.nb .add .u64 (A.nb .and .u64 (A.nb .add .u64 (A.nb .mul .u64 (A.nsh .shr .u64 a 32) (A.nb .and .u64 b 4294967295)) (A.nsh .shr .u64 (A.nb .mul .u64 (A.nb .and .u64 a 4294967295) (A.nb .and .u64 b 4294967295)) 32)) 4294967295) (A.nb .mul .u64 (A.nb .and .u64 a 4294967295) (A.nsh .shr .u64 b 32))) (A.nsh .shr .u64 (A.nb .add .u64 (A.nb .mul .u64 (A.nsh .shr .u64 a 32) (A.nb .and .u64 b 4294967295)) (A.nsh .shr .u64 (A.nb .mul .u64 (A.nb .and .u64 a 4294967295) (A.nb .and .u64 b 4294967295)) 32)) 32))
  rw [h6] at h7
  have h8 := (g52p2047 A n _ _).trans h7
  have h9 := (g52Qn A n _ _ _).trans h8
  have h10 := (g52F A n _ 9 _ (g52R8s0 A a b (A.nb .and .u64 a 4294967295) (A.nsh .shr .u64 a 32) (A.nsh .shr .u64 b 32) (A.nb .add .u64 (A.nb .mul .u64 (A.nsh .shr .u64 a 32) (A.nb .and .u64 b 4294967295)) (A.nsh .shr .u64 (A.nb .mul .u64 (A.nb .and .u64 a 4294967295) (A.nb .and .u64 b 4294967295)) 32)) (A.nb .and .u64 (A.nb .add .u64 (A.nb .mul .u64 (A.nsh .shr .u64 a 32) (A.nb .and .u64 b 4294967295)) (A.nsh .shr .u64 (A.nb .mul .u64 (A.nb .and .u64 a 4294967295) (A.nb .and .u64 b 4294967295)) 32)) 4294967295)) _ (by kernel_rfl) (by kernel_rfl)).trans (g52R9 A n (g52Q A n (pth 2047) (g52T kk)) a b (A.nb .and .u64 a 4294967295) (A.nsh .shr .u64 a 32) (A.nsh .shr .u64 b 32) (A.nb .and .u64 (A.nb .add .u64 (A.nb .mul .u64 (A.nsh .shr .u64 a 32) (A.nb .and .u64 b 4294967295)) (A.nsh .shr .u64 (A.nb .mul .u64 (A.nb .and .u64 a 4294967295) (A.nb .and .u64 b 4294967295)) 32)) 4294967295) (A.nsh .shr .u64 (A.nb .add .u64 (A.nb .mul .u64 (A.nsh .shr .u64 a 32) (A.nb .and .u64 b 4294967295)) (A.nsh .shr .u64 (A.nb .mul .u64 (A.nb .and .u64 a 4294967295) (A.nb .and .u64 b 4294967295)) 32)) 32))
  rw [h9] at h10
  have h11 := (g52p1023 A n _ _).trans h10
  have h12 := (g52Qn A n _ _ _).trans h11
  have h13 := (g52F A n _ 8 _ (g52R7s0 A a b (A.nb .and .u64 a 4294967295) (A.nsh .shr .u64 a 32) (A.nsh .shr .u64 b 32) (A.nb .add .u64 (A.nb .mul .u64 (A.nsh .shr .u64 a 32) (A.nb .and .u64 b 4294967295)) (A.nsh .shr .u64 (A.nb .mul .u64 (A.nb .and .u64 a 4294967295) (A.nb .and .u64 b 4294967295)) 32))) _ (by kernel_rfl) (by kernel_rfl)).trans (g52R8 A n (g52Q A n (pth 1023) (g52T kk)) a b (A.nb .and .u64 a 4294967295) (A.nsh .shr .u64 a 32) (A.nsh .shr .u64 b 32) (A.nb .add .u64 (A.nb .mul .u64 (A.nsh .shr .u64 a 32) (A.nb .and .u64 b 4294967295)) (A.nsh .shr .u64 (A.nb .mul .u64 (A.nb .and .u64 a 4294967295) (A.nb .and .u64 b 4294967295)) 32)) (A.nb .and .u64 (A.nb .add .u64 (A.nb .mul .u64 (A.nsh .shr .u64 a 32) (A.nb .and .u64 b 4294967295)) (A.nsh .shr .u64 (A.nb .mul .u64 (A.nb .and .u64 a 4294967295) (A.nb .and .u64 b 4294967295)) 32)) 4294967295))
  rw [h12] at h13
  have h14 := (g52p511 A n _ _).trans h13
  have h15 := (g52Qn A n _ _ _).trans h14
  have h16 := (g52F A n _ 7 _ (g52R6s0 A a b (A.nb .and .u64 a 4294967295) (A.nsh .shr .u64 a 32) (A.nb .and .u64 b 4294967295) (A.nsh .shr .u64 b 32) (A.nb .mul .u64 (A.nb .and .u64 a 4294967295) (A.nb .and .u64 b 4294967295))) _ (by kernel_rfl) (by kernel_rfl)).trans (g52R7 A n (g52Q A n (pth 511) (g52T kk)) a b (A.nb .and .u64 a 4294967295) (A.nsh .shr .u64 a 32) (A.nsh .shr .u64 b 32) (A.nb .add .u64 (A.nb .mul .u64 (A.nsh .shr .u64 a 32) (A.nb .and .u64 b 4294967295)) (A.nsh .shr .u64 (A.nb .mul .u64 (A.nb .and .u64 a 4294967295) (A.nb .and .u64 b 4294967295)) 32)))
  rw [h15] at h16
  have h17 := (g52p255 A n _ _).trans h16
  have h18 := (g52Qn A n _ _ _).trans h17
  have h19 := (g52F A n _ 6 _ (g52R5s0 A a b (A.nb .and .u64 a 4294967295) (A.nsh .shr .u64 a 32) (A.nb .and .u64 b 4294967295) (A.nsh .shr .u64 b 32)) _ (by kernel_rfl) (by kernel_rfl)).trans (g52R6 A n (g52Q A n (pth 255) (g52T kk)) a b (A.nb .and .u64 a 4294967295) (A.nsh .shr .u64 a 32) (A.nb .and .u64 b 4294967295) (A.nsh .shr .u64 b 32) (A.nb .mul .u64 (A.nb .and .u64 a 4294967295) (A.nb .and .u64 b 4294967295)))
  rw [h18] at h19
  have h20 := (g52p127 A n _ _).trans h19
  have h21 := (g52Qn A n _ _ _).trans h20
  have h22 := (g52F A n _ 5 _ (g52R4s0 A a b (A.nb .and .u64 a 4294967295) (A.nsh .shr .u64 a 32) (A.nb .and .u64 b 4294967295)) _ (by kernel_rfl) (by kernel_rfl)).trans (g52R5 A n (g52Q A n (pth 127) (g52T kk)) a b (A.nb .and .u64 a 4294967295) (A.nsh .shr .u64 a 32) (A.nb .and .u64 b 4294967295) (A.nsh .shr .u64 b 32))
  rw [h21] at h22
  have h23 := (g52p63 A n _ _).trans h22
  have h24 := (g52Qn A n _ _ _).trans h23
  have h25 := (g52F A n _ 4 _ (g52R3s0 A a b (A.nb .and .u64 a 4294967295) (A.nsh .shr .u64 a 32)) _ (by kernel_rfl) (by kernel_rfl)).trans (g52R4 A n (g52Q A n (pth 63) (g52T kk)) a b (A.nb .and .u64 a 4294967295) (A.nsh .shr .u64 a 32) (A.nb .and .u64 b 4294967295))
  rw [h24] at h25
  have h26 := (g52p31 A n _ _).trans h25
  have h27 := (g52Qn A n _ _ _).trans h26
  have h28 := (g52F A n _ 3 _ (g52R2s0 A a b (A.nb .and .u64 a 4294967295)) _ (by kernel_rfl) (by kernel_rfl)).trans (g52R3 A n (g52Q A n (pth 31) (g52T kk)) a b (A.nb .and .u64 a 4294967295) (A.nsh .shr .u64 a 32))
  rw [h27] at h28
  have h29 := (g52p15 A n _ _).trans h28
  have h30 := (g52Qn A n _ _ _).trans h29
  have h31 := (g52F A n _ 2 _ (g52R1s0 A a b) _ (by kernel_rfl) (by kernel_rfl)).trans (g52R2 A n (g52Q A n (pth 15) (g52T kk)) a b (A.nb .and .u64 a 4294967295))
  rw [h30] at h31
  have h32 := (g52p7 A n _ _).trans h31
  have h33 := (g52Qn A n _ _ _).trans h32
  have h34 := (g52F A n _ 1 _ (g52R0s0 A a b) _ (by kernel_rfl) (by kernel_rfl)).trans (g52R1 A n (g52Q A n (pth 7) (g52T kk)) a b)
  rw [h33] at h34
  have h35 := (g52p3 A n _ _).trans h34
  have h36 := (g52Qn A n _ _ _).trans h35
  have h37 := (g52F A n _ 0 _ ⟨[(0, (u64v a)), (1, (u64v b))], []⟩ _ (by kernel_rfl) (by kernel_rfl)).trans (g52R0 A n (g52Q A n (pth 3) (g52T kk)) a b)
  rw [h36] at h37
  have h38 := (g52p1 A n _ _).trans h37
  exact (show funD A gtys (g52O A) g52an n (bodyOf Try.f52) g52res [(u64v a), (u64v b)] [] kk = g52D A n (pth 1) (g52T kk) ⟨[(0, (u64v a)), (1, (u64v b))], []⟩ from by kernel_rfl).trans (h38.trans (by kernel_rfl))
def g52is (o : Option AV) : Bool := match o with
  | some (.tup [.cell (.nat .u64 _), .cell (.nat .u64 _)]) => true
  | _ => false
def g52g0 (o : Option AV) : Nat := match o with
  | some (.tup [.cell (.nat .u64 x), .cell (.nat .u64 _)]) => x
  | _ => 0
def g52g1 (o : Option AV) : Nat := match o with
  | some (.tup [.cell (.nat .u64 _), .cell (.nat .u64 x)]) => x
  | _ => 0
theorem g52is_spec {o : Option AV} (h : g52is o = true) : o = some (.tup [.cell (.nat .u64 (g52g0 o)), .cell (.nat .u64 (g52g1 o))]) := by
  unfold g52is at h
  split at h
  · rfl
  · cases h
def g52v (A : Ar) (a b : Nat) : Option AV := g52 A (100000) (fun v _ => some v) a b
def g52ok (A : Ar) (a b : Nat) : Bool := g52is (g52v A a b)
def g52r0 (A : Ar) (a b : Nat) : Nat := g52g0 (g52v A a b)
def g52r1 (A : Ar) (a b : Nat) : Nat := g52g1 (g52v A a b)
theorem g52ok_spec {A : Ar} {a b} (h : g52ok A a b = true) : g52v A a b = some (.tup [.cell (.nat .u64 (g52r0 A a b)), .cell (.nat .u64 (g52r1 A a b))]) := g52is_spec h
def g52o (A : Ar) (args : List AV) : Option (Bool × AV) := match args with
  | [.v (.cell (.nat .u64 a)), .v (.cell (.nat .u64 b))] => some (g52ok A a b, .tup [.cell (.nat .u64 (g52r0 A a b)), .cell (.nat .u64 (g52r1 A a b))])
  | _ => none
theorem g52o_sound : ∀ args v, g52o realA args = some (true, v) → Fn1 Try.prog 52 args v := by
  intro args v h
  unfold g52o at h
  split at h
  · rename_i a b
    simp only [Option.some.injEq, Prod.mk.injEq] at h
    obtain ⟨hc, h⟩ := h
    subst h
    · skip
      exact fn1_of mixed gtysOK g52O_sound g52O_det (an := g52an) (n := 100000) Try.func52 (c := bodyOf Try.f52) rfl (by kernel_rfl) Try.call52 (Nat.le_of_ble_eq_true rfl) (fun b => rfl) (fun _ => (g52_eq realA (100000) (fun v _ => some v) a b).trans (show g52v realA a b = _ from g52ok_spec hc))
  · cases h
/- math/bits.Add64 -/
def g53o (A : Ar) := add64o
theorem g53o_sound : ∀ args v, g53o realA args = some (true, v) → Fn1 Try.prog 53 args v := add64o_sound Try.func53 (by kernel_rfl) (by kernel_rfl) (by kernel_rfl) (by kernel_rfl)
/- (engrosser/field.wide).up -/
def g51O (A : Ar) : Orc := orcOf []
theorem g51O_sound : OSound Try.prog (g51O realA) := orc_sound fun f g hm args v hv => by
  cases hm
theorem g51O_det : ODet (g51O realA) := orc_det _
def g51an : Ann := [(0, ([0], [])), (1, ([1], [1000]))]
def g51res : List ResultVar := [.tmp 2]
noncomputable def g51D {R : Type} (A : Ar) (n : Nat) (p : List Bool) (K : Ex → St → Option R) (s : St) : Option R := codeD A gtys (g51O A) g51an n (sub (bodyOf Try.f51) p) K s
noncomputable def g51Q {R : Type} (A : Ar) (n : Nat) (p : List Bool) (K : Ex → St → Option R) : Ex → St → Option R := seqC (g51D A n p K) K
noncomputable def g51T {R : Type} (kk : AV → Heap → Option R) : Ex → St → Option R := finD gtys g51res kk
theorem g51Qn {R : Type} (A : Ar) (n : Nat) (p : List Bool) (K : Ex → St → Option R) (s : St) : g51Q A n p K .normal s = g51D A n p K s := rfl
theorem g51F {R : Type} (A : Ar) (n : Nat) (p : List Bool) (i : Nat) (K : Ex → St → Option R) (s s' : St) (hf : firstReg (sub (bodyOf Try.f51) p) = some i) (h : keep g51an i s = keep g51an i s') : g51D A n p K s = g51D A n p K s' := codeD_first hf h K
section
variable {R : Type} (A : Ar) (n : Nat) (K : Ex → St → Option R) (s : St)
theorem g51p1 : g51D A n (pth 1) K s = g51D A n (pth 2) (g51Q A n (pth 3) K) s := by kernel_rfl
theorem g51p3 : g51D A n (pth 3) K s = g51D A n (pth 5) (g51Q A n (pth 7) K) s := by kernel_rfl
theorem g51p7 : g51D A n (pth 7) K s = K .ret s := by kernel_rfl
def g51R0s0 (A : Ar) (x0 : List Nat) : St := ⟨[(2, (u64v 0)), (1, (pT 1000 0)), (0, (aN .u64 2 x0))], [(1000, (bU 2 x0 62))]⟩
theorem g51R0 (x0 : List Nat) : g51D A n (pth 2) K ⟨[(0, (aN .u64 2 x0))], []⟩ = K .normal (g51R0s0 A x0) := by kernel_rfl
def g51R1s0 (A : Ar) (x0 : List Nat) : St := ⟨[(2, (u64v (A.nb .or .u64 (A.nsh .shl .u64 (x0.getD 0 0) 13) (A.nsh .shr .u64 (x0.getD 1 0) 51)))), (9, (u64v (A.nb .or .u64 (A.nsh .shl .u64 (x0.getD 0 0) 13) (A.nsh .shr .u64 (x0.getD 1 0) 51)))), (8, (u64v (A.nsh .shr .u64 (x0.getD 1 0) 51))), (7, (u64v (x0.getD 1 0))), (6, (pT 1000 1)), (5, (u64v (A.nsh .shl .u64 (x0.getD 0 0) 13))), (4, (u64v (x0.getD 0 0))), (3, (pT 1000 0)), (1, (pT 1000 0))], [(1000, (bU 2 x0 62))]⟩
theorem g51R1 (x0 : List Nat) : g51D A n (pth 5) K ⟨[(1, (pT 1000 0))], [(1000, (bU 2 x0 62))]⟩ = K .normal (g51R1s0 A x0) := by kernel_rfl
end
def g51 {R : Type} (A : Ar) (n : Nat) (kk : AV → Heap → Option R) (a : List Nat) : Option R :=
  kk (u64v (A.nb .or .u64 (A.nsh .shl .u64 (a.getD 0 0) 13) (A.nsh .shr .u64 (a.getD 1 0) 51))) [(1000, (bU 2 a 62))]
set_option maxRecDepth 100000 in
theorem g51_eq {R : Type} (A : Ar) (n : Nat) (kk : AV → Heap → Option R) (a : List Nat) :
    funD A gtys (g51O A) g51an n (bodyOf Try.f51) g51res [(aN .u64 2 a)] [] kk = g51 A n kk a := by
  have h1 : (g51T kk) .ret (g51R1s0 A a) = kk (u64v (A.nb .or .u64 (A.nsh .shl .u64 (a.getD 0 0) 13) (A.nsh .shr .u64 (a.getD 1 0) 51))) [(1000, (bU 2 a 62))] := by kernel_rfl
  have h2 := (g51p7 A n _ _).trans h1
  have h3 := (g51Qn A n _ _ _).trans h2
  have h4 := (g51F A n _ 1 _ (g51R0s0 A a) _ (by kernel_rfl) (by kernel_rfl)).trans (g51R1 A n (g51Q A n (pth 7) (g51T kk)) a)
  rw [h3] at h4
  have h5 := (g51p3 A n _ _).trans h4
  have h6 := (g51Qn A n _ _ _).trans h5
  have h7 := (g51F A n _ 0 _ ⟨[(0, (aN .u64 2 a))], []⟩ _ (by kernel_rfl) (by kernel_rfl)).trans (g51R0 A n (g51Q A n (pth 3) (g51T kk)) a)
  rw [h6] at h7
  have h8 := (g51p1 A n _ _).trans h7
  exact (show funD A gtys (g51O A) g51an n (bodyOf Try.f51) g51res [(aN .u64 2 a)] [] kk = g51D A n (pth 1) (g51T kk) ⟨[(0, (aN .u64 2 a))], []⟩ from by kernel_rfl).trans (h8.trans (by kernel_rfl))
def g51is (o : Option AV) : Bool := match o with
  | some (.v (.cell (.nat .u64 _))) => true
  | _ => false
def g51g0 (o : Option AV) : Nat := match o with
  | some (.v (.cell (.nat .u64 x))) => x
  | _ => 0
theorem g51is_spec {o : Option AV} (h : g51is o = true) : o = some (.v (.cell (.nat .u64 (g51g0 o)))) := by
  unfold g51is at h
  split at h
  · rfl
  · cases h
def g51v (A : Ar) (a : List Nat) : Option AV := g51 A (100000) (fun v _ => some v) a
def g51ok (A : Ar) (a : List Nat) : Bool := g51is (g51v A a)
def g51r0 (A : Ar) (a : List Nat) : Nat := g51g0 (g51v A a)
theorem g51ok_spec {A : Ar} {a} (h : g51ok A a = true) : g51v A a = some (.v (.cell (.nat .u64 (g51r0 A a)))) := g51is_spec h
def g51o (A : Ar) (args : List AV) : Option (Bool × AV) := match args with
  | [.v (.agg [.nums .u64 n0 a])] => some (Nat.beq n0 2 && (g51ok A a), .v (.cell (.nat .u64 (g51r0 A a))))
  | _ => none
theorem g51o_sound : ∀ args v, g51o realA args = some (true, v) → Fn1 Try.prog 51 args v := by
  intro args v h
  unfold g51o at h
  split at h
  · rename_i n0 a
    simp only [Option.some.injEq, Prod.mk.injEq] at h
    obtain ⟨hc, h⟩ := h
    subst h
    · skip
      simp only [Bool.and_eq_true] at hc
      have en0 := beq_true hc.1
      subst en0
      replace hc := hc.2
      exact fn1_of mixed gtysOK g51O_sound g51O_det (an := g51an) (n := 100000) Try.func51 (c := bodyOf Try.f51) rfl (by kernel_rfl) Try.call51 (Nat.le_of_ble_eq_true rfl) (fun b => rfl) (fun _ => (g51_eq realA (100000) (fun v _ => some v) a).trans (show g51v realA a = _ from g51ok_spec hc))
  · cases h
/- (*engrosser/field.wide).add -/
def g49O (A : Ar) : Orc := orcOf [(52, g52o A), (53, g53o A)]
theorem g49O_sound : OSound Try.prog (g49O realA) := orc_sound fun f g hm args v hv => by
  simp only [List.mem_cons, List.not_mem_nil, or_false, Prod.mk.injEq] at hm
  rcases hm with ⟨rfl, rfl⟩ | ⟨rfl, rfl⟩
  · exact g52o_sound _ _ hv
  · exact g53o_sound _ _ hv
theorem g49O_det : ODet (g49O realA) := orc_det _
def g49an : Ann := [(0, ([0, 1, 2], [0])), (1, ([0, 6, 7], [0])), (2, ([0, 6, 7], [0])), (3, ([0, 6, 8], [0]))]
def g49res : List ResultVar := []
noncomputable def g49D {R : Type} (A : Ar) (n : Nat) (p : List Bool) (K : Ex → St → Option R) (s : St) : Option R := codeD A gtys (g49O A) g49an n (sub (bodyOf Try.f49) p) K s
noncomputable def g49Q {R : Type} (A : Ar) (n : Nat) (p : List Bool) (K : Ex → St → Option R) : Ex → St → Option R := seqC (g49D A n p K) K
noncomputable def g49T {R : Type} (kk : AV → Heap → Option R) : Ex → St → Option R := finD gtys g49res kk
theorem g49Qn {R : Type} (A : Ar) (n : Nat) (p : List Bool) (K : Ex → St → Option R) (s : St) : g49Q A n p K .normal s = g49D A n p K s := rfl
theorem g49F {R : Type} (A : Ar) (n : Nat) (p : List Bool) (i : Nat) (K : Ex → St → Option R) (s s' : St) (hf : firstReg (sub (bodyOf Try.f49) p) = some i) (h : keep g49an i s = keep g49an i s') : g49D A n p K s = g49D A n p K s' := codeD_first hf h K
section
variable {R : Type} (A : Ar) (n : Nat) (K : Ex → St → Option R) (s : St)
theorem g49p1 : g49D A n (pth 1) K s = g49D A n (pth 2) (g49Q A n (pth 3) K) s := by kernel_rfl
theorem g49p3 : g49D A n (pth 3) K s = g49D A n (pth 5) (g49Q A n (pth 7) K) s := by kernel_rfl
theorem g49p7 : g49D A n (pth 7) K s = g49D A n (pth 11) (g49Q A n (pth 15) K) s := by kernel_rfl
def g49R0s0 (A : Ar) (x0 x1 x2 : Nat) (x3 : List Nat) : St := ⟨[(7, (u64v (g52r1 A x1 x2))), (6, (u64v (g52r0 A x1 x2))), (14, (u64v (g52r1 A x1 x2))), (13, (u64v (g52r0 A x1 x2))), (9, (.tup [(.cell (.nat .u64 (g52r0 A x1 x2))), (.cell (.nat .u64 (g52r1 A x1 x2)))])), (12, (.tup [(.cell (.nat .u64 (g52r0 A x1 x2))), (.cell (.nat .u64 (g52r1 A x1 x2)))])), (11, (u64v x2)), (10, (u64v x1)), (0, (.v (.cell (.ptr 0 0 (some ⟨x0, 2, 10, 0, 0, 0⟩))))), (1, (u64v x1)), (2, (u64v x2))], [(0, (bU 10 x3 63))]⟩
theorem g49R0 (x0 x1 x2 : Nat) (x3 : List Nat) : g49D A n (pth 2) K ⟨[(0, (.v (.cell (.ptr 0 0 (some ⟨x0, 2, 10, 0, 0, 0⟩))))), (1, (u64v x1)), (2, (u64v x2))], [(0, (bU 10 x3 63))]⟩ = match (generalizing := false) g52ok A x1 x2 with
    | true => K .normal (g49R0s0 A x0 x1 x2 x3)
    | false => none := by kernel_rfl
def g49R1s0 (A : Ar) (x0 x1 x2 : Nat) (x3 : List Nat) : St := ⟨[(8, (u64v 0)), (0, (.v (.cell (.ptr 0 0 (some ⟨x0, 2, 10, 0, 0, 0⟩))))), (6, (u64v x1)), (7, (u64v x2))], [(0, (bU 10 x3 63))]⟩
theorem g49R1 (x0 x1 x2 : Nat) (x3 : List Nat) : g49D A n (pth 5) K ⟨[(0, (.v (.cell (.ptr 0 0 (some ⟨x0, 2, 10, 0, 0, 0⟩))))), (6, (u64v x1)), (7, (u64v x2))], [(0, (bU 10 x3 63))]⟩ = K .normal (g49R1s0 A x0 x1 x2 x3) := by kernel_rfl
def g49R2s0 (A : Ar) (x0 x1 x2 : Nat) (x3 : List Nat) : St := ⟨[(8, (u64v (add64b (x3.getD (x0 + 1) 0) x2 0))), (26, (.v (.cell (.ptr 0 0 (some ⟨x0 + 1, 1, 10, 0, 1, 0⟩))))), (25, (.v (.cell (.ptr 0 0 (some ⟨x0, 2, 10, 0, 0, 0⟩))))), (24, (u64v (add64b (x3.getD (x0 + 1) 0) x2 0))), (23, (u64v (add64a (x3.getD (x0 + 1) 0) x2 0))), (15, (.tup [(.cell (.nat .u64 (add64a (x3.getD (x0 + 1) 0) x2 0))), (.cell (.nat .u64 (add64b (x3.getD (x0 + 1) 0) x2 0)))])), (22, (.tup [(.cell (.nat .u64 (add64a (x3.getD (x0 + 1) 0) x2 0))), (.cell (.nat .u64 (add64b (x3.getD (x0 + 1) 0) x2 0)))])), (21, (u64v x2)), (20, (u64v (x3.getD (x0 + 1) 0))), (19, (.v (.cell (.ptr 0 0 (some ⟨x0 + 1, 1, 10, 0, 1, 0⟩))))), (18, (.v (.cell (.ptr 0 0 (some ⟨x0, 2, 10, 0, 0, 0⟩))))), (17, (.v (.cell (.ptr 0 0 (some ⟨x0, 2, 10, 0, 0, 0⟩))))), (16, (.v (.cell (.ptr 0 0 (some ⟨x0, 2, 10, 0, 0, 0⟩))))), (0, (.v (.cell (.ptr 0 0 (some ⟨x0, 2, 10, 0, 0, 0⟩))))), (6, (u64v x1)), (7, (u64v x2))], [(0, (bU 10 (x3.set (x0 + 1) (add64a (x3.getD (x0 + 1) 0) x2 0)) 63))]⟩
theorem g49R2 (x0 x1 x2 : Nat) (x3 : List Nat) : g49D A n (pth 11) K ⟨[(0, (.v (.cell (.ptr 0 0 (some ⟨x0, 2, 10, 0, 0, 0⟩))))), (6, (u64v x1)), (7, (u64v x2))], [(0, (bU 10 x3 63))]⟩ = match (generalizing := false) carryok (x3.getD (x0 + 1) 0) x2 0 with
    | true => K .normal (g49R2s0 A x0 x1 x2 x3)
    | false => none := by kernel_rfl
def g49R3s0 (A : Ar) (x0 x1 x2 : Nat) (x3 : List Nat) : St := ⟨[(39, (.v (.cell (.ptr 0 0 (some ⟨x0 + 0, 1, 10, 0, 0, 0⟩))))), (38, (.v (.cell (.ptr 0 0 (some ⟨x0, 2, 10, 0, 0, 0⟩))))), (37, (u64v (add64b (x3.getD (x0 + 0) 0) x1 x2))), (36, (u64v (add64a (x3.getD (x0 + 0) 0) x1 x2))), (27, (.tup [(.cell (.nat .u64 (add64a (x3.getD (x0 + 0) 0) x1 x2))), (.cell (.nat .u64 (add64b (x3.getD (x0 + 0) 0) x1 x2)))])), (35, (.tup [(.cell (.nat .u64 (add64a (x3.getD (x0 + 0) 0) x1 x2))), (.cell (.nat .u64 (add64b (x3.getD (x0 + 0) 0) x1 x2)))])), (34, (u64v x2)), (33, (u64v x1)), (32, (u64v (x3.getD (x0 + 0) 0))), (31, (.v (.cell (.ptr 0 0 (some ⟨x0 + 0, 1, 10, 0, 0, 0⟩))))), (30, (.v (.cell (.ptr 0 0 (some ⟨x0, 2, 10, 0, 0, 0⟩))))), (29, (.v (.cell (.ptr 0 0 (some ⟨x0, 2, 10, 0, 0, 0⟩))))), (28, (.v (.cell (.ptr 0 0 (some ⟨x0, 2, 10, 0, 0, 0⟩))))), (0, (.v (.cell (.ptr 0 0 (some ⟨x0, 2, 10, 0, 0, 0⟩))))), (6, (u64v x1)), (8, (u64v x2))], [(0, (bU 10 (x3.set (x0 + 0) (add64a (x3.getD (x0 + 0) 0) x1 x2)) 63))]⟩
theorem g49R3 (x0 x1 x2 : Nat) (x3 : List Nat) : g49D A n (pth 15) K ⟨[(0, (.v (.cell (.ptr 0 0 (some ⟨x0, 2, 10, 0, 0, 0⟩))))), (6, (u64v x1)), (8, (u64v x2))], [(0, (bU 10 x3 63))]⟩ = match (generalizing := false) carryok (x3.getD (x0 + 0) 0) x1 x2 with
    | true => K .normal (g49R3s0 A x0 x1 x2 x3)
    | false => none := by kernel_rfl
end
def g49 {R : Type} (A : Ar) (n : Nat) (kk : AV → Heap → Option R) (x0 x1 x2 : Nat) (x3 : List Nat) : Option R :=
  match (generalizing := false) g52ok A x1 x2 with
  | true => match (generalizing := false) carryok (x3.getD (x0 + 1) 0) (g52r1 A x1 x2) 0 with
    | true => match (generalizing := false) carryok ((x3.set (x0 + 1) (add64a (x3.getD (x0 + 1) 0) (g52r1 A x1 x2) 0)).getD (x0 + 0) 0) (g52r0 A x1 x2) (add64b (x3.getD (x0 + 1) 0) (g52r1 A x1 x2) 0) with
      | true => kk (.tup []) [(0, (bU 10 ((x3.set (x0 + 1) (add64a (x3.getD (x0 + 1) 0) (g52r1 A x1 x2) 0)).set (x0 + 0) (add64a ((x3.set (x0 + 1) (add64a (x3.getD (x0 + 1) 0) (g52r1 A x1 x2) 0)).getD (x0 + 0) 0) (g52r0 A x1 x2) (add64b (x3.getD (x0 + 1) 0) (g52r1 A x1 x2) 0))) 63))]
      | false => none
    | false => none
  | false => none
set_option maxRecDepth 100000 in
theorem g49_eq {R : Type} (A : Ar) (n : Nat) (kk : AV → Heap → Option R) (x0 x1 x2 : Nat) (x3 : List Nat) :
    funD A gtys (g49O A) g49an n (bodyOf Try.f49) g49res [(.v (.cell (.ptr 0 0 (some ⟨x0, 2, 10, 0, 0, 0⟩)))), (u64v x1), (u64v x2)] [(0, (bU 10 x3 63))] kk = g49 A n kk x0 x1 x2 x3 := by
  have h1 : (g49T kk) .normal (g49R3s0 A x0 (g52r0 A x1 x2) (add64b (x3.getD (x0 + 1) 0) (g52r1 A x1 x2) 0) (x3.set (x0 + 1) (add64a (x3.getD (x0 + 1) 0) (g52r1 A x1 x2) 0))) = kk (.tup []) [(0, (bU 10 ((x3.set (x0 + 1) (add64a (x3.getD (x0 + 1) 0) (g52r1 A x1 x2) 0)).set (x0 + 0) (add64a ((x3.set (x0 + 1) (add64a (x3.getD (x0 + 1) 0) (g52r1 A x1 x2) 0)).getD (x0 + 0) 0) (g52r0 A x1 x2) (add64b (x3.getD (x0 + 1) 0) (g52r1 A x1 x2) 0))) 63))] := by kernel_rfl
  have h2 := (g49F A n _ 3 _ (g49R2s0 A x0 (g52r0 A x1 x2) (g52r1 A x1 x2) x3) _ (by kernel_rfl) (by kernel_rfl)).trans (g49R3 A n (g49T kk) x0 (g52r0 A x1 x2) (add64b (x3.getD (x0 + 1) 0) (g52r1 A x1 x2) 0) (x3.set (x0 + 1) (add64a (x3.getD (x0 + 1) 0) (g52r1 A x1 x2) 0)))
  rw [h1] at h2
  have h3 := (g49Qn A n _ _ _).trans h2
  have h4 := (g49F A n _ 2 _ (g49R1s0 A x0 (g52r0 A x1 x2) (g52r1 A x1 x2) x3) _ (by kernel_rfl) (by kernel_rfl)).trans (g49R2 A n (g49Q A n (pth 15) (g49T kk)) x0 (g52r0 A x1 x2) (g52r1 A x1 x2) x3)
  rw [h3] at h4
  have h5 := (g49p7 A n _ _).trans h4
  have h6 := (g49Qn A n _ _ _).trans h5
  have h7 := (g49F A n _ 1 _ (g49R0s0 A x0 x1 x2 x3) _ (by kernel_rfl) (by kernel_rfl)).trans (g49R1 A n (g49Q A n (pth 7) (g49T kk)) x0 (g52r0 A x1 x2) (g52r1 A x1 x2) x3)
  rw [h6] at h7
  have h8 := (g49p3 A n _ _).trans h7
  have h9 := (g49Qn A n _ _ _).trans h8
  have h10 := (g49F A n _ 0 _ ⟨[(0, (.v (.cell (.ptr 0 0 (some ⟨x0, 2, 10, 0, 0, 0⟩))))), (1, (u64v x1)), (2, (u64v x2))], [(0, (bU 10 x3 63))]⟩ _ (by kernel_rfl) (by kernel_rfl)).trans (g49R0 A n (g49Q A n (pth 3) (g49T kk)) x0 x1 x2 x3)
  rw [h9] at h10
  have h11 := (g49p1 A n _ _).trans h10
  exact (show funD A gtys (g49O A) g49an n (bodyOf Try.f49) g49res [(.v (.cell (.ptr 0 0 (some ⟨x0, 2, 10, 0, 0, 0⟩)))), (u64v x1), (u64v x2)] [(0, (bU 10 x3 63))] kk = g49D A n (pth 1) (g49T kk) ⟨[(0, (.v (.cell (.ptr 0 0 (some ⟨x0, 2, 10, 0, 0, 0⟩))))), (1, (u64v x1)), (2, (u64v x2))], [(0, (bU 10 x3 63))]⟩ from by kernel_rfl).trans (h11.trans (by kernel_rfl))
def g49is (o : Option (AV × Heap)) : Bool := match o with
  | some (.tup [], [(n0, ⟨[.nums .u64 n1 _], n2, n3⟩)]) => Nat.beq n0 0 && (Nat.beq n1 10 && (Nat.beq n2 63 && (Nat.beq n3 1)))
  | _ => false
def g49g0 (o : Option (AV × Heap)) : List Nat := match o with
  | some (.tup [], [(_, ⟨[.nums .u64 _ x], _, _⟩)]) => x
  | _ => []
theorem g49is_spec {o : Option (AV × Heap)} (h : g49is o = true) : o = some ((.tup []), [(0, (bU 10 (g49g0 o) 63))]) := by
  unfold g49is at h
  split at h
  · rename_i n0 n1 z2 n2 n3
    simp only [Bool.and_eq_true] at h
    have en0 := beq_true h.1
    subst en0
    replace h := h.2
    have en1 := beq_true h.1
    subst en1
    replace h := h.2
    have en2 := beq_true h.1
    subst en2
    replace h := h.2
    have en3 := beq_true h
    subst en3
    rfl
  · cases h
def g49v (A : Ar) (x0 x1 x2 : Nat) (x3 : List Nat) : Option (AV × Heap) := g49 A (100000) (outH [0] none) x0 x1 x2 x3
def g49ok (A : Ar) (x0 x1 x2 : Nat) (x3 : List Nat) : Bool := g49is (g49v A x0 x1 x2 x3)
def g49r0 (A : Ar) (x0 x1 x2 : Nat) (x3 : List Nat) : List Nat := g49g0 (g49v A x0 x1 x2 x3)
theorem g49ok_spec {A : Ar} {x0 x1 x2 x3} (h : g49ok A x0 x1 x2 x3 = true) : g49v A x0 x1 x2 x3 = some ((.tup []), [(0, (bU 10 (g49r0 A x0 x1 x2 x3) 63))]) := g49is_spec h
def g49o (A : Ar) (args : List AV) (h : Heap) : Option (Bool × AV × Heap) := match args, h with
  | [.v (.cell (.ptr n0 n1 (some ⟨x0, n2, n3, n4, n5, n6⟩))), .v (.cell (.nat .u64 x1)), .v (.cell (.nat .u64 x2))], [(n7, ⟨[.nums .u64 n8 x3], n9, n10⟩)] => some (Nat.beq n0 0 && (Nat.beq n1 0 && (Nat.beq n2 2 && (Nat.beq n3 10 && (Nat.beq n4 0 && (Nat.beq n5 0 && (Nat.beq n6 0 && (Nat.beq n7 0 && (Nat.beq n8 10 && (Nat.beq n9 63 && (Nat.beq n10 1 && (g49ok A x0 x1 x2 x3))))))))))), (.tup []), [(0, (bU 10 (g49r0 A x0 x1 x2 x3) 63))])
  | _, _ => none
theorem g49o_sound : ∀ args h v h', g49o realA args h = some (true, v, h') → FnH Try.prog 49 args h v h' := by
  intro args h v h' hh
  unfold g49o at hh
  split at hh
  · rename_i n0 n1 x0 n2 n3 n4 n5 n6 x1 x2 n7 n8 x3 n9 n10
    simp only [Option.some.injEq, Prod.mk.injEq] at hh
    obtain ⟨hc, hv, hh⟩ := hh
    subst hv
    subst hh
    simp only [Bool.and_eq_true] at hc
    have en0 := beq_true hc.1
    subst en0
    replace hc := hc.2
    have en1 := beq_true hc.1
    subst en1
    replace hc := hc.2
    have en2 := beq_true hc.1
    subst en2
    replace hc := hc.2
    have en3 := beq_true hc.1
    subst en3
    replace hc := hc.2
    have en4 := beq_true hc.1
    subst en4
    replace hc := hc.2
    have en5 := beq_true hc.1
    subst en5
    replace hc := hc.2
    have en6 := beq_true hc.1
    subst en6
    replace hc := hc.2
    have en7 := beq_true hc.1
    subst en7
    replace hc := hc.2
    have en8 := beq_true hc.1
    subst en8
    replace hc := hc.2
    have en9 := beq_true hc.1
    subst en9
    replace hc := hc.2
    have en10 := beq_true hc.1
    subst en10
    replace hc := hc.2
    exact fnh_of mixed gtysOK g49O_sound g49O_det (an := g49an) (n := 100000) Try.func49 (c := bodyOf Try.f49) rfl (by kernel_rfl) Try.call49 (Nat.le_of_ble_eq_true rfl) (pins := [0]) (nilr := none) (fun _ => (g49_eq realA (100000) (outH [0] none) x0 x1 x2 x3).trans (show g49v realA x0 x1 x2 x3 = _ from g49ok_spec hc))
  · cases hh
/- (*engrosser/field.wide).more -/
def g50O (A : Ar) : Orc := orcOf [(53, g53o A)]
theorem g50O_sound : OSound Try.prog (g50O realA) := orc_sound fun f g hm args v hv => by
  simp only [List.mem_cons, List.not_mem_nil, or_false, Prod.mk.injEq] at hm
  rcases hm with ⟨rfl, rfl⟩
  · exact g53o_sound _ _ hv
theorem g50O_det : ODet (g50O realA) := orc_det _
def g50an : Ann := [(0, ([0, 1], [0])), (1, ([0, 1], [0])), (2, ([0, 4], [0]))]
def g50res : List ResultVar := []
noncomputable def g50D {R : Type} (A : Ar) (n : Nat) (p : List Bool) (K : Ex → St → Option R) (s : St) : Option R := codeD A gtys (g50O A) g50an n (sub (bodyOf Try.f50) p) K s
noncomputable def g50Q {R : Type} (A : Ar) (n : Nat) (p : List Bool) (K : Ex → St → Option R) : Ex → St → Option R := seqC (g50D A n p K) K
noncomputable def g50T {R : Type} (kk : AV → Heap → Option R) : Ex → St → Option R := finD gtys g50res kk
theorem g50Qn {R : Type} (A : Ar) (n : Nat) (p : List Bool) (K : Ex → St → Option R) (s : St) : g50Q A n p K .normal s = g50D A n p K s := rfl
theorem g50F {R : Type} (A : Ar) (n : Nat) (p : List Bool) (i : Nat) (K : Ex → St → Option R) (s s' : St) (hf : firstReg (sub (bodyOf Try.f50) p) = some i) (h : keep g50an i s = keep g50an i s') : g50D A n p K s = g50D A n p K s' := codeD_first hf h K
section
variable {R : Type} (A : Ar) (n : Nat) (K : Ex → St → Option R) (s : St)
theorem g50p1 : g50D A n (pth 1) K s = g50D A n (pth 2) (g50Q A n (pth 3) K) s := by kernel_rfl
theorem g50p3 : g50D A n (pth 3) K s = g50D A n (pth 5) (g50Q A n (pth 7) K) s := by kernel_rfl
def g50R0s0 (A : Ar) (x0 x1 : Nat) (x2 : List Nat) : St := ⟨[(4, (u64v 0)), (0, (.v (.cell (.ptr 0 0 (some ⟨x0, 2, 10, 0, 0, 0⟩))))), (1, (u64v x1))], [(0, (bU 10 x2 63))]⟩
theorem g50R0 (x0 x1 : Nat) (x2 : List Nat) : g50D A n (pth 2) K ⟨[(0, (.v (.cell (.ptr 0 0 (some ⟨x0, 2, 10, 0, 0, 0⟩))))), (1, (u64v x1))], [(0, (bU 10 x2 63))]⟩ = K .normal (g50R0s0 A x0 x1 x2) := by kernel_rfl
def g50R1s0 (A : Ar) (x0 x1 : Nat) (x2 : List Nat) : St := ⟨[(4, (u64v (add64b (x2.getD (x0 + 1) 0) x1 0))), (16, (.v (.cell (.ptr 0 0 (some ⟨x0 + 1, 1, 10, 0, 1, 0⟩))))), (15, (.v (.cell (.ptr 0 0 (some ⟨x0, 2, 10, 0, 0, 0⟩))))), (14, (u64v (add64b (x2.getD (x0 + 1) 0) x1 0))), (13, (u64v (add64a (x2.getD (x0 + 1) 0) x1 0))), (5, (.tup [(.cell (.nat .u64 (add64a (x2.getD (x0 + 1) 0) x1 0))), (.cell (.nat .u64 (add64b (x2.getD (x0 + 1) 0) x1 0)))])), (12, (.tup [(.cell (.nat .u64 (add64a (x2.getD (x0 + 1) 0) x1 0))), (.cell (.nat .u64 (add64b (x2.getD (x0 + 1) 0) x1 0)))])), (11, (u64v x1)), (10, (u64v (x2.getD (x0 + 1) 0))), (9, (.v (.cell (.ptr 0 0 (some ⟨x0 + 1, 1, 10, 0, 1, 0⟩))))), (8, (.v (.cell (.ptr 0 0 (some ⟨x0, 2, 10, 0, 0, 0⟩))))), (7, (.v (.cell (.ptr 0 0 (some ⟨x0, 2, 10, 0, 0, 0⟩))))), (6, (.v (.cell (.ptr 0 0 (some ⟨x0, 2, 10, 0, 0, 0⟩))))), (0, (.v (.cell (.ptr 0 0 (some ⟨x0, 2, 10, 0, 0, 0⟩))))), (1, (u64v x1))], [(0, (bU 10 (x2.set (x0 + 1) (add64a (x2.getD (x0 + 1) 0) x1 0)) 63))]⟩
theorem g50R1 (x0 x1 : Nat) (x2 : List Nat) : g50D A n (pth 5) K ⟨[(0, (.v (.cell (.ptr 0 0 (some ⟨x0, 2, 10, 0, 0, 0⟩))))), (1, (u64v x1))], [(0, (bU 10 x2 63))]⟩ = match (generalizing := false) carryok (x2.getD (x0 + 1) 0) x1 0 with
    | true => K .normal (g50R1s0 A x0 x1 x2)
    | false => none := by kernel_rfl
def g50R2s0 (A : Ar) (x0 x1 : Nat) (x2 : List Nat) : St := ⟨[(24, (.v (.cell (.ptr 0 0 (some ⟨x0 + 0, 1, 10, 0, 0, 0⟩))))), (23, (.v (.cell (.ptr 0 0 (some ⟨x0, 2, 10, 0, 0, 0⟩))))), (22, (u64v (A.nb .add .u64 (x2.getD (x0 + 0) 0) x1))), (21, (u64v x1)), (20, (u64v (x2.getD (x0 + 0) 0))), (19, (.v (.cell (.ptr 0 0 (some ⟨x0 + 0, 1, 10, 0, 0, 0⟩))))), (18, (.v (.cell (.ptr 0 0 (some ⟨x0, 2, 10, 0, 0, 0⟩))))), (17, (.v (.cell (.ptr 0 0 (some ⟨x0, 2, 10, 0, 0, 0⟩))))), (0, (.v (.cell (.ptr 0 0 (some ⟨x0, 2, 10, 0, 0, 0⟩))))), (4, (u64v x1))], [(0, (bU 10 (x2.set (x0 + 0) (A.nb .add .u64 (x2.getD (x0 + 0) 0) x1)) 63))]⟩
theorem g50R2 (x0 x1 : Nat) (x2 : List Nat) : g50D A n (pth 7) K ⟨[(0, (.v (.cell (.ptr 0 0 (some ⟨x0, 2, 10, 0, 0, 0⟩))))), (4, (u64v x1))], [(0, (bU 10 x2 63))]⟩ = K .normal (g50R2s0 A x0 x1 x2) := by kernel_rfl
end
def g50 {R : Type} (A : Ar) (n : Nat) (kk : AV → Heap → Option R) (x0 x1 : Nat) (x2 : List Nat) : Option R :=
  match (generalizing := false) carryok (x2.getD (x0 + 1) 0) x1 0 with
  | true => kk (.tup []) [(0, (bU 10 ((x2.set (x0 + 1) (add64a (x2.getD (x0 + 1) 0) x1 0)).set (x0 + 0) (A.nb .add .u64 ((x2.set (x0 + 1) (add64a (x2.getD (x0 + 1) 0) x1 0)).getD (x0 + 0) 0) (add64b (x2.getD (x0 + 1) 0) x1 0))) 63))]
  | false => none
set_option maxRecDepth 100000 in
theorem g50_eq {R : Type} (A : Ar) (n : Nat) (kk : AV → Heap → Option R) (x0 x1 : Nat) (x2 : List Nat) :
    funD A gtys (g50O A) g50an n (bodyOf Try.f50) g50res [(.v (.cell (.ptr 0 0 (some ⟨x0, 2, 10, 0, 0, 0⟩)))), (u64v x1)] [(0, (bU 10 x2 63))] kk = g50 A n kk x0 x1 x2 := by
  have h1 : (g50T kk) .normal (g50R2s0 A x0 (add64b (x2.getD (x0 + 1) 0) x1 0) (x2.set (x0 + 1) (add64a (x2.getD (x0 + 1) 0) x1 0))) = kk (.tup []) [(0, (bU 10 ((x2.set (x0 + 1) (add64a (x2.getD (x0 + 1) 0) x1 0)).set (x0 + 0) (A.nb .add .u64 ((x2.set (x0 + 1) (add64a (x2.getD (x0 + 1) 0) x1 0)).getD (x0 + 0) 0) (add64b (x2.getD (x0 + 1) 0) x1 0))) 63))] := by kernel_rfl
  have h2 := (g50F A n _ 2 _ (g50R1s0 A x0 x1 x2) _ (by kernel_rfl) (by kernel_rfl)).trans (g50R2 A n (g50T kk) x0 (add64b (x2.getD (x0 + 1) 0) x1 0) (x2.set (x0 + 1) (add64a (x2.getD (x0 + 1) 0) x1 0)))
  rw [h1] at h2
  have h3 := (g50Qn A n _ _ _).trans h2
  have h4 := (g50F A n _ 1 _ (g50R0s0 A x0 x1 x2) _ (by kernel_rfl) (by kernel_rfl)).trans (g50R1 A n (g50Q A n (pth 7) (g50T kk)) x0 x1 x2)
  rw [h3] at h4
  have h5 := (g50p3 A n _ _).trans h4
  have h6 := (g50Qn A n _ _ _).trans h5
  have h7 := (g50F A n _ 0 _ ⟨[(0, (.v (.cell (.ptr 0 0 (some ⟨x0, 2, 10, 0, 0, 0⟩))))), (1, (u64v x1))], [(0, (bU 10 x2 63))]⟩ _ (by kernel_rfl) (by kernel_rfl)).trans (g50R0 A n (g50Q A n (pth 3) (g50T kk)) x0 x1 x2)
  rw [h6] at h7
  have h8 := (g50p1 A n _ _).trans h7
  exact (show funD A gtys (g50O A) g50an n (bodyOf Try.f50) g50res [(.v (.cell (.ptr 0 0 (some ⟨x0, 2, 10, 0, 0, 0⟩)))), (u64v x1)] [(0, (bU 10 x2 63))] kk = g50D A n (pth 1) (g50T kk) ⟨[(0, (.v (.cell (.ptr 0 0 (some ⟨x0, 2, 10, 0, 0, 0⟩))))), (1, (u64v x1))], [(0, (bU 10 x2 63))]⟩ from by kernel_rfl).trans (h8.trans (by kernel_rfl))
def g50is (o : Option (AV × Heap)) : Bool := match o with
  | some (.tup [], [(n0, ⟨[.nums .u64 n1 _], n2, n3⟩)]) => Nat.beq n0 0 && (Nat.beq n1 10 && (Nat.beq n2 63 && (Nat.beq n3 1)))
  | _ => false
def g50g0 (o : Option (AV × Heap)) : List Nat := match o with
  | some (.tup [], [(_, ⟨[.nums .u64 _ x], _, _⟩)]) => x
  | _ => []
theorem g50is_spec {o : Option (AV × Heap)} (h : g50is o = true) : o = some ((.tup []), [(0, (bU 10 (g50g0 o) 63))]) := by
  unfold g50is at h
  split at h
  · rename_i n0 n1 z2 n2 n3
    simp only [Bool.and_eq_true] at h
    have en0 := beq_true h.1
    subst en0
    replace h := h.2
    have en1 := beq_true h.1
    subst en1
    replace h := h.2
    have en2 := beq_true h.1
    subst en2
    replace h := h.2
    have en3 := beq_true h
    subst en3
    rfl
  · cases h
def g50v (A : Ar) (x0 x1 : Nat) (x2 : List Nat) : Option (AV × Heap) := g50 A (100000) (outH [0] none) x0 x1 x2
def g50ok (A : Ar) (x0 x1 : Nat) (x2 : List Nat) : Bool := g50is (g50v A x0 x1 x2)
def g50r0 (A : Ar) (x0 x1 : Nat) (x2 : List Nat) : List Nat := g50g0 (g50v A x0 x1 x2)
theorem g50ok_spec {A : Ar} {x0 x1 x2} (h : g50ok A x0 x1 x2 = true) : g50v A x0 x1 x2 = some ((.tup []), [(0, (bU 10 (g50r0 A x0 x1 x2) 63))]) := g50is_spec h
def g50o (A : Ar) (args : List AV) (h : Heap) : Option (Bool × AV × Heap) := match args, h with
  | [.v (.cell (.ptr n0 n1 (some ⟨x0, n2, n3, n4, n5, n6⟩))), .v (.cell (.nat .u64 x1))], [(n7, ⟨[.nums .u64 n8 x2], n9, n10⟩)] => some (Nat.beq n0 0 && (Nat.beq n1 0 && (Nat.beq n2 2 && (Nat.beq n3 10 && (Nat.beq n4 0 && (Nat.beq n5 0 && (Nat.beq n6 0 && (Nat.beq n7 0 && (Nat.beq n8 10 && (Nat.beq n9 63 && (Nat.beq n10 1 && (g50ok A x0 x1 x2))))))))))), (.tup []), [(0, (bU 10 (g50r0 A x0 x1 x2) 63))])
  | _, _ => none
theorem g50o_sound : ∀ args h v h', g50o realA args h = some (true, v, h') → FnH Try.prog 50 args h v h' := by
  intro args h v h' hh
  unfold g50o at hh
  split at hh
  · rename_i n0 n1 x0 n2 n3 n4 n5 n6 x1 n7 n8 x2 n9 n10
    simp only [Option.some.injEq, Prod.mk.injEq] at hh
    obtain ⟨hc, hv, hh⟩ := hh
    subst hv
    subst hh
    simp only [Bool.and_eq_true] at hc
    have en0 := beq_true hc.1
    subst en0
    replace hc := hc.2
    have en1 := beq_true hc.1
    subst en1
    replace hc := hc.2
    have en2 := beq_true hc.1
    subst en2
    replace hc := hc.2
    have en3 := beq_true hc.1
    subst en3
    replace hc := hc.2
    have en4 := beq_true hc.1
    subst en4
    replace hc := hc.2
    have en5 := beq_true hc.1
    subst en5
    replace hc := hc.2
    have en6 := beq_true hc.1
    subst en6
    replace hc := hc.2
    have en7 := beq_true hc.1
    subst en7
    replace hc := hc.2
    have en8 := beq_true hc.1
    subst en8
    replace hc := hc.2
    have en9 := beq_true hc.1
    subst en9
    replace hc := hc.2
    have en10 := beq_true hc.1
    subst en10
    replace hc := hc.2
    exact fnh_of mixed gtysOK g50O_sound g50O_det (an := g50an) (n := 100000) Try.func50 (c := bodyOf Try.f50) rfl (by kernel_rfl) Try.call50 (Nat.le_of_ble_eq_true rfl) (pins := [0]) (nilr := none) (fun _ => (g50_eq realA (100000) (outH [0] none) x0 x1 x2).trans (show g50v realA x0 x1 x2 = _ from g50ok_spec hc))
  · cases hh
/- (engrosser/field.limbs).times -/
def g42O (A : Ar) : Orc := orcH [(51, g51o A), (47, g47o A)] [(49, ⟨[], none, (g49o A)⟩), (50, ⟨[], none, (g50o A)⟩)]
theorem g42O_sound : OSound Try.prog (g42O realA) := orcH_sound (fun f g hm args v hv => by
    simp only [List.mem_cons, List.not_mem_nil, or_false, Prod.mk.injEq] at hm
    rcases hm with ⟨rfl, rfl⟩ | ⟨rfl, rfl⟩
    · exact g51o_sound _ _ hv
    · exact g47o_sound _ _ hv) (fun f e hm args h v h' hv => by
    simp only [List.mem_cons, List.not_mem_nil, or_false, Prod.mk.injEq] at hm
    rcases hm with ⟨rfl, rfl⟩ | ⟨rfl, rfl⟩
    · exact g49o_sound _ _ _ _ hv
    · exact g50o_sound _ _ _ _ hv)
theorem g42O_det : ODet (g42O realA) := orcH_det _ _
def g42an : Ann := [(0, ([0, 1], [])), (1, ([2, 3, 4], [1000, 1001, 1002])), (2, ([2, 3, 4, 5], [1000, 1001, 1002, 2000])), (3, ([3, 4, 5, 14, 15], [1001, 1002, 2000])), (4, ([3, 4, 5, 14, 15], [1001, 1002, 2000])), (5, ([3, 4, 5, 6, 7, 14, 15], [1001, 1002, 2000])), (6, ([3, 4, 5, 6, 7, 14, 15, 19, 20], [1001, 1002, 2000])), (7, ([3, 4, 5, 6, 7, 14, 15, 19, 20], [1001, 1002, 2000])), (8, ([3, 4, 5, 6, 7, 8, 9, 14, 15, 19, 20], [1001, 1002, 2000])), (9, ([3, 4, 5, 6, 7, 9, 10, 14, 15, 19, 20], [1001, 1002, 2000])), (10, ([3, 4, 5, 6, 7, 9, 10, 14, 15, 19, 20], [1001, 1002, 2000])), (11, ([3, 4, 5, 6, 7, 9, 10, 14, 15, 19, 20], [1001, 1002, 2000])), (12, ([3, 4, 5, 6, 7, 14, 15, 19, 20], [1001, 1002, 2000])), (13, ([3, 4, 5, 14, 15], [1001, 1002, 2000])), (14, ([4, 5], [1002, 2000])), (15, ([4, 5, 11], [1002, 2000, 15000])), (16, ([4, 5, 11, 12], [1002, 2000, 15000])), (17, ([4, 5, 11, 12, 40], [1002, 2000, 15000])), (18, ([4, 5, 11, 12, 40], [1002, 2000, 15000])), (19, ([4, 5, 11, 12, 13, 40], [1002, 2000, 15000])), (20, ([4, 5, 11, 13, 40], [1002, 2000, 15000])), (21, ([4, 5, 11, 12, 40], [1002, 2000, 15000])), (22, ([4, 11, 12], [1002, 15000])), (23, ([4, 11], [1002, 15000]))]
def g42res : List ResultVar := [.cell 4 44]
noncomputable def g42D {R : Type} (A : Ar) (n : Nat) (p : List Bool) (K : Ex → St → Option R) (s : St) : Option R := codeD A gtys (g42O A) g42an n (sub (bodyOf Try.f42) p) K s
noncomputable def g42V {R : Type} (A : Ar) (n : Nat) (p : List Bool) (m : Nat) (K : Ex → St → Option R) (s : St) : Option R := loopD (fun K' s'' => codeD A gtys (g42O A) g42an n (sub (bodyOf Try.f42) p) K' s'') m K s
noncomputable def g42Q {R : Type} (A : Ar) (n : Nat) (p : List Bool) (K : Ex → St → Option R) : Ex → St → Option R := seqC (g42D A n p K) K
noncomputable def g42W {R : Type} (A : Ar) (n : Nat) (p : List Bool) (m : Nat) (K : Ex → St → Option R) : Ex → St → Option R := seqC (g42V A n p m K) K
noncomputable def g42T {R : Type} (kk : AV → Heap → Option R) : Ex → St → Option R := finD gtys g42res kk
theorem g42Qn {R : Type} (A : Ar) (n : Nat) (p : List Bool) (K : Ex → St → Option R) (s : St) : g42Q A n p K .normal s = g42D A n p K s := rfl
theorem g42Qe {R : Type} (A : Ar) (n : Nat) (p : List Bool) (K : Ex → St → Option R) (i : Nat) (s : St) : g42Q A n p K (.exit i) s = K (.exit i) s := rfl
theorem g42Wn {R : Type} (A : Ar) (n : Nat) (p : List Bool) (m : Nat) (K : Ex → St → Option R) (s : St) : g42W A n p m K .normal s = g42V A n p m K s := rfl
theorem g42We {R : Type} (A : Ar) (n : Nat) (p : List Bool) (m : Nat) (K : Ex → St → Option R) (i : Nat) (s : St) : g42W A n p m K (.exit i) s = K (.exit i) s := rfl
theorem g42Vs {R : Type} (A : Ar) (n : Nat) (p : List Bool) (m : Nat) (K : Ex → St → Option R) (s : St) : g42V A n p (m + 1) K s = g42D A n p (g42W A n p m K) s := rfl
theorem g42F {R : Type} (A : Ar) (n : Nat) (p : List Bool) (i : Nat) (K : Ex → St → Option R) (s s' : St) (hf : firstReg (sub (bodyOf Try.f42) p) = some i) (h : keep g42an i s = keep g42an i s') : g42D A n p K s = g42D A n p K s' := codeD_first hf h K
section
variable {R : Type} (A : Ar) (n : Nat) (K : Ex → St → Option R) (s : St)
theorem g42p1 : g42D A n (pth 1) K s = g42D A n (pth 2) (g42Q A n (pth 3) K) s := by kernel_rfl
theorem g42p3 : g42D A n (pth 3) K s = g42D A n (pth 5) (g42Q A n (pth 7) K) s := by kernel_rfl
theorem g42p7 : g42D A n (pth 7) K s = g42D A n (pth 11) (g42Q A n (pth 15) K) s := by kernel_rfl
theorem g42p11 : g42D A n (pth 11) K s = g42D A n (pth 19) (g42Q A n (pth 27) K) s := by kernel_rfl
theorem g42p27 : g42D A n (pth 27) K s = g42D A n (pth 43) (blockK 0 K) s := by kernel_rfl
theorem g42p43 : g42D A n (pth 43) K s = g42V A n (pth 75) n K s := by kernel_rfl
theorem g42p75 : g42D A n (pth 75) K s = g42D A n (pth 139) (g42Q A n (pth 203) K) s := by kernel_rfl
theorem g42p203 : g42D A n (pth 203) K s = g42D A n (pth 331) (g42Q A n (pth 459) K) s := by kernel_rfl
theorem g42p331 (t : Bool) : ev s (.tmp 16) = some (.v (.cell (.bool t))) → g42D A n (pth 331) K s = (match t with
    | true => g42D A n (pth 587) K s
    | false => g42D A n (pth 843) K s) := codeD_cond t
theorem g42p587 : g42D A n (pth 587) K s = K .normal s := by kernel_rfl
theorem g42p843 : g42D A n (pth 843) K s = K (.exit 0) s := by kernel_rfl
theorem g42p459 : g42D A n (pth 459) K s = g42D A n (pth 715) (g42Q A n (pth 971) K) s := by kernel_rfl
theorem g42p715 : g42D A n (pth 715) K s = g42D A n (pth 1227) (blockK 1 K) s := by kernel_rfl
theorem g42p1227 : g42D A n (pth 1227) K s = g42D A n (pth 2251) (g42Q A n (pth 3275) K) s := by kernel_rfl
theorem g42p3275 : g42D A n (pth 3275) K s = g42D A n (pth 5323) (g42Q A n (pth 7371) K) s := by kernel_rfl
theorem g42p7371 : g42D A n (pth 7371) K s = g42D A n (pth 11467) (blockK 2 K) s := by kernel_rfl
theorem g42p11467 : g42D A n (pth 11467) K s = g42V A n (pth 19659) n K s := by kernel_rfl
theorem g42p19659 : g42D A n (pth 19659) K s = g42D A n (pth 36043) (g42Q A n (pth 52427) K) s := by kernel_rfl
theorem g42p52427 : g42D A n (pth 52427) K s = g42D A n (pth 85195) (g42Q A n (pth 117963) K) s := by kernel_rfl
theorem g42p85195 (t : Bool) : ev s (.tmp 21) = some (.v (.cell (.bool t))) → g42D A n (pth 85195) K s = (match t with
    | true => g42D A n (pth 150731) K s
    | false => g42D A n (pth 216267) K s) := codeD_cond t
theorem g42p150731 : g42D A n (pth 150731) K s = K .normal s := by kernel_rfl
theorem g42p216267 : g42D A n (pth 216267) K s = K (.exit 2) s := by kernel_rfl
theorem g42p117963 : g42D A n (pth 117963) K s = g42D A n (pth 183499) (g42Q A n (pth 249035) K) s := by kernel_rfl
theorem g42p183499 : g42D A n (pth 183499) K s = g42D A n (pth 314571) (blockK 3 K) s := by kernel_rfl
theorem g42p314571 : g42D A n (pth 314571) K s = g42D A n (pth 576715) (g42Q A n (pth 838859) K) s := by kernel_rfl
theorem g42p838859 : g42D A n (pth 838859) K s = g42D A n (pth 1363147) (g42Q A n (pth 1887435) K) s := by kernel_rfl
theorem g42p1887435 : g42D A n (pth 1887435) K s = g42D A n (pth 2936011) (g42Q A n (pth 3984587) K) s := by kernel_rfl
theorem g42p2936011 : g42D A n (pth 2936011) K s = g42D A n (pth 5033163) (g42Q A n (pth 7130315) K) s := by kernel_rfl
theorem g42p7130315 (t : Bool) : ev s (.tmp 28) = some (.v (.cell (.bool t))) → g42D A n (pth 7130315) K s = (match t with
    | true => g42D A n (pth 11324619) K s
    | false => g42D A n (pth 15518923) K s) := codeD_cond t
theorem g42p15518923 : g42D A n (pth 15518923) K s = K .normal s := by kernel_rfl
theorem g42p15 : g42D A n (pth 15) K s = g42D A n (pth 23) (g42Q A n (pth 31) K) s := by kernel_rfl
theorem g42p31 : g42D A n (pth 31) K s = g42D A n (pth 47) (g42Q A n (pth 63) K) s := by kernel_rfl
theorem g42p63 : g42D A n (pth 63) K s = g42D A n (pth 95) (g42Q A n (pth 127) K) s := by kernel_rfl
theorem g42p95 : g42D A n (pth 95) K s = g42D A n (pth 159) (g42Q A n (pth 223) K) s := by kernel_rfl
theorem g42p223 : g42D A n (pth 223) K s = g42D A n (pth 351) (blockK 4 K) s := by kernel_rfl
theorem g42p351 : g42D A n (pth 351) K s = g42V A n (pth 607) n K s := by kernel_rfl
theorem g42p607 : g42D A n (pth 607) K s = g42D A n (pth 1119) (g42Q A n (pth 1631) K) s := by kernel_rfl
theorem g42p1631 : g42D A n (pth 1631) K s = g42D A n (pth 2655) (g42Q A n (pth 3679) K) s := by kernel_rfl
theorem g42p2655 (t : Bool) : ev s (.tmp 41) = some (.v (.cell (.bool t))) → g42D A n (pth 2655) K s = (match t with
    | true => g42D A n (pth 4703) K s
    | false => g42D A n (pth 6751) K s) := codeD_cond t
theorem g42p4703 : g42D A n (pth 4703) K s = K .normal s := by kernel_rfl
theorem g42p6751 : g42D A n (pth 6751) K s = K (.exit 4) s := by kernel_rfl
theorem g42p3679 : g42D A n (pth 3679) K s = g42D A n (pth 5727) (g42Q A n (pth 7775) K) s := by kernel_rfl
theorem g42p5727 : g42D A n (pth 5727) K s = g42D A n (pth 9823) (blockK 5 K) s := by kernel_rfl
theorem g42p9823 : g42D A n (pth 9823) K s = g42D A n (pth 18015) (g42Q A n (pth 26207) K) s := by kernel_rfl
theorem g42p26207 : g42D A n (pth 26207) K s = g42D A n (pth 42591) (g42Q A n (pth 58975) K) s := by kernel_rfl
theorem g42p127 : g42D A n (pth 127) K s = g42D A n (pth 191) (g42Q A n (pth 255) K) s := by kernel_rfl
theorem g42p255 : g42D A n (pth 255) K s = g42D A n (pth 383) (g42Q A n (pth 511) K) s := by kernel_rfl
theorem g42p511 : g42D A n (pth 511) K s = K .ret s := by kernel_rfl
def g42R11s0 (A : Ar) (x0 : Int) (x1 x2 : Nat) (x3 : Int) (x4 : List Nat) (x5 : Int) (x6 : List Nat) (x7 : Int) (x8 x9 x10 : List Nat) : St := ⟨[(37, (.tup [])), (36, (u64v x2)), (35, (u64v x1)), (34, (.v (.cell (.ptr 2000 0 (some ⟨(A.toN x3) * 2, 2, 10, 0, 0, 0⟩))))), (33, (i6 x3)), (3, (pT 1001 0)), (4, (pT 1002 0)), (5, (pT 2000 0)), (6, (i6 x0)), (7, (u64v x1)), (9, (u64v x2)), (10, (i6 x3)), (14, (aN .u64 5 x4)), (15, (i6 x5)), (19, (aN .u64 5 x6)), (20, (i6 x7))], [(1001, (bU 5 x8 44)), (1002, (bU 5 x9 44)), (2000, (bU 10 (g49r0 A ((A.toN x3) * 2) x1 x2 x10) 63))]⟩
theorem g42R11 (x0 : Int) (x1 x2 : Nat) (x3 : Int) (x4 : List Nat) (x5 : Int) (x6 : List Nat) (x7 : Int) (x8 x9 x10 : List Nat) : g42D A n (pth 3984587) K ⟨[(3, (pT 1001 0)), (4, (pT 1002 0)), (5, (pT 2000 0)), (6, (i6 x0)), (7, (u64v x1)), (9, (u64v x2)), (10, (i6 x3)), (14, (aN .u64 5 x4)), (15, (i6 x5)), (19, (aN .u64 5 x6)), (20, (i6 x7))], [(1001, (bU 5 x8 44)), (1002, (bU 5 x9 44)), (2000, (bU 10 x10 63))]⟩ = match (generalizing := false) A.neg x3 with
    | true => none
    | false => match (generalizing := false) A.lt (A.toN x3) 5 with
      | true => match (generalizing := false) g49ok A ((A.toN x3) * 2) x1 x2 x10 with
        | true => K .normal (g42R11s0 A x0 x1 x2 x3 x4 x5 x6 x7 x8 x9 x10)
        | false => none
      | false => none := by kernel_rfl
def g42R12s0 (A : Ar) (x0 : Int) (x1 : Nat) (x2 : List Nat) (x3 : Int) (x4 : List Nat) (x5 : Int) (x6 x7 x8 : List Nat) : St := ⟨[(20, (i6 (A.ib .add .i64 x5 1))), (38, (i6 (A.ib .add .i64 x5 1))), (3, (pT 1001 0)), (4, (pT 1002 0)), (5, (pT 2000 0)), (6, (i6 x0)), (7, (u64v x1)), (14, (aN .u64 5 x2)), (15, (i6 x3)), (19, (aN .u64 5 x4)), (20, (i6 x5))], [(1001, (bU 5 x6 44)), (1002, (bU 5 x7 44)), (2000, (bU 10 x8 63))]⟩
theorem g42R12 (x0 : Int) (x1 : Nat) (x2 : List Nat) (x3 : Int) (x4 : List Nat) (x5 : Int) (x6 x7 x8 : List Nat) : g42D A n (pth 249035) K ⟨[(3, (pT 1001 0)), (4, (pT 1002 0)), (5, (pT 2000 0)), (6, (i6 x0)), (7, (u64v x1)), (14, (aN .u64 5 x2)), (15, (i6 x3)), (19, (aN .u64 5 x4)), (20, (i6 x5))], [(1001, (bU 5 x6 44)), (1002, (bU 5 x7 44)), (2000, (bU 10 x8 63))]⟩ = K .normal (g42R12s0 A x0 x1 x2 x3 x4 x5 x6 x7 x8) := by kernel_rfl
def g42R7s0 (A : Ar) (x0 : Int) (x1 : Nat) (x2 : List Nat) (x3 : Int) (x4 : List Nat) (x5 : Int) (x6 x7 x8 : List Nat) : St := ⟨[(9, (u64v (x4.getD (A.toN x5) 0))), (8, (i6 x5)), (23, (u64v (x4.getD (A.toN x5) 0))), (22, (i6 x5)), (3, (pT 1001 0)), (4, (pT 1002 0)), (5, (pT 2000 0)), (6, (i6 x0)), (7, (u64v x1)), (14, (aN .u64 5 x2)), (15, (i6 x3)), (19, (aN .u64 5 x4)), (20, (i6 x5))], [(1001, (bU 5 x6 44)), (1002, (bU 5 x7 44)), (2000, (bU 10 x8 63))]⟩
theorem g42R7 (x0 : Int) (x1 : Nat) (x2 : List Nat) (x3 : Int) (x4 : List Nat) (x5 : Int) (x6 x7 x8 : List Nat) : g42D A n (pth 576715) K ⟨[(3, (pT 1001 0)), (4, (pT 1002 0)), (5, (pT 2000 0)), (6, (i6 x0)), (7, (u64v x1)), (14, (aN .u64 5 x2)), (15, (i6 x3)), (19, (aN .u64 5 x4)), (20, (i6 x5))], [(1001, (bU 5 x6 44)), (1002, (bU 5 x7 44)), (2000, (bU 10 x8 63))]⟩ = match (generalizing := false) A.neg x5 with
    | true => none
    | false => match (generalizing := false) A.lt (A.toN x5) 5 with
      | true => K .normal (g42R7s0 A x0 x1 x2 x3 x4 x5 x6 x7 x8)
      | false => none := by kernel_rfl
def g42R8s0 (A : Ar) (x0 : Int) (x1 : Nat) (x2 : Int) (x3 : Nat) (x4 : List Nat) (x5 : Int) (x6 : List Nat) (x7 : Int) (x8 x9 x10 : List Nat) : St := ⟨[(10, (i6 (A.ib .add .i64 x0 x2))), (26, (i6 (A.ib .add .i64 x0 x2))), (25, (i6 x2)), (24, (i6 x0)), (3, (pT 1001 0)), (4, (pT 1002 0)), (5, (pT 2000 0)), (6, (i6 x0)), (7, (u64v x1)), (8, (i6 x2)), (9, (u64v x3)), (14, (aN .u64 5 x4)), (15, (i6 x5)), (19, (aN .u64 5 x6)), (20, (i6 x7))], [(1001, (bU 5 x8 44)), (1002, (bU 5 x9 44)), (2000, (bU 10 x10 63))]⟩
theorem g42R8 (x0 : Int) (x1 : Nat) (x2 : Int) (x3 : Nat) (x4 : List Nat) (x5 : Int) (x6 : List Nat) (x7 : Int) (x8 x9 x10 : List Nat) : g42D A n (pth 1363147) K ⟨[(3, (pT 1001 0)), (4, (pT 1002 0)), (5, (pT 2000 0)), (6, (i6 x0)), (7, (u64v x1)), (8, (i6 x2)), (9, (u64v x3)), (14, (aN .u64 5 x4)), (15, (i6 x5)), (19, (aN .u64 5 x6)), (20, (i6 x7))], [(1001, (bU 5 x8 44)), (1002, (bU 5 x9 44)), (2000, (bU 10 x10 63))]⟩ = K .normal (g42R8s0 A x0 x1 x2 x3 x4 x5 x6 x7 x8 x9 x10) := by kernel_rfl
def g42R9s0 (A : Ar) (x0 : Int) (x1 x2 : Nat) (x3 : Int) (x4 : List Nat) (x5 : Int) (x6 : List Nat) (x7 : Int) (x8 x9 x10 : List Nat) : St := ⟨[(28, (bO (A.ic .geq x3 5))), (27, (i6 x3)), (3, (pT 1001 0)), (4, (pT 1002 0)), (5, (pT 2000 0)), (6, (i6 x0)), (7, (u64v x1)), (9, (u64v x2)), (10, (i6 x3)), (14, (aN .u64 5 x4)), (15, (i6 x5)), (19, (aN .u64 5 x6)), (20, (i6 x7))], [(1001, (bU 5 x8 44)), (1002, (bU 5 x9 44)), (2000, (bU 10 x10 63))]⟩
theorem g42R9 (x0 : Int) (x1 x2 : Nat) (x3 : Int) (x4 : List Nat) (x5 : Int) (x6 : List Nat) (x7 : Int) (x8 x9 x10 : List Nat) : g42D A n (pth 5033163) K ⟨[(3, (pT 1001 0)), (4, (pT 1002 0)), (5, (pT 2000 0)), (6, (i6 x0)), (7, (u64v x1)), (9, (u64v x2)), (10, (i6 x3)), (14, (aN .u64 5 x4)), (15, (i6 x5)), (19, (aN .u64 5 x6)), (20, (i6 x7))], [(1001, (bU 5 x8 44)), (1002, (bU 5 x9 44)), (2000, (bU 10 x10 63))]⟩ = K .normal (g42R9s0 A x0 x1 x2 x3 x4 x5 x6 x7 x8 x9 x10) := by kernel_rfl
def g42R10s0 (A : Ar) (x0 : Int) (x1 x2 : Nat) (x3 : Int) (x4 : List Nat) (x5 : Int) (x6 : List Nat) (x7 : Int) (x8 x9 x10 : List Nat) : St := ⟨[(9, (u64v (A.nb .mul .u64 x2 19))), (10, (i6 (A.ib .sub .i64 x3 5))), (32, (u64v (A.nb .mul .u64 x2 19))), (31, (u64v x2)), (30, (i6 (A.ib .sub .i64 x3 5))), (29, (i6 x3)), (3, (pT 1001 0)), (4, (pT 1002 0)), (5, (pT 2000 0)), (6, (i6 x0)), (7, (u64v x1)), (9, (u64v x2)), (10, (i6 x3)), (14, (aN .u64 5 x4)), (15, (i6 x5)), (19, (aN .u64 5 x6)), (20, (i6 x7))], [(1001, (bU 5 x8 44)), (1002, (bU 5 x9 44)), (2000, (bU 10 x10 63))]⟩
theorem g42R10 (x0 : Int) (x1 x2 : Nat) (x3 : Int) (x4 : List Nat) (x5 : Int) (x6 : List Nat) (x7 : Int) (x8 x9 x10 : List Nat) : g42D A n (pth 11324619) K ⟨[(3, (pT 1001 0)), (4, (pT 1002 0)), (5, (pT 2000 0)), (6, (i6 x0)), (7, (u64v x1)), (9, (u64v x2)), (10, (i6 x3)), (14, (aN .u64 5 x4)), (15, (i6 x5)), (19, (aN .u64 5 x6)), (20, (i6 x7))], [(1001, (bU 5 x8 44)), (1002, (bU 5 x9 44)), (2000, (bU 10 x10 63))]⟩ = K .normal (g42R10s0 A x0 x1 x2 x3 x4 x5 x6 x7 x8 x9 x10) := by kernel_rfl
def g42R6s0 (A : Ar) (x0 : Int) (x1 : Nat) (x2 : List Nat) (x3 : Int) (x4 : List Nat) (x5 : Int) (x6 x7 x8 : List Nat) : St := ⟨[(21, (bO (A.ic .lss x5 5))), (3, (pT 1001 0)), (4, (pT 1002 0)), (5, (pT 2000 0)), (6, (i6 x0)), (7, (u64v x1)), (14, (aN .u64 5 x2)), (15, (i6 x3)), (19, (aN .u64 5 x4)), (20, (i6 x5))], [(1001, (bU 5 x6 44)), (1002, (bU 5 x7 44)), (2000, (bU 10 x8 63))]⟩
theorem g42R6 (x0 : Int) (x1 : Nat) (x2 : List Nat) (x3 : Int) (x4 : List Nat) (x5 : Int) (x6 x7 x8 : List Nat) : g42D A n (pth 36043) K ⟨[(3, (pT 1001 0)), (4, (pT 1002 0)), (5, (pT 2000 0)), (6, (i6 x0)), (7, (u64v x1)), (14, (aN .u64 5 x2)), (15, (i6 x3)), (19, (aN .u64 5 x4)), (20, (i6 x5))], [(1001, (bU 5 x6 44)), (1002, (bU 5 x7 44)), (2000, (bU 10 x8 63))]⟩ = K .normal (g42R6s0 A x0 x1 x2 x3 x4 x5 x6 x7 x8) := by kernel_rfl
def g42R13s0 (A : Ar) (x0 : List Nat) (x1 : Int) (x2 x3 x4 : List Nat) : St := ⟨[(15, (i6 (A.ib .add .i64 x1 1))), (39, (i6 (A.ib .add .i64 x1 1))), (3, (pT 1001 0)), (4, (pT 1002 0)), (5, (pT 2000 0)), (14, (aN .u64 5 x0)), (15, (i6 x1))], [(1001, (bU 5 x2 44)), (1002, (bU 5 x3 44)), (2000, (bU 10 x4 63))]⟩
theorem g42R13 (x0 : List Nat) (x1 : Int) (x2 x3 x4 : List Nat) : g42D A n (pth 971) K ⟨[(3, (pT 1001 0)), (4, (pT 1002 0)), (5, (pT 2000 0)), (14, (aN .u64 5 x0)), (15, (i6 x1))], [(1001, (bU 5 x2 44)), (1002, (bU 5 x3 44)), (2000, (bU 10 x4 63))]⟩ = K .normal (g42R13s0 A x0 x1 x2 x3 x4) := by kernel_rfl
def g42R4s0 (A : Ar) (x0 : List Nat) (x1 : Int) (x2 x3 x4 : List Nat) : St := ⟨[(7, (u64v (x0.getD (A.toN x1) 0))), (6, (i6 x1)), (18, (u64v (x0.getD (A.toN x1) 0))), (17, (i6 x1)), (3, (pT 1001 0)), (4, (pT 1002 0)), (5, (pT 2000 0)), (14, (aN .u64 5 x0)), (15, (i6 x1))], [(1001, (bU 5 x2 44)), (1002, (bU 5 x3 44)), (2000, (bU 10 x4 63))]⟩
theorem g42R4 (x0 : List Nat) (x1 : Int) (x2 x3 x4 : List Nat) : g42D A n (pth 2251) K ⟨[(3, (pT 1001 0)), (4, (pT 1002 0)), (5, (pT 2000 0)), (14, (aN .u64 5 x0)), (15, (i6 x1))], [(1001, (bU 5 x2 44)), (1002, (bU 5 x3 44)), (2000, (bU 10 x4 63))]⟩ = match (generalizing := false) A.neg x1 with
    | true => none
    | false => match (generalizing := false) A.lt (A.toN x1) 5 with
      | true => K .normal (g42R4s0 A x0 x1 x2 x3 x4)
      | false => none := by kernel_rfl
def g42R5s0 (A : Ar) (x0 : Int) (x1 : Nat) (x2 : List Nat) (x3 : Int) (x4 x5 x6 : List Nat) : St := ⟨[(20, (i6 0)), (19, (aN .u64 5 x4)), (3, (pT 1001 0)), (4, (pT 1002 0)), (5, (pT 2000 0)), (6, (i6 x0)), (7, (u64v x1)), (14, (aN .u64 5 x2)), (15, (i6 x3))], [(1001, (bU 5 x4 44)), (1002, (bU 5 x5 44)), (2000, (bU 10 x6 63))]⟩
theorem g42R5 (x0 : Int) (x1 : Nat) (x2 : List Nat) (x3 : Int) (x4 x5 x6 : List Nat) : g42D A n (pth 5323) K ⟨[(3, (pT 1001 0)), (4, (pT 1002 0)), (5, (pT 2000 0)), (6, (i6 x0)), (7, (u64v x1)), (14, (aN .u64 5 x2)), (15, (i6 x3))], [(1001, (bU 5 x4 44)), (1002, (bU 5 x5 44)), (2000, (bU 10 x6 63))]⟩ = K .normal (g42R5s0 A x0 x1 x2 x3 x4 x5 x6) := by kernel_rfl
def g42R18s0 (A : Ar) (x0 : Nat) (x1 : Int) (x2 x3 x4 : List Nat) : St := ⟨[(13, (i6 x1)), (42, (i6 x1)), (4, (pT 1002 0)), (5, (pT 2000 0)), (11, (pT 15000 0)), (12, (u64v x0)), (40, (i6 x1))], [(1002, (bU 5 x2 44)), (2000, (bU 10 x3 63)), (15000, (bU 5 x4 44))]⟩
theorem g42R18 (x0 : Nat) (x1 : Int) (x2 x3 x4 : List Nat) : g42D A n (pth 18015) K ⟨[(4, (pT 1002 0)), (5, (pT 2000 0)), (11, (pT 15000 0)), (12, (u64v x0)), (40, (i6 x1))], [(1002, (bU 5 x2 44)), (2000, (bU 10 x3 63)), (15000, (bU 5 x4 44))]⟩ = K .normal (g42R18s0 A x0 x1 x2 x3 x4) := by kernel_rfl
def g42R19s0 (A : Ar) (x0 : Nat) (x1 x2 : Int) (x3 x4 x5 : List Nat) : St := ⟨[(46, (.tup [])), (45, (u64v x0)), (44, (.v (.cell (.ptr 2000 0 (some ⟨(A.toN x1) * 2, 2, 10, 0, 0, 0⟩))))), (43, (i6 x1)), (4, (pT 1002 0)), (5, (pT 2000 0)), (11, (pT 15000 0)), (12, (u64v x0)), (13, (i6 x1)), (40, (i6 x2))], [(1002, (bU 5 x3 44)), (2000, (bU 10 (g50r0 A ((A.toN x1) * 2) x0 x4) 63)), (15000, (bU 5 x5 44))]⟩
theorem g42R19 (x0 : Nat) (x1 x2 : Int) (x3 x4 x5 : List Nat) : g42D A n (pth 42591) K ⟨[(4, (pT 1002 0)), (5, (pT 2000 0)), (11, (pT 15000 0)), (12, (u64v x0)), (13, (i6 x1)), (40, (i6 x2))], [(1002, (bU 5 x3 44)), (2000, (bU 10 x4 63)), (15000, (bU 5 x5 44))]⟩ = match (generalizing := false) A.neg x1 with
    | true => none
    | false => match (generalizing := false) A.lt (A.toN x1) 5 with
      | true => match (generalizing := false) g50ok A ((A.toN x1) * 2) x0 x4 with
        | true => K .normal (g42R19s0 A x0 x1 x2 x3 x4 x5)
        | false => none
      | false => none := by kernel_rfl
def g42R20s0 (A : Ar) (x0 x1 : Int) (x2 x3 x4 : List Nat) : St := ⟨[(12, (u64v (g51r0 A ((x3.drop ((A.toN x0) * 2)).take 2)))), (57, (.v (.cell (.ptr 15000 0 (some ⟨A.toN x0, 1, 5, 0, 0, 0⟩))))), (56, (u64v (g51r0 A ((x3.drop ((A.toN x0) * 2)).take 2)))), (55, (aN .u64 2 ((x3.drop ((A.toN x0) * 2)).take 2))), (54, (.v (.cell (.ptr 2000 0 (some ⟨(A.toN x0) * 2, 2, 10, 0, 0, 0⟩))))), (53, (i6 x0)), (52, (u64v (A.nb .and .u64 (x3.getD (((A.toN x0) * 2) + 1) 0) 2251799813685247))), (51, (u64v (x3.getD (((A.toN x0) * 2) + 1) 0))), (50, (.v (.cell (.ptr 2000 0 (some ⟨((A.toN x0) * 2) + 1, 1, 10, 0, 1, 0⟩))))), (49, (.v (.cell (.ptr 2000 0 (some ⟨(A.toN x0) * 2, 2, 10, 0, 0, 0⟩))))), (48, (i6 x0)), (47, (i6 x0)), (4, (pT 1002 0)), (5, (pT 2000 0)), (11, (pT 15000 0)), (13, (i6 x0)), (40, (i6 x1))], [(1002, (bU 5 x2 44)), (2000, (bU 10 x3 63)), (15000, (bU 5 (x4.set (A.toN x0) (A.nb .and .u64 (x3.getD (((A.toN x0) * 2) + 1) 0) 2251799813685247)) 44))]⟩
theorem g42R20 (x0 x1 : Int) (x2 x3 x4 : List Nat) : g42D A n (pth 58975) K ⟨[(4, (pT 1002 0)), (5, (pT 2000 0)), (11, (pT 15000 0)), (13, (i6 x0)), (40, (i6 x1))], [(1002, (bU 5 x2 44)), (2000, (bU 10 x3 63)), (15000, (bU 5 x4 44))]⟩ = match (generalizing := false) A.neg x0 with
    | true => none
    | false => match (generalizing := false) A.lt (A.toN x0) 5 with
      | true => match (generalizing := false) A.neg x0 with
        | true => none
        | false => match (generalizing := false) A.lt (A.toN x0) 5 with
          | true => match (generalizing := false) g51ok A ((x3.drop ((A.toN x0) * 2)).take 2) with
            | true => match (generalizing := false) A.neg x0 with
              | true => none
              | false => match (generalizing := false) A.lt (A.toN x0) 5 with
                | true => K .normal (g42R20s0 A x0 x1 x2 x3 x4)
                | false => none
            | false => none
          | false => none
      | false => none := by kernel_rfl
def g42R21s0 (A : Ar) (x0 : Nat) (x1 : Int) (x2 x3 x4 : List Nat) : St := ⟨[(40, (i6 (A.ib .add .i64 x1 1))), (58, (i6 (A.ib .add .i64 x1 1))), (4, (pT 1002 0)), (5, (pT 2000 0)), (11, (pT 15000 0)), (12, (u64v x0)), (40, (i6 x1))], [(1002, (bU 5 x2 44)), (2000, (bU 10 x3 63)), (15000, (bU 5 x4 44))]⟩
theorem g42R21 (x0 : Nat) (x1 : Int) (x2 x3 x4 : List Nat) : g42D A n (pth 7775) K ⟨[(4, (pT 1002 0)), (5, (pT 2000 0)), (11, (pT 15000 0)), (12, (u64v x0)), (40, (i6 x1))], [(1002, (bU 5 x2 44)), (2000, (bU 10 x3 63)), (15000, (bU 5 x4 44))]⟩ = K .normal (g42R21s0 A x0 x1 x2 x3 x4) := by kernel_rfl
def g42R22s0 (A : Ar) (x0 : Nat) (x1 x2 : List Nat) : St := ⟨[(64, (pT 15000 0)), (63, (u64v (A.nb .add .u64 (x2.getD 0 0) (A.nb .mul .u64 x0 19)))), (62, (u64v (A.nb .mul .u64 x0 19))), (61, (u64v x0)), (60, (u64v (x2.getD 0 0))), (59, (pT 15000 0)), (4, (pT 1002 0)), (11, (pT 15000 0)), (12, (u64v x0))], [(1002, (bU 5 x1 44)), (15000, (bU 5 (x2.set 0 (A.nb .add .u64 (x2.getD 0 0) (A.nb .mul .u64 x0 19))) 44))]⟩
theorem g42R22 (x0 : Nat) (x1 x2 : List Nat) : g42D A n (pth 191) K ⟨[(4, (pT 1002 0)), (11, (pT 15000 0)), (12, (u64v x0))], [(1002, (bU 5 x1 44)), (15000, (bU 5 x2 44))]⟩ = K .normal (g42R22s0 A x0 x1 x2) := by kernel_rfl
def g42R23s0 (A : Ar) (x0 x1 : List Nat) : St := ⟨[(66, (aN .u64 5 (g47r0 A x1))), (65, (aN .u64 5 x1)), (4, (pT 1002 0)), (11, (pT 15000 0))], [(1002, (bU 5 (g47r0 A x1) 44)), (15000, (bU 5 x1 44))]⟩
theorem g42R23 (x0 x1 : List Nat) : g42D A n (pth 383) K ⟨[(4, (pT 1002 0)), (11, (pT 15000 0))], [(1002, (bU 5 x0 44)), (15000, (bU 5 x1 44))]⟩ = match (generalizing := false) g47ok A x1 with
    | true => K .normal (g42R23s0 A x0 x1)
    | false => none := by kernel_rfl
def g42R17s0 (A : Ar) (x0 : Nat) (x1 : Int) (x2 x3 x4 : List Nat) : St := ⟨[(41, (bO (A.ic .lss x1 5))), (4, (pT 1002 0)), (5, (pT 2000 0)), (11, (pT 15000 0)), (12, (u64v x0)), (40, (i6 x1))], [(1002, (bU 5 x2 44)), (2000, (bU 10 x3 63)), (15000, (bU 5 x4 44))]⟩
theorem g42R17 (x0 : Nat) (x1 : Int) (x2 x3 x4 : List Nat) : g42D A n (pth 1119) K ⟨[(4, (pT 1002 0)), (5, (pT 2000 0)), (11, (pT 15000 0)), (12, (u64v x0)), (40, (i6 x1))], [(1002, (bU 5 x2 44)), (2000, (bU 10 x3 63)), (15000, (bU 5 x4 44))]⟩ = K .normal (g42R17s0 A x0 x1 x2 x3 x4) := by kernel_rfl
def g42R14s0 (A : Ar) (x0 x1 : List Nat) : St := ⟨[(11, (pT 15000 0)), (4, (pT 1002 0)), (5, (pT 2000 0))], [(15000, (bU 5 [0, 0, 0, 0, 0] 44)), (1002, (bU 5 x0 44)), (2000, (bU 10 x1 63))]⟩
theorem g42R14 (x0 x1 : List Nat) : g42D A n (pth 23) K ⟨[(4, (pT 1002 0)), (5, (pT 2000 0))], [(1002, (bU 5 x0 44)), (2000, (bU 10 x1 63))]⟩ = K .normal (g42R14s0 A x0 x1) := by kernel_rfl
def g42R15s0 (A : Ar) (x0 x1 x2 : List Nat) : St := ⟨[(12, (u64v 0)), (4, (pT 1002 0)), (5, (pT 2000 0)), (11, (pT 15000 0))], [(1002, (bU 5 x0 44)), (2000, (bU 10 x1 63)), (15000, (bU 5 x2 44))]⟩
theorem g42R15 (x0 x1 x2 : List Nat) : g42D A n (pth 47) K ⟨[(4, (pT 1002 0)), (5, (pT 2000 0)), (11, (pT 15000 0))], [(1002, (bU 5 x0 44)), (2000, (bU 10 x1 63)), (15000, (bU 5 x2 44))]⟩ = K .normal (g42R15s0 A x0 x1 x2) := by kernel_rfl
def g42R16s0 (A : Ar) (x0 : Nat) (x1 x2 x3 : List Nat) : St := ⟨[(40, (i6 0)), (4, (pT 1002 0)), (5, (pT 2000 0)), (11, (pT 15000 0)), (12, (u64v x0))], [(1002, (bU 5 x1 44)), (2000, (bU 10 x2 63)), (15000, (bU 5 x3 44))]⟩
theorem g42R16 (x0 : Nat) (x1 x2 x3 : List Nat) : g42D A n (pth 159) K ⟨[(4, (pT 1002 0)), (5, (pT 2000 0)), (11, (pT 15000 0)), (12, (u64v x0))], [(1002, (bU 5 x1 44)), (2000, (bU 10 x2 63)), (15000, (bU 5 x3 44))]⟩ = K .normal (g42R16s0 A x0 x1 x2 x3) := by kernel_rfl
def g42R3s0 (A : Ar) (x0 : List Nat) (x1 : Int) (x2 x3 x4 : List Nat) : St := ⟨[(16, (bO (A.ic .lss x1 5))), (3, (pT 1001 0)), (4, (pT 1002 0)), (5, (pT 2000 0)), (14, (aN .u64 5 x0)), (15, (i6 x1))], [(1001, (bU 5 x2 44)), (1002, (bU 5 x3 44)), (2000, (bU 10 x4 63))]⟩
theorem g42R3 (x0 : List Nat) (x1 : Int) (x2 x3 x4 : List Nat) : g42D A n (pth 139) K ⟨[(3, (pT 1001 0)), (4, (pT 1002 0)), (5, (pT 2000 0)), (14, (aN .u64 5 x0)), (15, (i6 x1))], [(1001, (bU 5 x2 44)), (1002, (bU 5 x3 44)), (2000, (bU 10 x4 63))]⟩ = K .normal (g42R3s0 A x0 x1 x2 x3 x4) := by kernel_rfl
def g42R0s0 (A : Ar) (x0 x1 : List Nat) : St := ⟨[(4, (pT 1002 0)), (3, (pT 1001 0)), (2, (pT 1000 0)), (0, (aN .u64 5 x0)), (1, (aN .u64 5 x1))], [(1002, (bU 5 [0, 0, 0, 0, 0] 44)), (1001, (bU 5 x1 44)), (1000, (bU 5 x0 44))]⟩
theorem g42R0 (x0 x1 : List Nat) : g42D A n (pth 2) K ⟨[(0, (aN .u64 5 x0)), (1, (aN .u64 5 x1))], []⟩ = K .normal (g42R0s0 A x0 x1) := by kernel_rfl
def g42R1s0 (A : Ar) (x0 x1 x2 : List Nat) : St := ⟨[(5, (pT 2000 0)), (2, (pT 1000 0)), (3, (pT 1001 0)), (4, (pT 1002 0))], [(2000, (bU 10 [0, 0, 0, 0, 0, 0, 0, 0, 0, 0] 63)), (1000, (bU 5 x0 44)), (1001, (bU 5 x1 44)), (1002, (bU 5 x2 44))]⟩
theorem g42R1 (x0 x1 x2 : List Nat) : g42D A n (pth 5) K ⟨[(2, (pT 1000 0)), (3, (pT 1001 0)), (4, (pT 1002 0))], [(1000, (bU 5 x0 44)), (1001, (bU 5 x1 44)), (1002, (bU 5 x2 44))]⟩ = K .normal (g42R1s0 A x0 x1 x2) := by kernel_rfl
def g42R2s0 (A : Ar) (x0 x1 : List Nat) (x2 x3 : List Nat) : St := ⟨[(15, (i6 0)), (14, (aN .u64 5 x0)), (2, (pT 1000 0)), (3, (pT 1001 0)), (4, (pT 1002 0)), (5, (pT 2000 0))], [(1000, (bU 5 x0 44)), (1001, (bU 5 x1 44)), (1002, (bU 5 x2 44)), (2000, (bU 10 x3 63))]⟩
theorem g42R2 (x0 x1 : List Nat) (x2 x3 : List Nat) : g42D A n (pth 19) K ⟨[(2, (pT 1000 0)), (3, (pT 1001 0)), (4, (pT 1002 0)), (5, (pT 2000 0))], [(1000, (bU 5 x0 44)), (1001, (bU 5 x1 44)), (1002, (bU 5 x2 44)), (2000, (bU 10 x3 63))]⟩ = K .normal (g42R2s0 A x0 x1 x2 x3) := by kernel_rfl
end
def g42J11 {R : Type} (A : Ar) (n : Nat) (kk : AV → Heap → Option R) (lg42L3 : List Nat → Int → List Nat → List Nat → List Nat → Option R) (lg42L6 : Int → Nat → List Nat → Int → List Nat → Int → List Nat → List Nat → List Nat → Option R) (x0 : Int) (x1 x2 : Nat) (x3 : Int) (x4 : List Nat) (x5 : Int) (x6 : List Nat) (x7 : Int) (x8 x9 x10 : List Nat) : Option R :=
  match (generalizing := false) A.neg x3 with
  | true => none
  | false => match (generalizing := false) A.lt (A.toN x3) 5 with
    | true => match (generalizing := false) g49ok A ((A.toN x3) * 2) x1 x2 x10 with
      | true => lg42L6 x0 x1 x4 x5 x6 (A.ib .add .i64 x7 1) x8 x9 (g49r0 A ((A.toN x3) * 2) x1 x2 x10)
      | false => none
    | false => none
set_option maxRecDepth 100000 in
theorem g42J11_eq {R : Type} (A : Ar) (n : Nat) (kk : AV → Heap → Option R) (m0 m1 : Nat) (lg42L3 : List Nat → Int → List Nat → List Nat → List Nat → Option R) (lg42L6 : Int → Nat → List Nat → Int → List Nat → Int → List Nat → List Nat → List Nat → Option R) 
    (hg42L3 : ∀ (s : St) (x0 : List Nat) (x1 : Int) (x2 x3 x4 : List Nat), keep g42an 3 s = ⟨[(3, (pT 1001 0)), (4, (pT 1002 0)), (5, (pT 2000 0)), (14, (aN .u64 5 x0)), (15, (i6 x1))], [(1001, (bU 5 x2 44)), (1002, (bU 5 x3 44)), (2000, (bU 10 x4 63))]⟩ → g42V A n (pth 75) m0 (blockK 0 (g42Q A n (pth 15) (g42T kk))) s = lg42L3 x0 x1 x2 x3 x4)
    (hg42L6 : ∀ (s : St) (x0 : Int) (x1 : Nat) (x2 : List Nat) (x3 : Int) (x4 : List Nat) (x5 : Int) (x6 x7 x8 : List Nat), keep g42an 6 s = ⟨[(3, (pT 1001 0)), (4, (pT 1002 0)), (5, (pT 2000 0)), (6, (i6 x0)), (7, (u64v x1)), (14, (aN .u64 5 x2)), (15, (i6 x3)), (19, (aN .u64 5 x4)), (20, (i6 x5))], [(1001, (bU 5 x6 44)), (1002, (bU 5 x7 44)), (2000, (bU 10 x8 63))]⟩ → g42V A n (pth 19659) m1 (blockK 2 (blockK 1 (g42Q A n (pth 971) (g42W A n (pth 75) m0 (blockK 0 (g42Q A n (pth 15) (g42T kk))))))) s = lg42L6 x0 x1 x2 x3 x4 x5 x6 x7 x8) (s : St) (x0 : Int) (x1 x2 : Nat) (x3 : Int) (x4 : List Nat) (x5 : Int) (x6 : List Nat) (x7 : Int) (x8 x9 x10 : List Nat) (h : keep g42an 11 s = ⟨[(3, (pT 1001 0)), (4, (pT 1002 0)), (5, (pT 2000 0)), (6, (i6 x0)), (7, (u64v x1)), (9, (u64v x2)), (10, (i6 x3)), (14, (aN .u64 5 x4)), (15, (i6 x5)), (19, (aN .u64 5 x6)), (20, (i6 x7))], [(1001, (bU 5 x8 44)), (1002, (bU 5 x9 44)), (2000, (bU 10 x10 63))]⟩) :
    g42D A n (pth 3984587) (blockK 3 (g42Q A n (pth 249035) (g42W A n (pth 19659) m1 (blockK 2 (blockK 1 (g42Q A n (pth 971) (g42W A n (pth 75) m0 (blockK 0 (g42Q A n (pth 15) (g42T kk)))))))))) s = g42J11 A n kk lg42L3 lg42L6 x0 x1 x2 x3 x4 x5 x6 x7 x8 x9 x10 := by
  have h1 := (g42Wn A n _ _ _ _).trans (hg42L6 (g42R12s0 A x0 x1 x4 x5 x6 x7 x8 x9 (g49r0 A ((A.toN x3) * 2) x1 x2 x10)) x0 x1 x4 x5 x6 (A.ib .add .i64 x7 1) x8 x9 (g49r0 A ((A.toN x3) * 2) x1 x2 x10) (by kernel_rfl))
  have h2 := (g42F A n _ 12 _ (g42R11s0 A x0 x1 x2 x3 x4 x5 x6 x7 x8 x9 x10) _ (by kernel_rfl) (by kernel_rfl)).trans (g42R12 A n (g42W A n (pth 19659) m1 (blockK 2 (blockK 1 (g42Q A n (pth 971) (g42W A n (pth 75) m0 (blockK 0 (g42Q A n (pth 15) (g42T kk)))))))) x0 x1 x4 x5 x6 x7 x8 x9 (g49r0 A ((A.toN x3) * 2) x1 x2 x10))
  rw [h1] at h2
  have h3 := (g42Qn A n _ _ _).trans h2
  have h4 := (blockK_n 3 _ _).trans h3
  have h5 := (g42F A n _ 11 _ ⟨[(3, (pT 1001 0)), (4, (pT 1002 0)), (5, (pT 2000 0)), (6, (i6 x0)), (7, (u64v x1)), (9, (u64v x2)), (10, (i6 x3)), (14, (aN .u64 5 x4)), (15, (i6 x5)), (19, (aN .u64 5 x6)), (20, (i6 x7))], [(1001, (bU 5 x8 44)), (1002, (bU 5 x9 44)), (2000, (bU 10 x10 63))]⟩ _ (by kernel_rfl) (by kernel_rfl)).trans (g42R11 A n (blockK 3 (g42Q A n (pth 249035) (g42W A n (pth 19659) m1 (blockK 2 (blockK 1 (g42Q A n (pth 971) (g42W A n (pth 75) m0 (blockK 0 (g42Q A n (pth 15) (g42T kk)))))))))) x0 x1 x2 x3 x4 x5 x6 x7 x8 x9 x10)
  rw [h4] at h5
  exact (g42F A n _ 11 _ _ ⟨[(3, (pT 1001 0)), (4, (pT 1002 0)), (5, (pT 2000 0)), (6, (i6 x0)), (7, (u64v x1)), (9, (u64v x2)), (10, (i6 x3)), (14, (aN .u64 5 x4)), (15, (i6 x5)), (19, (aN .u64 5 x6)), (20, (i6 x7))], [(1001, (bU 5 x8 44)), (1002, (bU 5 x9 44)), (2000, (bU 10 x10 63))]⟩ (by kernel_rfl) (h.trans (by kernel_rfl))).trans (h5.trans (by kernel_rfl))
def g42J7 {R : Type} (A : Ar) (n : Nat) (kk : AV → Heap → Option R) (lg42L3 : List Nat → Int → List Nat → List Nat → List Nat → Option R) (lg42L6 : Int → Nat → List Nat → Int → List Nat → Int → List Nat → List Nat → List Nat → Option R) (x0 : Int) (x1 : Nat) (x2 : List Nat) (x3 : Int) (x4 : List Nat) (x5 : Int) (x6 x7 x8 : List Nat) : Option R :=
  match (generalizing := false) A.neg x5 with
  | true => none
  | false => match (generalizing := false) A.lt (A.toN x5) 5 with
    | true => match (generalizing := false) A.ic .geq (A.ib .add .i64 x0 x5) 5 with
      | true => g42J11 A n kk lg42L3 lg42L6 x0 x1 (A.nb .mul .u64 (x4.getD (A.toN x5) 0) 19) (A.ib .sub .i64 (A.ib .add .i64 x0 x5) 5) x2 x3 x4 x5 x6 x7 x8
      | false => g42J11 A n kk lg42L3 lg42L6 x0 x1 (x4.getD (A.toN x5) 0) (A.ib .add .i64 x0 x5) x2 x3 x4 x5 x6 x7 x8
    | false => none
set_option maxRecDepth 100000 in
theorem g42J7_eq {R : Type} (A : Ar) (n : Nat) (kk : AV → Heap → Option R) (m0 m1 : Nat) (lg42L3 : List Nat → Int → List Nat → List Nat → List Nat → Option R) (lg42L6 : Int → Nat → List Nat → Int → List Nat → Int → List Nat → List Nat → List Nat → Option R) 
    (hg42L3 : ∀ (s : St) (x0 : List Nat) (x1 : Int) (x2 x3 x4 : List Nat), keep g42an 3 s = ⟨[(3, (pT 1001 0)), (4, (pT 1002 0)), (5, (pT 2000 0)), (14, (aN .u64 5 x0)), (15, (i6 x1))], [(1001, (bU 5 x2 44)), (1002, (bU 5 x3 44)), (2000, (bU 10 x4 63))]⟩ → g42V A n (pth 75) m0 (blockK 0 (g42Q A n (pth 15) (g42T kk))) s = lg42L3 x0 x1 x2 x3 x4)
    (hg42L6 : ∀ (s : St) (x0 : Int) (x1 : Nat) (x2 : List Nat) (x3 : Int) (x4 : List Nat) (x5 : Int) (x6 x7 x8 : List Nat), keep g42an 6 s = ⟨[(3, (pT 1001 0)), (4, (pT 1002 0)), (5, (pT 2000 0)), (6, (i6 x0)), (7, (u64v x1)), (14, (aN .u64 5 x2)), (15, (i6 x3)), (19, (aN .u64 5 x4)), (20, (i6 x5))], [(1001, (bU 5 x6 44)), (1002, (bU 5 x7 44)), (2000, (bU 10 x8 63))]⟩ → g42V A n (pth 19659) m1 (blockK 2 (blockK 1 (g42Q A n (pth 971) (g42W A n (pth 75) m0 (blockK 0 (g42Q A n (pth 15) (g42T kk))))))) s = lg42L6 x0 x1 x2 x3 x4 x5 x6 x7 x8) (s : St) (x0 : Int) (x1 : Nat) (x2 : List Nat) (x3 : Int) (x4 : List Nat) (x5 : Int) (x6 x7 x8 : List Nat) (h : keep g42an 7 s = ⟨[(3, (pT 1001 0)), (4, (pT 1002 0)), (5, (pT 2000 0)), (6, (i6 x0)), (7, (u64v x1)), (14, (aN .u64 5 x2)), (15, (i6 x3)), (19, (aN .u64 5 x4)), (20, (i6 x5))], [(1001, (bU 5 x6 44)), (1002, (bU 5 x7 44)), (2000, (bU 10 x8 63))]⟩) :
    g42D A n (pth 117963) (g42W A n (pth 19659) m1 (blockK 2 (blockK 1 (g42Q A n (pth 971) (g42W A n (pth 75) m0 (blockK 0 (g42Q A n (pth 15) (g42T kk)))))))) s = g42J7 A n kk lg42L3 lg42L6 x0 x1 x2 x3 x4 x5 x6 x7 x8 := by
  have h1 := (g42Qn A n _ _ _).trans (g42J11_eq A n kk m0 m1 lg42L3 lg42L6 hg42L3 hg42L6  (g42R10s0 A x0 x1 (x4.getD (A.toN x5) 0) (A.ib .add .i64 x0 x5) x2 x3 x4 x5 x6 x7 x8) x0 x1 (A.nb .mul .u64 (x4.getD (A.toN x5) 0) 19) (A.ib .sub .i64 (A.ib .add .i64 x0 x5) 5) x2 x3 x4 x5 x6 x7 x8 (by kernel_rfl))
  have h2 := (g42F A n _ 10 _ (g42R9s0 A x0 x1 (x4.getD (A.toN x5) 0) (A.ib .add .i64 x0 x5) x2 x3 x4 x5 x6 x7 x8) _ (by kernel_rfl) (by kernel_rfl)).trans (g42R10 A n (g42Q A n (pth 3984587) (blockK 3 (g42Q A n (pth 249035) (g42W A n (pth 19659) m1 (blockK 2 (blockK 1 (g42Q A n (pth 971) (g42W A n (pth 75) m0 (blockK 0 (g42Q A n (pth 15) (g42T kk))))))))))) x0 x1 (x4.getD (A.toN x5) 0) (A.ib .add .i64 x0 x5) x2 x3 x4 x5 x6 x7 x8)
  rw [h1] at h2
  have h3 := (g42Qn A n _ _ _).trans (g42J11_eq A n kk m0 m1 lg42L3 lg42L6 hg42L3 hg42L6  (g42R9s0 A x0 x1 (x4.getD (A.toN x5) 0) (A.ib .add .i64 x0 x5) x2 x3 x4 x5 x6 x7 x8) x0 x1 (x4.getD (A.toN x5) 0) (A.ib .add .i64 x0 x5) x2 x3 x4 x5 x6 x7 x8 (by kernel_rfl))
  have h4 := (g42p15518923 A n _ _).trans h3
  have h5 := g42p7130315 A n (g42Q A n (pth 3984587) (blockK 3 (g42Q A n (pth 249035) (g42W A n (pth 19659) m1 (blockK 2 (blockK 1 (g42Q A n (pth 971) (g42W A n (pth 75) m0 (blockK 0 (g42Q A n (pth 15) (g42T kk))))))))))) (g42R9s0 A x0 x1 (x4.getD (A.toN x5) 0) (A.ib .add .i64 x0 x5) x2 x3 x4 x5 x6 x7 x8) (A.ic .geq (A.ib .add .i64 x0 x5) 5) (by kernel_rfl)
  rw [h2, h4] at h5
  have h6 := (g42Qn A n _ _ _).trans h5
  have h7 := (g42F A n _ 9 _ (g42R8s0 A x0 x1 x5 (x4.getD (A.toN x5) 0) x2 x3 x4 x5 x6 x7 x8) _ (by kernel_rfl) (by kernel_rfl)).trans (g42R9 A n (g42Q A n (pth 7130315) (g42Q A n (pth 3984587) (blockK 3 (g42Q A n (pth 249035) (g42W A n (pth 19659) m1 (blockK 2 (blockK 1 (g42Q A n (pth 971) (g42W A n (pth 75) m0 (blockK 0 (g42Q A n (pth 15) (g42T kk)))))))))))) x0 x1 (x4.getD (A.toN x5) 0) (A.ib .add .i64 x0 x5) x2 x3 x4 x5 x6 x7 x8)
  rw [h6] at h7
  have h8 := (g42p2936011 A n _ _).trans h7
  have h9 := (g42p1887435 A n _ _).trans h8
  have h10 := (g42Qn A n _ _ _).trans h9
  have h11 := (g42F A n _ 8 _ (g42R7s0 A x0 x1 x2 x3 x4 x5 x6 x7 x8) _ (by kernel_rfl) (by kernel_rfl)).trans (g42R8 A n (g42Q A n (pth 1887435) (blockK 3 (g42Q A n (pth 249035) (g42W A n (pth 19659) m1 (blockK 2 (blockK 1 (g42Q A n (pth 971) (g42W A n (pth 75) m0 (blockK 0 (g42Q A n (pth 15) (g42T kk))))))))))) x0 x1 x5 (x4.getD (A.toN x5) 0) x2 x3 x4 x5 x6 x7 x8)
  rw [h10] at h11
  have h12 := (g42p838859 A n _ _).trans h11
  have h13 := (g42Qn A n _ _ _).trans h12
  have h14 := (g42F A n _ 7 _ ⟨[(3, (pT 1001 0)), (4, (pT 1002 0)), (5, (pT 2000 0)), (6, (i6 x0)), (7, (u64v x1)), (14, (aN .u64 5 x2)), (15, (i6 x3)), (19, (aN .u64 5 x4)), (20, (i6 x5))], [(1001, (bU 5 x6 44)), (1002, (bU 5 x7 44)), (2000, (bU 10 x8 63))]⟩ _ (by kernel_rfl) (by kernel_rfl)).trans (g42R7 A n (g42Q A n (pth 838859) (blockK 3 (g42Q A n (pth 249035) (g42W A n (pth 19659) m1 (blockK 2 (blockK 1 (g42Q A n (pth 971) (g42W A n (pth 75) m0 (blockK 0 (g42Q A n (pth 15) (g42T kk))))))))))) x0 x1 x2 x3 x4 x5 x6 x7 x8)
  rw [h13] at h14
  have h15 := (g42p314571 A n _ _).trans h14
  have h16 := (g42p183499 A n _ _).trans h15
  have h17 := (g42p117963 A n _ _).trans h16
  exact (g42F A n _ 7 _ _ ⟨[(3, (pT 1001 0)), (4, (pT 1002 0)), (5, (pT 2000 0)), (6, (i6 x0)), (7, (u64v x1)), (14, (aN .u64 5 x2)), (15, (i6 x3)), (19, (aN .u64 5 x4)), (20, (i6 x5))], [(1001, (bU 5 x6 44)), (1002, (bU 5 x7 44)), (2000, (bU 10 x8 63))]⟩ (by kernel_rfl) (h.trans (by kernel_rfl))).trans (h17.trans (by kernel_rfl))
def g42L6 {R : Type} (A : Ar) (n : Nat) (kk : AV → Heap → Option R) (lg42L3 : List Nat → Int → List Nat → List Nat → List Nat → Option R) : Nat → Int → Nat → List Nat → Int → List Nat → Int → List Nat → List Nat → List Nat → Option R
  | 0, _, _, _, _, _, _, _, _, _ => none
  | m + 1, x0, x1, x2, x3, x4, x5, x6, x7, x8 => match (generalizing := false) A.ic .lss x5 5 with
  | true => g42J7 A n kk lg42L3 (g42L6 A n kk lg42L3 m) x0 x1 x2 x3 x4 x5 x6 x7 x8
  | false => lg42L3 x2 (A.ib .add .i64 x3 1) x6 x7 x8
set_option maxRecDepth 100000 in
theorem g42L6_eq {R : Type} (A : Ar) (n : Nat) (kk : AV → Heap → Option R) (m0 : Nat) (lg42L3 : List Nat → Int → List Nat → List Nat → List Nat → Option R) 
    (hg42L3 : ∀ (s : St) (x0 : List Nat) (x1 : Int) (x2 x3 x4 : List Nat), keep g42an 3 s = ⟨[(3, (pT 1001 0)), (4, (pT 1002 0)), (5, (pT 2000 0)), (14, (aN .u64 5 x0)), (15, (i6 x1))], [(1001, (bU 5 x2 44)), (1002, (bU 5 x3 44)), (2000, (bU 10 x4 63))]⟩ → g42V A n (pth 75) m0 (blockK 0 (g42Q A n (pth 15) (g42T kk))) s = lg42L3 x0 x1 x2 x3 x4) (m : Nat) (s : St) (x0 : Int) (x1 : Nat) (x2 : List Nat) (x3 : Int) (x4 : List Nat) (x5 : Int) (x6 x7 x8 : List Nat) (h : keep g42an 6 s = ⟨[(3, (pT 1001 0)), (4, (pT 1002 0)), (5, (pT 2000 0)), (6, (i6 x0)), (7, (u64v x1)), (14, (aN .u64 5 x2)), (15, (i6 x3)), (19, (aN .u64 5 x4)), (20, (i6 x5))], [(1001, (bU 5 x6 44)), (1002, (bU 5 x7 44)), (2000, (bU 10 x8 63))]⟩) :
    g42V A n (pth 19659) m (blockK 2 (blockK 1 (g42Q A n (pth 971) (g42W A n (pth 75) m0 (blockK 0 (g42Q A n (pth 15) (g42T kk))))))) s = g42L6 A n kk lg42L3 m x0 x1 x2 x3 x4 x5 x6 x7 x8 := by
  induction m generalizing s x0 x1 x2 x3 x4 x5 x6 x7 x8 with
  | zero => rfl
  | succ m ih =>
    have h1 := (g42Qn A n _ _ _).trans (g42J7_eq A n kk m0 m lg42L3 (g42L6 A n kk lg42L3 m) hg42L3 ih  (g42R6s0 A x0 x1 x2 x3 x4 x5 x6 x7 x8) x0 x1 x2 x3 x4 x5 x6 x7 x8 (by kernel_rfl))
    have h2 := (g42p150731 A n _ _).trans h1
    have h3 := (g42Wn A n _ _ _ _).trans (hg42L3 (g42R13s0 A x2 x3 x6 x7 x8) x2 (A.ib .add .i64 x3 1) x6 x7 x8 (by kernel_rfl))
    have h4 := (g42F A n _ 13 _ (g42R6s0 A x0 x1 x2 x3 x4 x5 x6 x7 x8) _ (by kernel_rfl) (by kernel_rfl)).trans (g42R13 A n (g42W A n (pth 75) m0 (blockK 0 (g42Q A n (pth 15) (g42T kk)))) x2 x3 x6 x7 x8)
    rw [h3] at h4
    have h5 := (g42Qn A n _ _ _).trans h4
    have h6 := (blockK_n 1 _ _).trans h5
    have h7 := (blockK_hit 2 _ _).trans h6
    have h8 := (g42We A n (pth 19659) m _ _ _).trans h7
    have h9 := (g42Qe A n (pth 117963) _ _ _).trans h8
    have h10 := (g42p216267 A n _ _).trans h9
    have h11 := g42p85195 A n (g42Q A n (pth 117963) (g42W A n (pth 19659) m (blockK 2 (blockK 1 (g42Q A n (pth 971) (g42W A n (pth 75) m0 (blockK 0 (g42Q A n (pth 15) (g42T kk))))))))) (g42R6s0 A x0 x1 x2 x3 x4 x5 x6 x7 x8) (A.ic .lss x5 5) (by kernel_rfl)
    rw [h2, h10] at h11
    have h12 := (g42p52427 A n _ _).trans h11
    have h13 := (g42Qn A n _ _ _).trans h12
    have h14 := (g42F A n _ 6 _ ⟨[(3, (pT 1001 0)), (4, (pT 1002 0)), (5, (pT 2000 0)), (6, (i6 x0)), (7, (u64v x1)), (14, (aN .u64 5 x2)), (15, (i6 x3)), (19, (aN .u64 5 x4)), (20, (i6 x5))], [(1001, (bU 5 x6 44)), (1002, (bU 5 x7 44)), (2000, (bU 10 x8 63))]⟩ _ (by kernel_rfl) (by kernel_rfl)).trans (g42R6 A n (g42Q A n (pth 52427) (g42W A n (pth 19659) m (blockK 2 (blockK 1 (g42Q A n (pth 971) (g42W A n (pth 75) m0 (blockK 0 (g42Q A n (pth 15) (g42T kk))))))))) x0 x1 x2 x3 x4 x5 x6 x7 x8)
    rw [h13] at h14
    have h15 := (g42p19659 A n _ _).trans h14
    exact (loopD_first (s' := ⟨[(3, (pT 1001 0)), (4, (pT 1002 0)), (5, (pT 2000 0)), (6, (i6 x0)), (7, (u64v x1)), (14, (aN .u64 5 x2)), (15, (i6 x3)), (19, (aN .u64 5 x4)), (20, (i6 x5))], [(1001, (bU 5 x6 44)), (1002, (bU 5 x7 44)), (2000, (bU 10 x8 63))]⟩) (id := 6) (by kernel_rfl) (h.trans (by kernel_rfl)) _).trans ((g42Vs A n _ m _ _).trans (h15.trans (by kernel_rfl)))
def g42J4 {R : Type} (A : Ar) (n : Nat) (kk : AV → Heap → Option R) (lg42L3 : List Nat → Int → List Nat → List Nat → List Nat → Option R) (x0 : List Nat) (x1 : Int) (x2 x3 x4 : List Nat) : Option R :=
  match (generalizing := false) A.neg x1 with
  | true => none
  | false => match (generalizing := false) A.lt (A.toN x1) 5 with
    | true => g42L6 A n kk lg42L3 n x1 (x0.getD (A.toN x1) 0) x0 x1 x2 0 x2 x3 x4
    | false => none
set_option maxRecDepth 100000 in
theorem g42J4_eq {R : Type} (A : Ar) (n : Nat) (kk : AV → Heap → Option R) (m0 : Nat) (lg42L3 : List Nat → Int → List Nat → List Nat → List Nat → Option R) 
    (hg42L3 : ∀ (s : St) (x0 : List Nat) (x1 : Int) (x2 x3 x4 : List Nat), keep g42an 3 s = ⟨[(3, (pT 1001 0)), (4, (pT 1002 0)), (5, (pT 2000 0)), (14, (aN .u64 5 x0)), (15, (i6 x1))], [(1001, (bU 5 x2 44)), (1002, (bU 5 x3 44)), (2000, (bU 10 x4 63))]⟩ → g42V A n (pth 75) m0 (blockK 0 (g42Q A n (pth 15) (g42T kk))) s = lg42L3 x0 x1 x2 x3 x4) (s : St) (x0 : List Nat) (x1 : Int) (x2 x3 x4 : List Nat) (h : keep g42an 4 s = ⟨[(3, (pT 1001 0)), (4, (pT 1002 0)), (5, (pT 2000 0)), (14, (aN .u64 5 x0)), (15, (i6 x1))], [(1001, (bU 5 x2 44)), (1002, (bU 5 x3 44)), (2000, (bU 10 x4 63))]⟩) :
    g42D A n (pth 459) (g42W A n (pth 75) m0 (blockK 0 (g42Q A n (pth 15) (g42T kk)))) s = g42J4 A n kk lg42L3 x0 x1 x2 x3 x4 := by
  have h1 := (g42p11467 A n _ _).trans (g42L6_eq A n kk m0 lg42L3 hg42L3 n (g42R5s0 A x1 (x0.getD (A.toN x1) 0) x0 x1 x2 x3 x4) x1 (x0.getD (A.toN x1) 0) x0 x1 x2 0 x2 x3 x4 (by kernel_rfl))
  have h2 := (g42p7371 A n _ _).trans h1
  have h3 := (g42Qn A n _ _ _).trans h2
  have h4 := (g42F A n _ 5 _ (g42R4s0 A x0 x1 x2 x3 x4) _ (by kernel_rfl) (by kernel_rfl)).trans (g42R5 A n (g42Q A n (pth 7371) (blockK 1 (g42Q A n (pth 971) (g42W A n (pth 75) m0 (blockK 0 (g42Q A n (pth 15) (g42T kk))))))) x1 (x0.getD (A.toN x1) 0) x0 x1 x2 x3 x4)
  rw [h3] at h4
  have h5 := (g42p3275 A n _ _).trans h4
  have h6 := (g42Qn A n _ _ _).trans h5
  have h7 := (g42F A n _ 4 _ ⟨[(3, (pT 1001 0)), (4, (pT 1002 0)), (5, (pT 2000 0)), (14, (aN .u64 5 x0)), (15, (i6 x1))], [(1001, (bU 5 x2 44)), (1002, (bU 5 x3 44)), (2000, (bU 10 x4 63))]⟩ _ (by kernel_rfl) (by kernel_rfl)).trans (g42R4 A n (g42Q A n (pth 3275) (blockK 1 (g42Q A n (pth 971) (g42W A n (pth 75) m0 (blockK 0 (g42Q A n (pth 15) (g42T kk))))))) x0 x1 x2 x3 x4)
  rw [h6] at h7
  have h8 := (g42p1227 A n _ _).trans h7
  have h9 := (g42p715 A n _ _).trans h8
  have h10 := (g42p459 A n _ _).trans h9
  exact (g42F A n _ 4 _ _ ⟨[(3, (pT 1001 0)), (4, (pT 1002 0)), (5, (pT 2000 0)), (14, (aN .u64 5 x0)), (15, (i6 x1))], [(1001, (bU 5 x2 44)), (1002, (bU 5 x3 44)), (2000, (bU 10 x4 63))]⟩ (by kernel_rfl) (h.trans (by kernel_rfl))).trans (h10.trans (by kernel_rfl))
def g42J18 {R : Type} (A : Ar) (n : Nat) (kk : AV → Heap → Option R) (lg42L17 : Nat → Int → List Nat → List Nat → List Nat → Option R) (x0 : Nat) (x1 : Int) (x2 x3 x4 : List Nat) : Option R :=
  match (generalizing := false) A.neg x1 with
  | true => none
  | false => match (generalizing := false) A.lt (A.toN x1) 5 with
    | true => match (generalizing := false) g50ok A ((A.toN x1) * 2) x0 x3 with
      | true => match (generalizing := false) A.neg x1 with
        | true => none
        | false => match (generalizing := false) A.lt (A.toN x1) 5 with
          | true => match (generalizing := false) A.neg x1 with
            | true => none
            | false => match (generalizing := false) A.lt (A.toN x1) 5 with
              | true => match (generalizing := false) g51ok A (((g50r0 A ((A.toN x1) * 2) x0 x3).drop ((A.toN x1) * 2)).take 2) with
                | true => match (generalizing := false) A.neg x1 with
                  | true => none
                  | false => match (generalizing := false) A.lt (A.toN x1) 5 with
                    | true => lg42L17 (g51r0 A (((g50r0 A ((A.toN x1) * 2) x0 x3).drop ((A.toN x1) * 2)).take 2)) (A.ib .add .i64 x1 1) x2 (g50r0 A ((A.toN x1) * 2) x0 x3) (x4.set (A.toN x1) (A.nb .and .u64 ((g50r0 A ((A.toN x1) * 2) x0 x3).getD (((A.toN x1) * 2) + 1) 0) 2251799813685247))
                    | false => none
                | false => none
              | false => none
          | false => none
      | false => none
    | false => none
set_option maxRecDepth 100000 in
theorem g42J18_eq {R : Type} (A : Ar) (n : Nat) (kk : AV → Heap → Option R) (m0 : Nat) (lg42L17 : Nat → Int → List Nat → List Nat → List Nat → Option R) 
    (hg42L17 : ∀ (s : St) (x0 : Nat) (x1 : Int) (x2 x3 x4 : List Nat), keep g42an 17 s = ⟨[(4, (pT 1002 0)), (5, (pT 2000 0)), (11, (pT 15000 0)), (12, (u64v x0)), (40, (i6 x1))], [(1002, (bU 5 x2 44)), (2000, (bU 10 x3 63)), (15000, (bU 5 x4 44))]⟩ → g42V A n (pth 607) m0 (blockK 4 (g42Q A n (pth 127) (g42T kk))) s = lg42L17 x0 x1 x2 x3 x4) (s : St) (x0 : Nat) (x1 : Int) (x2 x3 x4 : List Nat) (h : keep g42an 18 s = ⟨[(4, (pT 1002 0)), (5, (pT 2000 0)), (11, (pT 15000 0)), (12, (u64v x0)), (40, (i6 x1))], [(1002, (bU 5 x2 44)), (2000, (bU 10 x3 63)), (15000, (bU 5 x4 44))]⟩) :
    g42D A n (pth 3679) (g42W A n (pth 607) m0 (blockK 4 (g42Q A n (pth 127) (g42T kk)))) s = g42J18 A n kk lg42L17 x0 x1 x2 x3 x4 := by
  have h1 := (g42Wn A n _ _ _ _).trans (hg42L17 (g42R21s0 A (g51r0 A (((g50r0 A ((A.toN x1) * 2) x0 x3).drop ((A.toN x1) * 2)).take 2)) x1 x2 (g50r0 A ((A.toN x1) * 2) x0 x3) (x4.set (A.toN x1) (A.nb .and .u64 ((g50r0 A ((A.toN x1) * 2) x0 x3).getD (((A.toN x1) * 2) + 1) 0) 2251799813685247))) (g51r0 A (((g50r0 A ((A.toN x1) * 2) x0 x3).drop ((A.toN x1) * 2)).take 2)) (A.ib .add .i64 x1 1) x2 (g50r0 A ((A.toN x1) * 2) x0 x3) (x4.set (A.toN x1) (A.nb .and .u64 ((g50r0 A ((A.toN x1) * 2) x0 x3).getD (((A.toN x1) * 2) + 1) 0) 2251799813685247)) (by kernel_rfl))
  have h2 := (g42F A n _ 21 _ (g42R20s0 A x1 x1 x2 (g50r0 A ((A.toN x1) * 2) x0 x3) x4) _ (by kernel_rfl) (by kernel_rfl)).trans (g42R21 A n (g42W A n (pth 607) m0 (blockK 4 (g42Q A n (pth 127) (g42T kk)))) (g51r0 A (((g50r0 A ((A.toN x1) * 2) x0 x3).drop ((A.toN x1) * 2)).take 2)) x1 x2 (g50r0 A ((A.toN x1) * 2) x0 x3) (x4.set (A.toN x1) (A.nb .and .u64 ((g50r0 A ((A.toN x1) * 2) x0 x3).getD (((A.toN x1) * 2) + 1) 0) 2251799813685247)))
  rw [h1] at h2
  have h3 := (g42Qn A n _ _ _).trans h2
  have h4 := (blockK_n 5 _ _).trans h3
  have h5 := (g42F A n _ 20 _ (g42R19s0 A x0 x1 x1 x2 x3 x4) _ (by kernel_rfl) (by kernel_rfl)).trans (g42R20 A n (blockK 5 (g42Q A n (pth 7775) (g42W A n (pth 607) m0 (blockK 4 (g42Q A n (pth 127) (g42T kk)))))) x1 x1 x2 (g50r0 A ((A.toN x1) * 2) x0 x3) x4)
  rw [h4] at h5
  have h6 := (g42Qn A n _ _ _).trans h5
  have h7 := (g42F A n _ 19 _ (g42R18s0 A x0 x1 x2 x3 x4) _ (by kernel_rfl) (by kernel_rfl)).trans (g42R19 A n (g42Q A n (pth 58975) (blockK 5 (g42Q A n (pth 7775) (g42W A n (pth 607) m0 (blockK 4 (g42Q A n (pth 127) (g42T kk))))))) x0 x1 x1 x2 x3 x4)
  rw [h6] at h7
  have h8 := (g42p26207 A n _ _).trans h7
  have h9 := (g42Qn A n _ _ _).trans h8
  have h10 := (g42F A n _ 18 _ ⟨[(4, (pT 1002 0)), (5, (pT 2000 0)), (11, (pT 15000 0)), (12, (u64v x0)), (40, (i6 x1))], [(1002, (bU 5 x2 44)), (2000, (bU 10 x3 63)), (15000, (bU 5 x4 44))]⟩ _ (by kernel_rfl) (by kernel_rfl)).trans (g42R18 A n (g42Q A n (pth 26207) (blockK 5 (g42Q A n (pth 7775) (g42W A n (pth 607) m0 (blockK 4 (g42Q A n (pth 127) (g42T kk))))))) x0 x1 x2 x3 x4)
  rw [h9] at h10
  have h11 := (g42p9823 A n _ _).trans h10
  have h12 := (g42p5727 A n _ _).trans h11
  have h13 := (g42p3679 A n _ _).trans h12
  exact (g42F A n _ 18 _ _ ⟨[(4, (pT 1002 0)), (5, (pT 2000 0)), (11, (pT 15000 0)), (12, (u64v x0)), (40, (i6 x1))], [(1002, (bU 5 x2 44)), (2000, (bU 10 x3 63)), (15000, (bU 5 x4 44))]⟩ (by kernel_rfl) (h.trans (by kernel_rfl))).trans (h13.trans (by kernel_rfl))
def g42J22 {R : Type} (A : Ar) (n : Nat) (kk : AV → Heap → Option R)  (x0 : Nat) (x1 x2 : List Nat) : Option R :=
  match (generalizing := false) g47ok A (x2.set 0 (A.nb .add .u64 (x2.getD 0 0) (A.nb .mul .u64 x0 19))) with
  | true => kk (aN .u64 5 (g47r0 A (x2.set 0 (A.nb .add .u64 (x2.getD 0 0) (A.nb .mul .u64 x0 19))))) [(1002, (bU 5 (g47r0 A (x2.set 0 (A.nb .add .u64 (x2.getD 0 0) (A.nb .mul .u64 x0 19)))) 44)), (15000, (bU 5 (x2.set 0 (A.nb .add .u64 (x2.getD 0 0) (A.nb .mul .u64 x0 19))) 44))]
  | false => none
set_option maxRecDepth 100000 in
theorem g42J22_eq {R : Type} (A : Ar) (n : Nat) (kk : AV → Heap → Option R)    (s : St) (x0 : Nat) (x1 x2 : List Nat) (h : keep g42an 22 s = ⟨[(4, (pT 1002 0)), (11, (pT 15000 0)), (12, (u64v x0))], [(1002, (bU 5 x1 44)), (15000, (bU 5 x2 44))]⟩) :
    g42D A n (pth 127) (g42T kk) s = g42J22 A n kk  x0 x1 x2 := by
  have h1 : (g42T kk) .ret (g42R23s0 A x1 (x2.set 0 (A.nb .add .u64 (x2.getD 0 0) (A.nb .mul .u64 x0 19)))) = kk (aN .u64 5 (g47r0 A (x2.set 0 (A.nb .add .u64 (x2.getD 0 0) (A.nb .mul .u64 x0 19))))) [(1002, (bU 5 (g47r0 A (x2.set 0 (A.nb .add .u64 (x2.getD 0 0) (A.nb .mul .u64 x0 19)))) 44)), (15000, (bU 5 (x2.set 0 (A.nb .add .u64 (x2.getD 0 0) (A.nb .mul .u64 x0 19))) 44))] := by kernel_rfl
  have h2 := (g42p511 A n _ _).trans h1
  have h3 := (g42Qn A n _ _ _).trans h2
  have h4 := (g42F A n _ 23 _ (g42R22s0 A x0 x1 x2) _ (by kernel_rfl) (by kernel_rfl)).trans (g42R23 A n (g42Q A n (pth 511) (g42T kk)) x1 (x2.set 0 (A.nb .add .u64 (x2.getD 0 0) (A.nb .mul .u64 x0 19))))
  rw [h3] at h4
  have h5 := (g42p255 A n _ _).trans h4
  have h6 := (g42Qn A n _ _ _).trans h5
  have h7 := (g42F A n _ 22 _ ⟨[(4, (pT 1002 0)), (11, (pT 15000 0)), (12, (u64v x0))], [(1002, (bU 5 x1 44)), (15000, (bU 5 x2 44))]⟩ _ (by kernel_rfl) (by kernel_rfl)).trans (g42R22 A n (g42Q A n (pth 255) (g42T kk)) x0 x1 x2)
  rw [h6] at h7
  have h8 := (g42p127 A n _ _).trans h7
  exact (g42F A n _ 22 _ _ ⟨[(4, (pT 1002 0)), (11, (pT 15000 0)), (12, (u64v x0))], [(1002, (bU 5 x1 44)), (15000, (bU 5 x2 44))]⟩ (by kernel_rfl) (h.trans (by kernel_rfl))).trans (h8.trans (by kernel_rfl))
def g42L17 {R : Type} (A : Ar) (n : Nat) (kk : AV → Heap → Option R)  : Nat → Nat → Int → List Nat → List Nat → List Nat → Option R
  | 0, _, _, _, _, _ => none
  | m + 1, x0, x1, x2, x3, x4 => match (generalizing := false) A.ic .lss x1 5 with
  | true => g42J18 A n kk (g42L17 A n kk  m) x0 x1 x2 x3 x4
  | false => g42J22 A n kk  x0 x2 x4
set_option maxRecDepth 100000 in
theorem g42L17_eq {R : Type} (A : Ar) (n : Nat) (kk : AV → Heap → Option R)    (m : Nat) (s : St) (x0 : Nat) (x1 : Int) (x2 x3 x4 : List Nat) (h : keep g42an 17 s = ⟨[(4, (pT 1002 0)), (5, (pT 2000 0)), (11, (pT 15000 0)), (12, (u64v x0)), (40, (i6 x1))], [(1002, (bU 5 x2 44)), (2000, (bU 10 x3 63)), (15000, (bU 5 x4 44))]⟩) :
    g42V A n (pth 607) m (blockK 4 (g42Q A n (pth 127) (g42T kk))) s = g42L17 A n kk  m x0 x1 x2 x3 x4 := by
  induction m generalizing s x0 x1 x2 x3 x4 with
  | zero => rfl
  | succ m ih =>
    have h1 := (g42Qn A n _ _ _).trans (g42J18_eq A n kk m (g42L17 A n kk  m) ih  (g42R17s0 A x0 x1 x2 x3 x4) x0 x1 x2 x3 x4 (by kernel_rfl))
    have h2 := (g42p4703 A n _ _).trans h1
    have h3 := (g42Qn A n _ _ _).trans (g42J22_eq A n kk     (g42R17s0 A x0 x1 x2 x3 x4) x0 x2 x4 (by kernel_rfl))
    have h4 := (blockK_hit 4 _ _).trans h3
    have h5 := (g42We A n (pth 607) m _ _ _).trans h4
    have h6 := (g42Qe A n (pth 3679) _ _ _).trans h5
    have h7 := (g42p6751 A n _ _).trans h6
    have h8 := g42p2655 A n (g42Q A n (pth 3679) (g42W A n (pth 607) m (blockK 4 (g42Q A n (pth 127) (g42T kk))))) (g42R17s0 A x0 x1 x2 x3 x4) (A.ic .lss x1 5) (by kernel_rfl)
    rw [h2, h7] at h8
    have h9 := (g42p1631 A n _ _).trans h8
    have h10 := (g42Qn A n _ _ _).trans h9
    have h11 := (g42F A n _ 17 _ ⟨[(4, (pT 1002 0)), (5, (pT 2000 0)), (11, (pT 15000 0)), (12, (u64v x0)), (40, (i6 x1))], [(1002, (bU 5 x2 44)), (2000, (bU 10 x3 63)), (15000, (bU 5 x4 44))]⟩ _ (by kernel_rfl) (by kernel_rfl)).trans (g42R17 A n (g42Q A n (pth 1631) (g42W A n (pth 607) m (blockK 4 (g42Q A n (pth 127) (g42T kk))))) x0 x1 x2 x3 x4)
    rw [h10] at h11
    have h12 := (g42p607 A n _ _).trans h11
    exact (loopD_first (s' := ⟨[(4, (pT 1002 0)), (5, (pT 2000 0)), (11, (pT 15000 0)), (12, (u64v x0)), (40, (i6 x1))], [(1002, (bU 5 x2 44)), (2000, (bU 10 x3 63)), (15000, (bU 5 x4 44))]⟩) (id := 17) (by kernel_rfl) (h.trans (by kernel_rfl)) _).trans ((g42Vs A n _ m _ _).trans (h12.trans (by kernel_rfl)))
def g42J14 {R : Type} (A : Ar) (n : Nat) (kk : AV → Heap → Option R)  (x0 x1 : List Nat) : Option R :=
  g42L17 A n kk  n 0 0 x0 x1 [0, 0, 0, 0, 0]
set_option maxRecDepth 100000 in
theorem g42J14_eq {R : Type} (A : Ar) (n : Nat) (kk : AV → Heap → Option R)    (s : St) (x0 x1 : List Nat) (h : keep g42an 14 s = ⟨[(4, (pT 1002 0)), (5, (pT 2000 0))], [(1002, (bU 5 x0 44)), (2000, (bU 10 x1 63))]⟩) :
    g42D A n (pth 15) (g42T kk) s = g42J14 A n kk  x0 x1 := by
  have h1 := (g42p351 A n _ _).trans (g42L17_eq A n kk    n (g42R16s0 A 0 x0 x1 [0, 0, 0, 0, 0]) 0 0 x0 x1 [0, 0, 0, 0, 0] (by kernel_rfl))
  have h2 := (g42p223 A n _ _).trans h1
  have h3 := (g42Qn A n _ _ _).trans h2
  have h4 := (g42F A n _ 16 _ (g42R15s0 A x0 x1 [0, 0, 0, 0, 0]) _ (by kernel_rfl) (by kernel_rfl)).trans (g42R16 A n (g42Q A n (pth 223) (g42Q A n (pth 127) (g42T kk))) 0 x0 x1 [0, 0, 0, 0, 0])
  rw [h3] at h4
  have h5 := (g42p95 A n _ _).trans h4
  have h6 := (g42p63 A n _ _).trans h5
  have h7 := (g42Qn A n _ _ _).trans h6
  have h8 := (g42F A n _ 15 _ (g42R14s0 A x0 x1) _ (by kernel_rfl) (by kernel_rfl)).trans (g42R15 A n (g42Q A n (pth 63) (g42T kk)) x0 x1 [0, 0, 0, 0, 0])
  rw [h7] at h8
  have h9 := (g42p31 A n _ _).trans h8
  have h10 := (g42Qn A n _ _ _).trans h9
  have h11 := (g42F A n _ 14 _ ⟨[(4, (pT 1002 0)), (5, (pT 2000 0))], [(1002, (bU 5 x0 44)), (2000, (bU 10 x1 63))]⟩ _ (by kernel_rfl) (by kernel_rfl)).trans (g42R14 A n (g42Q A n (pth 31) (g42T kk)) x0 x1)
  rw [h10] at h11
  have h12 := (g42p15 A n _ _).trans h11
  exact (g42F A n _ 14 _ _ ⟨[(4, (pT 1002 0)), (5, (pT 2000 0))], [(1002, (bU 5 x0 44)), (2000, (bU 10 x1 63))]⟩ (by kernel_rfl) (h.trans (by kernel_rfl))).trans (h12.trans (by kernel_rfl))
def g42L3 {R : Type} (A : Ar) (n : Nat) (kk : AV → Heap → Option R)  : Nat → List Nat → Int → List Nat → List Nat → List Nat → Option R
  | 0, _, _, _, _, _ => none
  | m + 1, x0, x1, x2, x3, x4 => match (generalizing := false) A.ic .lss x1 5 with
  | true => g42J4 A n kk (g42L3 A n kk  m) x0 x1 x2 x3 x4
  | false => g42J14 A n kk  x3 x4
set_option maxRecDepth 100000 in
theorem g42L3_eq {R : Type} (A : Ar) (n : Nat) (kk : AV → Heap → Option R)    (m : Nat) (s : St) (x0 : List Nat) (x1 : Int) (x2 x3 x4 : List Nat) (h : keep g42an 3 s = ⟨[(3, (pT 1001 0)), (4, (pT 1002 0)), (5, (pT 2000 0)), (14, (aN .u64 5 x0)), (15, (i6 x1))], [(1001, (bU 5 x2 44)), (1002, (bU 5 x3 44)), (2000, (bU 10 x4 63))]⟩) :
    g42V A n (pth 75) m (blockK 0 (g42Q A n (pth 15) (g42T kk))) s = g42L3 A n kk  m x0 x1 x2 x3 x4 := by
  induction m generalizing s x0 x1 x2 x3 x4 with
  | zero => rfl
  | succ m ih =>
    have h1 := (g42Qn A n _ _ _).trans (g42J4_eq A n kk m (g42L3 A n kk  m) ih  (g42R3s0 A x0 x1 x2 x3 x4) x0 x1 x2 x3 x4 (by kernel_rfl))
    have h2 := (g42p587 A n _ _).trans h1
    have h3 := (g42Qn A n _ _ _).trans (g42J14_eq A n kk     (g42R3s0 A x0 x1 x2 x3 x4) x3 x4 (by kernel_rfl))
    have h4 := (blockK_hit 0 _ _).trans h3
    have h5 := (g42We A n (pth 75) m _ _ _).trans h4
    have h6 := (g42Qe A n (pth 459) _ _ _).trans h5
    have h7 := (g42p843 A n _ _).trans h6
    have h8 := g42p331 A n (g42Q A n (pth 459) (g42W A n (pth 75) m (blockK 0 (g42Q A n (pth 15) (g42T kk))))) (g42R3s0 A x0 x1 x2 x3 x4) (A.ic .lss x1 5) (by kernel_rfl)
    rw [h2, h7] at h8
    have h9 := (g42p203 A n _ _).trans h8
    have h10 := (g42Qn A n _ _ _).trans h9
    have h11 := (g42F A n _ 3 _ ⟨[(3, (pT 1001 0)), (4, (pT 1002 0)), (5, (pT 2000 0)), (14, (aN .u64 5 x0)), (15, (i6 x1))], [(1001, (bU 5 x2 44)), (1002, (bU 5 x3 44)), (2000, (bU 10 x4 63))]⟩ _ (by kernel_rfl) (by kernel_rfl)).trans (g42R3 A n (g42Q A n (pth 203) (g42W A n (pth 75) m (blockK 0 (g42Q A n (pth 15) (g42T kk))))) x0 x1 x2 x3 x4)
    rw [h10] at h11
    have h12 := (g42p75 A n _ _).trans h11
    exact (loopD_first (s' := ⟨[(3, (pT 1001 0)), (4, (pT 1002 0)), (5, (pT 2000 0)), (14, (aN .u64 5 x0)), (15, (i6 x1))], [(1001, (bU 5 x2 44)), (1002, (bU 5 x3 44)), (2000, (bU 10 x4 63))]⟩) (id := 3) (by kernel_rfl) (h.trans (by kernel_rfl)) _).trans ((g42Vs A n _ m _ _).trans (h12.trans (by kernel_rfl)))
def g42 {R : Type} (A : Ar) (n : Nat) (kk : AV → Heap → Option R) (a b : List Nat) : Option R :=
  g42L3 A n kk  n a 0 b [0, 0, 0, 0, 0] [0, 0, 0, 0, 0, 0, 0, 0, 0, 0]
set_option maxRecDepth 100000 in
theorem g42_eq {R : Type} (A : Ar) (n : Nat) (kk : AV → Heap → Option R) (a b : List Nat) :
    funD A gtys (g42O A) g42an n (bodyOf Try.f42) g42res [(aN .u64 5 a), (aN .u64 5 b)] [] kk = g42 A n kk a b := by
  have h1 := (g42p43 A n _ _).trans (g42L3_eq A n kk    n (g42R2s0 A a b [0, 0, 0, 0, 0] [0, 0, 0, 0, 0, 0, 0, 0, 0, 0]) a 0 b [0, 0, 0, 0, 0] [0, 0, 0, 0, 0, 0, 0, 0, 0, 0] (by kernel_rfl))
  have h2 := (g42p27 A n _ _).trans h1
  have h3 := (g42Qn A n _ _ _).trans h2
  have h4 := (g42F A n _ 2 _ (g42R1s0 A a b [0, 0, 0, 0, 0]) _ (by kernel_rfl) (by kernel_rfl)).trans (g42R2 A n (g42Q A n (pth 27) (g42Q A n (pth 15) (g42T kk))) a b [0, 0, 0, 0, 0] [0, 0, 0, 0, 0, 0, 0, 0, 0, 0])
  rw [h3] at h4
  have h5 := (g42p11 A n _ _).trans h4
  have h6 := (g42p7 A n _ _).trans h5
  have h7 := (g42Qn A n _ _ _).trans h6
  have h8 := (g42F A n _ 1 _ (g42R0s0 A a b) _ (by kernel_rfl) (by kernel_rfl)).trans (g42R1 A n (g42Q A n (pth 7) (g42T kk)) a b [0, 0, 0, 0, 0])
  rw [h7] at h8
  have h9 := (g42p3 A n _ _).trans h8
  have h10 := (g42Qn A n _ _ _).trans h9
  have h11 := (g42F A n _ 0 _ ⟨[(0, (aN .u64 5 a)), (1, (aN .u64 5 b))], []⟩ _ (by kernel_rfl) (by kernel_rfl)).trans (g42R0 A n (g42Q A n (pth 3) (g42T kk)) a b)
  rw [h10] at h11
  have h12 := (g42p1 A n _ _).trans h11
  exact (show funD A gtys (g42O A) g42an n (bodyOf Try.f42) g42res [(aN .u64 5 a), (aN .u64 5 b)] [] kk = g42D A n (pth 1) (g42T kk) ⟨[(0, (aN .u64 5 a)), (1, (aN .u64 5 b))], []⟩ from by kernel_rfl).trans (h12.trans (by kernel_rfl))
def g42is (o : Option AV) : Bool := match o with
  | some (aN .u64 5 _) => true
  | _ => false
def g42g0 (o : Option AV) : List Nat := match o with
  | some (aN .u64 5 x) => x
  | _ => []
theorem g42is_spec {o : Option AV} (h : g42is o = true) : o = some (aN .u64 5 (g42g0 o)) := by
  unfold g42is at h
  split at h
  · rfl
  · cases h
def g42v (A : Ar) (a b : List Nat) : Option AV := g42 A (100000) (fun v _ => some v) a b
def g42ok (A : Ar) (a b : List Nat) : Bool := g42is (g42v A a b)
def g42r0 (A : Ar) (a b : List Nat) : List Nat := g42g0 (g42v A a b)
theorem g42ok_spec {A : Ar} {a b} (h : g42ok A a b = true) : g42v A a b = some (aN .u64 5 (g42r0 A a b)) := g42is_spec h
def g42o (A : Ar) (args : List AV) : Option (Bool × AV) := match args with
  | [.v (.agg [.nums .u64 n0 a]), .v (.agg [.nums .u64 n1 b])] => some (Nat.beq n0 5 && (Nat.beq n1 5 && (g42ok A a b)), .v (.agg [.nums .u64 5 (g42r0 A a b)]))
  | _ => none
theorem g42o_sound : ∀ args v, g42o realA args = some (true, v) → Fn1 Try.prog 42 args v := by
  intro args v h
  unfold g42o at h
  split at h
  · rename_i n0 a n1 b
    simp only [Option.some.injEq, Prod.mk.injEq] at h
    obtain ⟨hc, h⟩ := h
    subst h
    · skip
      simp only [Bool.and_eq_true] at hc
      have en0 := beq_true hc.1
      subst en0
      replace hc := hc.2
      have en1 := beq_true hc.1
      subst en1
      replace hc := hc.2
      exact fn1_of mixed gtysOK g42O_sound g42O_det (an := g42an) (n := 100000) Try.func42 (c := bodyOf Try.f42) rfl (by kernel_rfl) Try.call42 (Nat.le_of_ble_eq_true rfl) (fun b => rfl) (fun _ => (g42_eq realA (100000) (fun v _ => some v) a b).trans (show g42v realA a b = _ from g42ok_spec hc))
  · cases h
/- (engrosser/field.limbs).store -/
def g38O (A : Ar) : Orc := orcOf [(47, g47o A)]
theorem g38O_sound : OSound Try.prog (g38O realA) := orc_sound fun f g hm args v hv => by
  simp only [List.mem_cons, List.not_mem_nil, or_false, Prod.mk.injEq] at hm
  rcases hm with ⟨rfl, rfl⟩
  · exact g47o_sound _ _ hv
theorem g38O_det : ODet (g38O realA) := orc_det _
def g38an : Ann := [(0, ([0], [])), (1, ([1, 2], [1000, 1001])), (2, ([1, 2], [1000, 1001])), (3, ([1, 2, 3], [1000, 1001])), (4, ([1, 2, 3, 4], [1000, 1001])), (5, ([1, 2, 3, 4], [1000, 1001])), (6, ([1, 2, 3, 4], [1000, 1001])), (7, ([1, 2, 3], [1000, 1001])), (8, ([1, 2], [1000, 1001])), (9, ([1, 2, 5], [1000, 1001])), (10, ([1, 2, 5, 30], [1000, 1001])), (11, ([1, 2, 5, 30], [1000, 1001])), (12, ([1, 2, 5, 6, 30], [1000, 1001])), (13, ([1, 2, 6, 30], [1000, 1001])), (14, ([1, 2, 5, 6, 30], [1000, 1001])), (15, ([1, 2, 5, 30], [1000, 1001])), (16, ([1, 2], [1000, 1001]))]
def g38res : List ResultVar := [.cell 2 24]
noncomputable def g38D {R : Type} (A : Ar) (n : Nat) (p : List Bool) (K : Ex → St → Option R) (s : St) : Option R := codeD A gtys (g38O A) g38an n (sub (bodyOf Try.f38) p) K s
noncomputable def g38V {R : Type} (A : Ar) (n : Nat) (p : List Bool) (m : Nat) (K : Ex → St → Option R) (s : St) : Option R := loopD (fun K' s'' => codeD A gtys (g38O A) g38an n (sub (bodyOf Try.f38) p) K' s'') m K s
noncomputable def g38Q {R : Type} (A : Ar) (n : Nat) (p : List Bool) (K : Ex → St → Option R) : Ex → St → Option R := seqC (g38D A n p K) K
noncomputable def g38W {R : Type} (A : Ar) (n : Nat) (p : List Bool) (m : Nat) (K : Ex → St → Option R) : Ex → St → Option R := seqC (g38V A n p m K) K
noncomputable def g38T {R : Type} (kk : AV → Heap → Option R) : Ex → St → Option R := finD gtys g38res kk
theorem g38Qn {R : Type} (A : Ar) (n : Nat) (p : List Bool) (K : Ex → St → Option R) (s : St) : g38Q A n p K .normal s = g38D A n p K s := rfl
theorem g38Qe {R : Type} (A : Ar) (n : Nat) (p : List Bool) (K : Ex → St → Option R) (i : Nat) (s : St) : g38Q A n p K (.exit i) s = K (.exit i) s := rfl
theorem g38Wn {R : Type} (A : Ar) (n : Nat) (p : List Bool) (m : Nat) (K : Ex → St → Option R) (s : St) : g38W A n p m K .normal s = g38V A n p m K s := rfl
theorem g38We {R : Type} (A : Ar) (n : Nat) (p : List Bool) (m : Nat) (K : Ex → St → Option R) (i : Nat) (s : St) : g38W A n p m K (.exit i) s = K (.exit i) s := rfl
theorem g38Vs {R : Type} (A : Ar) (n : Nat) (p : List Bool) (m : Nat) (K : Ex → St → Option R) (s : St) : g38V A n p (m + 1) K s = g38D A n p (g38W A n p m K) s := rfl
theorem g38F {R : Type} (A : Ar) (n : Nat) (p : List Bool) (i : Nat) (K : Ex → St → Option R) (s s' : St) (hf : firstReg (sub (bodyOf Try.f38) p) = some i) (h : keep g38an i s = keep g38an i s') : g38D A n p K s = g38D A n p K s' := codeD_first hf h K
section
variable {R : Type} (A : Ar) (n : Nat) (K : Ex → St → Option R) (s : St)
theorem g38p1 : g38D A n (pth 1) K s = g38D A n (pth 2) (g38Q A n (pth 3) K) s := by kernel_rfl
theorem g38p3 : g38D A n (pth 3) K s = g38D A n (pth 5) (g38Q A n (pth 7) K) s := by kernel_rfl
theorem g38p7 : g38D A n (pth 7) K s = g38D A n (pth 11) (g38Q A n (pth 15) K) s := by kernel_rfl
theorem g38p15 : g38D A n (pth 15) K s = g38D A n (pth 23) (g38Q A n (pth 31) K) s := by kernel_rfl
theorem g38p23 : g38D A n (pth 23) K s = g38D A n (pth 39) (g38Q A n (pth 55) K) s := by kernel_rfl
theorem g38p55 : g38D A n (pth 55) K s = g38D A n (pth 87) (blockK 0 K) s := by kernel_rfl
theorem g38p87 : g38D A n (pth 87) K s = g38V A n (pth 151) n K s := by kernel_rfl
theorem g38p151 : g38D A n (pth 151) K s = g38D A n (pth 279) (g38Q A n (pth 407) K) s := by kernel_rfl
theorem g38p279 : g38D A n (pth 279) K s = g38D A n (pth 535) (g38Q A n (pth 791) K) s := by kernel_rfl
theorem g38p791 (t : Bool) : ev s (.tmp 15) = some (.v (.cell (.bool t))) → g38D A n (pth 791) K s = (match t with
    | true => g38D A n (pth 1303) K s
    | false => g38D A n (pth 1815) K s) := codeD_cond t
theorem g38p1303 : g38D A n (pth 1303) K s = K .normal s := by kernel_rfl
theorem g38p1815 : g38D A n (pth 1815) K s = K (.exit 0) s := by kernel_rfl
theorem g38p407 : g38D A n (pth 407) K s = g38D A n (pth 663) (g38Q A n (pth 919) K) s := by kernel_rfl
theorem g38p663 : g38D A n (pth 663) K s = g38D A n (pth 1175) (blockK 1 K) s := by kernel_rfl
theorem g38p31 : g38D A n (pth 31) K s = g38D A n (pth 47) (g38Q A n (pth 63) K) s := by kernel_rfl
theorem g38p63 : g38D A n (pth 63) K s = g38D A n (pth 95) (g38Q A n (pth 127) K) s := by kernel_rfl
theorem g38p127 : g38D A n (pth 127) K s = g38D A n (pth 191) (g38Q A n (pth 255) K) s := by kernel_rfl
theorem g38p191 : g38D A n (pth 191) K s = g38D A n (pth 319) (g38Q A n (pth 447) K) s := by kernel_rfl
theorem g38p447 : g38D A n (pth 447) K s = g38D A n (pth 703) (blockK 2 K) s := by kernel_rfl
theorem g38p703 : g38D A n (pth 703) K s = g38V A n (pth 1215) n K s := by kernel_rfl
theorem g38p1215 : g38D A n (pth 1215) K s = g38D A n (pth 2239) (g38Q A n (pth 3263) K) s := by kernel_rfl
theorem g38p3263 : g38D A n (pth 3263) K s = g38D A n (pth 5311) (g38Q A n (pth 7359) K) s := by kernel_rfl
theorem g38p5311 (t : Bool) : ev s (.tmp 31) = some (.v (.cell (.bool t))) → g38D A n (pth 5311) K s = (match t with
    | true => g38D A n (pth 9407) K s
    | false => g38D A n (pth 13503) K s) := codeD_cond t
theorem g38p9407 : g38D A n (pth 9407) K s = K .normal s := by kernel_rfl
theorem g38p13503 : g38D A n (pth 13503) K s = K (.exit 2) s := by kernel_rfl
theorem g38p7359 : g38D A n (pth 7359) K s = g38D A n (pth 11455) (g38Q A n (pth 15551) K) s := by kernel_rfl
theorem g38p11455 : g38D A n (pth 11455) K s = g38D A n (pth 19647) (blockK 3 K) s := by kernel_rfl
theorem g38p19647 : g38D A n (pth 19647) K s = g38D A n (pth 36031) (g38Q A n (pth 52415) K) s := by kernel_rfl
theorem g38p52415 : g38D A n (pth 52415) K s = g38D A n (pth 85183) (g38Q A n (pth 117951) K) s := by kernel_rfl
theorem g38p117951 : g38D A n (pth 117951) K s = g38D A n (pth 183487) (g38Q A n (pth 249023) K) s := by kernel_rfl
theorem g38p255 : g38D A n (pth 255) K s = g38D A n (pth 383) (g38Q A n (pth 511) K) s := by kernel_rfl
theorem g38p511 : g38D A n (pth 511) K s = K .ret s := by kernel_rfl
def g38R6s0 (A : Ar) (x0 : Nat) (x1 : Int) (x2 x3 : List Nat) : St := ⟨[(3, (u64v (A.nsh .shr .u64 (A.nb .add .u64 (x2.getD (A.toN x1) 0) x0) 51))), (23, (u64v (A.nsh .shr .u64 (A.nb .add .u64 (x2.getD (A.toN x1) 0) x0) 51))), (22, (u64v (A.nb .add .u64 (x2.getD (A.toN x1) 0) x0))), (21, (u64v x0)), (20, (u64v (x2.getD (A.toN x1) 0))), (19, (.v (.cell (.ptr 1000 0 (some ⟨A.toN x1, 1, 5, 0, 0, 0⟩))))), (18, (i6 x1)), (1, (pT 1000 0)), (2, (pT 1001 0)), (3, (u64v x0)), (4, (i6 x1))], [(1000, (bU 5 x2 44)), (1001, (bU 4 x3 24))]⟩
theorem g38R6 (x0 : Nat) (x1 : Int) (x2 x3 : List Nat) : g38D A n (pth 1175) K ⟨[(1, (pT 1000 0)), (2, (pT 1001 0)), (3, (u64v x0)), (4, (i6 x1))], [(1000, (bU 5 x2 44)), (1001, (bU 4 x3 24))]⟩ = match (generalizing := false) A.neg x1 with
    | true => none
    | false => match (generalizing := false) A.lt (A.toN x1) 5 with
      | true => K .normal (g38R6s0 A x0 x1 x2 x3)
      | false => none := by kernel_rfl
def g38R5s0 (A : Ar) (x0 : Nat) (x1 : Int) (x2 x3 : List Nat) : St := ⟨[(4, (i6 (A.ib .add .i64 x1 1))), (17, (i6 (A.ib .add .i64 x1 1))), (16, (i6 x1)), (1, (pT 1000 0)), (2, (pT 1001 0)), (3, (u64v x0)), (4, (i6 x1))], [(1000, (bU 5 x2 44)), (1001, (bU 4 x3 24))]⟩
theorem g38R5 (x0 : Nat) (x1 : Int) (x2 x3 : List Nat) : g38D A n (pth 919) K ⟨[(1, (pT 1000 0)), (2, (pT 1001 0)), (3, (u64v x0)), (4, (i6 x1))], [(1000, (bU 5 x2 44)), (1001, (bU 4 x3 24))]⟩ = K .normal (g38R5s0 A x0 x1 x2 x3) := by kernel_rfl
def g38R11s0 (A : Ar) (x0 : Nat) (x1 : Int) (x2 x3 : List Nat) : St := ⟨[(6, (i6 x1)), (32, (i6 x1)), (1, (pT 1000 0)), (2, (pT 1001 0)), (5, (u64v x0)), (30, (i6 x1))], [(1000, (bU 5 x2 44)), (1001, (bU 4 x3 24))]⟩
theorem g38R11 (x0 : Nat) (x1 : Int) (x2 x3 : List Nat) : g38D A n (pth 36031) K ⟨[(1, (pT 1000 0)), (2, (pT 1001 0)), (5, (u64v x0)), (30, (i6 x1))], [(1000, (bU 5 x2 44)), (1001, (bU 4 x3 24))]⟩ = K .normal (g38R11s0 A x0 x1 x2 x3) := by kernel_rfl
def g38R12s0 (A : Ar) (x0 : Nat) (x1 x2 : Int) (x3 x4 : List Nat) : St := ⟨[(38, (.v (.cell (.ptr 1000 0 (some ⟨A.toN x1, 1, 5, 0, 0, 0⟩))))), (37, (u64v (A.nb .add .u64 (x3.getD (A.toN x1) 0) x0))), (36, (u64v x0)), (35, (u64v (x3.getD (A.toN x1) 0))), (34, (.v (.cell (.ptr 1000 0 (some ⟨A.toN x1, 1, 5, 0, 0, 0⟩))))), (33, (i6 x1)), (1, (pT 1000 0)), (2, (pT 1001 0)), (5, (u64v x0)), (6, (i6 x1)), (30, (i6 x2))], [(1000, (bU 5 (x3.set (A.toN x1) (A.nb .add .u64 (x3.getD (A.toN x1) 0) x0)) 44)), (1001, (bU 4 x4 24))]⟩
theorem g38R12 (x0 : Nat) (x1 x2 : Int) (x3 x4 : List Nat) : g38D A n (pth 85183) K ⟨[(1, (pT 1000 0)), (2, (pT 1001 0)), (5, (u64v x0)), (6, (i6 x1)), (30, (i6 x2))], [(1000, (bU 5 x3 44)), (1001, (bU 4 x4 24))]⟩ = match (generalizing := false) A.neg x1 with
    | true => none
    | false => match (generalizing := false) A.lt (A.toN x1) 5 with
      | true => match (generalizing := false) A.neg x1 with
        | true => none
        | false => match (generalizing := false) A.lt (A.toN x1) 5 with
          | true => K .normal (g38R12s0 A x0 x1 x2 x3 x4)
          | false => none
      | false => none := by kernel_rfl
def g38R13s0 (A : Ar) (x0 x1 : Int) (x2 x3 : List Nat) : St := ⟨[(5, (u64v (A.nsh .shr .u64 (x2.getD (A.toN x0) 0) 51))), (42, (u64v (A.nsh .shr .u64 (x2.getD (A.toN x0) 0) 51))), (41, (u64v (x2.getD (A.toN x0) 0))), (40, (.v (.cell (.ptr 1000 0 (some ⟨A.toN x0, 1, 5, 0, 0, 0⟩))))), (39, (i6 x0)), (1, (pT 1000 0)), (2, (pT 1001 0)), (6, (i6 x0)), (30, (i6 x1))], [(1000, (bU 5 x2 44)), (1001, (bU 4 x3 24))]⟩
theorem g38R13 (x0 x1 : Int) (x2 x3 : List Nat) : g38D A n (pth 183487) K ⟨[(1, (pT 1000 0)), (2, (pT 1001 0)), (6, (i6 x0)), (30, (i6 x1))], [(1000, (bU 5 x2 44)), (1001, (bU 4 x3 24))]⟩ = match (generalizing := false) A.neg x0 with
    | true => none
    | false => match (generalizing := false) A.lt (A.toN x0) 5 with
      | true => K .normal (g38R13s0 A x0 x1 x2 x3)
      | false => none := by kernel_rfl
def g38R14s0 (A : Ar) (x0 : Nat) (x1 x2 : Int) (x3 x4 : List Nat) : St := ⟨[(47, (.v (.cell (.ptr 1000 0 (some ⟨A.toN x1, 1, 5, 0, 0, 0⟩))))), (46, (u64v (A.nb .and .u64 (x3.getD (A.toN x1) 0) 2251799813685247))), (45, (u64v (x3.getD (A.toN x1) 0))), (44, (.v (.cell (.ptr 1000 0 (some ⟨A.toN x1, 1, 5, 0, 0, 0⟩))))), (43, (i6 x1)), (1, (pT 1000 0)), (2, (pT 1001 0)), (5, (u64v x0)), (6, (i6 x1)), (30, (i6 x2))], [(1000, (bU 5 (x3.set (A.toN x1) (A.nb .and .u64 (x3.getD (A.toN x1) 0) 2251799813685247)) 44)), (1001, (bU 4 x4 24))]⟩
theorem g38R14 (x0 : Nat) (x1 x2 : Int) (x3 x4 : List Nat) : g38D A n (pth 249023) K ⟨[(1, (pT 1000 0)), (2, (pT 1001 0)), (5, (u64v x0)), (6, (i6 x1)), (30, (i6 x2))], [(1000, (bU 5 x3 44)), (1001, (bU 4 x4 24))]⟩ = match (generalizing := false) A.neg x1 with
    | true => none
    | false => match (generalizing := false) A.lt (A.toN x1) 5 with
      | true => match (generalizing := false) A.neg x1 with
        | true => none
        | false => match (generalizing := false) A.lt (A.toN x1) 5 with
          | true => K .normal (g38R14s0 A x0 x1 x2 x3 x4)
          | false => none
      | false => none := by kernel_rfl
def g38R15s0 (A : Ar) (x0 : Nat) (x1 : Int) (x2 x3 : List Nat) : St := ⟨[(30, (i6 (A.ib .add .i64 x1 1))), (48, (i6 (A.ib .add .i64 x1 1))), (1, (pT 1000 0)), (2, (pT 1001 0)), (5, (u64v x0)), (30, (i6 x1))], [(1000, (bU 5 x2 44)), (1001, (bU 4 x3 24))]⟩
theorem g38R15 (x0 : Nat) (x1 : Int) (x2 x3 : List Nat) : g38D A n (pth 15551) K ⟨[(1, (pT 1000 0)), (2, (pT 1001 0)), (5, (u64v x0)), (30, (i6 x1))], [(1000, (bU 5 x2 44)), (1001, (bU 4 x3 24))]⟩ = K .normal (g38R15s0 A x0 x1 x2 x3) := by kernel_rfl
def g38R16s0 (A : Ar) (x0 x1 : List Nat) : St := ⟨[(76, (aN .u64 4 (((([0, 0, 0, 0].set 0 (A.nb .or .u64 (x0.getD 0 0) (A.nsh .shl .u64 (x0.getD 1 0) 51))).set 1 (A.nb .or .u64 (A.nsh .shr .u64 (x0.getD 1 0) 13) (A.nsh .shl .u64 (x0.getD 2 0) 38))).set 2 (A.nb .or .u64 (A.nsh .shr .u64 (x0.getD 2 0) 26) (A.nsh .shl .u64 (x0.getD 3 0) 25))).set 3 (A.nb .or .u64 (A.nsh .shr .u64 (x0.getD 3 0) 39) (A.nsh .shl .u64 (x0.getD 4 0) 12))))), (75, (u64v (A.nb .or .u64 (A.nsh .shr .u64 (x0.getD 3 0) 39) (A.nsh .shl .u64 (x0.getD 4 0) 12)))), (74, (u64v (A.nsh .shl .u64 (x0.getD 4 0) 12))), (73, (u64v (x0.getD 4 0))), (72, (pT 1000 4)), (71, (u64v (A.nsh .shr .u64 (x0.getD 3 0) 39))), (70, (u64v (x0.getD 3 0))), (69, (pT 1000 3)), (68, (u64v (A.nb .or .u64 (A.nsh .shr .u64 (x0.getD 2 0) 26) (A.nsh .shl .u64 (x0.getD 3 0) 25)))), (67, (u64v (A.nsh .shl .u64 (x0.getD 3 0) 25))), (66, (u64v (x0.getD 3 0))), (65, (pT 1000 3)), (64, (u64v (A.nsh .shr .u64 (x0.getD 2 0) 26))), (63, (u64v (x0.getD 2 0))), (62, (pT 1000 2)), (61, (u64v (A.nb .or .u64 (A.nsh .shr .u64 (x0.getD 1 0) 13) (A.nsh .shl .u64 (x0.getD 2 0) 38)))), (60, (u64v (A.nsh .shl .u64 (x0.getD 2 0) 38))), (59, (u64v (x0.getD 2 0))), (58, (pT 1000 2)), (57, (u64v (A.nsh .shr .u64 (x0.getD 1 0) 13))), (56, (u64v (x0.getD 1 0))), (55, (pT 1000 1)), (54, (u64v (A.nb .or .u64 (x0.getD 0 0) (A.nsh .shl .u64 (x0.getD 1 0) 51)))), (53, (u64v (A.nsh .shl .u64 (x0.getD 1 0) 51))), (52, (u64v (x0.getD 1 0))), (51, (pT 1000 1)), (50, (u64v (x0.getD 0 0))), (49, (pT 1000 0)), (1, (pT 1000 0)), (2, (pT 1001 0))], [(1000, (bU 5 x0 44)), (1001, (bU 4 (((([0, 0, 0, 0].set 0 (A.nb .or .u64 (x0.getD 0 0) (A.nsh .shl .u64 (x0.getD 1 0) 51))).set 1 (A.nb .or .u64 (A.nsh .shr .u64 (x0.getD 1 0) 13) (A.nsh .shl .u64 (x0.getD 2 0) 38))).set 2 (A.nb .or .u64 (A.nsh .shr .u64 (x0.getD 2 0) 26) (A.nsh .shl .u64 (x0.getD 3 0) 25))).set 3 (A.nb .or .u64 (A.nsh .shr .u64 (x0.getD 3 0) 39) (A.nsh .shl .u64 (x0.getD 4 0) 12))) 24))]⟩
theorem g38R16 (x0 x1 : List Nat) : g38D A n (pth 383) K ⟨[(1, (pT 1000 0)), (2, (pT 1001 0))], [(1000, (bU 5 x0 44)), (1001, (bU 4 x1 24))]⟩ = K .normal (g38R16s0 A x0 x1) := by kernel_rfl
def g38R10s0 (A : Ar) (x0 : Nat) (x1 : Int) (x2 x3 : List Nat) : St := ⟨[(31, (bO (A.ic .lss x1 5))), (1, (pT 1000 0)), (2, (pT 1001 0)), (5, (u64v x0)), (30, (i6 x1))], [(1000, (bU 5 x2 44)), (1001, (bU 4 x3 24))]⟩
theorem g38R10 (x0 : Nat) (x1 : Int) (x2 x3 : List Nat) : g38D A n (pth 2239) K ⟨[(1, (pT 1000 0)), (2, (pT 1001 0)), (5, (u64v x0)), (30, (i6 x1))], [(1000, (bU 5 x2 44)), (1001, (bU 4 x3 24))]⟩ = K .normal (g38R10s0 A x0 x1 x2 x3) := by kernel_rfl
def g38R7s0 (A : Ar) (x0 : Nat) (x1 x2 : List Nat) : St := ⟨[(29, (pT 1000 0)), (28, (u64v (A.nb .add .u64 (x1.getD 0 0) (A.nb .mul .u64 19 x0)))), (27, (u64v (A.nb .mul .u64 19 x0))), (26, (u64v x0)), (25, (u64v (x1.getD 0 0))), (24, (pT 1000 0)), (1, (pT 1000 0)), (2, (pT 1001 0)), (3, (u64v x0))], [(1000, (bU 5 (x1.set 0 (A.nb .add .u64 (x1.getD 0 0) (A.nb .mul .u64 19 x0))) 44)), (1001, (bU 4 x2 24))]⟩
theorem g38R7 (x0 : Nat) (x1 x2 : List Nat) : g38D A n (pth 47) K ⟨[(1, (pT 1000 0)), (2, (pT 1001 0)), (3, (u64v x0))], [(1000, (bU 5 x1 44)), (1001, (bU 4 x2 24))]⟩ = K .normal (g38R7s0 A x0 x1 x2) := by kernel_rfl
def g38R8s0 (A : Ar) (x0 x1 : List Nat) : St := ⟨[(5, (u64v 0)), (1, (pT 1000 0)), (2, (pT 1001 0))], [(1000, (bU 5 x0 44)), (1001, (bU 4 x1 24))]⟩
theorem g38R8 (x0 x1 : List Nat) : g38D A n (pth 95) K ⟨[(1, (pT 1000 0)), (2, (pT 1001 0))], [(1000, (bU 5 x0 44)), (1001, (bU 4 x1 24))]⟩ = K .normal (g38R8s0 A x0 x1) := by kernel_rfl
def g38R9s0 (A : Ar) (x0 : Nat) (x1 x2 : List Nat) : St := ⟨[(30, (i6 0)), (1, (pT 1000 0)), (2, (pT 1001 0)), (5, (u64v x0))], [(1000, (bU 5 x1 44)), (1001, (bU 4 x2 24))]⟩
theorem g38R9 (x0 : Nat) (x1 x2 : List Nat) : g38D A n (pth 319) K ⟨[(1, (pT 1000 0)), (2, (pT 1001 0)), (5, (u64v x0))], [(1000, (bU 5 x1 44)), (1001, (bU 4 x2 24))]⟩ = K .normal (g38R9s0 A x0 x1 x2) := by kernel_rfl
def g38R4s0 (A : Ar) (x0 : Nat) (x1 : Int) (x2 x3 : List Nat) : St := ⟨[(15, (bO (A.ic .lss x1 5))), (14, (i6 x1)), (1, (pT 1000 0)), (2, (pT 1001 0)), (3, (u64v x0)), (4, (i6 x1))], [(1000, (bU 5 x2 44)), (1001, (bU 4 x3 24))]⟩
theorem g38R4 (x0 : Nat) (x1 : Int) (x2 x3 : List Nat) : g38D A n (pth 535) K ⟨[(1, (pT 1000 0)), (2, (pT 1001 0)), (3, (u64v x0)), (4, (i6 x1))], [(1000, (bU 5 x2 44)), (1001, (bU 4 x3 24))]⟩ = K .normal (g38R4s0 A x0 x1 x2 x3) := by kernel_rfl
def g38R0s0 (A : Ar) (x0 : List Nat) : St := ⟨[(2, (pT 1001 0)), (1, (pT 1000 0)), (0, (aN .u64 5 x0))], [(1001, (bU 4 [0, 0, 0, 0] 24)), (1000, (bU 5 x0 44))]⟩
theorem g38R0 (x0 : List Nat) : g38D A n (pth 2) K ⟨[(0, (aN .u64 5 x0))], []⟩ = K .normal (g38R0s0 A x0) := by kernel_rfl
def g38R1s0 (A : Ar) (x0 x1 : List Nat) : St := ⟨[(9, (aN .u64 5 (g47r0 A (g47r0 A x0)))), (8, (aN .u64 5 (g47r0 A x0))), (7, (aN .u64 5 x0)), (1, (pT 1000 0)), (2, (pT 1001 0))], [(1000, (bU 5 (g47r0 A (g47r0 A x0)) 44)), (1001, (bU 4 x1 24))]⟩
theorem g38R1 (x0 x1 : List Nat) : g38D A n (pth 5) K ⟨[(1, (pT 1000 0)), (2, (pT 1001 0))], [(1000, (bU 5 x0 44)), (1001, (bU 4 x1 24))]⟩ = match (generalizing := false) g47ok A x0 with
    | true => match (generalizing := false) g47ok A (g47r0 A x0) with
      | true => K .normal (g38R1s0 A x0 x1)
      | false => none
    | false => none := by kernel_rfl
def g38R2s0 (A : Ar) (x0 x1 : List Nat) : St := ⟨[(3, (u64v (A.nsh .shr .u64 (A.nb .add .u64 (x0.getD 0 0) 19) 51))), (13, (u64v (A.nsh .shr .u64 (A.nb .add .u64 (x0.getD 0 0) 19) 51))), (12, (u64v (A.nb .add .u64 (x0.getD 0 0) 19))), (11, (u64v (x0.getD 0 0))), (10, (pT 1000 0)), (1, (pT 1000 0)), (2, (pT 1001 0))], [(1000, (bU 5 x0 44)), (1001, (bU 4 x1 24))]⟩
theorem g38R2 (x0 x1 : List Nat) : g38D A n (pth 11) K ⟨[(1, (pT 1000 0)), (2, (pT 1001 0))], [(1000, (bU 5 x0 44)), (1001, (bU 4 x1 24))]⟩ = K .normal (g38R2s0 A x0 x1) := by kernel_rfl
def g38R3s0 (A : Ar) (x0 : Nat) (x1 x2 : List Nat) : St := ⟨[(4, (i6 1)), (1, (pT 1000 0)), (2, (pT 1001 0)), (3, (u64v x0))], [(1000, (bU 5 x1 44)), (1001, (bU 4 x2 24))]⟩
theorem g38R3 (x0 : Nat) (x1 x2 : List Nat) : g38D A n (pth 39) K ⟨[(1, (pT 1000 0)), (2, (pT 1001 0)), (3, (u64v x0))], [(1000, (bU 5 x1 44)), (1001, (bU 4 x2 24))]⟩ = K .normal (g38R3s0 A x0 x1 x2) := by kernel_rfl
end
def g38J6 {R : Type} (A : Ar) (n : Nat) (kk : AV → Heap → Option R) (lg38L4 : Nat → Int → List Nat → List Nat → Option R) (x0 : Nat) (x1 : Int) (x2 x3 : List Nat) : Option R :=
  match (generalizing := false) A.neg x1 with
  | true => none
  | false => match (generalizing := false) A.lt (A.toN x1) 5 with
    | true => lg38L4 (A.nsh .shr .u64 (A.nb .add .u64 (x2.getD (A.toN x1) 0) x0) 51) (A.ib .add .i64 x1 1) x2 x3
    | false => none
set_option maxRecDepth 100000 in
theorem g38J6_eq {R : Type} (A : Ar) (n : Nat) (kk : AV → Heap → Option R) (m0 : Nat) (lg38L4 : Nat → Int → List Nat → List Nat → Option R) 
    (hg38L4 : ∀ (s : St) (x0 : Nat) (x1 : Int) (x2 x3 : List Nat), keep g38an 4 s = ⟨[(1, (pT 1000 0)), (2, (pT 1001 0)), (3, (u64v x0)), (4, (i6 x1))], [(1000, (bU 5 x2 44)), (1001, (bU 4 x3 24))]⟩ → g38V A n (pth 151) m0 (blockK 0 (g38Q A n (pth 31) (g38T kk))) s = lg38L4 x0 x1 x2 x3) (s : St) (x0 : Nat) (x1 : Int) (x2 x3 : List Nat) (h : keep g38an 6 s = ⟨[(1, (pT 1000 0)), (2, (pT 1001 0)), (3, (u64v x0)), (4, (i6 x1))], [(1000, (bU 5 x2 44)), (1001, (bU 4 x3 24))]⟩) :
    g38D A n (pth 407) (g38W A n (pth 151) m0 (blockK 0 (g38Q A n (pth 31) (g38T kk)))) s = g38J6 A n kk lg38L4 x0 x1 x2 x3 := by
  have h1 := (g38Wn A n _ _ _ _).trans (hg38L4 (g38R5s0 A (A.nsh .shr .u64 (A.nb .add .u64 (x2.getD (A.toN x1) 0) x0) 51) x1 x2 x3) (A.nsh .shr .u64 (A.nb .add .u64 (x2.getD (A.toN x1) 0) x0) 51) (A.ib .add .i64 x1 1) x2 x3 (by kernel_rfl))
  have h2 := (g38F A n _ 5 _ (g38R6s0 A x0 x1 x2 x3) _ (by kernel_rfl) (by kernel_rfl)).trans (g38R5 A n (g38W A n (pth 151) m0 (blockK 0 (g38Q A n (pth 31) (g38T kk)))) (A.nsh .shr .u64 (A.nb .add .u64 (x2.getD (A.toN x1) 0) x0) 51) x1 x2 x3)
  rw [h1] at h2
  have h3 := (g38Qn A n _ _ _).trans h2
  have h4 := (blockK_n 1 _ _).trans h3
  have h5 := (g38F A n _ 6 _ ⟨[(1, (pT 1000 0)), (2, (pT 1001 0)), (3, (u64v x0)), (4, (i6 x1))], [(1000, (bU 5 x2 44)), (1001, (bU 4 x3 24))]⟩ _ (by kernel_rfl) (by kernel_rfl)).trans (g38R6 A n (blockK 1 (g38Q A n (pth 919) (g38W A n (pth 151) m0 (blockK 0 (g38Q A n (pth 31) (g38T kk)))))) x0 x1 x2 x3)
  rw [h4] at h5
  have h6 := (g38p663 A n _ _).trans h5
  have h7 := (g38p407 A n _ _).trans h6
  exact (g38F A n _ 6 _ _ ⟨[(1, (pT 1000 0)), (2, (pT 1001 0)), (3, (u64v x0)), (4, (i6 x1))], [(1000, (bU 5 x2 44)), (1001, (bU 4 x3 24))]⟩ (by kernel_rfl) (h.trans (by kernel_rfl))).trans (h7.trans (by kernel_rfl))
def g38J11 {R : Type} (A : Ar) (n : Nat) (kk : AV → Heap → Option R) (lg38L10 : Nat → Int → List Nat → List Nat → Option R) (x0 : Nat) (x1 : Int) (x2 x3 : List Nat) : Option R :=
  match (generalizing := false) A.neg x1 with
  | true => none
  | false => match (generalizing := false) A.lt (A.toN x1) 5 with
    | true => match (generalizing := false) A.neg x1 with
      | true => none
      | false => match (generalizing := false) A.lt (A.toN x1) 5 with
        | true => match (generalizing := false) A.neg x1 with
          | true => none
          | false => match (generalizing := false) A.lt (A.toN x1) 5 with
            | true => match (generalizing := false) A.neg x1 with
              | true => none
              | false => match (generalizing := false) A.lt (A.toN x1) 5 with
                | true => match (generalizing := false) A.neg x1 with
                  | true => none
                  | false => match (generalizing := false) A.lt (A.toN x1) 5 with
                    | true => lg38L10 (A.nsh .shr .u64 ((x2.set (A.toN x1) (A.nb .add .u64 (x2.getD (A.toN x1) 0) x0)).getD (A.toN x1) 0) 51) (A.ib .add .i64 x1 1) ((x2.set (A.toN x1) (A.nb .add .u64 (x2.getD (A.toN x1) 0) x0)).set (A.toN x1) (A.nb .and .u64 ((x2.set (A.toN x1) (A.nb .add .u64 (x2.getD (A.toN x1) 0) x0)).getD (A.toN x1) 0) 2251799813685247)) x3
                    | false => none
                | false => none
            | false => none
        | false => none
    | false => none
set_option maxRecDepth 100000 in
theorem g38J11_eq {R : Type} (A : Ar) (n : Nat) (kk : AV → Heap → Option R) (m0 : Nat) (lg38L10 : Nat → Int → List Nat → List Nat → Option R) 
    (hg38L10 : ∀ (s : St) (x0 : Nat) (x1 : Int) (x2 x3 : List Nat), keep g38an 10 s = ⟨[(1, (pT 1000 0)), (2, (pT 1001 0)), (5, (u64v x0)), (30, (i6 x1))], [(1000, (bU 5 x2 44)), (1001, (bU 4 x3 24))]⟩ → g38V A n (pth 1215) m0 (blockK 2 (g38Q A n (pth 255) (g38T kk))) s = lg38L10 x0 x1 x2 x3) (s : St) (x0 : Nat) (x1 : Int) (x2 x3 : List Nat) (h : keep g38an 11 s = ⟨[(1, (pT 1000 0)), (2, (pT 1001 0)), (5, (u64v x0)), (30, (i6 x1))], [(1000, (bU 5 x2 44)), (1001, (bU 4 x3 24))]⟩) :
    g38D A n (pth 7359) (g38W A n (pth 1215) m0 (blockK 2 (g38Q A n (pth 255) (g38T kk)))) s = g38J11 A n kk lg38L10 x0 x1 x2 x3 := by
  have h1 := (g38Wn A n _ _ _ _).trans (hg38L10 (g38R15s0 A (A.nsh .shr .u64 ((x2.set (A.toN x1) (A.nb .add .u64 (x2.getD (A.toN x1) 0) x0)).getD (A.toN x1) 0) 51) x1 ((x2.set (A.toN x1) (A.nb .add .u64 (x2.getD (A.toN x1) 0) x0)).set (A.toN x1) (A.nb .and .u64 ((x2.set (A.toN x1) (A.nb .add .u64 (x2.getD (A.toN x1) 0) x0)).getD (A.toN x1) 0) 2251799813685247)) x3) (A.nsh .shr .u64 ((x2.set (A.toN x1) (A.nb .add .u64 (x2.getD (A.toN x1) 0) x0)).getD (A.toN x1) 0) 51) (A.ib .add .i64 x1 1) ((x2.set (A.toN x1) (A.nb .add .u64 (x2.getD (A.toN x1) 0) x0)).set (A.toN x1) (A.nb .and .u64 ((x2.set (A.toN x1) (A.nb .add .u64 (x2.getD (A.toN x1) 0) x0)).getD (A.toN x1) 0) 2251799813685247)) x3 (by kernel_rfl))
  have h2 := (g38F A n _ 15 _ (g38R14s0 A (A.nsh .shr .u64 ((x2.set (A.toN x1) (A.nb .add .u64 (x2.getD (A.toN x1) 0) x0)).getD (A.toN x1) 0) 51) x1 x1 (x2.set (A.toN x1) (A.nb .add .u64 (x2.getD (A.toN x1) 0) x0)) x3) _ (by kernel_rfl) (by kernel_rfl)).trans (g38R15 A n (g38W A n (pth 1215) m0 (blockK 2 (g38Q A n (pth 255) (g38T kk)))) (A.nsh .shr .u64 ((x2.set (A.toN x1) (A.nb .add .u64 (x2.getD (A.toN x1) 0) x0)).getD (A.toN x1) 0) 51) x1 ((x2.set (A.toN x1) (A.nb .add .u64 (x2.getD (A.toN x1) 0) x0)).set (A.toN x1) (A.nb .and .u64 ((x2.set (A.toN x1) (A.nb .add .u64 (x2.getD (A.toN x1) 0) x0)).getD (A.toN x1) 0) 2251799813685247)) x3)
  rw [h1] at h2
  have h3 := (g38Qn A n _ _ _).trans h2
  have h4 := (blockK_n 3 _ _).trans h3
  have h5 := (g38F A n _ 14 _ (g38R13s0 A x1 x1 (x2.set (A.toN x1) (A.nb .add .u64 (x2.getD (A.toN x1) 0) x0)) x3) _ (by kernel_rfl) (by kernel_rfl)).trans (g38R14 A n (blockK 3 (g38Q A n (pth 15551) (g38W A n (pth 1215) m0 (blockK 2 (g38Q A n (pth 255) (g38T kk)))))) (A.nsh .shr .u64 ((x2.set (A.toN x1) (A.nb .add .u64 (x2.getD (A.toN x1) 0) x0)).getD (A.toN x1) 0) 51) x1 x1 (x2.set (A.toN x1) (A.nb .add .u64 (x2.getD (A.toN x1) 0) x0)) x3)
  rw [h4] at h5
  have h6 := (g38Qn A n _ _ _).trans h5
  have h7 := (g38F A n _ 13 _ (g38R12s0 A x0 x1 x1 x2 x3) _ (by kernel_rfl) (by kernel_rfl)).trans (g38R13 A n (g38Q A n (pth 249023) (blockK 3 (g38Q A n (pth 15551) (g38W A n (pth 1215) m0 (blockK 2 (g38Q A n (pth 255) (g38T kk))))))) x1 x1 (x2.set (A.toN x1) (A.nb .add .u64 (x2.getD (A.toN x1) 0) x0)) x3)
  rw [h6] at h7
  have h8 := (g38p117951 A n _ _).trans h7
  have h9 := (g38Qn A n _ _ _).trans h8
  have h10 := (g38F A n _ 12 _ (g38R11s0 A x0 x1 x2 x3) _ (by kernel_rfl) (by kernel_rfl)).trans (g38R12 A n (g38Q A n (pth 117951) (blockK 3 (g38Q A n (pth 15551) (g38W A n (pth 1215) m0 (blockK 2 (g38Q A n (pth 255) (g38T kk))))))) x0 x1 x1 x2 x3)
  rw [h9] at h10
  have h11 := (g38p52415 A n _ _).trans h10
  have h12 := (g38Qn A n _ _ _).trans h11
  have h13 := (g38F A n _ 11 _ ⟨[(1, (pT 1000 0)), (2, (pT 1001 0)), (5, (u64v x0)), (30, (i6 x1))], [(1000, (bU 5 x2 44)), (1001, (bU 4 x3 24))]⟩ _ (by kernel_rfl) (by kernel_rfl)).trans (g38R11 A n (g38Q A n (pth 52415) (blockK 3 (g38Q A n (pth 15551) (g38W A n (pth 1215) m0 (blockK 2 (g38Q A n (pth 255) (g38T kk))))))) x0 x1 x2 x3)
  rw [h12] at h13
  have h14 := (g38p19647 A n _ _).trans h13
  have h15 := (g38p11455 A n _ _).trans h14
  have h16 := (g38p7359 A n _ _).trans h15
  exact (g38F A n _ 11 _ _ ⟨[(1, (pT 1000 0)), (2, (pT 1001 0)), (5, (u64v x0)), (30, (i6 x1))], [(1000, (bU 5 x2 44)), (1001, (bU 4 x3 24))]⟩ (by kernel_rfl) (h.trans (by kernel_rfl))).trans (h16.trans (by kernel_rfl))
def g38J16 {R : Type} (A : Ar) (n : Nat) (kk : AV → Heap → Option R)  (x0 x1 : List Nat) : Option R :=
  kk (aN .u64 4 (((([0, 0, 0, 0].set 0 (A.nb .or .u64 (x0.getD 0 0) (A.nsh .shl .u64 (x0.getD 1 0) 51))).set 1 (A.nb .or .u64 (A.nsh .shr .u64 (x0.getD 1 0) 13) (A.nsh .shl .u64 (x0.getD 2 0) 38))).set 2 (A.nb .or .u64 (A.nsh .shr .u64 (x0.getD 2 0) 26) (A.nsh .shl .u64 (x0.getD 3 0) 25))).set 3 (A.nb .or .u64 (A.nsh .shr .u64 (x0.getD 3 0) 39) (A.nsh .shl .u64 (x0.getD 4 0) 12)))) [(1000, (bU 5 x0 44)), (1001, (bU 4 (((([0, 0, 0, 0].set 0 (A.nb .or .u64 (x0.getD 0 0) (A.nsh .shl .u64 (x0.getD 1 0) 51))).set 1 (A.nb .or .u64 (A.nsh .shr .u64 (x0.getD 1 0) 13) (A.nsh .shl .u64 (x0.getD 2 0) 38))).set 2 (A.nb .or .u64 (A.nsh .shr .u64 (x0.getD 2 0) 26) (A.nsh .shl .u64 (x0.getD 3 0) 25))).set 3 (A.nb .or .u64 (A.nsh .shr .u64 (x0.getD 3 0) 39) (A.nsh .shl .u64 (x0.getD 4 0) 12))) 24))]
set_option maxRecDepth 100000 in
theorem g38J16_eq {R : Type} (A : Ar) (n : Nat) (kk : AV → Heap → Option R)    (s : St) (x0 x1 : List Nat) (h : keep g38an 16 s = ⟨[(1, (pT 1000 0)), (2, (pT 1001 0))], [(1000, (bU 5 x0 44)), (1001, (bU 4 x1 24))]⟩) :
    g38D A n (pth 255) (g38T kk) s = g38J16 A n kk  x0 x1 := by
  have h1 : (g38T kk) .ret (g38R16s0 A x0 x1) = kk (aN .u64 4 (((([0, 0, 0, 0].set 0 (A.nb .or .u64 (x0.getD 0 0) (A.nsh .shl .u64 (x0.getD 1 0) 51))).set 1 (A.nb .or .u64 (A.nsh .shr .u64 (x0.getD 1 0) 13) (A.nsh .shl .u64 (x0.getD 2 0) 38))).set 2 (A.nb .or .u64 (A.nsh .shr .u64 (x0.getD 2 0) 26) (A.nsh .shl .u64 (x0.getD 3 0) 25))).set 3 (A.nb .or .u64 (A.nsh .shr .u64 (x0.getD 3 0) 39) (A.nsh .shl .u64 (x0.getD 4 0) 12)))) [(1000, (bU 5 x0 44)), (1001, (bU 4 (((([0, 0, 0, 0].set 0 (A.nb .or .u64 (x0.getD 0 0) (A.nsh .shl .u64 (x0.getD 1 0) 51))).set 1 (A.nb .or .u64 (A.nsh .shr .u64 (x0.getD 1 0) 13) (A.nsh .shl .u64 (x0.getD 2 0) 38))).set 2 (A.nb .or .u64 (A.nsh .shr .u64 (x0.getD 2 0) 26) (A.nsh .shl .u64 (x0.getD 3 0) 25))).set 3 (A.nb .or .u64 (A.nsh .shr .u64 (x0.getD 3 0) 39) (A.nsh .shl .u64 (x0.getD 4 0) 12))) 24))] := by kernel_rfl
  have h2 := (g38p511 A n _ _).trans h1
  have h3 := (g38Qn A n _ _ _).trans h2
  have h4 := (g38F A n _ 16 _ ⟨[(1, (pT 1000 0)), (2, (pT 1001 0))], [(1000, (bU 5 x0 44)), (1001, (bU 4 x1 24))]⟩ _ (by kernel_rfl) (by kernel_rfl)).trans (g38R16 A n (g38Q A n (pth 511) (g38T kk)) x0 x1)
  rw [h3] at h4
  have h5 := (g38p255 A n _ _).trans h4
  exact (g38F A n _ 16 _ _ ⟨[(1, (pT 1000 0)), (2, (pT 1001 0))], [(1000, (bU 5 x0 44)), (1001, (bU 4 x1 24))]⟩ (by kernel_rfl) (h.trans (by kernel_rfl))).trans (h5.trans (by kernel_rfl))
def g38L10 {R : Type} (A : Ar) (n : Nat) (kk : AV → Heap → Option R)  : Nat → Nat → Int → List Nat → List Nat → Option R
  | 0, _, _, _, _ => none
  | m + 1, x0, x1, x2, x3 => match (generalizing := false) A.ic .lss x1 5 with
  | true => g38J11 A n kk (g38L10 A n kk  m) x0 x1 x2 x3
  | false => g38J16 A n kk  x2 x3
set_option maxRecDepth 100000 in
theorem g38L10_eq {R : Type} (A : Ar) (n : Nat) (kk : AV → Heap → Option R)    (m : Nat) (s : St) (x0 : Nat) (x1 : Int) (x2 x3 : List Nat) (h : keep g38an 10 s = ⟨[(1, (pT 1000 0)), (2, (pT 1001 0)), (5, (u64v x0)), (30, (i6 x1))], [(1000, (bU 5 x2 44)), (1001, (bU 4 x3 24))]⟩) :
    g38V A n (pth 1215) m (blockK 2 (g38Q A n (pth 255) (g38T kk))) s = g38L10 A n kk  m x0 x1 x2 x3 := by
  induction m generalizing s x0 x1 x2 x3 with
  | zero => rfl
  | succ m ih =>
    have h1 := (g38Qn A n _ _ _).trans (g38J11_eq A n kk m (g38L10 A n kk  m) ih  (g38R10s0 A x0 x1 x2 x3) x0 x1 x2 x3 (by kernel_rfl))
    have h2 := (g38p9407 A n _ _).trans h1
    have h3 := (g38Qn A n _ _ _).trans (g38J16_eq A n kk     (g38R10s0 A x0 x1 x2 x3) x2 x3 (by kernel_rfl))
    have h4 := (blockK_hit 2 _ _).trans h3
    have h5 := (g38We A n (pth 1215) m _ _ _).trans h4
    have h6 := (g38Qe A n (pth 7359) _ _ _).trans h5
    have h7 := (g38p13503 A n _ _).trans h6
    have h8 := g38p5311 A n (g38Q A n (pth 7359) (g38W A n (pth 1215) m (blockK 2 (g38Q A n (pth 255) (g38T kk))))) (g38R10s0 A x0 x1 x2 x3) (A.ic .lss x1 5) (by kernel_rfl)
    rw [h2, h7] at h8
    have h9 := (g38p3263 A n _ _).trans h8
    have h10 := (g38Qn A n _ _ _).trans h9
    have h11 := (g38F A n _ 10 _ ⟨[(1, (pT 1000 0)), (2, (pT 1001 0)), (5, (u64v x0)), (30, (i6 x1))], [(1000, (bU 5 x2 44)), (1001, (bU 4 x3 24))]⟩ _ (by kernel_rfl) (by kernel_rfl)).trans (g38R10 A n (g38Q A n (pth 3263) (g38W A n (pth 1215) m (blockK 2 (g38Q A n (pth 255) (g38T kk))))) x0 x1 x2 x3)
    rw [h10] at h11
    have h12 := (g38p1215 A n _ _).trans h11
    exact (loopD_first (s' := ⟨[(1, (pT 1000 0)), (2, (pT 1001 0)), (5, (u64v x0)), (30, (i6 x1))], [(1000, (bU 5 x2 44)), (1001, (bU 4 x3 24))]⟩) (id := 10) (by kernel_rfl) (h.trans (by kernel_rfl)) _).trans ((g38Vs A n _ m _ _).trans (h12.trans (by kernel_rfl)))
def g38J7 {R : Type} (A : Ar) (n : Nat) (kk : AV → Heap → Option R)  (x0 : Nat) (x1 x2 : List Nat) : Option R :=
  g38L10 A n kk  n 0 0 (x1.set 0 (A.nb .add .u64 (x1.getD 0 0) (A.nb .mul .u64 19 x0))) x2
set_option maxRecDepth 100000 in
theorem g38J7_eq {R : Type} (A : Ar) (n : Nat) (kk : AV → Heap → Option R)    (s : St) (x0 : Nat) (x1 x2 : List Nat) (h : keep g38an 7 s = ⟨[(1, (pT 1000 0)), (2, (pT 1001 0)), (3, (u64v x0))], [(1000, (bU 5 x1 44)), (1001, (bU 4 x2 24))]⟩) :
    g38D A n (pth 31) (g38T kk) s = g38J7 A n kk  x0 x1 x2 := by
  have h1 := (g38p703 A n _ _).trans (g38L10_eq A n kk    n (g38R9s0 A 0 (x1.set 0 (A.nb .add .u64 (x1.getD 0 0) (A.nb .mul .u64 19 x0))) x2) 0 0 (x1.set 0 (A.nb .add .u64 (x1.getD 0 0) (A.nb .mul .u64 19 x0))) x2 (by kernel_rfl))
  have h2 := (g38p447 A n _ _).trans h1
  have h3 := (g38Qn A n _ _ _).trans h2
  have h4 := (g38F A n _ 9 _ (g38R8s0 A (x1.set 0 (A.nb .add .u64 (x1.getD 0 0) (A.nb .mul .u64 19 x0))) x2) _ (by kernel_rfl) (by kernel_rfl)).trans (g38R9 A n (g38Q A n (pth 447) (g38Q A n (pth 255) (g38T kk))) 0 (x1.set 0 (A.nb .add .u64 (x1.getD 0 0) (A.nb .mul .u64 19 x0))) x2)
  rw [h3] at h4
  have h5 := (g38p191 A n _ _).trans h4
  have h6 := (g38p127 A n _ _).trans h5
  have h7 := (g38Qn A n _ _ _).trans h6
  have h8 := (g38F A n _ 8 _ (g38R7s0 A x0 x1 x2) _ (by kernel_rfl) (by kernel_rfl)).trans (g38R8 A n (g38Q A n (pth 127) (g38T kk)) (x1.set 0 (A.nb .add .u64 (x1.getD 0 0) (A.nb .mul .u64 19 x0))) x2)
  rw [h7] at h8
  have h9 := (g38p63 A n _ _).trans h8
  have h10 := (g38Qn A n _ _ _).trans h9
  have h11 := (g38F A n _ 7 _ ⟨[(1, (pT 1000 0)), (2, (pT 1001 0)), (3, (u64v x0))], [(1000, (bU 5 x1 44)), (1001, (bU 4 x2 24))]⟩ _ (by kernel_rfl) (by kernel_rfl)).trans (g38R7 A n (g38Q A n (pth 63) (g38T kk)) x0 x1 x2)
  rw [h10] at h11
  have h12 := (g38p31 A n _ _).trans h11
  exact (g38F A n _ 7 _ _ ⟨[(1, (pT 1000 0)), (2, (pT 1001 0)), (3, (u64v x0))], [(1000, (bU 5 x1 44)), (1001, (bU 4 x2 24))]⟩ (by kernel_rfl) (h.trans (by kernel_rfl))).trans (h12.trans (by kernel_rfl))
def g38L4 {R : Type} (A : Ar) (n : Nat) (kk : AV → Heap → Option R)  : Nat → Nat → Int → List Nat → List Nat → Option R
  | 0, _, _, _, _ => none
  | m + 1, x0, x1, x2, x3 => match (generalizing := false) A.ic .lss x1 5 with
  | true => g38J6 A n kk (g38L4 A n kk  m) x0 x1 x2 x3
  | false => g38J7 A n kk  x0 x2 x3
set_option maxRecDepth 100000 in
theorem g38L4_eq {R : Type} (A : Ar) (n : Nat) (kk : AV → Heap → Option R)    (m : Nat) (s : St) (x0 : Nat) (x1 : Int) (x2 x3 : List Nat) (h : keep g38an 4 s = ⟨[(1, (pT 1000 0)), (2, (pT 1001 0)), (3, (u64v x0)), (4, (i6 x1))], [(1000, (bU 5 x2 44)), (1001, (bU 4 x3 24))]⟩) :
    g38V A n (pth 151) m (blockK 0 (g38Q A n (pth 31) (g38T kk))) s = g38L4 A n kk  m x0 x1 x2 x3 := by
  induction m generalizing s x0 x1 x2 x3 with
  | zero => rfl
  | succ m ih =>
    have h1 := (g38Qn A n _ _ _).trans (g38J6_eq A n kk m (g38L4 A n kk  m) ih  (g38R4s0 A x0 x1 x2 x3) x0 x1 x2 x3 (by kernel_rfl))
    have h2 := (g38p1303 A n _ _).trans h1
    have h3 := (g38Qn A n _ _ _).trans (g38J7_eq A n kk     (g38R4s0 A x0 x1 x2 x3) x0 x2 x3 (by kernel_rfl))
    have h4 := (blockK_hit 0 _ _).trans h3
    have h5 := (g38We A n (pth 151) m _ _ _).trans h4
    have h6 := (g38Qe A n (pth 407) _ _ _).trans h5
    have h7 := (g38p1815 A n _ _).trans h6
    have h8 := g38p791 A n (g38Q A n (pth 407) (g38W A n (pth 151) m (blockK 0 (g38Q A n (pth 31) (g38T kk))))) (g38R4s0 A x0 x1 x2 x3) (A.ic .lss x1 5) (by kernel_rfl)
    rw [h2, h7] at h8
    have h9 := (g38Qn A n _ _ _).trans h8
    have h10 := (g38F A n _ 4 _ ⟨[(1, (pT 1000 0)), (2, (pT 1001 0)), (3, (u64v x0)), (4, (i6 x1))], [(1000, (bU 5 x2 44)), (1001, (bU 4 x3 24))]⟩ _ (by kernel_rfl) (by kernel_rfl)).trans (g38R4 A n (g38Q A n (pth 791) (g38Q A n (pth 407) (g38W A n (pth 151) m (blockK 0 (g38Q A n (pth 31) (g38T kk)))))) x0 x1 x2 x3)
    rw [h9] at h10
    have h11 := (g38p279 A n _ _).trans h10
    have h12 := (g38p151 A n _ _).trans h11
    exact (loopD_first (s' := ⟨[(1, (pT 1000 0)), (2, (pT 1001 0)), (3, (u64v x0)), (4, (i6 x1))], [(1000, (bU 5 x2 44)), (1001, (bU 4 x3 24))]⟩) (id := 4) (by kernel_rfl) (h.trans (by kernel_rfl)) _).trans ((g38Vs A n _ m _ _).trans (h12.trans (by kernel_rfl)))
def g38 {R : Type} (A : Ar) (n : Nat) (kk : AV → Heap → Option R) (a : List Nat) : Option R :=
  match (generalizing := false) g47ok A a with
  | true => match (generalizing := false) g47ok A (g47r0 A a) with
    | true => g38L4 A n kk  n (A.nsh .shr .u64 (A.nb .add .u64 ((g47r0 A (g47r0 A a)).getD 0 0) 19) 51) 1 (g47r0 A (g47r0 A a)) [0, 0, 0, 0]
    | false => none
  | false => none
set_option maxRecDepth 100000 in
theorem g38_eq {R : Type} (A : Ar) (n : Nat) (kk : AV → Heap → Option R) (a : List Nat) :
    funD A gtys (g38O A) g38an n (bodyOf Try.f38) g38res [(aN .u64 5 a)] [] kk = g38 A n kk a := by
  have h1 := (g38p87 A n _ _).trans (g38L4_eq A n kk    n (g38R3s0 A (A.nsh .shr .u64 (A.nb .add .u64 ((g47r0 A (g47r0 A a)).getD 0 0) 19) 51) (g47r0 A (g47r0 A a)) [0, 0, 0, 0]) (A.nsh .shr .u64 (A.nb .add .u64 ((g47r0 A (g47r0 A a)).getD 0 0) 19) 51) 1 (g47r0 A (g47r0 A a)) [0, 0, 0, 0] (by kernel_rfl))
  have h2 := (g38p55 A n _ _).trans h1
  have h3 := (g38Qn A n _ _ _).trans h2
  have h4 := (g38F A n _ 3 _ (g38R2s0 A (g47r0 A (g47r0 A a)) [0, 0, 0, 0]) _ (by kernel_rfl) (by kernel_rfl)).trans (g38R3 A n (g38Q A n (pth 55) (g38Q A n (pth 31) (g38T kk))) (A.nsh .shr .u64 (A.nb .add .u64 ((g47r0 A (g47r0 A a)).getD 0 0) 19) 51) (g47r0 A (g47r0 A a)) [0, 0, 0, 0])
  rw [h3] at h4
  have h5 := (g38p23 A n _ _).trans h4
  have h6 := (g38p15 A n _ _).trans h5
  have h7 := (g38Qn A n _ _ _).trans h6
  have h8 := (g38F A n _ 2 _ (g38R1s0 A a [0, 0, 0, 0]) _ (by kernel_rfl) (by kernel_rfl)).trans (g38R2 A n (g38Q A n (pth 15) (g38T kk)) (g47r0 A (g47r0 A a)) [0, 0, 0, 0])
  rw [h7] at h8
  have h9 := (g38p7 A n _ _).trans h8
  have h10 := (g38Qn A n _ _ _).trans h9
  have h11 := (g38F A n _ 1 _ (g38R0s0 A a) _ (by kernel_rfl) (by kernel_rfl)).trans (g38R1 A n (g38Q A n (pth 7) (g38T kk)) a [0, 0, 0, 0])
  rw [h10] at h11
  have h12 := (g38p3 A n _ _).trans h11
  have h13 := (g38Qn A n _ _ _).trans h12
  have h14 := (g38F A n _ 0 _ ⟨[(0, (aN .u64 5 a))], []⟩ _ (by kernel_rfl) (by kernel_rfl)).trans (g38R0 A n (g38Q A n (pth 3) (g38T kk)) a)
  rw [h13] at h14
  have h15 := (g38p1 A n _ _).trans h14
  exact (show funD A gtys (g38O A) g38an n (bodyOf Try.f38) g38res [(aN .u64 5 a)] [] kk = g38D A n (pth 1) (g38T kk) ⟨[(0, (aN .u64 5 a))], []⟩ from by kernel_rfl).trans (h15.trans (by kernel_rfl))
def g38is (o : Option AV) : Bool := match o with
  | some (aN .u64 4 _) => true
  | _ => false
def g38g0 (o : Option AV) : List Nat := match o with
  | some (aN .u64 4 x) => x
  | _ => []
theorem g38is_spec {o : Option AV} (h : g38is o = true) : o = some (aN .u64 4 (g38g0 o)) := by
  unfold g38is at h
  split at h
  · rfl
  · cases h
def g38v (A : Ar) (a : List Nat) : Option AV := g38 A (100000) (fun v _ => some v) a
def g38ok (A : Ar) (a : List Nat) : Bool := g38is (g38v A a)
def g38r0 (A : Ar) (a : List Nat) : List Nat := g38g0 (g38v A a)
theorem g38ok_spec {A : Ar} {a} (h : g38ok A a = true) : g38v A a = some (aN .u64 4 (g38r0 A a)) := g38is_spec h
def g38o (A : Ar) (args : List AV) : Option (Bool × AV) := match args with
  | [.v (.agg [.nums .u64 n0 a])] => some (Nat.beq n0 5 && (g38ok A a), .v (.agg [.nums .u64 4 (g38r0 A a)]))
  | _ => none
theorem g38o_sound : ∀ args v, g38o realA args = some (true, v) → Fn1 Try.prog 38 args v := by
  intro args v h
  unfold g38o at h
  split at h
  · rename_i n0 a
    simp only [Option.some.injEq, Prod.mk.injEq] at h
    obtain ⟨hc, h⟩ := h
    subst h
    · skip
      simp only [Bool.and_eq_true] at hc
      have en0 := beq_true hc.1
      subst en0
      replace hc := hc.2
      exact fn1_of mixed gtysOK g38O_sound g38O_det (an := g38an) (n := 100000) Try.func38 (c := bodyOf Try.f38) rfl (by kernel_rfl) Try.call38 (Nat.le_of_ble_eq_true rfl) (fun b => rfl) (fun _ => (g38_eq realA (100000) (fun v _ => some v) a).trans (show g38v realA a = _ from g38ok_spec hc))
  · cases h
/- engrosser/field.Mul -/
def g16O (A : Ar) : Orc := orcOf [(37, g37o A), (42, g42o A), (38, g38o A)]
theorem g16O_sound : OSound Try.prog (g16O realA) := orc_sound fun f g hm args v hv => by
  simp only [List.mem_cons, List.not_mem_nil, or_false, Prod.mk.injEq] at hm
  rcases hm with ⟨rfl, rfl⟩ | ⟨rfl, rfl⟩ | ⟨rfl, rfl⟩
  · exact g37o_sound _ _ hv
  · exact g42o_sound _ _ hv
  · exact g38o_sound _ _ hv
theorem g16O_det : ODet (g16O realA) := orc_det _
def g16an : Ann := [(0, ([0, 1], [])), (1, ([2, 3, 4], [1000, 1001, 1002]))]
def g16res : List ResultVar := [.cell 4 24]
noncomputable def g16D {R : Type} (A : Ar) (n : Nat) (p : List Bool) (K : Ex → St → Option R) (s : St) : Option R := codeD A gtys (g16O A) g16an n (sub (bodyOf Try.f16) p) K s
noncomputable def g16Q {R : Type} (A : Ar) (n : Nat) (p : List Bool) (K : Ex → St → Option R) : Ex → St → Option R := seqC (g16D A n p K) K
noncomputable def g16T {R : Type} (kk : AV → Heap → Option R) : Ex → St → Option R := finD gtys g16res kk
theorem g16Qn {R : Type} (A : Ar) (n : Nat) (p : List Bool) (K : Ex → St → Option R) (s : St) : g16Q A n p K .normal s = g16D A n p K s := rfl
theorem g16F {R : Type} (A : Ar) (n : Nat) (p : List Bool) (i : Nat) (K : Ex → St → Option R) (s s' : St) (hf : firstReg (sub (bodyOf Try.f16) p) = some i) (h : keep g16an i s = keep g16an i s') : g16D A n p K s = g16D A n p K s' := codeD_first hf h K
section
variable {R : Type} (A : Ar) (n : Nat) (K : Ex → St → Option R) (s : St)
theorem g16p1 : g16D A n (pth 1) K s = g16D A n (pth 2) (g16Q A n (pth 3) K) s := by kernel_rfl
theorem g16p3 : g16D A n (pth 3) K s = g16D A n (pth 5) (g16Q A n (pth 7) K) s := by kernel_rfl
theorem g16p7 : g16D A n (pth 7) K s = K .ret s := by kernel_rfl
def g16R0s0 (A : Ar) (x0 x1 : List Nat) : St := ⟨[(4, (pT 1002 0)), (3, (pT 1001 0)), (2, (pT 1000 0)), (0, (aN .u64 4 x0)), (1, (aN .u64 4 x1))], [(1002, (bU 4 [0, 0, 0, 0] 24)), (1001, (bU 4 x1 24)), (1000, (bU 4 x0 24))]⟩
theorem g16R0 (x0 x1 : List Nat) : g16D A n (pth 2) K ⟨[(0, (aN .u64 4 x0)), (1, (aN .u64 4 x1))], []⟩ = K .normal (g16R0s0 A x0 x1) := by kernel_rfl
def g16R1s0 (A : Ar) (x0 x1 x2 : List Nat) : St := ⟨[(10, (aN .u64 4 (g38r0 A (g42r0 A (g37r0 A x0) (g37r0 A x1))))), (9, (aN .u64 5 (g42r0 A (g37r0 A x0) (g37r0 A x1)))), (8, (aN .u64 5 (g37r0 A x1))), (7, (aN .u64 4 x1)), (6, (aN .u64 5 (g37r0 A x0))), (5, (aN .u64 4 x0)), (2, (pT 1000 0)), (3, (pT 1001 0)), (4, (pT 1002 0))], [(1000, (bU 4 x0 24)), (1001, (bU 4 x1 24)), (1002, (bU 4 (g38r0 A (g42r0 A (g37r0 A x0) (g37r0 A x1))) 24))]⟩
theorem g16R1 (x0 x1 x2 : List Nat) : g16D A n (pth 5) K ⟨[(2, (pT 1000 0)), (3, (pT 1001 0)), (4, (pT 1002 0))], [(1000, (bU 4 x0 24)), (1001, (bU 4 x1 24)), (1002, (bU 4 x2 24))]⟩ = match (generalizing := false) g37ok A x0 with
    | true => match (generalizing := false) g37ok A x1 with
      | true => match (generalizing := false) g42ok A (g37r0 A x0) (g37r0 A x1) with
        | true => match (generalizing := false) g38ok A (g42r0 A (g37r0 A x0) (g37r0 A x1)) with
          | true => K .normal (g16R1s0 A x0 x1 x2)
          | false => none
        | false => none
      | false => none
    | false => none := by kernel_rfl
end
def g16 {R : Type} (A : Ar) (n : Nat) (kk : AV → Heap → Option R) (a b : List Nat) : Option R :=
  match (generalizing := false) g37ok A a with
  | true => match (generalizing := false) g37ok A b with
    | true => match (generalizing := false) g42ok A (g37r0 A a) (g37r0 A b) with
      | true => match (generalizing := false) g38ok A (g42r0 A (g37r0 A a) (g37r0 A b)) with
        | true => kk (aN .u64 4 (g38r0 A (g42r0 A (g37r0 A a) (g37r0 A b)))) [(1000, (bU 4 a 24)), (1001, (bU 4 b 24)), (1002, (bU 4 (g38r0 A (g42r0 A (g37r0 A a) (g37r0 A b))) 24))]
        | false => none
      | false => none
    | false => none
  | false => none
set_option maxRecDepth 100000 in
theorem g16_eq {R : Type} (A : Ar) (n : Nat) (kk : AV → Heap → Option R) (a b : List Nat) :
    funD A gtys (g16O A) g16an n (bodyOf Try.f16) g16res [(aN .u64 4 a), (aN .u64 4 b)] [] kk = g16 A n kk a b := by
  have h1 : (g16T kk) .ret (g16R1s0 A a b [0, 0, 0, 0]) = kk (aN .u64 4 (g38r0 A (g42r0 A (g37r0 A a) (g37r0 A b)))) [(1000, (bU 4 a 24)), (1001, (bU 4 b 24)), (1002, (bU 4 (g38r0 A (g42r0 A (g37r0 A a) (g37r0 A b))) 24))] := by kernel_rfl
  have h2 := (g16p7 A n _ _).trans h1
  have h3 := (g16Qn A n _ _ _).trans h2
  have h4 := (g16F A n _ 1 _ (g16R0s0 A a b) _ (by kernel_rfl) (by kernel_rfl)).trans (g16R1 A n (g16Q A n (pth 7) (g16T kk)) a b [0, 0, 0, 0])
  rw [h3] at h4
  have h5 := (g16p3 A n _ _).trans h4
  have h6 := (g16Qn A n _ _ _).trans h5
  have h7 := (g16F A n _ 0 _ ⟨[(0, (aN .u64 4 a)), (1, (aN .u64 4 b))], []⟩ _ (by kernel_rfl) (by kernel_rfl)).trans (g16R0 A n (g16Q A n (pth 3) (g16T kk)) a b)
  rw [h6] at h7
  have h8 := (g16p1 A n _ _).trans h7
  exact (show funD A gtys (g16O A) g16an n (bodyOf Try.f16) g16res [(aN .u64 4 a), (aN .u64 4 b)] [] kk = g16D A n (pth 1) (g16T kk) ⟨[(0, (aN .u64 4 a)), (1, (aN .u64 4 b))], []⟩ from by kernel_rfl).trans (h8.trans (by kernel_rfl))
def g16is (o : Option AV) : Bool := match o with
  | some (aN .u64 4 _) => true
  | _ => false
def g16g0 (o : Option AV) : List Nat := match o with
  | some (aN .u64 4 x) => x
  | _ => []
theorem g16is_spec {o : Option AV} (h : g16is o = true) : o = some (aN .u64 4 (g16g0 o)) := by
  unfold g16is at h
  split at h
  · rfl
  · cases h
def g16v (A : Ar) (a b : List Nat) : Option AV := g16 A (100000) (fun v _ => some v) a b
def g16ok (A : Ar) (a b : List Nat) : Bool := g16is (g16v A a b)
def g16r0 (A : Ar) (a b : List Nat) : List Nat := g16g0 (g16v A a b)
theorem g16ok_spec {A : Ar} {a b} (h : g16ok A a b = true) : g16v A a b = some (aN .u64 4 (g16r0 A a b)) := g16is_spec h
def g16o (A : Ar) (args : List AV) : Option (Bool × AV) := match args with
  | [.v (.agg [.nums .u64 n0 a]), .v (.agg [.nums .u64 n1 b])] => some (Nat.beq n0 4 && (Nat.beq n1 4 && (g16ok A a b)), .v (.agg [.nums .u64 4 (g16r0 A a b)]))
  | _ => none
theorem g16o_sound : ∀ args v, g16o realA args = some (true, v) → Fn1 Try.prog 16 args v := by
  intro args v h
  unfold g16o at h
  split at h
  · rename_i n0 a n1 b
    simp only [Option.some.injEq, Prod.mk.injEq] at h
    obtain ⟨hc, h⟩ := h
    subst h
    · skip
      simp only [Bool.and_eq_true] at hc
      have en0 := beq_true hc.1
      subst en0
      replace hc := hc.2
      have en1 := beq_true hc.1
      subst en1
      replace hc := hc.2
      exact fn1_of mixed gtysOK g16O_sound g16O_det (an := g16an) (n := 100000) Try.func16 (c := bodyOf Try.f16) rfl (by kernel_rfl) Try.call16 (Nat.le_of_ble_eq_true rfl) (fun b => rfl) (fun _ => (g16_eq realA (100000) (fun v _ => some v) a b).trans (show g16v realA a b = _ from g16ok_spec hc))
  · cases h
end Go.Sx
