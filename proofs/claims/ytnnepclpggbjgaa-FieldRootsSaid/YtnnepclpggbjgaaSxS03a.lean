/- printed by sxgen -/
import Derived.Test.YtnnepclpggbjgaaChecked
import Derived.Test.YtnnepclpggbjgaaSxK3
import Derived.Test.YtnnepclpggbjgaaSxHr
namespace Go.Sx
open Go.Proofs
set_option linter.unusedVariables false
theorem mixed : Try.prog.follows .mixedOrders = true := Try.checked.mixed
def gtyList : List (Nat × Ty) := [(3, ⟨.int .i64, 1, 8, (.cell (.int .i64 0)), [], 0, 0, false⟩),
  (4, ⟨.bool, 1, 1, (.cell (.bool false)), [], 0, 0, false⟩),
  (5, ⟨.int .u8, 1, 1, (.cell (.nat .u8 0)), [], 0, 0, false⟩),
  (9, ⟨.string, 1, 16, (.cell (.str [])), [], 0, 0, false⟩),
  (22, ⟨.int .u64, 1, 8, (.cell (.nat .u64 0)), [], 0, 0, false⟩),
  (23, ⟨.array, 4, 32, (.agg [.nums .u64 4 [0, 0, 0, 0]]), [], 4, 22, true⟩),
  (24, ⟨.array, 4, 32, (.agg [.nums .u64 4 [0, 0, 0, 0]]), [], 4, 22, true⟩),
  (40, ⟨.int .u32, 1, 4, (.cell (.nat .u32 0)), [], 0, 0, false⟩),
  (44, ⟨.array, 5, 40, (.agg [.nums .u64 5 [0, 0, 0, 0, 0]]), [], 5, 22, true⟩),
  (47, ⟨.array, 8, 32, (.agg [.nums .u32 8 [0, 0, 0, 0, 0, 0, 0, 0]]), [], 8, 40, true⟩),
  (53, ⟨.slice, 1, 24, (.cell .nils), [], 0, 22, false⟩),
  (58, ⟨.slice, 1, 24, (.cell .nils), [], 0, 5, false⟩),
  (62, ⟨.struct, 2, 16, (.agg [.nums .u64 2 [0, 0]]), [(0, 22), (1, 22)], 0, 0, false⟩),
  (63, ⟨.array, 10, 80, (.agg [.nums .u64 10 [0, 0, 0, 0, 0, 0, 0, 0, 0, 0]]), [], 5, 62, false⟩)]
def gtys : Tys := fun t => lk t gtyList
theorem gtysOK0 : allL (fun p => tyB Try.prog p.1 p.2) gtyList = true := by kernel_rfl
theorem gtysOK : TyOK Try.prog gtys := tyOK_of gtysOK0 (eqB_spec gtysOK0 (by kernel_rfl))
/- engrosser/field.Small -/
def g23O (A : Ar) : Orc := orcOf []
theorem g23O_sound : OSound Try.prog (g23O realA) := orc_sound fun f g hm args v hv => by
  cases hm
theorem g23O_det : ODet (g23O realA) := orc_det _
def g23an : Ann := [(0, ([0], [])), (1, ([0, 2], [1000]))]
def g23res : List ResultVar := [.cell 2 24]
noncomputable def g23D {R : Type} (A : Ar) (n : Nat) (p : List Bool) (K : Ex → St → Option R) (s : St) : Option R := codeD A gtys (g23O A) g23an n (sub (bodyOf Try.f23) p) K s
noncomputable def g23Q {R : Type} (A : Ar) (n : Nat) (p : List Bool) (K : Ex → St → Option R) : Ex → St → Option R := seqC (g23D A n p K) K
noncomputable def g23T {R : Type} (kk : AV → Heap → Option R) : Ex → St → Option R := finD gtys g23res kk
theorem g23Qn {R : Type} (A : Ar) (n : Nat) (p : List Bool) (K : Ex → St → Option R) (s : St) : g23Q A n p K .normal s = g23D A n p K s := rfl
section
variable {R : Type} (A : Ar) (n : Nat) (K : Ex → St → Option R) (s : St)
theorem g23p : g23D A n (pth 1) K s = g23D A n (pth 2) (g23Q A n (pth 3) K) s := by kernel_rfl
theorem g23p0 (s' : St) (h : keep g23an 0 s = keep g23an 0 s') : g23D A n (pth 2) K s = g23D A n (pth 2) K s' := codeD_first (id := 0) (by kernel_rfl) h K
theorem g23p1 : g23D A n (pth 3) K s = g23D A n (pth 5) (g23Q A n (pth 7) K) s := by kernel_rfl
theorem g23p10 (s' : St) (h : keep g23an 1 s = keep g23an 1 s') : g23D A n (pth 5) K s = g23D A n (pth 5) K s' := codeD_first (id := 1) (by kernel_rfl) h K
theorem g23p11 : g23D A n (pth 7) K s = K .ret s := by kernel_rfl
theorem g23R0 (x0 : Nat) : g23D A n (pth 2) K ⟨[(0, (u64v x0))], []⟩ = K .normal ⟨[(2, (pT 1000 0)), (0, (u64v x0))], [(1000, (bU 4 [0, 0, 0, 0] 24))]⟩ := by kernel_rfl
theorem g23R1 (x0 : Nat) (x1 : List Nat) : g23D A n (pth 5) K ⟨[(0, (u64v x0)), (2, (pT 1000 0))], [(1000, (bU 4 x1 24))]⟩ = K .normal ⟨[(4, (aN .u64 4 ([0, 0, 0, 0].set 0 x0))), (3, (u64v x0)), (0, (u64v x0)), (2, (pT 1000 0))], [(1000, (bU 4 ([0, 0, 0, 0].set 0 x0) 24))]⟩ := by kernel_rfl
end
def g23 {R : Type} (A : Ar) (n : Nat) (kk : AV → Heap → Option R) (a : Nat) : Option R :=
  kk (aN .u64 4 ([0, 0, 0, 0].set 0 a)) [(1000, (bU 4 ([0, 0, 0, 0].set 0 a) 24))]
set_option maxRecDepth 100000 in
theorem g23_eq {R : Type} (A : Ar) (n : Nat) (kk : AV → Heap → Option R) (a : Nat) :
    funD A gtys (g23O A) g23an n (bodyOf Try.f23) g23res [(u64v a)] [] kk = g23 A n kk a := by
  have h5 : (g23T kk) .ret ⟨[(4, (aN .u64 4 ([0, 0, 0, 0].set 0 a))), (3, (u64v a)), (0, (u64v a)), (2, (pT 1000 0))], [(1000, (bU 4 ([0, 0, 0, 0].set 0 a) 24))]⟩ = kk (aN .u64 4 ([0, 0, 0, 0].set 0 a)) [(1000, (bU 4 ([0, 0, 0, 0].set 0 a) 24))] := by kernel_rfl
  have h6 := (g23p11 A n _ _).trans h5
  have h7 := (g23Qn A n _ _ _).trans h6
  have h3 := g23R1 A n (g23Q A n (pth 7) (g23T kk)) a [0, 0, 0, 0]
  have h8 := (g23p10 A n _ ⟨[(2, (pT 1000 0)), (0, (u64v a))], [(1000, (bU 4 [0, 0, 0, 0] 24))]⟩ _ (by kernel_rfl)).trans h3
  rw [h7] at h8
  have h9 := (g23p1 A n _ _).trans h8
  have h10 := (g23Qn A n _ _ _).trans h9
  have h1 := g23R0 A n (g23Q A n (pth 3) (g23T kk)) a
  have h11 := (g23p0 A n _ ⟨[(0, (u64v a))], []⟩ _ (by kernel_rfl)).trans h1
  rw [h10] at h11
  have h12 := (g23p A n _ _).trans h11
  exact (show funD A gtys (g23O A) g23an n (bodyOf Try.f23) g23res [(u64v a)] [] kk = g23D A n (pth 1) (g23T kk) ⟨[(0, (u64v a))], []⟩ from by kernel_rfl).trans (h12.trans (by kernel_rfl))
def g23is (o : Option AV) : Bool := match o with
  | some (aN .u64 4 _) => true
  | _ => false
def g23g0 (o : Option AV) : List Nat := match o with
  | some (aN .u64 4 x) => x
  | _ => []
theorem g23is_spec {o : Option AV} (h : g23is o = true) : o = some (aN .u64 4 (g23g0 o)) := by
  unfold g23is at h
  split at h
  · rfl
  · cases h
def g23v (A : Ar) (a : Nat) : Option AV := g23 A (100000) (fun v _ => some v) a
def g23ok (A : Ar) (a : Nat) : Bool := g23is (g23v A a)
def g23r0 (A : Ar) (a : Nat) : List Nat := g23g0 (g23v A a)
theorem g23ok_spec {A : Ar} {a} (h : g23ok A a = true) : g23v A a = some (aN .u64 4 (g23r0 A a)) := g23is_spec h
def g23o (A : Ar) (args : List AV) : Option (Bool × AV) := match args with
  | [.v (.cell (.nat .u64 a))] => some (g23ok A a, .v (.agg [.nums .u64 4 (g23r0 A a)]))
  | _ => none
theorem g23o_sound : ∀ args v, g23o realA args = some (true, v) → Fn1 Try.prog 23 args v := by
  intro args v h
  unfold g23o at h
  split at h
  · rename_i a
    simp only [Option.some.injEq, Prod.mk.injEq] at h
    obtain ⟨hc, h⟩ := h
    subst h
    · skip
      exact fn1_of mixed gtysOK g23O_sound g23O_det (an := g23an) (n := 100000) Try.func23 (c := bodyOf Try.f23) rfl (by kernel_rfl) Try.call23 (Nat.le_of_ble_eq_true rfl) (fun b => rfl) (fun _ => (g23_eq realA (100000) (fun v _ => some v) a).trans (show g23v realA a = _ from g23ok_spec hc))
  · cases h
/- (engrosser/field.limbs).carry -/
def g47O (A : Ar) : Orc := orcOf []
theorem g47O_sound : OSound Try.prog (g47O realA) := orc_sound fun f g hm args v hv => by
  cases hm
theorem g47O_det : ODet (g47O realA) := orc_det _
def g47an : Ann := [(0, ([0], [])), (1, ([1, 2], [1000, 1001])), (2, ([1, 2, 3], [1000, 1001])), (3, ([1, 2, 3, 5], [1000, 1001])), (4, ([1, 2, 3, 5], [1000, 1001])), (5, ([1, 2, 3, 4, 5], [1000, 1001])), (6, ([1, 2, 4, 5], [1000, 1001])), (7, ([1, 2, 3, 4, 5], [1000, 1001])), (8, ([1, 2, 3, 5], [1000, 1001])), (9, ([1, 2, 3], [1000, 1001])), (10, ([1, 2], [1000, 1001]))]
def g47res : List ResultVar := [.cell 2 44]
noncomputable def g47D {R : Type} (A : Ar) (n : Nat) (p : List Bool) (K : Ex → St → Option R) (s : St) : Option R := codeD A gtys (g47O A) g47an n (sub (bodyOf Try.f47) p) K s
noncomputable def g47V {R : Type} (A : Ar) (n : Nat) (p : List Bool) (m : Nat) (K : Ex → St → Option R) (s : St) : Option R := loopD (fun K' s'' => codeD A gtys (g47O A) g47an n (sub (bodyOf Try.f47) p) K' s'') m K s
noncomputable def g47Q {R : Type} (A : Ar) (n : Nat) (p : List Bool) (K : Ex → St → Option R) : Ex → St → Option R := seqC (g47D A n p K) K
noncomputable def g47W {R : Type} (A : Ar) (n : Nat) (p : List Bool) (m : Nat) (K : Ex → St → Option R) : Ex → St → Option R := seqC (g47V A n p m K) K
noncomputable def g47T {R : Type} (kk : AV → Heap → Option R) : Ex → St → Option R := finD gtys g47res kk
theorem g47Qn {R : Type} (A : Ar) (n : Nat) (p : List Bool) (K : Ex → St → Option R) (s : St) : g47Q A n p K .normal s = g47D A n p K s := rfl
theorem g47Qe {R : Type} (A : Ar) (n : Nat) (p : List Bool) (K : Ex → St → Option R) (i : Nat) (s : St) : g47Q A n p K (.exit i) s = K (.exit i) s := rfl
theorem g47Wn {R : Type} (A : Ar) (n : Nat) (p : List Bool) (m : Nat) (K : Ex → St → Option R) (s : St) : g47W A n p m K .normal s = g47V A n p m K s := rfl
theorem g47We {R : Type} (A : Ar) (n : Nat) (p : List Bool) (m : Nat) (K : Ex → St → Option R) (i : Nat) (s : St) : g47W A n p m K (.exit i) s = K (.exit i) s := rfl
theorem g47Vs {R : Type} (A : Ar) (n : Nat) (p : List Bool) (m : Nat) (K : Ex → St → Option R) (s : St) : g47V A n p (m + 1) K s = g47D A n p (g47W A n p m K) s := rfl
section
variable {R : Type} (A : Ar) (n : Nat) (K : Ex → St → Option R) (s : St)
theorem g47p : g47D A n (pth 1) K s = g47D A n (pth 2) (g47Q A n (pth 3) K) s := by kernel_rfl
theorem g47p0 (s' : St) (h : keep g47an 0 s = keep g47an 0 s') : g47D A n (pth 2) K s = g47D A n (pth 2) K s' := codeD_first (id := 0) (by kernel_rfl) h K
theorem g47p1 : g47D A n (pth 3) K s = g47D A n (pth 5) (g47Q A n (pth 7) K) s := by kernel_rfl
theorem g47p10 (s' : St) (h : keep g47an 1 s = keep g47an 1 s') : g47D A n (pth 5) K s = g47D A n (pth 5) K s' := codeD_first (id := 1) (by kernel_rfl) h K
theorem g47p11 : g47D A n (pth 7) K s = g47D A n (pth 11) (g47Q A n (pth 15) K) s := by kernel_rfl
theorem g47p110 : g47D A n (pth 11) K s = g47D A n (pth 19) (g47Q A n (pth 27) K) s := by kernel_rfl
theorem g47p1100 (s' : St) (h : keep g47an 2 s = keep g47an 2 s') : g47D A n (pth 19) K s = g47D A n (pth 19) K s' := codeD_first (id := 2) (by kernel_rfl) h K
theorem g47p1101 : g47D A n (pth 27) K s = g47D A n (pth 43) (blockK 0 K) s := by kernel_rfl
theorem g47p11010 : g47D A n (pth 43) K s = g47V A n (pth 75) n K s := by kernel_rfl
theorem g47p110100 : g47D A n (pth 75) K s = g47D A n (pth 139) (g47Q A n (pth 203) K) s := by kernel_rfl
theorem g47p1101000 (s' : St) (h : keep g47an 3 s = keep g47an 3 s') : g47D A n (pth 139) K s = g47D A n (pth 139) K s' := codeD_first (id := 3) (by kernel_rfl) h K
theorem g47p1101001 : g47D A n (pth 203) K s = g47D A n (pth 331) (g47Q A n (pth 459) K) s := by kernel_rfl
theorem g47p11010010 (t : Bool) : ev s (.tmp 6) = some (.v (.cell (.bool t))) → g47D A n (pth 331) K s = (match t with
    | true => g47D A n (pth 587) K s
    | false => g47D A n (pth 843) K s) := codeD_cond t
theorem g47p110100100 : g47D A n (pth 587) K s = K .normal s := by kernel_rfl
theorem g47p110100101 : g47D A n (pth 843) K s = K (.exit 0) s := by kernel_rfl
theorem g47p11010011 : g47D A n (pth 459) K s = g47D A n (pth 715) (g47Q A n (pth 971) K) s := by kernel_rfl
theorem g47p110100110 : g47D A n (pth 715) K s = g47D A n (pth 1227) (blockK 1 K) s := by kernel_rfl
theorem g47p1101001100 : g47D A n (pth 1227) K s = g47D A n (pth 2251) (g47Q A n (pth 3275) K) s := by kernel_rfl
theorem g47p11010011000 (s' : St) (h : keep g47an 4 s = keep g47an 4 s') : g47D A n (pth 2251) K s = g47D A n (pth 2251) K s' := codeD_first (id := 4) (by kernel_rfl) h K
theorem g47p11010011001 : g47D A n (pth 3275) K s = g47D A n (pth 5323) (g47Q A n (pth 7371) K) s := by kernel_rfl
theorem g47p110100110010 (s' : St) (h : keep g47an 5 s = keep g47an 5 s') : g47D A n (pth 5323) K s = g47D A n (pth 5323) K s' := codeD_first (id := 5) (by kernel_rfl) h K
theorem g47p110100110011 : g47D A n (pth 7371) K s = g47D A n (pth 11467) (g47Q A n (pth 15563) K) s := by kernel_rfl
theorem g47p1101001100110 (s' : St) (h : keep g47an 6 s = keep g47an 6 s') : g47D A n (pth 11467) K s = g47D A n (pth 11467) K s' := codeD_first (id := 6) (by kernel_rfl) h K
theorem g47p1101001100111 (s' : St) (h : keep g47an 7 s = keep g47an 7 s') : g47D A n (pth 15563) K s = g47D A n (pth 15563) K s' := codeD_first (id := 7) (by kernel_rfl) h K
theorem g47p110100111 (s' : St) (h : keep g47an 8 s = keep g47an 8 s') : g47D A n (pth 971) K s = g47D A n (pth 971) K s' := codeD_first (id := 8) (by kernel_rfl) h K
theorem g47p111 : g47D A n (pth 15) K s = g47D A n (pth 23) (g47Q A n (pth 31) K) s := by kernel_rfl
theorem g47p1110 (s' : St) (h : keep g47an 9 s = keep g47an 9 s') : g47D A n (pth 23) K s = g47D A n (pth 23) K s' := codeD_first (id := 9) (by kernel_rfl) h K
theorem g47p1111 : g47D A n (pth 31) K s = g47D A n (pth 47) (g47Q A n (pth 63) K) s := by kernel_rfl
theorem g47p11110 (s' : St) (h : keep g47an 10 s = keep g47an 10 s') : g47D A n (pth 47) K s = g47D A n (pth 47) K s' := codeD_first (id := 10) (by kernel_rfl) h K
theorem g47p11111 : g47D A n (pth 63) K s = K .ret s := by kernel_rfl
theorem g47R4 (x0 : Nat) (x1 : Int) (x2 x3 : List Nat) : g47D A n (pth 2251) K ⟨[(1, (pT 1000 0)), (2, (pT 1001 0)), (3, (u64v x0)), (5, (i6 x1))], [(1000, (bU 5 x2 44)), (1001, (bU 5 x3 44))]⟩ = K .normal ⟨[(4, (i6 x1)), (7, (i6 x1)), (1, (pT 1000 0)), (2, (pT 1001 0)), (3, (u64v x0)), (5, (i6 x1))], [(1000, (bU 5 x2 44)), (1001, (bU 5 x3 44))]⟩ := by kernel_rfl
theorem g47R5 (x0 : Nat) (x1 x2 : Int) (x3 x4 : List Nat) : g47D A n (pth 5323) K ⟨[(1, (pT 1000 0)), (2, (pT 1001 0)), (3, (u64v x0)), (4, (i6 x1)), (5, (i6 x2))], [(1000, (bU 5 x3 44)), (1001, (bU 5 x4 44))]⟩ = match (generalizing := false) A.neg x1 with
    | true => none
    | false => match (generalizing := false) A.lt (A.toN x1) 5 with
      | true => match (generalizing := false) A.neg x1 with
        | true => none
        | false => match (generalizing := false) A.lt (A.toN x1) 5 with
          | true => K .normal ⟨[(13, (.v (.cell (.ptr 1000 0 (some ⟨A.toN x1, 1, 5, 0, 0, 0⟩))))), (12, (u64v (A.nb .add .u64 (x3.getD (A.toN x1) 0) x0))), (11, (u64v x0)), (10, (u64v (x3.getD (A.toN x1) 0))), (9, (.v (.cell (.ptr 1000 0 (some ⟨A.toN x1, 1, 5, 0, 0, 0⟩))))), (8, (i6 x1)), (1, (pT 1000 0)), (2, (pT 1001 0)), (3, (u64v x0)), (4, (i6 x1)), (5, (i6 x2))], [(1000, (bU 5 (x3.set (A.toN x1) (A.nb .add .u64 (x3.getD (A.toN x1) 0) x0)) 44)), (1001, (bU 5 x4 44))]⟩
          | false => none
      | false => none := by kernel_rfl
theorem g47R6 (x0 x1 : Int) (x2 x3 : List Nat) : g47D A n (pth 11467) K ⟨[(1, (pT 1000 0)), (2, (pT 1001 0)), (4, (i6 x0)), (5, (i6 x1))], [(1000, (bU 5 x2 44)), (1001, (bU 5 x3 44))]⟩ = match (generalizing := false) A.neg x0 with
    | true => none
    | false => match (generalizing := false) A.lt (A.toN x0) 5 with
      | true => K .normal ⟨[(3, (u64v (A.nsh .shr .u64 (x2.getD (A.toN x0) 0) 51))), (17, (u64v (A.nsh .shr .u64 (x2.getD (A.toN x0) 0) 51))), (16, (u64v (x2.getD (A.toN x0) 0))), (15, (.v (.cell (.ptr 1000 0 (some ⟨A.toN x0, 1, 5, 0, 0, 0⟩))))), (14, (i6 x0)), (1, (pT 1000 0)), (2, (pT 1001 0)), (4, (i6 x0)), (5, (i6 x1))], [(1000, (bU 5 x2 44)), (1001, (bU 5 x3 44))]⟩
      | false => none := by kernel_rfl
theorem g47R7 (x0 : Nat) (x1 x2 : Int) (x3 x4 : List Nat) : g47D A n (pth 15563) K ⟨[(1, (pT 1000 0)), (2, (pT 1001 0)), (3, (u64v x0)), (4, (i6 x1)), (5, (i6 x2))], [(1000, (bU 5 x3 44)), (1001, (bU 5 x4 44))]⟩ = match (generalizing := false) A.neg x1 with
    | true => none
    | false => match (generalizing := false) A.lt (A.toN x1) 5 with
      | true => match (generalizing := false) A.neg x1 with
        | true => none
        | false => match (generalizing := false) A.lt (A.toN x1) 5 with
          | true => K .normal ⟨[(22, (.v (.cell (.ptr 1000 0 (some ⟨A.toN x1, 1, 5, 0, 0, 0⟩))))), (21, (u64v (A.nb .and .u64 (x3.getD (A.toN x1) 0) 2251799813685247))), (20, (u64v (x3.getD (A.toN x1) 0))), (19, (.v (.cell (.ptr 1000 0 (some ⟨A.toN x1, 1, 5, 0, 0, 0⟩))))), (18, (i6 x1)), (1, (pT 1000 0)), (2, (pT 1001 0)), (3, (u64v x0)), (4, (i6 x1)), (5, (i6 x2))], [(1000, (bU 5 (x3.set (A.toN x1) (A.nb .and .u64 (x3.getD (A.toN x1) 0) 2251799813685247)) 44)), (1001, (bU 5 x4 44))]⟩
          | false => none
      | false => none := by kernel_rfl
theorem g47R8 (x0 : Nat) (x1 : Int) (x2 x3 : List Nat) : g47D A n (pth 971) K ⟨[(1, (pT 1000 0)), (2, (pT 1001 0)), (3, (u64v x0)), (5, (i6 x1))], [(1000, (bU 5 x2 44)), (1001, (bU 5 x3 44))]⟩ = K .normal ⟨[(5, (i6 (A.ib .add .i64 x1 1))), (23, (i6 (A.ib .add .i64 x1 1))), (1, (pT 1000 0)), (2, (pT 1001 0)), (3, (u64v x0)), (5, (i6 x1))], [(1000, (bU 5 x2 44)), (1001, (bU 5 x3 44))]⟩ := by kernel_rfl
theorem g47R9 (x0 : Nat) (x1 x2 : List Nat) : g47D A n (pth 23) K ⟨[(1, (pT 1000 0)), (2, (pT 1001 0)), (3, (u64v x0))], [(1000, (bU 5 x1 44)), (1001, (bU 5 x2 44))]⟩ = K .normal ⟨[(29, (pT 1000 0)), (28, (u64v (A.nb .add .u64 (x1.getD 0 0) (A.nb .mul .u64 x0 19)))), (27, (u64v (A.nb .mul .u64 x0 19))), (26, (u64v x0)), (25, (u64v (x1.getD 0 0))), (24, (pT 1000 0)), (1, (pT 1000 0)), (2, (pT 1001 0)), (3, (u64v x0))], [(1000, (bU 5 (x1.set 0 (A.nb .add .u64 (x1.getD 0 0) (A.nb .mul .u64 x0 19))) 44)), (1001, (bU 5 x2 44))]⟩ := by kernel_rfl
theorem g47R10 (x0 x1 : List Nat) : g47D A n (pth 47) K ⟨[(1, (pT 1000 0)), (2, (pT 1001 0))], [(1000, (bU 5 x0 44)), (1001, (bU 5 x1 44))]⟩ = K .normal ⟨[(30, (aN .u64 5 x0)), (1, (pT 1000 0)), (2, (pT 1001 0))], [(1000, (bU 5 x0 44)), (1001, (bU 5 x0 44))]⟩ := by kernel_rfl
theorem g47R3 (x0 : Nat) (x1 : Int) (x2 x3 : List Nat) : g47D A n (pth 139) K ⟨[(1, (pT 1000 0)), (2, (pT 1001 0)), (3, (u64v x0)), (5, (i6 x1))], [(1000, (bU 5 x2 44)), (1001, (bU 5 x3 44))]⟩ = K .normal ⟨[(6, (bO (A.ic .lss x1 5))), (1, (pT 1000 0)), (2, (pT 1001 0)), (3, (u64v x0)), (5, (i6 x1))], [(1000, (bU 5 x2 44)), (1001, (bU 5 x3 44))]⟩ := by kernel_rfl
theorem g47R0 (x0 : List Nat) : g47D A n (pth 2) K ⟨[(0, (aN .u64 5 x0))], []⟩ = K .normal ⟨[(2, (pT 1001 0)), (1, (pT 1000 0)), (0, (aN .u64 5 x0))], [(1001, (bU 5 [0, 0, 0, 0, 0] 44)), (1000, (bU 5 x0 44))]⟩ := by kernel_rfl
theorem g47R1 (x0 x1 : List Nat) : g47D A n (pth 5) K ⟨[(1, (pT 1000 0)), (2, (pT 1001 0))], [(1000, (bU 5 x0 44)), (1001, (bU 5 x1 44))]⟩ = K .normal ⟨[(3, (u64v 0)), (1, (pT 1000 0)), (2, (pT 1001 0))], [(1000, (bU 5 x0 44)), (1001, (bU 5 x1 44))]⟩ := by kernel_rfl
theorem g47R2 (x0 : Nat) (x1 x2 : List Nat) : g47D A n (pth 19) K ⟨[(1, (pT 1000 0)), (2, (pT 1001 0)), (3, (u64v x0))], [(1000, (bU 5 x1 44)), (1001, (bU 5 x2 44))]⟩ = K .normal ⟨[(5, (i6 0)), (1, (pT 1000 0)), (2, (pT 1001 0)), (3, (u64v x0))], [(1000, (bU 5 x1 44)), (1001, (bU 5 x2 44))]⟩ := by kernel_rfl
end
def g47J4 {R : Type} (A : Ar) (n : Nat) (kk : AV → Heap → Option R) (lg47L3 : Nat → Int → List Nat → List Nat → Option R) (x0 : Nat) (x1 : Int) (x2 x3 : List Nat) : Option R :=
  match (generalizing := false) A.neg x1 with
  | true => none
  | false => match (generalizing := false) A.lt (A.toN x1) 5 with
    | true => match (generalizing := false) A.neg x1 with
      | true => none
      | false => match (generalizing := false) A.lt (A.toN x1) 5 with
        | true => match (generalizing := false) A.neg x1 with
          | true => none
          | false => match (generalizing := false) A.lt (A.toN x1) 5 with
            | true => match (generalizing := false) A.neg x1 with
              | true => none
              | false => match (generalizing := false) A.lt (A.toN x1) 5 with
                | true => match (generalizing := false) A.neg x1 with
                  | true => none
                  | false => match (generalizing := false) A.lt (A.toN x1) 5 with
                    | true => lg47L3 (A.nsh .shr .u64 ((x2.set (A.toN x1) (A.nb .add .u64 (x2.getD (A.toN x1) 0) x0)).getD (A.toN x1) 0) 51) (A.ib .add .i64 x1 1) ((x2.set (A.toN x1) (A.nb .add .u64 (x2.getD (A.toN x1) 0) x0)).set (A.toN x1) (A.nb .and .u64 ((x2.set (A.toN x1) (A.nb .add .u64 (x2.getD (A.toN x1) 0) x0)).getD (A.toN x1) 0) 2251799813685247)) x3
                    | false => none
                | false => none
            | false => none
        | false => none
    | false => none
set_option maxRecDepth 100000 in
theorem g47J4_eq {R : Type} (A : Ar) (n : Nat) (kk : AV → Heap → Option R) (m0 : Nat) (lg47L3 : Nat → Int → List Nat → List Nat → Option R) 
    (hg47L3 : ∀ (s : St) (x0 : Nat) (x1 : Int) (x2 x3 : List Nat), keep g47an 3 s = ⟨[(1, (pT 1000 0)), (2, (pT 1001 0)), (3, (u64v x0)), (5, (i6 x1))], [(1000, (bU 5 x2 44)), (1001, (bU 5 x3 44))]⟩ → g47V A n (pth 75) m0 (blockK 0 (g47Q A n (pth 15) (g47T kk))) s = lg47L3 x0 x1 x2 x3) (s : St) (x0 : Nat) (x1 : Int) (x2 x3 : List Nat) (h : keep g47an 4 s = ⟨[(1, (pT 1000 0)), (2, (pT 1001 0)), (3, (u64v x0)), (5, (i6 x1))], [(1000, (bU 5 x2 44)), (1001, (bU 5 x3 44))]⟩) :
    g47D A n (pth 459) (g47W A n (pth 75) m0 (blockK 0 (g47Q A n (pth 15) (g47T kk)))) s = g47J4 A n kk lg47L3 x0 x1 x2 x3 := by
  have h11 := (g47Wn A n _ _ _ _).trans (hg47L3 ⟨[(5, (i6 (A.ib .add .i64 x1 1))), (23, (i6 (A.ib .add .i64 x1 1))), (1, (pT 1000 0)), (2, (pT 1001 0)), (3, (u64v (A.nsh .shr .u64 ((x2.set (A.toN x1) (A.nb .add .u64 (x2.getD (A.toN x1) 0) x0)).getD (A.toN x1) 0) 51))), (5, (i6 x1))], [(1000, (bU 5 ((x2.set (A.toN x1) (A.nb .add .u64 (x2.getD (A.toN x1) 0) x0)).set (A.toN x1) (A.nb .and .u64 ((x2.set (A.toN x1) (A.nb .add .u64 (x2.getD (A.toN x1) 0) x0)).getD (A.toN x1) 0) 2251799813685247)) 44)), (1001, (bU 5 x3 44))]⟩ (A.nsh .shr .u64 ((x2.set (A.toN x1) (A.nb .add .u64 (x2.getD (A.toN x1) 0) x0)).getD (A.toN x1) 0) 51) (A.ib .add .i64 x1 1) ((x2.set (A.toN x1) (A.nb .add .u64 (x2.getD (A.toN x1) 0) x0)).set (A.toN x1) (A.nb .and .u64 ((x2.set (A.toN x1) (A.nb .add .u64 (x2.getD (A.toN x1) 0) x0)).getD (A.toN x1) 0) 2251799813685247)) x3 (by kernel_rfl))
  have h9 := g47R8 A n (g47W A n (pth 75) m0 (blockK 0 (g47Q A n (pth 15) (g47T kk)))) (A.nsh .shr .u64 ((x2.set (A.toN x1) (A.nb .add .u64 (x2.getD (A.toN x1) 0) x0)).getD (A.toN x1) 0) 51) x1 ((x2.set (A.toN x1) (A.nb .add .u64 (x2.getD (A.toN x1) 0) x0)).set (A.toN x1) (A.nb .and .u64 ((x2.set (A.toN x1) (A.nb .add .u64 (x2.getD (A.toN x1) 0) x0)).getD (A.toN x1) 0) 2251799813685247)) x3
  have h12 := (g47p110100111 A n _ ⟨[(22, (.v (.cell (.ptr 1000 0 (some ⟨A.toN x1, 1, 5, 0, 0, 0⟩))))), (21, (u64v (A.nb .and .u64 ((x2.set (A.toN x1) (A.nb .add .u64 (x2.getD (A.toN x1) 0) x0)).getD (A.toN x1) 0) 2251799813685247))), (20, (u64v ((x2.set (A.toN x1) (A.nb .add .u64 (x2.getD (A.toN x1) 0) x0)).getD (A.toN x1) 0))), (19, (.v (.cell (.ptr 1000 0 (some ⟨A.toN x1, 1, 5, 0, 0, 0⟩))))), (18, (i6 x1)), (1, (pT 1000 0)), (2, (pT 1001 0)), (3, (u64v (A.nsh .shr .u64 ((x2.set (A.toN x1) (A.nb .add .u64 (x2.getD (A.toN x1) 0) x0)).getD (A.toN x1) 0) 51))), (4, (i6 x1)), (5, (i6 x1))], [(1000, (bU 5 ((x2.set (A.toN x1) (A.nb .add .u64 (x2.getD (A.toN x1) 0) x0)).set (A.toN x1) (A.nb .and .u64 ((x2.set (A.toN x1) (A.nb .add .u64 (x2.getD (A.toN x1) 0) x0)).getD (A.toN x1) 0) 2251799813685247)) 44)), (1001, (bU 5 x3 44))]⟩ _ (by kernel_rfl)).trans h9
  rw [h11] at h12
  have h13 := (g47Qn A n _ _ _).trans h12
  have h14 := (blockK_n 1 _ _).trans h13
  have h7 := g47R7 A n (blockK 1 (g47Q A n (pth 971) (g47W A n (pth 75) m0 (blockK 0 (g47Q A n (pth 15) (g47T kk)))))) (A.nsh .shr .u64 ((x2.set (A.toN x1) (A.nb .add .u64 (x2.getD (A.toN x1) 0) x0)).getD (A.toN x1) 0) 51) x1 x1 (x2.set (A.toN x1) (A.nb .add .u64 (x2.getD (A.toN x1) 0) x0)) x3
  have h15 := (g47p1101001100111 A n _ ⟨[(3, (u64v (A.nsh .shr .u64 ((x2.set (A.toN x1) (A.nb .add .u64 (x2.getD (A.toN x1) 0) x0)).getD (A.toN x1) 0) 51))), (17, (u64v (A.nsh .shr .u64 ((x2.set (A.toN x1) (A.nb .add .u64 (x2.getD (A.toN x1) 0) x0)).getD (A.toN x1) 0) 51))), (16, (u64v ((x2.set (A.toN x1) (A.nb .add .u64 (x2.getD (A.toN x1) 0) x0)).getD (A.toN x1) 0))), (15, (.v (.cell (.ptr 1000 0 (some ⟨A.toN x1, 1, 5, 0, 0, 0⟩))))), (14, (i6 x1)), (1, (pT 1000 0)), (2, (pT 1001 0)), (4, (i6 x1)), (5, (i6 x1))], [(1000, (bU 5 (x2.set (A.toN x1) (A.nb .add .u64 (x2.getD (A.toN x1) 0) x0)) 44)), (1001, (bU 5 x3 44))]⟩ _ (by kernel_rfl)).trans h7
  rw [h14] at h15
  have h16 := (g47Qn A n _ _ _).trans h15
  have h5 := g47R6 A n (g47Q A n (pth 15563) (blockK 1 (g47Q A n (pth 971) (g47W A n (pth 75) m0 (blockK 0 (g47Q A n (pth 15) (g47T kk))))))) x1 x1 (x2.set (A.toN x1) (A.nb .add .u64 (x2.getD (A.toN x1) 0) x0)) x3
  have h17 := (g47p1101001100110 A n _ ⟨[(13, (.v (.cell (.ptr 1000 0 (some ⟨A.toN x1, 1, 5, 0, 0, 0⟩))))), (12, (u64v (A.nb .add .u64 (x2.getD (A.toN x1) 0) x0))), (11, (u64v x0)), (10, (u64v (x2.getD (A.toN x1) 0))), (9, (.v (.cell (.ptr 1000 0 (some ⟨A.toN x1, 1, 5, 0, 0, 0⟩))))), (8, (i6 x1)), (1, (pT 1000 0)), (2, (pT 1001 0)), (3, (u64v x0)), (4, (i6 x1)), (5, (i6 x1))], [(1000, (bU 5 (x2.set (A.toN x1) (A.nb .add .u64 (x2.getD (A.toN x1) 0) x0)) 44)), (1001, (bU 5 x3 44))]⟩ _ (by kernel_rfl)).trans h5
  rw [h16] at h17
  have h18 := (g47p110100110011 A n _ _).trans h17
  have h19 := (g47Qn A n _ _ _).trans h18
  have h3 := g47R5 A n (g47Q A n (pth 7371) (blockK 1 (g47Q A n (pth 971) (g47W A n (pth 75) m0 (blockK 0 (g47Q A n (pth 15) (g47T kk))))))) x0 x1 x1 x2 x3
  have h20 := (g47p110100110010 A n _ ⟨[(4, (i6 x1)), (7, (i6 x1)), (1, (pT 1000 0)), (2, (pT 1001 0)), (3, (u64v x0)), (5, (i6 x1))], [(1000, (bU 5 x2 44)), (1001, (bU 5 x3 44))]⟩ _ (by kernel_rfl)).trans h3
  rw [h19] at h20
  have h21 := (g47p11010011001 A n _ _).trans h20
  have h22 := (g47Qn A n _ _ _).trans h21
  have h1 := g47R4 A n (g47Q A n (pth 3275) (blockK 1 (g47Q A n (pth 971) (g47W A n (pth 75) m0 (blockK 0 (g47Q A n (pth 15) (g47T kk))))))) x0 x1 x2 x3
  have h23 := (g47p11010011000 A n _ ⟨[(1, (pT 1000 0)), (2, (pT 1001 0)), (3, (u64v x0)), (5, (i6 x1))], [(1000, (bU 5 x2 44)), (1001, (bU 5 x3 44))]⟩ _ (by kernel_rfl)).trans h1
  rw [h22] at h23
  have h24 := (g47p1101001100 A n _ _).trans h23
  have h25 := (g47p110100110 A n _ _).trans h24
  have h26 := (g47p11010011 A n _ _).trans h25
  exact (codeD_first (s' := ⟨[(1, (pT 1000 0)), (2, (pT 1001 0)), (3, (u64v x0)), (5, (i6 x1))], [(1000, (bU 5 x2 44)), (1001, (bU 5 x3 44))]⟩) (id := 4) (by kernel_rfl) (h.trans (by kernel_rfl)) _).trans (h26.trans (by kernel_rfl))
def g47J9 {R : Type} (A : Ar) (n : Nat) (kk : AV → Heap → Option R)  (x0 : Nat) (x1 x2 : List Nat) : Option R :=
  kk (aN .u64 5 (x1.set 0 (A.nb .add .u64 (x1.getD 0 0) (A.nb .mul .u64 x0 19)))) [(1000, (bU 5 (x1.set 0 (A.nb .add .u64 (x1.getD 0 0) (A.nb .mul .u64 x0 19))) 44)), (1001, (bU 5 (x1.set 0 (A.nb .add .u64 (x1.getD 0 0) (A.nb .mul .u64 x0 19))) 44))]
set_option maxRecDepth 100000 in
theorem g47J9_eq {R : Type} (A : Ar) (n : Nat) (kk : AV → Heap → Option R)    (s : St) (x0 : Nat) (x1 x2 : List Nat) (h : keep g47an 9 s = ⟨[(1, (pT 1000 0)), (2, (pT 1001 0)), (3, (u64v x0))], [(1000, (bU 5 x1 44)), (1001, (bU 5 x2 44))]⟩) :
    g47D A n (pth 15) (g47T kk) s = g47J9 A n kk  x0 x1 x2 := by
  have h5 : (g47T kk) .ret ⟨[(30, (aN .u64 5 (x1.set 0 (A.nb .add .u64 (x1.getD 0 0) (A.nb .mul .u64 x0 19))))), (1, (pT 1000 0)), (2, (pT 1001 0))], [(1000, (bU 5 (x1.set 0 (A.nb .add .u64 (x1.getD 0 0) (A.nb .mul .u64 x0 19))) 44)), (1001, (bU 5 (x1.set 0 (A.nb .add .u64 (x1.getD 0 0) (A.nb .mul .u64 x0 19))) 44))]⟩ = kk (aN .u64 5 (x1.set 0 (A.nb .add .u64 (x1.getD 0 0) (A.nb .mul .u64 x0 19)))) [(1000, (bU 5 (x1.set 0 (A.nb .add .u64 (x1.getD 0 0) (A.nb .mul .u64 x0 19))) 44)), (1001, (bU 5 (x1.set 0 (A.nb .add .u64 (x1.getD 0 0) (A.nb .mul .u64 x0 19))) 44))] := by kernel_rfl
  have h6 := (g47p11111 A n _ _).trans h5
  have h7 := (g47Qn A n _ _ _).trans h6
  have h3 := g47R10 A n (g47Q A n (pth 63) (g47T kk)) (x1.set 0 (A.nb .add .u64 (x1.getD 0 0) (A.nb .mul .u64 x0 19))) x2
  have h8 := (g47p11110 A n _ ⟨[(29, (pT 1000 0)), (28, (u64v (A.nb .add .u64 (x1.getD 0 0) (A.nb .mul .u64 x0 19)))), (27, (u64v (A.nb .mul .u64 x0 19))), (26, (u64v x0)), (25, (u64v (x1.getD 0 0))), (24, (pT 1000 0)), (1, (pT 1000 0)), (2, (pT 1001 0)), (3, (u64v x0))], [(1000, (bU 5 (x1.set 0 (A.nb .add .u64 (x1.getD 0 0) (A.nb .mul .u64 x0 19))) 44)), (1001, (bU 5 x2 44))]⟩ _ (by kernel_rfl)).trans h3
  rw [h7] at h8
  have h9 := (g47p1111 A n _ _).trans h8
  have h10 := (g47Qn A n _ _ _).trans h9
  have h1 := g47R9 A n (g47Q A n (pth 31) (g47T kk)) x0 x1 x2
  have h11 := (g47p1110 A n _ ⟨[(1, (pT 1000 0)), (2, (pT 1001 0)), (3, (u64v x0))], [(1000, (bU 5 x1 44)), (1001, (bU 5 x2 44))]⟩ _ (by kernel_rfl)).trans h1
  rw [h10] at h11
  have h12 := (g47p111 A n _ _).trans h11
  exact (codeD_first (s' := ⟨[(1, (pT 1000 0)), (2, (pT 1001 0)), (3, (u64v x0))], [(1000, (bU 5 x1 44)), (1001, (bU 5 x2 44))]⟩) (id := 9) (by kernel_rfl) (h.trans (by kernel_rfl)) _).trans (h12.trans (by kernel_rfl))
def g47L3 {R : Type} (A : Ar) (n : Nat) (kk : AV → Heap → Option R)  : Nat → Nat → Int → List Nat → List Nat → Option R
  | 0, _, _, _, _ => none
  | m + 1, x0, x1, x2, x3 => match (generalizing := false) A.ic .lss x1 5 with
  | true => g47J4 A n kk (g47L3 A n kk  m) x0 x1 x2 x3
  | false => g47J9 A n kk  x0 x2 x3
set_option maxRecDepth 100000 in
theorem g47L3_eq {R : Type} (A : Ar) (n : Nat) (kk : AV → Heap → Option R)    (m : Nat) (s : St) (x0 : Nat) (x1 : Int) (x2 x3 : List Nat) (h : keep g47an 3 s = ⟨[(1, (pT 1000 0)), (2, (pT 1001 0)), (3, (u64v x0)), (5, (i6 x1))], [(1000, (bU 5 x2 44)), (1001, (bU 5 x3 44))]⟩) :
    g47V A n (pth 75) m (blockK 0 (g47Q A n (pth 15) (g47T kk))) s = g47L3 A n kk  m x0 x1 x2 x3 := by
  induction m generalizing s x0 x1 x2 x3 with
  | zero => rfl
  | succ m ih =>
    have h3 := (g47Qn A n _ _ _).trans (g47J4_eq A n kk m (g47L3 A n kk  m) ih  ⟨[(6, (bO (A.ic .lss x1 5))), (1, (pT 1000 0)), (2, (pT 1001 0)), (3, (u64v x0)), (5, (i6 x1))], [(1000, (bU 5 x2 44)), (1001, (bU 5 x3 44))]⟩ x0 x1 x2 x3 (by kernel_rfl))
    have h4 := (g47p110100100 A n _ _).trans h3
    have h5 := (g47Qn A n _ _ _).trans (g47J9_eq A n kk     ⟨[(6, (bO (A.ic .lss x1 5))), (1, (pT 1000 0)), (2, (pT 1001 0)), (3, (u64v x0)), (5, (i6 x1))], [(1000, (bU 5 x2 44)), (1001, (bU 5 x3 44))]⟩ x0 x2 x3 (by kernel_rfl))
    have h6 := (blockK_hit 0 _ _).trans h5
    have h7 := (g47We A n (pth 75) m _ _ _).trans h6
    have h8 := (g47Qe A n (pth 459) _ _ _).trans h7
    have h9 := (g47p110100101 A n _ _).trans h8
    have h10 := g47p11010010 A n (g47Q A n (pth 459) (g47W A n (pth 75) m (blockK 0 (g47Q A n (pth 15) (g47T kk))))) ⟨[(6, (bO (A.ic .lss x1 5))), (1, (pT 1000 0)), (2, (pT 1001 0)), (3, (u64v x0)), (5, (i6 x1))], [(1000, (bU 5 x2 44)), (1001, (bU 5 x3 44))]⟩ (A.ic .lss x1 5) (by kernel_rfl)
    rw [h4, h9] at h10
    have h11 := (g47p1101001 A n _ _).trans h10
    have h12 := (g47Qn A n _ _ _).trans h11
    have h1 := g47R3 A n (g47Q A n (pth 203) (g47W A n (pth 75) m (blockK 0 (g47Q A n (pth 15) (g47T kk))))) x0 x1 x2 x3
    have h13 := (g47p1101000 A n _ ⟨[(1, (pT 1000 0)), (2, (pT 1001 0)), (3, (u64v x0)), (5, (i6 x1))], [(1000, (bU 5 x2 44)), (1001, (bU 5 x3 44))]⟩ _ (by kernel_rfl)).trans h1
    rw [h12] at h13
    have h14 := (g47p110100 A n _ _).trans h13
    exact (loopD_first (s' := ⟨[(1, (pT 1000 0)), (2, (pT 1001 0)), (3, (u64v x0)), (5, (i6 x1))], [(1000, (bU 5 x2 44)), (1001, (bU 5 x3 44))]⟩) (id := 3) (by kernel_rfl) (h.trans (by kernel_rfl)) _).trans ((g47Vs A n _ m _ _).trans (h14.trans (by kernel_rfl)))
def g47 {R : Type} (A : Ar) (n : Nat) (kk : AV → Heap → Option R) (a : List Nat) : Option R :=
  g47L3 A n kk  n 0 0 a [0, 0, 0, 0, 0]
set_option maxRecDepth 100000 in
theorem g47_eq {R : Type} (A : Ar) (n : Nat) (kk : AV → Heap → Option R) (a : List Nat) :
    funD A gtys (g47O A) g47an n (bodyOf Try.f47) g47res [(aN .u64 5 a)] [] kk = g47 A n kk a := by
  have h7 := (g47p11010 A n _ _).trans (g47L3_eq A n kk    n ⟨[(5, (i6 0)), (1, (pT 1000 0)), (2, (pT 1001 0)), (3, (u64v 0))], [(1000, (bU 5 a 44)), (1001, (bU 5 [0, 0, 0, 0, 0] 44))]⟩ 0 0 a [0, 0, 0, 0, 0] (by kernel_rfl))
  have h8 := (g47p1101 A n _ _).trans h7
  have h9 := (g47Qn A n _ _ _).trans h8
  have h5 := g47R2 A n (g47Q A n (pth 27) (g47Q A n (pth 15) (g47T kk))) 0 a [0, 0, 0, 0, 0]
  have h10 := (g47p1100 A n _ ⟨[(3, (u64v 0)), (1, (pT 1000 0)), (2, (pT 1001 0))], [(1000, (bU 5 a 44)), (1001, (bU 5 [0, 0, 0, 0, 0] 44))]⟩ _ (by kernel_rfl)).trans h5
  rw [h9] at h10
  have h11 := (g47p110 A n _ _).trans h10
  have h12 := (g47p11 A n _ _).trans h11
  have h13 := (g47Qn A n _ _ _).trans h12
  have h3 := g47R1 A n (g47Q A n (pth 7) (g47T kk)) a [0, 0, 0, 0, 0]
  have h14 := (g47p10 A n _ ⟨[(2, (pT 1001 0)), (1, (pT 1000 0)), (0, (aN .u64 5 a))], [(1001, (bU 5 [0, 0, 0, 0, 0] 44)), (1000, (bU 5 a 44))]⟩ _ (by kernel_rfl)).trans h3
  rw [h13] at h14
  have h15 := (g47p1 A n _ _).trans h14
  have h16 := (g47Qn A n _ _ _).trans h15
  have h1 := g47R0 A n (g47Q A n (pth 3) (g47T kk)) a
  have h17 := (g47p0 A n _ ⟨[(0, (aN .u64 5 a))], []⟩ _ (by kernel_rfl)).trans h1
  rw [h16] at h17
  have h18 := (g47p A n _ _).trans h17
  exact (show funD A gtys (g47O A) g47an n (bodyOf Try.f47) g47res [(aN .u64 5 a)] [] kk = g47D A n (pth 1) (g47T kk) ⟨[(0, (aN .u64 5 a))], []⟩ from by kernel_rfl).trans (h18.trans (by kernel_rfl))
def g47is (o : Option AV) : Bool := match o with
  | some (aN .u64 5 _) => true
  | _ => false
def g47g0 (o : Option AV) : List Nat := match o with
  | some (aN .u64 5 x) => x
  | _ => []
theorem g47is_spec {o : Option AV} (h : g47is o = true) : o = some (aN .u64 5 (g47g0 o)) := by
  unfold g47is at h
  split at h
  · rfl
  · cases h
def g47v (A : Ar) (a : List Nat) : Option AV := g47 A (100000) (fun v _ => some v) a
def g47ok (A : Ar) (a : List Nat) : Bool := g47is (g47v A a)
def g47r0 (A : Ar) (a : List Nat) : List Nat := g47g0 (g47v A a)
theorem g47ok_spec {A : Ar} {a} (h : g47ok A a = true) : g47v A a = some (aN .u64 5 (g47r0 A a)) := g47is_spec h
def g47o (A : Ar) (args : List AV) : Option (Bool × AV) := match args with
  | [.v (.agg [.nums .u64 n0 a])] => some (Nat.beq n0 5 && (g47ok A a), .v (.agg [.nums .u64 5 (g47r0 A a)]))
  | _ => none
theorem g47o_sound : ∀ args v, g47o realA args = some (true, v) → Fn1 Try.prog 47 args v := by
  intro args v h
  unfold g47o at h
  split at h
  · rename_i n0 a
    simp only [Option.some.injEq, Prod.mk.injEq] at h
    obtain ⟨hc, h⟩ := h
    subst h
    · skip
      simp only [Bool.and_eq_true] at hc
      have en0 := beq_true hc.1
      subst en0
      replace hc := hc.2
      exact fn1_of mixed gtysOK g47O_sound g47O_det (an := g47an) (n := 100000) Try.func47 (c := bodyOf Try.f47) rfl (by kernel_rfl) Try.call47 (Nat.le_of_ble_eq_true rfl) (fun b => rfl) (fun _ => (g47_eq realA (100000) (fun v _ => some v) a).trans (show g47v realA a = _ from g47ok_spec hc))
  · cases h
/- engrosser/field.load -/
def g37O (A : Ar) : Orc := orcOf [(47, g47o A)]
theorem g37O_sound : OSound Try.prog (g37O realA) := orc_sound fun f g hm args v hv => by
  simp only [List.mem_cons, List.not_mem_nil, or_false, Prod.mk.injEq] at hm
  rcases hm with ⟨rfl, rfl⟩
  · exact g47o_sound _ _ hv
theorem g37O_det : ODet (g37O realA) := orc_det _
def g37an : Ann := [(0, ([0], [])), (1, ([1, 2], [1000, 1001])), (2, ([2, 3], [1001, 2031]))]
def g37res : List ResultVar := [.cell 2 44]
noncomputable def g37D {R : Type} (A : Ar) (n : Nat) (p : List Bool) (K : Ex → St → Option R) (s : St) : Option R := codeD A gtys (g37O A) g37an n (sub (bodyOf Try.f37) p) K s
noncomputable def g37Q {R : Type} (A : Ar) (n : Nat) (p : List Bool) (K : Ex → St → Option R) : Ex → St → Option R := seqC (g37D A n p K) K
noncomputable def g37T {R : Type} (kk : AV → Heap → Option R) : Ex → St → Option R := finD gtys g37res kk
theorem g37Qn {R : Type} (A : Ar) (n : Nat) (p : List Bool) (K : Ex → St → Option R) (s : St) : g37Q A n p K .normal s = g37D A n p K s := rfl
section
variable {R : Type} (A : Ar) (n : Nat) (K : Ex → St → Option R) (s : St)
theorem g37p : g37D A n (pth 1) K s = g37D A n (pth 2) (g37Q A n (pth 3) K) s := by kernel_rfl
theorem g37p0 (s' : St) (h : keep g37an 0 s = keep g37an 0 s') : g37D A n (pth 2) K s = g37D A n (pth 2) K s' := codeD_first (id := 0) (by kernel_rfl) h K
theorem g37p1 : g37D A n (pth 3) K s = g37D A n (pth 5) (g37Q A n (pth 7) K) s := by kernel_rfl
theorem g37p10 (s' : St) (h : keep g37an 1 s = keep g37an 1 s') : g37D A n (pth 5) K s = g37D A n (pth 5) K s' := codeD_first (id := 1) (by kernel_rfl) h K
theorem g37p11 : g37D A n (pth 7) K s = g37D A n (pth 11) (g37Q A n (pth 15) K) s := by kernel_rfl
theorem g37p110 (s' : St) (h : keep g37an 2 s = keep g37an 2 s') : g37D A n (pth 11) K s = g37D A n (pth 11) K s' := codeD_first (id := 2) (by kernel_rfl) h K
theorem g37p111 : g37D A n (pth 15) K s = K .ret s := by kernel_rfl
theorem g37R0 (x0 : List Nat) : g37D A n (pth 2) K ⟨[(0, (aN .u64 4 x0))], []⟩ = K .normal ⟨[(2, (pT 1001 0)), (1, (pT 1000 0)), (0, (aN .u64 4 x0))], [(1001, (bU 5 [0, 0, 0, 0, 0] 44)), (1000, (bU 4 x0 24))]⟩ := by kernel_rfl
theorem g37R1 (x0 x1 : List Nat) : g37D A n (pth 5) K ⟨[(1, (pT 1000 0)), (2, (pT 1001 0))], [(1000, (bU 4 x0 24)), (1001, (bU 5 x1 44))]⟩ = K .normal ⟨[(3, (pT 2031 0)), (34, (aN .u64 5 ((((([0, 0, 0, 0, 0].set 0 (A.nb .and .u64 (x0.getD 0 0) 2251799813685247)).set 1 (A.nb .and .u64 (A.nb .or .u64 (A.nsh .shr .u64 (x0.getD 0 0) 51) (A.nsh .shl .u64 (x0.getD 1 0) 13)) 2251799813685247)).set 2 (A.nb .and .u64 (A.nb .or .u64 (A.nsh .shr .u64 (x0.getD 1 0) 38) (A.nsh .shl .u64 (x0.getD 2 0) 26)) 2251799813685247)).set 3 (A.nb .and .u64 (A.nb .or .u64 (A.nsh .shr .u64 (x0.getD 2 0) 25) (A.nsh .shl .u64 (x0.getD 3 0) 39)) 2251799813685247)).set 4 (A.nsh .shr .u64 (x0.getD 3 0) 12)))), (33, (u64v (A.nsh .shr .u64 (x0.getD 3 0) 12))), (32, (u64v (x0.getD 3 0))), (31, (pT 1000 3)), (30, (u64v (A.nb .and .u64 (A.nb .or .u64 (A.nsh .shr .u64 (x0.getD 2 0) 25) (A.nsh .shl .u64 (x0.getD 3 0) 39)) 2251799813685247))), (29, (u64v (A.nb .or .u64 (A.nsh .shr .u64 (x0.getD 2 0) 25) (A.nsh .shl .u64 (x0.getD 3 0) 39)))), (28, (u64v (A.nsh .shl .u64 (x0.getD 3 0) 39))), (27, (u64v (x0.getD 3 0))), (26, (pT 1000 3)), (25, (u64v (A.nsh .shr .u64 (x0.getD 2 0) 25))), (24, (u64v (x0.getD 2 0))), (23, (pT 1000 2)), (22, (u64v (A.nb .and .u64 (A.nb .or .u64 (A.nsh .shr .u64 (x0.getD 1 0) 38) (A.nsh .shl .u64 (x0.getD 2 0) 26)) 2251799813685247))), (21, (u64v (A.nb .or .u64 (A.nsh .shr .u64 (x0.getD 1 0) 38) (A.nsh .shl .u64 (x0.getD 2 0) 26)))), (20, (u64v (A.nsh .shl .u64 (x0.getD 2 0) 26))), (19, (u64v (x0.getD 2 0))), (18, (pT 1000 2)), (17, (u64v (A.nsh .shr .u64 (x0.getD 1 0) 38))), (16, (u64v (x0.getD 1 0))), (15, (pT 1000 1)), (14, (u64v (A.nb .and .u64 (A.nb .or .u64 (A.nsh .shr .u64 (x0.getD 0 0) 51) (A.nsh .shl .u64 (x0.getD 1 0) 13)) 2251799813685247))), (13, (u64v (A.nb .or .u64 (A.nsh .shr .u64 (x0.getD 0 0) 51) (A.nsh .shl .u64 (x0.getD 1 0) 13)))), (12, (u64v (A.nsh .shl .u64 (x0.getD 1 0) 13))), (11, (u64v (x0.getD 1 0))), (10, (pT 1000 1)), (9, (u64v (A.nsh .shr .u64 (x0.getD 0 0) 51))), (8, (u64v (x0.getD 0 0))), (7, (pT 1000 0)), (6, (u64v (A.nb .and .u64 (x0.getD 0 0) 2251799813685247))), (5, (u64v (x0.getD 0 0))), (4, (pT 1000 0)), (1, (pT 1000 0)), (2, (pT 1001 0))], [(2031, (bU 5 ((((([0, 0, 0, 0, 0].set 0 (A.nb .and .u64 (x0.getD 0 0) 2251799813685247)).set 1 (A.nb .and .u64 (A.nb .or .u64 (A.nsh .shr .u64 (x0.getD 0 0) 51) (A.nsh .shl .u64 (x0.getD 1 0) 13)) 2251799813685247)).set 2 (A.nb .and .u64 (A.nb .or .u64 (A.nsh .shr .u64 (x0.getD 1 0) 38) (A.nsh .shl .u64 (x0.getD 2 0) 26)) 2251799813685247)).set 3 (A.nb .and .u64 (A.nb .or .u64 (A.nsh .shr .u64 (x0.getD 2 0) 25) (A.nsh .shl .u64 (x0.getD 3 0) 39)) 2251799813685247)).set 4 (A.nsh .shr .u64 (x0.getD 3 0) 12)) 44)), (1000, (bU 4 x0 24)), (1001, (bU 5 x1 44))]⟩ := by kernel_rfl
theorem g37R2 (x0 x1 : List Nat) : g37D A n (pth 11) K ⟨[(2, (pT 1001 0)), (3, (pT 2031 0))], [(1001, (bU 5 x0 44)), (2031, (bU 5 x1 44))]⟩ = match (generalizing := false) g47ok A x1 with
    | true => K .normal ⟨[(36, (aN .u64 5 (g47r0 A x1))), (35, (aN .u64 5 x1)), (2, (pT 1001 0)), (3, (pT 2031 0))], [(1001, (bU 5 (g47r0 A x1) 44)), (2031, (bU 5 x1 44))]⟩
    | false => none := by kernel_rfl
end
def g37 {R : Type} (A : Ar) (n : Nat) (kk : AV → Heap → Option R) (a : List Nat) : Option R :=
  match (generalizing := false) g47ok A ((((([0, 0, 0, 0, 0].set 0 (A.nb .and .u64 (a.getD 0 0) 2251799813685247)).set 1 (A.nb .and .u64 (A.nb .or .u64 (A.nsh .shr .u64 (a.getD 0 0) 51) (A.nsh .shl .u64 (a.getD 1 0) 13)) 2251799813685247)).set 2 (A.nb .and .u64 (A.nb .or .u64 (A.nsh .shr .u64 (a.getD 1 0) 38) (A.nsh .shl .u64 (a.getD 2 0) 26)) 2251799813685247)).set 3 (A.nb .and .u64 (A.nb .or .u64 (A.nsh .shr .u64 (a.getD 2 0) 25) (A.nsh .shl .u64 (a.getD 3 0) 39)) 2251799813685247)).set 4 (A.nsh .shr .u64 (a.getD 3 0) 12)) with
  | true => kk (aN .u64 5 (g47r0 A ((((([0, 0, 0, 0, 0].set 0 (A.nb .and .u64 (a.getD 0 0) 2251799813685247)).set 1 (A.nb .and .u64 (A.nb .or .u64 (A.nsh .shr .u64 (a.getD 0 0) 51) (A.nsh .shl .u64 (a.getD 1 0) 13)) 2251799813685247)).set 2 (A.nb .and .u64 (A.nb .or .u64 (A.nsh .shr .u64 (a.getD 1 0) 38) (A.nsh .shl .u64 (a.getD 2 0) 26)) 2251799813685247)).set 3 (A.nb .and .u64 (A.nb .or .u64 (A.nsh .shr .u64 (a.getD 2 0) 25) (A.nsh .shl .u64 (a.getD 3 0) 39)) 2251799813685247)).set 4 (A.nsh .shr .u64 (a.getD 3 0) 12)))) [(1001, (bU 5 (g47r0 A ((((([0, 0, 0, 0, 0].set 0 (A.nb .and .u64 (a.getD 0 0) 2251799813685247)).set 1 (A.nb .and .u64 (A.nb .or .u64 (A.nsh .shr .u64 (a.getD 0 0) 51) (A.nsh .shl .u64 (a.getD 1 0) 13)) 2251799813685247)).set 2 (A.nb .and .u64 (A.nb .or .u64 (A.nsh .shr .u64 (a.getD 1 0) 38) (A.nsh .shl .u64 (a.getD 2 0) 26)) 2251799813685247)).set 3 (A.nb .and .u64 (A.nb .or .u64 (A.nsh .shr .u64 (a.getD 2 0) 25) (A.nsh .shl .u64 (a.getD 3 0) 39)) 2251799813685247)).set 4 (A.nsh .shr .u64 (a.getD 3 0) 12))) 44)), (2031, (bU 5 ((((([0, 0, 0, 0, 0].set 0 (A.nb .and .u64 (a.getD 0 0) 2251799813685247)).set 1 (A.nb .and .u64 (A.nb .or .u64 (A.nsh .shr .u64 (a.getD 0 0) 51) (A.nsh .shl .u64 (a.getD 1 0) 13)) 2251799813685247)).set 2 (A.nb .and .u64 (A.nb .or .u64 (A.nsh .shr .u64 (a.getD 1 0) 38) (A.nsh .shl .u64 (a.getD 2 0) 26)) 2251799813685247)).set 3 (A.nb .and .u64 (A.nb .or .u64 (A.nsh .shr .u64 (a.getD 2 0) 25) (A.nsh .shl .u64 (a.getD 3 0) 39)) 2251799813685247)).set 4 (A.nsh .shr .u64 (a.getD 3 0) 12)) 44))]
  | false => none
set_option maxRecDepth 100000 in
theorem g37_eq {R : Type} (A : Ar) (n : Nat) (kk : AV → Heap → Option R) (a : List Nat) :
    funD A gtys (g37O A) g37an n (bodyOf Try.f37) g37res [(aN .u64 4 a)] [] kk = g37 A n kk a := by
  have h7 : (g37T kk) .ret ⟨[(36, (aN .u64 5 (g47r0 A ((((([0, 0, 0, 0, 0].set 0 (A.nb .and .u64 (a.getD 0 0) 2251799813685247)).set 1 (A.nb .and .u64 (A.nb .or .u64 (A.nsh .shr .u64 (a.getD 0 0) 51) (A.nsh .shl .u64 (a.getD 1 0) 13)) 2251799813685247)).set 2 (A.nb .and .u64 (A.nb .or .u64 (A.nsh .shr .u64 (a.getD 1 0) 38) (A.nsh .shl .u64 (a.getD 2 0) 26)) 2251799813685247)).set 3 (A.nb .and .u64 (A.nb .or .u64 (A.nsh .shr .u64 (a.getD 2 0) 25) (A.nsh .shl .u64 (a.getD 3 0) 39)) 2251799813685247)).set 4 (A.nsh .shr .u64 (a.getD 3 0) 12))))), (35, (aN .u64 5 ((((([0, 0, 0, 0, 0].set 0 (A.nb .and .u64 (a.getD 0 0) 2251799813685247)).set 1 (A.nb .and .u64 (A.nb .or .u64 (A.nsh .shr .u64 (a.getD 0 0) 51) (A.nsh .shl .u64 (a.getD 1 0) 13)) 2251799813685247)).set 2 (A.nb .and .u64 (A.nb .or .u64 (A.nsh .shr .u64 (a.getD 1 0) 38) (A.nsh .shl .u64 (a.getD 2 0) 26)) 2251799813685247)).set 3 (A.nb .and .u64 (A.nb .or .u64 (A.nsh .shr .u64 (a.getD 2 0) 25) (A.nsh .shl .u64 (a.getD 3 0) 39)) 2251799813685247)).set 4 (A.nsh .shr .u64 (a.getD 3 0) 12)))), (2, (pT 1001 0)), (3, (pT 2031 0))], [(1001, (bU 5 (g47r0 A ((((([0, 0, 0, 0, 0].set 0 (A.nb .and .u64 (a.getD 0 0) 2251799813685247)).set 1 (A.nb .and .u64 (A.nb .or .u64 (A.nsh .shr .u64 (a.getD 0 0) 51) (A.nsh .shl .u64 (a.getD 1 0) 13)) 2251799813685247)).set 2 (A.nb .and .u64 (A.nb .or .u64 (A.nsh .shr .u64 (a.getD 1 0) 38) (A.nsh .shl .u64 (a.getD 2 0) 26)) 2251799813685247)).set 3 (A.nb .and .u64 (A.nb .or .u64 (A.nsh .shr .u64 (a.getD 2 0) 25) (A.nsh .shl .u64 (a.getD 3 0) 39)) 2251799813685247)).set 4 (A.nsh .shr .u64 (a.getD 3 0) 12))) 44)), (2031, (bU 5 ((((([0, 0, 0, 0, 0].set 0 (A.nb .and .u64 (a.getD 0 0) 2251799813685247)).set 1 (A.nb .and .u64 (A.nb .or .u64 (A.nsh .shr .u64 (a.getD 0 0) 51) (A.nsh .shl .u64 (a.getD 1 0) 13)) 2251799813685247)).set 2 (A.nb .and .u64 (A.nb .or .u64 (A.nsh .shr .u64 (a.getD 1 0) 38) (A.nsh .shl .u64 (a.getD 2 0) 26)) 2251799813685247)).set 3 (A.nb .and .u64 (A.nb .or .u64 (A.nsh .shr .u64 (a.getD 2 0) 25) (A.nsh .shl .u64 (a.getD 3 0) 39)) 2251799813685247)).set 4 (A.nsh .shr .u64 (a.getD 3 0) 12)) 44))]⟩ = kk (aN .u64 5 (g47r0 A ((((([0, 0, 0, 0, 0].set 0 (A.nb .and .u64 (a.getD 0 0) 2251799813685247)).set 1 (A.nb .and .u64 (A.nb .or .u64 (A.nsh .shr .u64 (a.getD 0 0) 51) (A.nsh .shl .u64 (a.getD 1 0) 13)) 2251799813685247)).set 2 (A.nb .and .u64 (A.nb .or .u64 (A.nsh .shr .u64 (a.getD 1 0) 38) (A.nsh .shl .u64 (a.getD 2 0) 26)) 2251799813685247)).set 3 (A.nb .and .u64 (A.nb .or .u64 (A.nsh .shr .u64 (a.getD 2 0) 25) (A.nsh .shl .u64 (a.getD 3 0) 39)) 2251799813685247)).set 4 (A.nsh .shr .u64 (a.getD 3 0) 12)))) [(1001, (bU 5 (g47r0 A ((((([0, 0, 0, 0, 0].set 0 (A.nb .and .u64 (a.getD 0 0) 2251799813685247)).set 1 (A.nb .and .u64 (A.nb .or .u64 (A.nsh .shr .u64 (a.getD 0 0) 51) (A.nsh .shl .u64 (a.getD 1 0) 13)) 2251799813685247)).set 2 (A.nb .and .u64 (A.nb .or .u64 (A.nsh .shr .u64 (a.getD 1 0) 38) (A.nsh .shl .u64 (a.getD 2 0) 26)) 2251799813685247)).set 3 (A.nb .and .u64 (A.nb .or .u64 (A.nsh .shr .u64 (a.getD 2 0) 25) (A.nsh .shl .u64 (a.getD 3 0) 39)) 2251799813685247)).set 4 (A.nsh .shr .u64 (a.getD 3 0) 12))) 44)), (2031, (bU 5 ((((([0, 0, 0, 0, 0].set 0 (A.nb .and .u64 (a.getD 0 0) 2251799813685247)).set 1 (A.nb .and .u64 (A.nb .or .u64 (A.nsh .shr .u64 (a.getD 0 0) 51) (A.nsh .shl .u64 (a.getD 1 0) 13)) 2251799813685247)).set 2 (A.nb .and .u64 (A.nb .or .u64 (A.nsh .shr .u64 (a.getD 1 0) 38) (A.nsh .shl .u64 (a.getD 2 0) 26)) 2251799813685247)).set 3 (A.nb .and .u64 (A.nb .or .u64 (A.nsh .shr .u64 (a.getD 2 0) 25) (A.nsh .shl .u64 (a.getD 3 0) 39)) 2251799813685247)).set 4 (A.nsh .shr .u64 (a.getD 3 0) 12)) 44))] := by kernel_rfl
  have h8 := (g37p111 A n _ _).trans h7
  have h9 := (g37Qn A n _ _ _).trans h8
  have h5 := g37R2 A n (g37Q A n (pth 15) (g37T kk)) [0, 0, 0, 0, 0] ((((([0, 0, 0, 0, 0].set 0 (A.nb .and .u64 (a.getD 0 0) 2251799813685247)).set 1 (A.nb .and .u64 (A.nb .or .u64 (A.nsh .shr .u64 (a.getD 0 0) 51) (A.nsh .shl .u64 (a.getD 1 0) 13)) 2251799813685247)).set 2 (A.nb .and .u64 (A.nb .or .u64 (A.nsh .shr .u64 (a.getD 1 0) 38) (A.nsh .shl .u64 (a.getD 2 0) 26)) 2251799813685247)).set 3 (A.nb .and .u64 (A.nb .or .u64 (A.nsh .shr .u64 (a.getD 2 0) 25) (A.nsh .shl .u64 (a.getD 3 0) 39)) 2251799813685247)).set 4 (A.nsh .shr .u64 (a.getD 3 0) 12))
  have h10 := (g37p110 A n _ ⟨[(3, (pT 2031 0)), (34, (aN .u64 5 ((((([0, 0, 0, 0, 0].set 0 (A.nb .and .u64 (a.getD 0 0) 2251799813685247)).set 1 (A.nb .and .u64 (A.nb .or .u64 (A.nsh .shr .u64 (a.getD 0 0) 51) (A.nsh .shl .u64 (a.getD 1 0) 13)) 2251799813685247)).set 2 (A.nb .and .u64 (A.nb .or .u64 (A.nsh .shr .u64 (a.getD 1 0) 38) (A.nsh .shl .u64 (a.getD 2 0) 26)) 2251799813685247)).set 3 (A.nb .and .u64 (A.nb .or .u64 (A.nsh .shr .u64 (a.getD 2 0) 25) (A.nsh .shl .u64 (a.getD 3 0) 39)) 2251799813685247)).set 4 (A.nsh .shr .u64 (a.getD 3 0) 12)))), (33, (u64v (A.nsh .shr .u64 (a.getD 3 0) 12))), (32, (u64v (a.getD 3 0))), (31, (pT 1000 3)), (30, (u64v (A.nb .and .u64 (A.nb .or .u64 (A.nsh .shr .u64 (a.getD 2 0) 25) (A.nsh .shl .u64 (a.getD 3 0) 39)) 2251799813685247))), (29, (u64v (A.nb .or .u64 (A.nsh .shr .u64 (a.getD 2 0) 25) (A.nsh .shl .u64 (a.getD 3 0) 39)))), (28, (u64v (A.nsh .shl .u64 (a.getD 3 0) 39))), (27, (u64v (a.getD 3 0))), (26, (pT 1000 3)), (25, (u64v (A.nsh .shr .u64 (a.getD 2 0) 25))), (24, (u64v (a.getD 2 0))), (23, (pT 1000 2)), (22, (u64v (A.nb .and .u64 (A.nb .or .u64 (A.nsh .shr .u64 (a.getD 1 0) 38) (A.nsh .shl .u64 (a.getD 2 0) 26)) 2251799813685247))), (21, (u64v (A.nb .or .u64 (A.nsh .shr .u64 (a.getD 1 0) 38) (A.nsh .shl .u64 (a.getD 2 0) 26)))), (20, (u64v (A.nsh .shl .u64 (a.getD 2 0) 26))), (19, (u64v (a.getD 2 0))), (18, (pT 1000 2)), (17, (u64v (A.nsh .shr .u64 (a.getD 1 0) 38))), (16, (u64v (a.getD 1 0))), (15, (pT 1000 1)), (14, (u64v (A.nb .and .u64 (A.nb .or .u64 (A.nsh .shr .u64 (a.getD 0 0) 51) (A.nsh .shl .u64 (a.getD 1 0) 13)) 2251799813685247))), (13, (u64v (A.nb .or .u64 (A.nsh .shr .u64 (a.getD 0 0) 51) (A.nsh .shl .u64 (a.getD 1 0) 13)))), (12, (u64v (A.nsh .shl .u64 (a.getD 1 0) 13))), (11, (u64v (a.getD 1 0))), (10, (pT 1000 1)), (9, (u64v (A.nsh .shr .u64 (a.getD 0 0) 51))), (8, (u64v (a.getD 0 0))), (7, (pT 1000 0)), (6, (u64v (A.nb .and .u64 (a.getD 0 0) 2251799813685247))), (5, (u64v (a.getD 0 0))), (4, (pT 1000 0)), (1, (pT 1000 0)), (2, (pT 1001 0))], [(2031, (bU 5 ((((([0, 0, 0, 0, 0].set 0 (A.nb .and .u64 (a.getD 0 0) 2251799813685247)).set 1 (A.nb .and .u64 (A.nb .or .u64 (A.nsh .shr .u64 (a.getD 0 0) 51) (A.nsh .shl .u64 (a.getD 1 0) 13)) 2251799813685247)).set 2 (A.nb .and .u64 (A.nb .or .u64 (A.nsh .shr .u64 (a.getD 1 0) 38) (A.nsh .shl .u64 (a.getD 2 0) 26)) 2251799813685247)).set 3 (A.nb .and .u64 (A.nb .or .u64 (A.nsh .shr .u64 (a.getD 2 0) 25) (A.nsh .shl .u64 (a.getD 3 0) 39)) 2251799813685247)).set 4 (A.nsh .shr .u64 (a.getD 3 0) 12)) 44)), (1000, (bU 4 a 24)), (1001, (bU 5 [0, 0, 0, 0, 0] 44))]⟩ _ (by kernel_rfl)).trans h5
  rw [h9] at h10
  have h11 := (g37p11 A n _ _).trans h10
  have h12 := (g37Qn A n _ _ _).trans h11
  have h3 := g37R1 A n (g37Q A n (pth 7) (g37T kk)) a [0, 0, 0, 0, 0]
  have h13 := (g37p10 A n _ ⟨[(2, (pT 1001 0)), (1, (pT 1000 0)), (0, (aN .u64 4 a))], [(1001, (bU 5 [0, 0, 0, 0, 0] 44)), (1000, (bU 4 a 24))]⟩ _ (by kernel_rfl)).trans h3
  rw [h12] at h13
  have h14 := (g37p1 A n _ _).trans h13
  have h15 := (g37Qn A n _ _ _).trans h14
  have h1 := g37R0 A n (g37Q A n (pth 3) (g37T kk)) a
  have h16 := (g37p0 A n _ ⟨[(0, (aN .u64 4 a))], []⟩ _ (by kernel_rfl)).trans h1
  rw [h15] at h16
  have h17 := (g37p A n _ _).trans h16
  exact (show funD A gtys (g37O A) g37an n (bodyOf Try.f37) g37res [(aN .u64 4 a)] [] kk = g37D A n (pth 1) (g37T kk) ⟨[(0, (aN .u64 4 a))], []⟩ from by kernel_rfl).trans (h17.trans (by kernel_rfl))
def g37is (o : Option AV) : Bool := match o with
  | some (aN .u64 5 _) => true
  | _ => false
def g37g0 (o : Option AV) : List Nat := match o with
  | some (aN .u64 5 x) => x
  | _ => []
theorem g37is_spec {o : Option AV} (h : g37is o = true) : o = some (aN .u64 5 (g37g0 o)) := by
  unfold g37is at h
  split at h
  · rfl
  · cases h
def g37v (A : Ar) (a : List Nat) : Option AV := g37 A (100000) (fun v _ => some v) a
def g37ok (A : Ar) (a : List Nat) : Bool := g37is (g37v A a)
def g37r0 (A : Ar) (a : List Nat) : List Nat := g37g0 (g37v A a)
theorem g37ok_spec {A : Ar} {a} (h : g37ok A a = true) : g37v A a = some (aN .u64 5 (g37r0 A a)) := g37is_spec h
def g37o (A : Ar) (args : List AV) : Option (Bool × AV) := match args with
  | [.v (.agg [.nums .u64 n0 a])] => some (Nat.beq n0 4 && (g37ok A a), .v (.agg [.nums .u64 5 (g37r0 A a)]))
  | _ => none
theorem g37o_sound : ∀ args v, g37o realA args = some (true, v) → Fn1 Try.prog 37 args v := by
  intro args v h
  unfold g37o at h
  split at h
  · rename_i n0 a
    simp only [Option.some.injEq, Prod.mk.injEq] at h
    obtain ⟨hc, h⟩ := h
    subst h
    · skip
      simp only [Bool.and_eq_true] at hc
      have en0 := beq_true hc.1
      subst en0
      replace hc := hc.2
      exact fn1_of mixed gtysOK g37O_sound g37O_det (an := g37an) (n := 100000) Try.func37 (c := bodyOf Try.f37) rfl (by kernel_rfl) Try.call37 (Nat.le_of_ble_eq_true rfl) (fun b => rfl) (fun _ => (g37_eq realA (100000) (fun v _ => some v) a).trans (show g37v realA a = _ from g37ok_spec hc))
  · cases h
/- math/bits.Mul64 -/
def g52O (A : Ar) : Orc := orcOf []
theorem g52O_sound : OSound Try.prog (g52O realA) := orc_sound fun f g hm args v hv => by
  cases hm
theorem g52O_det : ODet (g52O realA) := orc_det _
def g52an : Ann := [(0, ([0, 1], [])), (1, ([0, 1], [])), (2, ([0, 1, 6], [])), (3, ([0, 1, 6, 7], [])), (4, ([0, 1, 6, 7, 8], [])), (5, ([0, 1, 6, 7, 8, 9], [])), (6, ([0, 1, 6, 7, 8, 9, 10], [])), (7, ([0, 1, 6, 7, 9, 11], [])), (8, ([0, 1, 6, 7, 9, 11, 12], [])), (9, ([0, 1, 6, 7, 9, 12, 13], [])), (10, ([0, 1, 7, 9, 12, 13], [])), (11, ([0, 1, 4], []))]
def g52res : List ResultVar := [.tmp 4, .tmp 5]
noncomputable def g52D {R : Type} (A : Ar) (n : Nat) (p : List Bool) (K : Ex → St → Option R) (s : St) : Option R := codeD A gtys (g52O A) g52an n (sub (bodyOf Try.f52) p) K s
noncomputable def g52Q {R : Type} (A : Ar) (n : Nat) (p : List Bool) (K : Ex → St → Option R) : Ex → St → Option R := seqC (g52D A n p K) K
noncomputable def g52T {R : Type} (kk : AV → Heap → Option R) : Ex → St → Option R := finD gtys g52res kk
theorem g52Qn {R : Type} (A : Ar) (n : Nat) (p : List Bool) (K : Ex → St → Option R) (s : St) : g52Q A n p K .normal s = g52D A n p K s := rfl
section
variable {R : Type} (A : Ar) (n : Nat) (K : Ex → St → Option R) (s : St)
theorem g52p : g52D A n (pth 1) K s = g52D A n (pth 2) (g52Q A n (pth 3) K) s := by kernel_rfl
theorem g52p0 (s' : St) (h : keep g52an 0 s = keep g52an 0 s') : g52D A n (pth 2) K s = g52D A n (pth 2) K s' := codeD_first (id := 0) (by kernel_rfl) h K
theorem g52p1 : g52D A n (pth 3) K s = g52D A n (pth 5) (g52Q A n (pth 7) K) s := by kernel_rfl
theorem g52p10 (s' : St) (h : keep g52an 1 s = keep g52an 1 s') : g52D A n (pth 5) K s = g52D A n (pth 5) K s' := codeD_first (id := 1) (by kernel_rfl) h K
theorem g52p11 : g52D A n (pth 7) K s = g52D A n (pth 11) (g52Q A n (pth 15) K) s := by kernel_rfl
theorem g52p110 (s' : St) (h : keep g52an 2 s = keep g52an 2 s') : g52D A n (pth 11) K s = g52D A n (pth 11) K s' := codeD_first (id := 2) (by kernel_rfl) h K
theorem g52p111 : g52D A n (pth 15) K s = g52D A n (pth 23) (g52Q A n (pth 31) K) s := by kernel_rfl
theorem g52p1110 (s' : St) (h : keep g52an 3 s = keep g52an 3 s') : g52D A n (pth 23) K s = g52D A n (pth 23) K s' := codeD_first (id := 3) (by kernel_rfl) h K
theorem g52p1111 : g52D A n (pth 31) K s = g52D A n (pth 47) (g52Q A n (pth 63) K) s := by kernel_rfl
theorem g52p11110 (s' : St) (h : keep g52an 4 s = keep g52an 4 s') : g52D A n (pth 47) K s = g52D A n (pth 47) K s' := codeD_first (id := 4) (by kernel_rfl) h K
theorem g52p11111 : g52D A n (pth 63) K s = g52D A n (pth 95) (g52Q A n (pth 127) K) s := by kernel_rfl
theorem g52p111110 (s' : St) (h : keep g52an 5 s = keep g52an 5 s') : g52D A n (pth 95) K s = g52D A n (pth 95) K s' := codeD_first (id := 5) (by kernel_rfl) h K
theorem g52p111111 : g52D A n (pth 127) K s = g52D A n (pth 191) (g52Q A n (pth 255) K) s := by kernel_rfl
theorem g52p1111110 (s' : St) (h : keep g52an 6 s = keep g52an 6 s') : g52D A n (pth 191) K s = g52D A n (pth 191) K s' := codeD_first (id := 6) (by kernel_rfl) h K
theorem g52p1111111 : g52D A n (pth 255) K s = g52D A n (pth 383) (g52Q A n (pth 511) K) s := by kernel_rfl
theorem g52p11111110 (s' : St) (h : keep g52an 7 s = keep g52an 7 s') : g52D A n (pth 383) K s = g52D A n (pth 383) K s' := codeD_first (id := 7) (by kernel_rfl) h K
theorem g52p11111111 : g52D A n (pth 511) K s = g52D A n (pth 767) (g52Q A n (pth 1023) K) s := by kernel_rfl
theorem g52p111111110 (s' : St) (h : keep g52an 8 s = keep g52an 8 s') : g52D A n (pth 767) K s = g52D A n (pth 767) K s' := codeD_first (id := 8) (by kernel_rfl) h K
theorem g52p111111111 : g52D A n (pth 1023) K s = g52D A n (pth 1535) (g52Q A n (pth 2047) K) s := by kernel_rfl
theorem g52p1111111110 (s' : St) (h : keep g52an 9 s = keep g52an 9 s') : g52D A n (pth 1535) K s = g52D A n (pth 1535) K s' := codeD_first (id := 9) (by kernel_rfl) h K
theorem g52p1111111111 : g52D A n (pth 2047) K s = g52D A n (pth 3071) (g52Q A n (pth 4095) K) s := by kernel_rfl
theorem g52p11111111110 (s' : St) (h : keep g52an 10 s = keep g52an 10 s') : g52D A n (pth 3071) K s = g52D A n (pth 3071) K s' := codeD_first (id := 10) (by kernel_rfl) h K
theorem g52p11111111111 : g52D A n (pth 4095) K s = g52D A n (pth 6143) (g52Q A n (pth 8191) K) s := by kernel_rfl
theorem g52p111111111110 (s' : St) (h : keep g52an 11 s = keep g52an 11 s') : g52D A n (pth 6143) K s = g52D A n (pth 6143) K s' := codeD_first (id := 11) (by kernel_rfl) h K
theorem g52p111111111111 : g52D A n (pth 8191) K s = K .ret s := by kernel_rfl
theorem g52R0 (x0 x1 : Nat) : g52D A n (pth 2) K ⟨[(0, (u64v x0)), (1, (u64v x1))], []⟩ = K .normal ⟨[(5, (u64v 0)), (4, (u64v 0)), (0, (u64v x0)), (1, (u64v x1))], []⟩ := by kernel_rfl
theorem g52R1 (x0 x1 : Nat) : g52D A n (pth 5) K ⟨[(0, (u64v x0)), (1, (u64v x1))], []⟩ = K .normal ⟨[(6, (u64v (A.nb .and .u64 x0 4294967295))), (15, (u64v (A.nb .and .u64 x0 4294967295))), (14, (u64v x0)), (0, (u64v x0)), (1, (u64v x1))], []⟩ := by kernel_rfl
theorem g52R2 (x0 x1 x2 : Nat) : g52D A n (pth 11) K ⟨[(0, (u64v x0)), (1, (u64v x1)), (6, (u64v x2))], []⟩ = K .normal ⟨[(7, (u64v (A.nsh .shr .u64 x0 32))), (17, (u64v (A.nsh .shr .u64 x0 32))), (16, (u64v x0)), (0, (u64v x0)), (1, (u64v x1)), (6, (u64v x2))], []⟩ := by kernel_rfl
theorem g52R3 (x0 x1 : Nat) (x2 x3 : Nat) : g52D A n (pth 23) K ⟨[(0, (u64v x0)), (1, (u64v x1)), (6, (u64v x2)), (7, (u64v x3))], []⟩ = K .normal ⟨[(8, (u64v (A.nb .and .u64 x1 4294967295))), (19, (u64v (A.nb .and .u64 x1 4294967295))), (18, (u64v x1)), (0, (u64v x0)), (1, (u64v x1)), (6, (u64v x2)), (7, (u64v x3))], []⟩ := by kernel_rfl
theorem g52R4 (x0 x1 : Nat) (x2 x3 x4 : Nat) : g52D A n (pth 47) K ⟨[(0, (u64v x0)), (1, (u64v x1)), (6, (u64v x2)), (7, (u64v x3)), (8, (u64v x4))], []⟩ = K .normal ⟨[(9, (u64v (A.nsh .shr .u64 x1 32))), (21, (u64v (A.nsh .shr .u64 x1 32))), (20, (u64v x1)), (0, (u64v x0)), (1, (u64v x1)), (6, (u64v x2)), (7, (u64v x3)), (8, (u64v x4))], []⟩ := by kernel_rfl
theorem g52R5 (x0 x1 : Nat) (x2 x3 : Nat) (x4 x5 : Nat) : g52D A n (pth 95) K ⟨[(0, (u64v x0)), (1, (u64v x1)), (6, (u64v x2)), (7, (u64v x3)), (8, (u64v x4)), (9, (u64v x5))], []⟩ = K .normal ⟨[(10, (u64v (A.nb .mul .u64 x2 x4))), (24, (u64v (A.nb .mul .u64 x2 x4))), (23, (u64v x4)), (22, (u64v x2)), (0, (u64v x0)), (1, (u64v x1)), (6, (u64v x2)), (7, (u64v x3)), (8, (u64v x4)), (9, (u64v x5))], []⟩ := by kernel_rfl
theorem g52R6 (x0 x1 : Nat) (x2 x3 : Nat) (x4 x5 x6 : Nat) : g52D A n (pth 191) K ⟨[(0, (u64v x0)), (1, (u64v x1)), (6, (u64v x2)), (7, (u64v x3)), (8, (u64v x4)), (9, (u64v x5)), (10, (u64v x6))], []⟩ = K .normal ⟨[(11, (u64v (A.nb .add .u64 (A.nb .mul .u64 x3 x4) (A.nsh .shr .u64 x6 32)))), (30, (u64v (A.nb .add .u64 (A.nb .mul .u64 x3 x4) (A.nsh .shr .u64 x6 32)))), (29, (u64v (A.nsh .shr .u64 x6 32))), (28, (u64v x6)), (27, (u64v (A.nb .mul .u64 x3 x4))), (26, (u64v x4)), (25, (u64v x3)), (0, (u64v x0)), (1, (u64v x1)), (6, (u64v x2)), (7, (u64v x3)), (8, (u64v x4)), (9, (u64v x5)), (10, (u64v x6))], []⟩ := by kernel_rfl
theorem g52R7 (x0 x1 : Nat) (x2 x3 : Nat) (x4 x5 : Nat) : g52D A n (pth 383) K ⟨[(0, (u64v x0)), (1, (u64v x1)), (6, (u64v x2)), (7, (u64v x3)), (9, (u64v x4)), (11, (u64v x5))], []⟩ = K .normal ⟨[(12, (u64v (A.nb .and .u64 x5 4294967295))), (32, (u64v (A.nb .and .u64 x5 4294967295))), (31, (u64v x5)), (0, (u64v x0)), (1, (u64v x1)), (6, (u64v x2)), (7, (u64v x3)), (9, (u64v x4)), (11, (u64v x5))], []⟩ := by kernel_rfl
theorem g52R8 (x0 x1 : Nat) (x2 x3 : Nat) (x4 x5 x6 : Nat) : g52D A n (pth 767) K ⟨[(0, (u64v x0)), (1, (u64v x1)), (6, (u64v x2)), (7, (u64v x3)), (9, (u64v x4)), (11, (u64v x5)), (12, (u64v x6))], []⟩ = K .normal ⟨[(13, (u64v (A.nsh .shr .u64 x5 32))), (34, (u64v (A.nsh .shr .u64 x5 32))), (33, (u64v x5)), (0, (u64v x0)), (1, (u64v x1)), (6, (u64v x2)), (7, (u64v x3)), (9, (u64v x4)), (11, (u64v x5)), (12, (u64v x6))], []⟩ := by kernel_rfl
theorem g52R9 (x0 x1 : Nat) (x2 x3 : Nat) (x4 x5 x6 : Nat) : g52D A n (pth 1535) K ⟨[(0, (u64v x0)), (1, (u64v x1)), (6, (u64v x2)), (7, (u64v x3)), (9, (u64v x4)), (12, (u64v x5)), (13, (u64v x6))], []⟩ = K .normal ⟨[(12, (u64v (A.nb .add .u64 x5 (A.nb .mul .u64 x2 x4)))), (39, (u64v (A.nb .add .u64 x5 (A.nb .mul .u64 x2 x4)))), (38, (u64v (A.nb .mul .u64 x2 x4))), (37, (u64v x4)), (36, (u64v x2)), (35, (u64v x5)), (0, (u64v x0)), (1, (u64v x1)), (6, (u64v x2)), (7, (u64v x3)), (9, (u64v x4)), (12, (u64v x5)), (13, (u64v x6))], []⟩ := by kernel_rfl
theorem g52R10 (x0 x1 : Nat) (x2 x3 : Nat) (x4 x5 : Nat) : g52D A n (pth 3071) K ⟨[(0, (u64v x0)), (1, (u64v x1)), (7, (u64v x2)), (9, (u64v x3)), (12, (u64v x4)), (13, (u64v x5))], []⟩ = K .normal ⟨[(4, (u64v (A.nb .add .u64 (A.nb .add .u64 (A.nb .mul .u64 x2 x3) x5) (A.nsh .shr .u64 x4 32)))), (47, (u64v (A.nb .add .u64 (A.nb .add .u64 (A.nb .mul .u64 x2 x3) x5) (A.nsh .shr .u64 x4 32)))), (46, (u64v (A.nsh .shr .u64 x4 32))), (45, (u64v x4)), (44, (u64v (A.nb .add .u64 (A.nb .mul .u64 x2 x3) x5))), (43, (u64v x5)), (42, (u64v (A.nb .mul .u64 x2 x3))), (41, (u64v x3)), (40, (u64v x2)), (0, (u64v x0)), (1, (u64v x1)), (7, (u64v x2)), (9, (u64v x3)), (12, (u64v x4)), (13, (u64v x5))], []⟩ := by kernel_rfl
theorem g52R11 (x0 x1 x2 : Nat) : g52D A n (pth 6143) K ⟨[(0, (u64v x0)), (1, (u64v x1)), (4, (u64v x2))], []⟩ = K .normal ⟨[(5, (u64v (A.nb .mul .u64 x0 x1))), (50, (u64v (A.nb .mul .u64 x0 x1))), (49, (u64v x1)), (48, (u64v x0)), (0, (u64v x0)), (1, (u64v x1)), (4, (u64v x2))], []⟩ := by kernel_rfl
end
def g52 {R : Type} (A : Ar) (n : Nat) (kk : AV → Heap → Option R) (a b : Nat) : Option R :=
  kk (.tup [(.cell (.nat .u64 (A.nb .add .u64 (A.nb .add .u64 (A.nb .mul .u64 (A.nsh .shr .u64 a 32) (A.nsh .shr .u64 b 32)) (A.nsh .shr .u64 (A.nb .add .u64 (A.nb .mul .u64 (A.nsh .shr .u64 a 32) (A.nb .and .u64 b 4294967295)) (A.nsh .shr .u64 (A.nb .mul .u64 (A.nb .and .u64 a 4294967295) (A.nb .and .u64 b 4294967295)) 32)) 32)) (A.nsh .shr .u64 (A.nb .add .u64 (A.nb .and .u64 (A.nb .add .u64 (A.nb .mul .u64 (A.nsh .shr .u64 a 32) (A.nb .and .u64 b 4294967295)) (A.nsh .shr .u64 (A.nb .mul .u64 (A.nb .and .u64 a 4294967295) (A.nb .and .u64 b 4294967295)) 32)) 4294967295) (A.nb .mul .u64 (A.nb .and .u64 a 4294967295) (A.nsh .shr .u64 b 32))) 32)))), (.cell (.nat .u64 (A.nb .mul .u64 a b)))]) []
set_option maxRecDepth 100000 in
theorem g52_eq {R : Type} (A : Ar) (n : Nat) (kk : AV → Heap → Option R) (a b : Nat) :
    funD A gtys (g52O A) g52an n (bodyOf Try.f52) g52res [(u64v a), (u64v b)] [] kk = g52 A n kk a b := by
  have h25 : (g52T kk) .ret ⟨[(5, (u64v (A.nb .mul .u64 a b))), (50, (u64v (A.nb .mul .u64 a b))), (49, (u64v b)), (48, (u64v a)), (0, (u64v a)), (1, (u64v b)), (4, (u64v (A.nb .add .u64 (A.nb .add .u64 (A.nb .mul .u64 (A.nsh .shr .u64 a 32) (A.nsh .shr .u64 b 32)) (A.nsh .shr .u64 (A.nb .add .u64 (A.nb .mul .u64 (A.nsh .shr .u64 a 32) (A.nb .and .u64 b 4294967295)) (A.nsh .shr .u64 (A.nb .mul .u64 (A.nb .and .u64 a 4294967295) (A.nb .and .u64 b 4294967295)) 32)) 32)) (A.nsh .shr .u64 (A.nb .add .u64 (A.nb .and .u64 (A.nb .add .u64 (A.nb .mul .u64 (A.nsh .shr .u64 a 32) (A.nb .and .u64 b 4294967295)) (A.nsh .shr .u64 (A.nb .mul .u64 (A.nb .and .u64 a 4294967295) (A.nb .and .u64 b 4294967295)) 32)) 4294967295) (A.nb .mul .u64 (A.nb .and .u64 a 4294967295) (A.nsh .shr .u64 b 32))) 32))))], []⟩ = kk (.tup [(.cell (.nat .u64 (A.nb .add .u64 (A.nb .add .u64 (A.nb .mul .u64 (A.nsh .shr .u64 a 32) (A.nsh .shr .u64 b 32)) (A.nsh .shr .u64 (A.nb .add .u64 (A.nb .mul .u64 (A.nsh .shr .u64 a 32) (A.nb .and .u64 b 4294967295)) (A.nsh .shr .u64 (A.nb .mul .u64 (A.nb .and .u64 a 4294967295) (A.nb .and .u64 b 4294967295)) 32)) 32)) (A.nsh .shr .u64 (A.nb .add .u64 (A.nb .and .u64 (A.nb .add .u64 (A.nb .mul .u64 (A.nsh .shr .u64 a 32) (A.nb .and .u64 b 4294967295)) (A.nsh .shr .u64 (A.nb .mul .u64 (A.nb .and .u64 a 4294967295) (A.nb .and .u64 b 4294967295)) 32)) 4294967295) (A.nb .mul .u64 (A.nb .and .u64 a 4294967295) (A.nsh .shr .u64 b 32))) 32)))), (.cell (.nat .u64 (A.nb .mul .u64 a b)))]) [] := by kernel_rfl
  have h26 := (g52p111111111111 A n _ _).trans h25
  have h27 := (g52Qn A n _ _ _).trans h26
  have h23 := g52R11 A n (g52Q A n (pth 8191) (g52T kk)) a b (A.nb .add .u64 (A.nb .add .u64 (A.nb .mul .u64 (A.nsh .shr .u64 a 32) (A.nsh .shr .u64 b 32)) (A.nsh .shr .u64 (A.nb .add .u64 (A.nb .mul .u64 (A.nsh .shr .u64 a 32) (A.nb .and .u64 b 4294967295)) (A.nsh .shr .u64 (A.nb .mul .u64 (A.nb .and .u64 a 4294967295) (A.nb .and .u64 b 4294967295)) 32)) 32)) (A.nsh .shr .u64 (A.nb .add .u64 (A.nb .and .u64 (A.nb .add .u64 (A.nb .mul .u64 (A.nsh .shr .u64 a 32) (A.nb .and .u64 b 4294967295)) (A.nsh .shr .u64 (A.nb .mul .u64 (A.nb .and .u64 a 4294967295) (A.nb .and .u64 b 4294967295)) 32)) 4294967295) (A.nb .mul .u64 (A.nb .and .u64 a 4294967295) (A.nsh .shr .u64 b 32))) 32))
  have h28 := (g52p111111111110 A n _ ⟨[(4, (u64v (A.nb .add .u64 (A.nb .add .u64 (A.nb .mul .u64 (A.nsh .shr .u64 a 32) (A.nsh .shr .u64 b 32)) (A.nsh .shr .u64 (A.nb .add .u64 (A.nb .mul .u64 (A.nsh .shr .u64 a 32) (A.nb .and .u64 b 4294967295)) (A.nsh .shr .u64 (A.nb .mul .u64 (A.nb .and .u64 a 4294967295) (A.nb .and .u64 b 4294967295)) 32)) 32)) (A.nsh .shr .u64 (A.nb .add .u64 (A.nb .and .u64 (A.nb .add .u64 (A.nb .mul .u64 (A.nsh .shr .u64 a 32) (A.nb .and .u64 b 4294967295)) (A.nsh .shr .u64 (A.nb .mul .u64 (A.nb .and .u64 a 4294967295) (A.nb .and .u64 b 4294967295)) 32)) 4294967295) (A.nb .mul .u64 (A.nb .and .u64 a 4294967295) (A.nsh .shr .u64 b 32))) 32)))), (47, (u64v (A.nb .add .u64 (A.nb .add .u64 (A.nb .mul .u64 (A.nsh .shr .u64 a 32) (A.nsh .shr .u64 b 32)) (A.nsh .shr .u64 (A.nb .add .u64 (A.nb .mul .u64 (A.nsh .shr .u64 a 32) (A.nb .and .u64 b 4294967295)) (A.nsh .shr .u64 (A.nb .mul .u64 (A.nb .and .u64 a 4294967295) (A.nb .and .u64 b 4294967295)) 32)) 32)) (A.nsh .shr .u64 (A.nb .add .u64 (A.nb .and .u64 (A.nb .add .u64 (A.nb .mul .u64 (A.nsh .shr .u64 a 32) (A.nb .and .u64 b 4294967295)) (A.nsh .shr .u64 (A.nb .mul .u64 (A.nb .and .u64 a 4294967295) (A.nb .and .u64 b 4294967295)) 32)) 4294967295) (A.nb .mul .u64 (A.nb .and .u64 a 4294967295) (A.nsh .shr .u64 b 32))) 32)))), (46, (u64v (A.nsh .shr .u64 (A.nb .add .u64 (A.nb .and .u64 (A.nb .add .u64 (A.nb .mul .u64 (A.nsh .shr .u64 a 32) (A.nb .and .u64 b 4294967295)) (A.nsh .shr .u64 (A.nb .mul .u64 (A.nb .and .u64 a 4294967295) (A.nb .and .u64 b 4294967295)) 32)) 4294967295) (A.nb .mul .u64 (A.nb .and .u64 a 4294967295) (A.nsh .shr .u64 b 32))) 32))), (45, (u64v (A.nb .add .u64 (A.nb .and .u64 (A.nb .add .u64 (A.nb .mul .u64 (A.nsh .shr .u64 a 32) (A.nb .and .u64 b 4294967295)) (A.nsh .shr .u64 (A.nb .mul .u64 (A.nb .and .u64 a 4294967295) (A.nb .and .u64 b 4294967295)) 32)) 4294967295) (A.nb .mul .u64 (A.nb .and .u64 a 4294967295) (A.nsh .shr .u64 b 32))))), (44, (u64v (A.nb .add .u64 (A.nb .mul .u64 (A.nsh .shr .u64 a 32) (A.nsh .shr .u64 b 32)) (A.nsh .shr .u64 (A.nb .add .u64 (A.nb .mul .u64 (A.nsh .shr .u64 a 32) (A.nb .and .u64 b 4294967295)) (A.nsh .shr .u64 (A.nb .mul .u64 (A.nb .and .u64 a 4294967295) (A.nb .and .u64 b 4294967295)) 32)) 32)))), (43, (u64v (A.nsh .shr .u64 (A.nb .add .u64 (A.nb .mul .u64 (A.nsh .shr .u64 a 32) (A.nb .and .u64 b 4294967295)) (A.nsh .shr .u64 (A.nb .mul .u64 (A.nb .and .u64 a 4294967295) (A.nb .and .u64 b 4294967295)) 32)) 32))), (42, (u64v (A.nb .mul .u64 (A.nsh .shr .u64 a 32) (A.nsh .shr .u64 b 32)))), (41, (u64v (A.nsh .shr .u64 b 32))), (40, (u64v (A.nsh .shr .u64 a 32))), (0, (u64v a)), (1, (u64v b)), (7, (u64v (A.nsh .shr .u64 a 32))), (9, (u64v (A.nsh .shr .u64 b 32))), (12, (u64v (A.nb .add .u64 (A.nb .and .u64 (A.nb .add .u64 (A.nb .mul .u64 (A.nsh .shr .u64 a 32) (A.nb .and .u64 b 4294967295)) (A.nsh .shr .u64 (A.nb .mul .u64 (A.nb .and .u64 a 4294967295) (A.nb .and .u64 b 4294967295)) 32)) 4294967295) (A.nb .mul .u64 (A.nb .and .u64 a 4294967295) (A.nsh .shr .u64 b 32))))), (13, (u64v (A.nsh .shr .u64 (A.nb .add .u64 (A.nb .mul .u64 (A.nsh .shr .u64 a 32) (A.nb .and .u64 b 4294967295)) (A.nsh .shr .u64 (A.nb .mul .u64 (A.nb .and .u64 a 4294967295) (A.nb .and .u64 b 4294967295)) 32)) 32)))], []⟩ _ (by kernel_rfl)).trans h23
  rw [h27] at h28
  have h29 := (g52p11111111111 A n _ _).trans h28
  have h30 := (g52Qn A n _ _ _).trans h29
  have h21 := g52R10 A n (g52Q A n (pth 4095) (g52T kk)) a b (A.nsh .shr .u64 a 32) (A.nsh .shr .u64 b 32) (A.nb .add .u64 (A.nb .and .u64 (A.nb .add .u64 (A.nb .mul .u64 (A.nsh .shr .u64 a 32) (A.nb .and .u64 b 4294967295)) (A.nsh .shr .u64 (A.nb .mul .u64 (A.nb .and .u64 a 4294967295) (A.nb .and .u64 b 4294967295)) 32)) 4294967295) (A.nb .mul .u64 (A.nb .and .u64 a 4294967295) (A.nsh .shr .u64 b 32))) (A.nsh .shr .u64 (A.nb .add .u64 (A.nb .mul .u64 (A.nsh .shr .u64 a 32) (A.nb .and .u64 b 4294967295)) (A.nsh .shr .u64 (A.nb .mul .u64 (A.nb .and .u64 a 4294967295) (A.nb .and .u64 b 4294967295)) 32)) 32)
  have h31 := (g52p11111111110 A n _ ⟨[(12, (u64v (A.nb .add .u64 (A.nb .and .u64 (A.nb .add .u64 (A.nb .mul .u64 (A.nsh .shr .u64 a 32) (A.nb .and .u64 b 4294967295)) (A.nsh .shr .u64 (A.nb .mul .u64 (A.nb .and .u64 a 4294967295) (A.nb .and .u64 b 4294967295)) 32)) 4294967295) (A.nb .mul .u64 (A.nb .and .u64 a 4294967295) (A.nsh .shr .u64 b 32))))), (39, (u64v (A.nb .add .u64 (A.nb .and .u64 (A.nb .add .u64 (A.nb .mul .u64 (A.nsh .shr .u64 a 32) (A.nb .and .u64 b 4294967295)) (A.nsh .shr .u64 (A.nb .mul .u64 (A.nb .and .u64 a 4294967295) (A.nb .and .u64 b 4294967295)) 32)) 4294967295) (A.nb .mul .u64 (A.nb .and .u64 a 4294967295) (A.nsh .shr .u64 b 32))))), (38, (u64v (A.nb .mul .u64 (A.nb .and .u64 a 4294967295) (A.nsh .shr .u64 b 32)))), (37, (u64v (A.nsh .shr .u64 b 32))), (36, (u64v (A.nb .and .u64 a 4294967295))), (35, (u64v (A.nb .and .u64 (A.nb .add .u64 (A.nb .mul .u64 (A.nsh .shr .u64 a 32) (A.nb .and .u64 b 4294967295)) (A.nsh .shr .u64 (A.nb .mul .u64 (A.nb .and .u64 a 4294967295) (A.nb .and .u64 b 4294967295)) 32)) 4294967295))), (0, (u64v a)), (1, (u64v b)), (6, (u64v (A.nb .and .u64 a 4294967295))), (7, (u64v (A.nsh .shr .u64 a 32))), (9, (u64v (A.nsh .shr .u64 b 32))), (12, (u64v (A.nb .and .u64 (A.nb .add .u64 (A.nb .mul .u64 (A.nsh .shr .u64 a 32) (A.nb .and .u64 b 4294967295)) (A.nsh .shr .u64 (A.nb .mul .u64 (A.nb .and .u64 a 4294967295) (A.nb .and .u64 b 4294967295)) 32)) 4294967295))), (13, (u64v (A.nsh .shr .u64 (A.nb .add .u64 (A.nb .mul .u64 (A.nsh .shr .u64 a 32) (A.nb .and .u64 b 4294967295)) (A.nsh .shr .u64 (A.nb .mul .u64 (A.nb .and .u64 a 4294967295) (A.nb .and .u64 b 4294967295)) 32)) 32)))], []⟩ _ (by kernel_rfl)).trans h21
  rw [h30] at h31
  have h32 := (g52p1111111111 A n _ _).trans h31
  have h33 := (g52Qn A n _ _ _).trans h32
  have h19 := g52R9 A n (g52Q A n (pth 2047) (g52T kk)) a b (A.nb .and .u64 a 4294967295) (A.nsh .shr .u64 a 32) (A.nsh .shr .u64 b 32) (A.nb .and .u64 (A.nb .add .u64 (A.nb .mul .u64 (A.nsh .shr .u64 a 32) (A.nb .and .u64 b 4294967295)) (A.nsh .shr .u64 (A.nb .mul .u64 (A.nb .and .u64 a 4294967295) (A.nb .and .u64 b 4294967295)) 32)) 4294967295) (A.nsh .shr .u64 (A.nb .add .u64 (A.nb .mul .u64 (A.nsh .shr .u64 a 32) (A.nb .and .u64 b 4294967295)) (A.nsh .shr .u64 (A.nb .mul .u64 (A.nb .and .u64 a 4294967295) (A.nb .and .u64 b 4294967295)) 32)) 32)
  have h34 := (g52p1111111110 A n _ ⟨[(13, (u64v (A.nsh .shr .u64 (A.nb .add .u64 (A.nb .mul .u64 (A.nsh .shr .u64 a 32) (A.nb .and .u64 b 4294967295)) (A.nsh .shr .u64 (A.nb .mul .u64 (A.nb .and .u64 a 4294967295) (A.nb .and .u64 b 4294967295)) 32)) 32))), (34, (u64v (A.nsh .shr .u64 (A.nb .add .u64 (A.nb .mul .u64 (A.nsh .shr .u64 a 32) (A.nb .and .u64 b 4294967295)) (A.nsh .shr .u64 (A.nb .mul .u64 (A.nb .and .u64 a 4294967295) (A.nb .and .u64 b 4294967295)) 32)) 32))), (33, (u64v (A.nb .add .u64 (A.nb .mul .u64 (A.nsh .shr .u64 a 32) (A.nb .and .u64 b 4294967295)) (A.nsh .shr .u64 (A.nb .mul .u64 (A.nb .and .u64 a 4294967295) (A.nb .and .u64 b 4294967295)) 32)))), (0, (u64v a)), (1, (u64v b)), (6, (u64v (A.nb .and .u64 a 4294967295))), (7, (u64v (A.nsh .shr .u64 a 32))), (9, (u64v (A.nsh .shr .u64 b 32))), (11, (u64v (A.nb .add .u64 (A.nb .mul .u64 (A.nsh .shr .u64 a 32) (A.nb .and .u64 b 4294967295)) (A.nsh .shr .u64 (A.nb .mul .u64 (A.nb .and .u64 a 4294967295) (A.nb .and .u64 b 4294967295)) 32)))), (12, (u64v (A.nb .and .u64 (A.nb .add .u64 (A.nb .mul .u64 (A.nsh .shr .u64 a 32) (A.nb .and .u64 b 4294967295)) (A.nsh .shr .u64 (A.nb .mul .u64 (A.nb .and .u64 a 4294967295) (A.nb .and .u64 b 4294967295)) 32)) 4294967295)))], []⟩ _ (by kernel_rfl)).trans h19
  rw [h33] at h34
  have h35 := (g52p111111111 A n _ _).trans h34
  have h36 := (g52Qn A n _ _ _).trans h35
  have h17 := g52R8 A n (g52Q A n (pth 1023) (g52T kk)) a b (A.nb .and .u64 a 4294967295) (A.nsh .shr .u64 a 32) (A.nsh .shr .u64 b 32) (A.nb .add .u64 (A.nb .mul .u64 (A.nsh .shr .u64 a 32) (A.nb .and .u64 b 4294967295)) (A.nsh .shr .u64 (A.nb .mul .u64 (A.nb .and .u64 a 4294967295) (A.nb .and .u64 b 4294967295)) 32)) (A.nb .and .u64 (A.nb .add .u64 (A.nb .mul .u64 (A.nsh .shr .u64 a 32) (A.nb .and .u64 b 4294967295)) (A.nsh .shr .u64 (A.nb .mul .u64 (A.nb .and .u64 a 4294967295) (A.nb .and .u64 b 4294967295)) 32)) 4294967295)
  have h37 := (g52p111111110 A n _ ⟨[(12, (u64v (A.nb .and .u64 (A.nb .add .u64 (A.nb .mul .u64 (A.nsh .shr .u64 a 32) (A.nb .and .u64 b 4294967295)) (A.nsh .shr .u64 (A.nb .mul .u64 (A.nb .and .u64 a 4294967295) (A.nb .and .u64 b 4294967295)) 32)) 4294967295))), (32, (u64v (A.nb .and .u64 (A.nb .add .u64 (A.nb .mul .u64 (A.nsh .shr .u64 a 32) (A.nb .and .u64 b 4294967295)) (A.nsh .shr .u64 (A.nb .mul .u64 (A.nb .and .u64 a 4294967295) (A.nb .and .u64 b 4294967295)) 32)) 4294967295))), (31, (u64v (A.nb .add .u64 (A.nb .mul .u64 (A.nsh .shr .u64 a 32) (A.nb .and .u64 b 4294967295)) (A.nsh .shr .u64 (A.nb .mul .u64 (A.nb .and .u64 a 4294967295) (A.nb .and .u64 b 4294967295)) 32)))), (0, (u64v a)), (1, (u64v b)), (6, (u64v (A.nb .and .u64 a 4294967295))), (7, (u64v (A.nsh .shr .u64 a 32))), (9, (u64v (A.nsh .shr .u64 b 32))), (11, (u64v (A.nb .add .u64 (A.nb .mul .u64 (A.nsh .shr .u64 a 32) (A.nb .and .u64 b 4294967295)) (A.nsh .shr .u64 (A.nb .mul .u64 (A.nb .and .u64 a 4294967295) (A.nb .and .u64 b 4294967295)) 32))))], []⟩ _ (by kernel_rfl)).trans h17
  rw [h36] at h37
  have h38 := (g52p11111111 A n _ _).trans h37
  have h39 := (g52Qn A n _ _ _).trans h38
  have h15 := g52R7 A n (g52Q A n (pth 511) (g52T kk)) a b (A.nb .and .u64 a 4294967295) (A.nsh .shr .u64 a 32) (A.nsh .shr .u64 b 32) (A.nb .add .u64 (A.nb .mul .u64 (A.nsh .shr .u64 a 32) (A.nb .and .u64 b 4294967295)) (A.nsh .shr .u64 (A.nb .mul .u64 (A.nb .and .u64 a 4294967295) (A.nb .and .u64 b 4294967295)) 32))
  have h40 := (g52p11111110 A n _ ⟨[(11, (u64v (A.nb .add .u64 (A.nb .mul .u64 (A.nsh .shr .u64 a 32) (A.nb .and .u64 b 4294967295)) (A.nsh .shr .u64 (A.nb .mul .u64 (A.nb .and .u64 a 4294967295) (A.nb .and .u64 b 4294967295)) 32)))), (30, (u64v (A.nb .add .u64 (A.nb .mul .u64 (A.nsh .shr .u64 a 32) (A.nb .and .u64 b 4294967295)) (A.nsh .shr .u64 (A.nb .mul .u64 (A.nb .and .u64 a 4294967295) (A.nb .and .u64 b 4294967295)) 32)))), (29, (u64v (A.nsh .shr .u64 (A.nb .mul .u64 (A.nb .and .u64 a 4294967295) (A.nb .and .u64 b 4294967295)) 32))), (28, (u64v (A.nb .mul .u64 (A.nb .and .u64 a 4294967295) (A.nb .and .u64 b 4294967295)))), (27, (u64v (A.nb .mul .u64 (A.nsh .shr .u64 a 32) (A.nb .and .u64 b 4294967295)))), (26, (u64v (A.nb .and .u64 b 4294967295))), (25, (u64v (A.nsh .shr .u64 a 32))), (0, (u64v a)), (1, (u64v b)), (6, (u64v (A.nb .and .u64 a 4294967295))), (7, (u64v (A.nsh .shr .u64 a 32))), (8, (u64v (A.nb .and .u64 b 4294967295))), (9, (u64v (A.nsh .shr .u64 b 32))), (10, (u64v (A.nb .mul .u64 (A.nb .and .u64 a 4294967295) (A.nb .and .u64 b 4294967295))))], []⟩ _ (by kernel_rfl)).trans h15
  rw [h39] at h40
  have h41 := (g52p1111111 A n _ _).trans h40
  have h42 := (g52Qn A n _ _ _).trans h41
  have h13 := g52R6 A n (g52Q A n (pth 255) (g52T kk)) a b (A.nb .and .u64 a 4294967295) (A.nsh .shr .u64 a 32) (A.nb .and .u64 b 4294967295) (A.nsh .shr .u64 b 32) (A.nb .mul .u64 (A.nb .and .u64 a 4294967295) (A.nb .and .u64 b 4294967295))
  have h43 := (g52p1111110 A n _ ⟨[(10, (u64v (A.nb .mul .u64 (A.nb .and .u64 a 4294967295) (A.nb .and .u64 b 4294967295)))), (24, (u64v (A.nb .mul .u64 (A.nb .and .u64 a 4294967295) (A.nb .and .u64 b 4294967295)))), (23, (u64v (A.nb .and .u64 b 4294967295))), (22, (u64v (A.nb .and .u64 a 4294967295))), (0, (u64v a)), (1, (u64v b)), (6, (u64v (A.nb .and .u64 a 4294967295))), (7, (u64v (A.nsh .shr .u64 a 32))), (8, (u64v (A.nb .and .u64 b 4294967295))), (9, (u64v (A.nsh .shr .u64 b 32)))], []⟩ _ (by kernel_rfl)).trans h13
  rw [h42] at h43
  have h44 := (g52p111111 A n _ _).trans h43
  have h45 := (g52Qn A n _ _ _).trans h44
  have h11 := g52R5 A n (g52Q A n (pth 127) (g52T kk)) a b (A.nb .and .u64 a 4294967295) (A.nsh .shr .u64 a 32) (A.nb .and .u64 b 4294967295) (A.nsh .shr .u64 b 32)
  have h46 := (g52p111110 A n _ ⟨[(9, (u64v (A.nsh .shr .u64 b 32))), (21, (u64v (A.nsh .shr .u64 b 32))), (20, (u64v b)), (0, (u64v a)), (1, (u64v b)), (6, (u64v (A.nb .and .u64 a 4294967295))), (7, (u64v (A.nsh .shr .u64 a 32))), (8, (u64v (A.nb .and .u64 b 4294967295)))], []⟩ _ (by kernel_rfl)).trans h11
  rw [h45] at h46
  have h47 := (g52p11111 A n _ _).trans h46
  have h48 := (g52Qn A n _ _ _).trans h47
  have h9 := g52R4 A n (g52Q A n (pth 63) (g52T kk)) a b (A.nb .and .u64 a 4294967295) (A.nsh .shr .u64 a 32) (A.nb .and .u64 b 4294967295)
  have h49 := (g52p11110 A n _ ⟨[(8, (u64v (A.nb .and .u64 b 4294967295))), (19, (u64v (A.nb .and .u64 b 4294967295))), (18, (u64v b)), (0, (u64v a)), (1, (u64v b)), (6, (u64v (A.nb .and .u64 a 4294967295))), (7, (u64v (A.nsh .shr .u64 a 32)))], []⟩ _ (by kernel_rfl)).trans h9
  rw [h48] at h49
  have h50 := (g52p1111 A n _ _).trans h49
  have h51 := (g52Qn A n _ _ _).trans h50
  have h7 := g52R3 A n (g52Q A n (pth 31) (g52T kk)) a b (A.nb .and .u64 a 4294967295) (A.nsh .shr .u64 a 32)
  have h52 := (g52p1110 A n _ ⟨[(7, (u64v (A.nsh .shr .u64 a 32))), (17, (u64v (A.nsh .shr .u64 a 32))), (16, (u64v a)), (0, (u64v a)), (1, (u64v b)), (6, (u64v (A.nb .and .u64 a 4294967295)))], []⟩ _ (by kernel_rfl)).trans h7
  rw [h51] at h52
  have h53 := (g52p111 A n _ _).trans h52
  have h54 := (g52Qn A n _ _ _).trans h53
  have h5 := g52R2 A n (g52Q A n (pth 15) (g52T kk)) a b (A.nb .and .u64 a 4294967295)
  have h55 := (g52p110 A n _ ⟨[(6, (u64v (A.nb .and .u64 a 4294967295))), (15, (u64v (A.nb .and .u64 a 4294967295))), (14, (u64v a)), (0, (u64v a)), (1, (u64v b))], []⟩ _ (by kernel_rfl)).trans h5
  rw [h54] at h55
  have h56 := (g52p11 A n _ _).trans h55
  have h57 := (g52Qn A n _ _ _).trans h56
  have h3 := g52R1 A n (g52Q A n (pth 7) (g52T kk)) a b
  have h58 := (g52p10 A n _ ⟨[(5, (u64v 0)), (4, (u64v 0)), (0, (u64v a)), (1, (u64v b))], []⟩ _ (by kernel_rfl)).trans h3
  rw [h57] at h58
  have h59 := (g52p1 A n _ _).trans h58
  have h60 := (g52Qn A n _ _ _).trans h59
  have h1 := g52R0 A n (g52Q A n (pth 3) (g52T kk)) a b
  have h61 := (g52p0 A n _ ⟨[(0, (u64v a)), (1, (u64v b))], []⟩ _ (by kernel_rfl)).trans h1
  rw [h60] at h61
  have h62 := (g52p A n _ _).trans h61
  exact (show funD A gtys (g52O A) g52an n (bodyOf Try.f52) g52res [(u64v a), (u64v b)] [] kk = g52D A n (pth 1) (g52T kk) ⟨[(0, (u64v a)), (1, (u64v b))], []⟩ from by kernel_rfl).trans (h62.trans (by kernel_rfl))
def g52is (o : Option AV) : Bool := match o with
  | some (.tup [.cell (.nat .u64 _), .cell (.nat .u64 _)]) => true
  | _ => false
def g52g0 (o : Option AV) : Nat := match o with
  | some (.tup [.cell (.nat .u64 x), .cell (.nat .u64 _)]) => x
  | _ => 0
def g52g1 (o : Option AV) : Nat := match o with
  | some (.tup [.cell (.nat .u64 _), .cell (.nat .u64 x)]) => x
  | _ => 0
theorem g52is_spec {o : Option AV} (h : g52is o = true) : o = some (.tup [.cell (.nat .u64 (g52g0 o)), .cell (.nat .u64 (g52g1 o))]) := by
  unfold g52is at h
  split at h
  · rfl
  · cases h
def g52v (A : Ar) (a b : Nat) : Option AV := g52 A (100000) (fun v _ => some v) a b
def g52ok (A : Ar) (a b : Nat) : Bool := g52is (g52v A a b)
def g52r0 (A : Ar) (a b : Nat) : Nat := g52g0 (g52v A a b)
def g52r1 (A : Ar) (a b : Nat) : Nat := g52g1 (g52v A a b)
theorem g52ok_spec {A : Ar} {a b} (h : g52ok A a b = true) : g52v A a b = some (.tup [.cell (.nat .u64 (g52r0 A a b)), .cell (.nat .u64 (g52r1 A a b))]) := g52is_spec h
def g52o (A : Ar) (args : List AV) : Option (Bool × AV) := match args with
  | [.v (.cell (.nat .u64 a)), .v (.cell (.nat .u64 b))] => some (g52ok A a b, .tup [.cell (.nat .u64 (g52r0 A a b)), .cell (.nat .u64 (g52r1 A a b))])
  | _ => none
theorem g52o_sound : ∀ args v, g52o realA args = some (true, v) → Fn1 Try.prog 52 args v := by
  intro args v h
  unfold g52o at h
  split at h
  · rename_i a b
    simp only [Option.some.injEq, Prod.mk.injEq] at h
    obtain ⟨hc, h⟩ := h
    subst h
    · skip
      exact fn1_of mixed gtysOK g52O_sound g52O_det (an := g52an) (n := 100000) Try.func52 (c := bodyOf Try.f52) rfl (by kernel_rfl) Try.call52 (Nat.le_of_ble_eq_true rfl) (fun b => rfl) (fun _ => (g52_eq realA (100000) (fun v _ => some v) a b).trans (show g52v realA a b = _ from g52ok_spec hc))
  · cases h
/- math/bits.Add64 -/
def g53o (A : Ar) := add64o
theorem g53o_sound : ∀ args v, g53o realA args = some (true, v) → Fn1 Try.prog 53 args v := add64o_sound Try.func53 (by kernel_rfl) (by kernel_rfl) (by kernel_rfl) (by kernel_rfl)
/- (engrosser/field.wide).up -/
def g51O (A : Ar) : Orc := orcOf []
theorem g51O_sound : OSound Try.prog (g51O realA) := orc_sound fun f g hm args v hv => by
  cases hm
theorem g51O_det : ODet (g51O realA) := orc_det _
def g51an : Ann := [(0, ([0], [])), (1, ([1], [1000]))]
def g51res : List ResultVar := [.tmp 2]
noncomputable def g51D {R : Type} (A : Ar) (n : Nat) (p : List Bool) (K : Ex → St → Option R) (s : St) : Option R := codeD A gtys (g51O A) g51an n (sub (bodyOf Try.f51) p) K s
noncomputable def g51Q {R : Type} (A : Ar) (n : Nat) (p : List Bool) (K : Ex → St → Option R) : Ex → St → Option R := seqC (g51D A n p K) K
noncomputable def g51T {R : Type} (kk : AV → Heap → Option R) : Ex → St → Option R := finD gtys g51res kk
theorem g51Qn {R : Type} (A : Ar) (n : Nat) (p : List Bool) (K : Ex → St → Option R) (s : St) : g51Q A n p K .normal s = g51D A n p K s := rfl
section
variable {R : Type} (A : Ar) (n : Nat) (K : Ex → St → Option R) (s : St)
theorem g51p : g51D A n (pth 1) K s = g51D A n (pth 2) (g51Q A n (pth 3) K) s := by kernel_rfl
theorem g51p0 (s' : St) (h : keep g51an 0 s = keep g51an 0 s') : g51D A n (pth 2) K s = g51D A n (pth 2) K s' := codeD_first (id := 0) (by kernel_rfl) h K
theorem g51p1 : g51D A n (pth 3) K s = g51D A n (pth 5) (g51Q A n (pth 7) K) s := by kernel_rfl
theorem g51p10 (s' : St) (h : keep g51an 1 s = keep g51an 1 s') : g51D A n (pth 5) K s = g51D A n (pth 5) K s' := codeD_first (id := 1) (by kernel_rfl) h K
theorem g51p11 : g51D A n (pth 7) K s = K .ret s := by kernel_rfl
theorem g51R0 (x0 : List Nat) : g51D A n (pth 2) K ⟨[(0, (aN .u64 2 x0))], []⟩ = K .normal ⟨[(2, (u64v 0)), (1, (pT 1000 0)), (0, (aN .u64 2 x0))], [(1000, (bU 2 x0 62))]⟩ := by kernel_rfl
theorem g51R1 (x0 : List Nat) : g51D A n (pth 5) K ⟨[(1, (pT 1000 0))], [(1000, (bU 2 x0 62))]⟩ = K .normal ⟨[(2, (u64v (A.nb .or .u64 (A.nsh .shl .u64 (x0.getD 0 0) 13) (A.nsh .shr .u64 (x0.getD 1 0) 51)))), (9, (u64v (A.nb .or .u64 (A.nsh .shl .u64 (x0.getD 0 0) 13) (A.nsh .shr .u64 (x0.getD 1 0) 51)))), (8, (u64v (A.nsh .shr .u64 (x0.getD 1 0) 51))), (7, (u64v (x0.getD 1 0))), (6, (pT 1000 1)), (5, (u64v (A.nsh .shl .u64 (x0.getD 0 0) 13))), (4, (u64v (x0.getD 0 0))), (3, (pT 1000 0)), (1, (pT 1000 0))], [(1000, (bU 2 x0 62))]⟩ := by kernel_rfl
end
def g51 {R : Type} (A : Ar) (n : Nat) (kk : AV → Heap → Option R) (a : List Nat) : Option R :=
  kk (u64v (A.nb .or .u64 (A.nsh .shl .u64 (a.getD 0 0) 13) (A.nsh .shr .u64 (a.getD 1 0) 51))) [(1000, (bU 2 a 62))]
set_option maxRecDepth 100000 in
theorem g51_eq {R : Type} (A : Ar) (n : Nat) (kk : AV → Heap → Option R) (a : List Nat) :
    funD A gtys (g51O A) g51an n (bodyOf Try.f51) g51res [(aN .u64 2 a)] [] kk = g51 A n kk a := by
  have h5 : (g51T kk) .ret ⟨[(2, (u64v (A.nb .or .u64 (A.nsh .shl .u64 (a.getD 0 0) 13) (A.nsh .shr .u64 (a.getD 1 0) 51)))), (9, (u64v (A.nb .or .u64 (A.nsh .shl .u64 (a.getD 0 0) 13) (A.nsh .shr .u64 (a.getD 1 0) 51)))), (8, (u64v (A.nsh .shr .u64 (a.getD 1 0) 51))), (7, (u64v (a.getD 1 0))), (6, (pT 1000 1)), (5, (u64v (A.nsh .shl .u64 (a.getD 0 0) 13))), (4, (u64v (a.getD 0 0))), (3, (pT 1000 0)), (1, (pT 1000 0))], [(1000, (bU 2 a 62))]⟩ = kk (u64v (A.nb .or .u64 (A.nsh .shl .u64 (a.getD 0 0) 13) (A.nsh .shr .u64 (a.getD 1 0) 51))) [(1000, (bU 2 a 62))] := by kernel_rfl
  have h6 := (g51p11 A n _ _).trans h5
  have h7 := (g51Qn A n _ _ _).trans h6
  have h3 := g51R1 A n (g51Q A n (pth 7) (g51T kk)) a
  have h8 := (g51p10 A n _ ⟨[(2, (u64v 0)), (1, (pT 1000 0)), (0, (aN .u64 2 a))], [(1000, (bU 2 a 62))]⟩ _ (by kernel_rfl)).trans h3
  rw [h7] at h8
  have h9 := (g51p1 A n _ _).trans h8
  have h10 := (g51Qn A n _ _ _).trans h9
  have h1 := g51R0 A n (g51Q A n (pth 3) (g51T kk)) a
  have h11 := (g51p0 A n _ ⟨[(0, (aN .u64 2 a))], []⟩ _ (by kernel_rfl)).trans h1
  rw [h10] at h11
  have h12 := (g51p A n _ _).trans h11
  exact (show funD A gtys (g51O A) g51an n (bodyOf Try.f51) g51res [(aN .u64 2 a)] [] kk = g51D A n (pth 1) (g51T kk) ⟨[(0, (aN .u64 2 a))], []⟩ from by kernel_rfl).trans (h12.trans (by kernel_rfl))
def g51is (o : Option AV) : Bool := match o with
  | some (.v (.cell (.nat .u64 _))) => true
  | _ => false
def g51g0 (o : Option AV) : Nat := match o with
  | some (.v (.cell (.nat .u64 x))) => x
  | _ => 0
theorem g51is_spec {o : Option AV} (h : g51is o = true) : o = some (.v (.cell (.nat .u64 (g51g0 o)))) := by
  unfold g51is at h
  split at h
  · rfl
  · cases h
def g51v (A : Ar) (a : List Nat) : Option AV := g51 A (100000) (fun v _ => some v) a
def g51ok (A : Ar) (a : List Nat) : Bool := g51is (g51v A a)
def g51r0 (A : Ar) (a : List Nat) : Nat := g51g0 (g51v A a)
theorem g51ok_spec {A : Ar} {a} (h : g51ok A a = true) : g51v A a = some (.v (.cell (.nat .u64 (g51r0 A a)))) := g51is_spec h
def g51o (A : Ar) (args : List AV) : Option (Bool × AV) := match args with
  | [.v (.agg [.nums .u64 n0 a])] => some (Nat.beq n0 2 && (g51ok A a), .v (.cell (.nat .u64 (g51r0 A a))))
  | _ => none
theorem g51o_sound : ∀ args v, g51o realA args = some (true, v) → Fn1 Try.prog 51 args v := by
  intro args v h
  unfold g51o at h
  split at h
  · rename_i n0 a
    simp only [Option.some.injEq, Prod.mk.injEq] at h
    obtain ⟨hc, h⟩ := h
    subst h
    · skip
      simp only [Bool.and_eq_true] at hc
      have en0 := beq_true hc.1
      subst en0
      replace hc := hc.2
      exact fn1_of mixed gtysOK g51O_sound g51O_det (an := g51an) (n := 100000) Try.func51 (c := bodyOf Try.f51) rfl (by kernel_rfl) Try.call51 (Nat.le_of_ble_eq_true rfl) (fun b => rfl) (fun _ => (g51_eq realA (100000) (fun v _ => some v) a).trans (show g51v realA a = _ from g51ok_spec hc))
  · cases h
/- (*engrosser/field.wide).add -/
def g49O (A : Ar) : Orc := orcOf [(52, g52o A), (53, g53o A)]
theorem g49O_sound : OSound Try.prog (g49O realA) := orc_sound fun f g hm args v hv => by
  simp only [List.mem_cons, List.not_mem_nil, or_false, Prod.mk.injEq] at hm
  rcases hm with ⟨rfl, rfl⟩ | ⟨rfl, rfl⟩
  · exact g52o_sound _ _ hv
  · exact g53o_sound _ _ hv
theorem g49O_det : ODet (g49O realA) := orc_det _
def g49an : Ann := [(0, ([0, 1, 2], [0])), (1, ([0, 6, 7], [0])), (2, ([0, 6, 7], [0])), (3, ([0, 6, 8], [0]))]
def g49res : List ResultVar := []
noncomputable def g49D {R : Type} (A : Ar) (n : Nat) (p : List Bool) (K : Ex → St → Option R) (s : St) : Option R := codeD A gtys (g49O A) g49an n (sub (bodyOf Try.f49) p) K s
noncomputable def g49Q {R : Type} (A : Ar) (n : Nat) (p : List Bool) (K : Ex → St → Option R) : Ex → St → Option R := seqC (g49D A n p K) K
noncomputable def g49T {R : Type} (kk : AV → Heap → Option R) : Ex → St → Option R := finD gtys g49res kk
theorem g49Qn {R : Type} (A : Ar) (n : Nat) (p : List Bool) (K : Ex → St → Option R) (s : St) : g49Q A n p K .normal s = g49D A n p K s := rfl
section
variable {R : Type} (A : Ar) (n : Nat) (K : Ex → St → Option R) (s : St)
theorem g49p : g49D A n (pth 1) K s = g49D A n (pth 2) (g49Q A n (pth 3) K) s := by kernel_rfl
theorem g49p0 (s' : St) (h : keep g49an 0 s = keep g49an 0 s') : g49D A n (pth 2) K s = g49D A n (pth 2) K s' := codeD_first (id := 0) (by kernel_rfl) h K
theorem g49p1 : g49D A n (pth 3) K s = g49D A n (pth 5) (g49Q A n (pth 7) K) s := by kernel_rfl
theorem g49p10 (s' : St) (h : keep g49an 1 s = keep g49an 1 s') : g49D A n (pth 5) K s = g49D A n (pth 5) K s' := codeD_first (id := 1) (by kernel_rfl) h K
theorem g49p11 : g49D A n (pth 7) K s = g49D A n (pth 11) (g49Q A n (pth 15) K) s := by kernel_rfl
theorem g49p110 (s' : St) (h : keep g49an 2 s = keep g49an 2 s') : g49D A n (pth 11) K s = g49D A n (pth 11) K s' := codeD_first (id := 2) (by kernel_rfl) h K
theorem g49p111 (s' : St) (h : keep g49an 3 s = keep g49an 3 s') : g49D A n (pth 15) K s = g49D A n (pth 15) K s' := codeD_first (id := 3) (by kernel_rfl) h K
theorem g49R0 (x0 x1 x2 : Nat) (x3 : List Nat) : g49D A n (pth 2) K ⟨[(0, (.v (.cell (.ptr 0 0 (some ⟨x0, 2, 10, 0, 0, 0⟩))))), (1, (u64v x1)), (2, (u64v x2))], [(0, (bU 10 x3 63))]⟩ = match (generalizing := false) g52ok A x1 x2 with
    | true => K .normal ⟨[(7, (u64v (g52r1 A x1 x2))), (6, (u64v (g52r0 A x1 x2))), (14, (u64v (g52r1 A x1 x2))), (13, (u64v (g52r0 A x1 x2))), (9, (.tup [(.cell (.nat .u64 (g52r0 A x1 x2))), (.cell (.nat .u64 (g52r1 A x1 x2)))])), (12, (.tup [(.cell (.nat .u64 (g52r0 A x1 x2))), (.cell (.nat .u64 (g52r1 A x1 x2)))])), (11, (u64v x2)), (10, (u64v x1)), (0, (.v (.cell (.ptr 0 0 (some ⟨x0, 2, 10, 0, 0, 0⟩))))), (1, (u64v x1)), (2, (u64v x2))], [(0, (bU 10 x3 63))]⟩
    | false => none := by kernel_rfl
theorem g49R1 (x0 x1 x2 : Nat) (x3 : List Nat) : g49D A n (pth 5) K ⟨[(0, (.v (.cell (.ptr 0 0 (some ⟨x0, 2, 10, 0, 0, 0⟩))))), (6, (u64v x1)), (7, (u64v x2))], [(0, (bU 10 x3 63))]⟩ = K .normal ⟨[(8, (u64v 0)), (0, (.v (.cell (.ptr 0 0 (some ⟨x0, 2, 10, 0, 0, 0⟩))))), (6, (u64v x1)), (7, (u64v x2))], [(0, (bU 10 x3 63))]⟩ := by kernel_rfl
theorem g49R2 (x0 x1 x2 : Nat) (x3 : List Nat) : g49D A n (pth 11) K ⟨[(0, (.v (.cell (.ptr 0 0 (some ⟨x0, 2, 10, 0, 0, 0⟩))))), (6, (u64v x1)), (7, (u64v x2))], [(0, (bU 10 x3 63))]⟩ = match (generalizing := false) carryok (x3.getD (x0 + 1) 0) x2 0 with
    | true => K .normal ⟨[(8, (u64v (add64b (x3.getD (x0 + 1) 0) x2 0))), (26, (.v (.cell (.ptr 0 0 (some ⟨x0 + 1, 1, 10, 0, 1, 0⟩))))), (25, (.v (.cell (.ptr 0 0 (some ⟨x0, 2, 10, 0, 0, 0⟩))))), (24, (u64v (add64b (x3.getD (x0 + 1) 0) x2 0))), (23, (u64v (add64a (x3.getD (x0 + 1) 0) x2 0))), (15, (.tup [(.cell (.nat .u64 (add64a (x3.getD (x0 + 1) 0) x2 0))), (.cell (.nat .u64 (add64b (x3.getD (x0 + 1) 0) x2 0)))])), (22, (.tup [(.cell (.nat .u64 (add64a (x3.getD (x0 + 1) 0) x2 0))), (.cell (.nat .u64 (add64b (x3.getD (x0 + 1) 0) x2 0)))])), (21, (u64v x2)), (20, (u64v (x3.getD (x0 + 1) 0))), (19, (.v (.cell (.ptr 0 0 (some ⟨x0 + 1, 1, 10, 0, 1, 0⟩))))), (18, (.v (.cell (.ptr 0 0 (some ⟨x0, 2, 10, 0, 0, 0⟩))))), (17, (.v (.cell (.ptr 0 0 (some ⟨x0, 2, 10, 0, 0, 0⟩))))), (16, (.v (.cell (.ptr 0 0 (some ⟨x0, 2, 10, 0, 0, 0⟩))))), (0, (.v (.cell (.ptr 0 0 (some ⟨x0, 2, 10, 0, 0, 0⟩))))), (6, (u64v x1)), (7, (u64v x2))], [(0, (bU 10 (x3.set (x0 + 1) (add64a (x3.getD (x0 + 1) 0) x2 0)) 63))]⟩
    | false => none := by kernel_rfl
theorem g49R3 (x0 x1 x2 : Nat) (x3 : List Nat) : g49D A n (pth 15) K ⟨[(0, (.v (.cell (.ptr 0 0 (some ⟨x0, 2, 10, 0, 0, 0⟩))))), (6, (u64v x1)), (8, (u64v x2))], [(0, (bU 10 x3 63))]⟩ = match (generalizing := false) carryok (x3.getD (x0 + 0) 0) x1 x2 with
    | true => K .normal ⟨[(39, (.v (.cell (.ptr 0 0 (some ⟨x0 + 0, 1, 10, 0, 0, 0⟩))))), (38, (.v (.cell (.ptr 0 0 (some ⟨x0, 2, 10, 0, 0, 0⟩))))), (37, (u64v (add64b (x3.getD (x0 + 0) 0) x1 x2))), (36, (u64v (add64a (x3.getD (x0 + 0) 0) x1 x2))), (27, (.tup [(.cell (.nat .u64 (add64a (x3.getD (x0 + 0) 0) x1 x2))), (.cell (.nat .u64 (add64b (x3.getD (x0 + 0) 0) x1 x2)))])), (35, (.tup [(.cell (.nat .u64 (add64a (x3.getD (x0 + 0) 0) x1 x2))), (.cell (.nat .u64 (add64b (x3.getD (x0 + 0) 0) x1 x2)))])), (34, (u64v x2)), (33, (u64v x1)), (32, (u64v (x3.getD (x0 + 0) 0))), (31, (.v (.cell (.ptr 0 0 (some ⟨x0 + 0, 1, 10, 0, 0, 0⟩))))), (30, (.v (.cell (.ptr 0 0 (some ⟨x0, 2, 10, 0, 0, 0⟩))))), (29, (.v (.cell (.ptr 0 0 (some ⟨x0, 2, 10, 0, 0, 0⟩))))), (28, (.v (.cell (.ptr 0 0 (some ⟨x0, 2, 10, 0, 0, 0⟩))))), (0, (.v (.cell (.ptr 0 0 (some ⟨x0, 2, 10, 0, 0, 0⟩))))), (6, (u64v x1)), (8, (u64v x2))], [(0, (bU 10 (x3.set (x0 + 0) (add64a (x3.getD (x0 + 0) 0) x1 x2)) 63))]⟩
    | false => none := by kernel_rfl
end
def g49 {R : Type} (A : Ar) (n : Nat) (kk : AV → Heap → Option R) (x0 x1 x2 : Nat) (x3 : List Nat) : Option R :=
  match (generalizing := false) g52ok A x1 x2 with
  | true => match (generalizing := false) carryok (x3.getD (x0 + 1) 0) (g52r1 A x1 x2) 0 with
    | true => match (generalizing := false) carryok ((x3.set (x0 + 1) (add64a (x3.getD (x0 + 1) 0) (g52r1 A x1 x2) 0)).getD (x0 + 0) 0) (g52r0 A x1 x2) (add64b (x3.getD (x0 + 1) 0) (g52r1 A x1 x2) 0) with
      | true => kk (.tup []) [(0, (bU 10 ((x3.set (x0 + 1) (add64a (x3.getD (x0 + 1) 0) (g52r1 A x1 x2) 0)).set (x0 + 0) (add64a ((x3.set (x0 + 1) (add64a (x3.getD (x0 + 1) 0) (g52r1 A x1 x2) 0)).getD (x0 + 0) 0) (g52r0 A x1 x2) (add64b (x3.getD (x0 + 1) 0) (g52r1 A x1 x2) 0))) 63))]
      | false => none
    | false => none
  | false => none
set_option maxRecDepth 100000 in
theorem g49_eq {R : Type} (A : Ar) (n : Nat) (kk : AV → Heap → Option R) (x0 x1 x2 : Nat) (x3 : List Nat) :
    funD A gtys (g49O A) g49an n (bodyOf Try.f49) g49res [(.v (.cell (.ptr 0 0 (some ⟨x0, 2, 10, 0, 0, 0⟩)))), (u64v x1), (u64v x2)] [(0, (bU 10 x3 63))] kk = g49 A n kk x0 x1 x2 x3 := by
  have h9 : (g49T kk) .normal ⟨[(39, (.v (.cell (.ptr 0 0 (some ⟨x0 + 0, 1, 10, 0, 0, 0⟩))))), (38, (.v (.cell (.ptr 0 0 (some ⟨x0, 2, 10, 0, 0, 0⟩))))), (37, (u64v (add64b ((x3.set (x0 + 1) (add64a (x3.getD (x0 + 1) 0) (g52r1 A x1 x2) 0)).getD (x0 + 0) 0) (g52r0 A x1 x2) (add64b (x3.getD (x0 + 1) 0) (g52r1 A x1 x2) 0)))), (36, (u64v (add64a ((x3.set (x0 + 1) (add64a (x3.getD (x0 + 1) 0) (g52r1 A x1 x2) 0)).getD (x0 + 0) 0) (g52r0 A x1 x2) (add64b (x3.getD (x0 + 1) 0) (g52r1 A x1 x2) 0)))), (27, (.tup [(.cell (.nat .u64 (add64a ((x3.set (x0 + 1) (add64a (x3.getD (x0 + 1) 0) (g52r1 A x1 x2) 0)).getD (x0 + 0) 0) (g52r0 A x1 x2) (add64b (x3.getD (x0 + 1) 0) (g52r1 A x1 x2) 0)))), (.cell (.nat .u64 (add64b ((x3.set (x0 + 1) (add64a (x3.getD (x0 + 1) 0) (g52r1 A x1 x2) 0)).getD (x0 + 0) 0) (g52r0 A x1 x2) (add64b (x3.getD (x0 + 1) 0) (g52r1 A x1 x2) 0))))])), (35, (.tup [(.cell (.nat .u64 (add64a ((x3.set (x0 + 1) (add64a (x3.getD (x0 + 1) 0) (g52r1 A x1 x2) 0)).getD (x0 + 0) 0) (g52r0 A x1 x2) (add64b (x3.getD (x0 + 1) 0) (g52r1 A x1 x2) 0)))), (.cell (.nat .u64 (add64b ((x3.set (x0 + 1) (add64a (x3.getD (x0 + 1) 0) (g52r1 A x1 x2) 0)).getD (x0 + 0) 0) (g52r0 A x1 x2) (add64b (x3.getD (x0 + 1) 0) (g52r1 A x1 x2) 0))))])), (34, (u64v (add64b (x3.getD (x0 + 1) 0) (g52r1 A x1 x2) 0))), (33, (u64v (g52r0 A x1 x2))), (32, (u64v ((x3.set (x0 + 1) (add64a (x3.getD (x0 + 1) 0) (g52r1 A x1 x2) 0)).getD (x0 + 0) 0))), (31, (.v (.cell (.ptr 0 0 (some ⟨x0 + 0, 1, 10, 0, 0, 0⟩))))), (30, (.v (.cell (.ptr 0 0 (some ⟨x0, 2, 10, 0, 0, 0⟩))))), (29, (.v (.cell (.ptr 0 0 (some ⟨x0, 2, 10, 0, 0, 0⟩))))), (28, (.v (.cell (.ptr 0 0 (some ⟨x0, 2, 10, 0, 0, 0⟩))))), (0, (.v (.cell (.ptr 0 0 (some ⟨x0, 2, 10, 0, 0, 0⟩))))), (6, (u64v (g52r0 A x1 x2))), (8, (u64v (add64b (x3.getD (x0 + 1) 0) (g52r1 A x1 x2) 0)))], [(0, (bU 10 ((x3.set (x0 + 1) (add64a (x3.getD (x0 + 1) 0) (g52r1 A x1 x2) 0)).set (x0 + 0) (add64a ((x3.set (x0 + 1) (add64a (x3.getD (x0 + 1) 0) (g52r1 A x1 x2) 0)).getD (x0 + 0) 0) (g52r0 A x1 x2) (add64b (x3.getD (x0 + 1) 0) (g52r1 A x1 x2) 0))) 63))]⟩ = kk (.tup []) [(0, (bU 10 ((x3.set (x0 + 1) (add64a (x3.getD (x0 + 1) 0) (g52r1 A x1 x2) 0)).set (x0 + 0) (add64a ((x3.set (x0 + 1) (add64a (x3.getD (x0 + 1) 0) (g52r1 A x1 x2) 0)).getD (x0 + 0) 0) (g52r0 A x1 x2) (add64b (x3.getD (x0 + 1) 0) (g52r1 A x1 x2) 0))) 63))] := by kernel_rfl
  have h7 := g49R3 A n (g49T kk) x0 (g52r0 A x1 x2) (add64b (x3.getD (x0 + 1) 0) (g52r1 A x1 x2) 0) (x3.set (x0 + 1) (add64a (x3.getD (x0 + 1) 0) (g52r1 A x1 x2) 0))
  have h10 := (g49p111 A n _ ⟨[(8, (u64v (add64b (x3.getD (x0 + 1) 0) (g52r1 A x1 x2) 0))), (26, (.v (.cell (.ptr 0 0 (some ⟨x0 + 1, 1, 10, 0, 1, 0⟩))))), (25, (.v (.cell (.ptr 0 0 (some ⟨x0, 2, 10, 0, 0, 0⟩))))), (24, (u64v (add64b (x3.getD (x0 + 1) 0) (g52r1 A x1 x2) 0))), (23, (u64v (add64a (x3.getD (x0 + 1) 0) (g52r1 A x1 x2) 0))), (15, (.tup [(.cell (.nat .u64 (add64a (x3.getD (x0 + 1) 0) (g52r1 A x1 x2) 0))), (.cell (.nat .u64 (add64b (x3.getD (x0 + 1) 0) (g52r1 A x1 x2) 0)))])), (22, (.tup [(.cell (.nat .u64 (add64a (x3.getD (x0 + 1) 0) (g52r1 A x1 x2) 0))), (.cell (.nat .u64 (add64b (x3.getD (x0 + 1) 0) (g52r1 A x1 x2) 0)))])), (21, (u64v (g52r1 A x1 x2))), (20, (u64v (x3.getD (x0 + 1) 0))), (19, (.v (.cell (.ptr 0 0 (some ⟨x0 + 1, 1, 10, 0, 1, 0⟩))))), (18, (.v (.cell (.ptr 0 0 (some ⟨x0, 2, 10, 0, 0, 0⟩))))), (17, (.v (.cell (.ptr 0 0 (some ⟨x0, 2, 10, 0, 0, 0⟩))))), (16, (.v (.cell (.ptr 0 0 (some ⟨x0, 2, 10, 0, 0, 0⟩))))), (0, (.v (.cell (.ptr 0 0 (some ⟨x0, 2, 10, 0, 0, 0⟩))))), (6, (u64v (g52r0 A x1 x2))), (7, (u64v (g52r1 A x1 x2)))], [(0, (bU 10 (x3.set (x0 + 1) (add64a (x3.getD (x0 + 1) 0) (g52r1 A x1 x2) 0)) 63))]⟩ _ (by kernel_rfl)).trans h7
  rw [h9] at h10
  have h11 := (g49Qn A n _ _ _).trans h10
  have h5 := g49R2 A n (g49Q A n (pth 15) (g49T kk)) x0 (g52r0 A x1 x2) (g52r1 A x1 x2) x3
  have h12 := (g49p110 A n _ ⟨[(8, (u64v 0)), (0, (.v (.cell (.ptr 0 0 (some ⟨x0, 2, 10, 0, 0, 0⟩))))), (6, (u64v (g52r0 A x1 x2))), (7, (u64v (g52r1 A x1 x2)))], [(0, (bU 10 x3 63))]⟩ _ (by kernel_rfl)).trans h5
  rw [h11] at h12
  have h13 := (g49p11 A n _ _).trans h12
  have h14 := (g49Qn A n _ _ _).trans h13
  have h3 := g49R1 A n (g49Q A n (pth 7) (g49T kk)) x0 (g52r0 A x1 x2) (g52r1 A x1 x2) x3
  have h15 := (g49p10 A n _ ⟨[(7, (u64v (g52r1 A x1 x2))), (6, (u64v (g52r0 A x1 x2))), (14, (u64v (g52r1 A x1 x2))), (13, (u64v (g52r0 A x1 x2))), (9, (.tup [(.cell (.nat .u64 (g52r0 A x1 x2))), (.cell (.nat .u64 (g52r1 A x1 x2)))])), (12, (.tup [(.cell (.nat .u64 (g52r0 A x1 x2))), (.cell (.nat .u64 (g52r1 A x1 x2)))])), (11, (u64v x2)), (10, (u64v x1)), (0, (.v (.cell (.ptr 0 0 (some ⟨x0, 2, 10, 0, 0, 0⟩))))), (1, (u64v x1)), (2, (u64v x2))], [(0, (bU 10 x3 63))]⟩ _ (by kernel_rfl)).trans h3
  rw [h14] at h15
  have h16 := (g49p1 A n _ _).trans h15
  have h17 := (g49Qn A n _ _ _).trans h16
  have h1 := g49R0 A n (g49Q A n (pth 3) (g49T kk)) x0 x1 x2 x3
  have h18 := (g49p0 A n _ ⟨[(0, (.v (.cell (.ptr 0 0 (some ⟨x0, 2, 10, 0, 0, 0⟩))))), (1, (u64v x1)), (2, (u64v x2))], [(0, (bU 10 x3 63))]⟩ _ (by kernel_rfl)).trans h1
  rw [h17] at h18
  have h19 := (g49p A n _ _).trans h18
  exact (show funD A gtys (g49O A) g49an n (bodyOf Try.f49) g49res [(.v (.cell (.ptr 0 0 (some ⟨x0, 2, 10, 0, 0, 0⟩)))), (u64v x1), (u64v x2)] [(0, (bU 10 x3 63))] kk = g49D A n (pth 1) (g49T kk) ⟨[(0, (.v (.cell (.ptr 0 0 (some ⟨x0, 2, 10, 0, 0, 0⟩))))), (1, (u64v x1)), (2, (u64v x2))], [(0, (bU 10 x3 63))]⟩ from by kernel_rfl).trans (h19.trans (by kernel_rfl))
def g49is (o : Option (AV × Heap)) : Bool := match o with
  | some (.tup [], [(n0, ⟨[.nums .u64 n1 _], n2, n3⟩)]) => Nat.beq n0 0 && (Nat.beq n1 10 && (Nat.beq n2 63 && (Nat.beq n3 1)))
  | _ => false
def g49g0 (o : Option (AV × Heap)) : List Nat := match o with
  | some (.tup [], [(_, ⟨[.nums .u64 _ x], _, _⟩)]) => x
  | _ => []
theorem g49is_spec {o : Option (AV × Heap)} (h : g49is o = true) : o = some ((.tup []), [(0, (bU 10 (g49g0 o) 63))]) := by
  unfold g49is at h
  split at h
  · rename_i n0 n1 z2 n2 n3
    simp only [Bool.and_eq_true] at h
    have en0 := beq_true h.1
    subst en0
    replace h := h.2
    have en1 := beq_true h.1
    subst en1
    replace h := h.2
    have en2 := beq_true h.1
    subst en2
    replace h := h.2
    have en3 := beq_true h
    subst en3
    rfl
  · cases h
def g49v (A : Ar) (x0 x1 x2 : Nat) (x3 : List Nat) : Option (AV × Heap) := g49 A (100000) (outH [0] none) x0 x1 x2 x3
def g49ok (A : Ar) (x0 x1 x2 : Nat) (x3 : List Nat) : Bool := g49is (g49v A x0 x1 x2 x3)
def g49r0 (A : Ar) (x0 x1 x2 : Nat) (x3 : List Nat) : List Nat := g49g0 (g49v A x0 x1 x2 x3)
theorem g49ok_spec {A : Ar} {x0 x1 x2 x3} (h : g49ok A x0 x1 x2 x3 = true) : g49v A x0 x1 x2 x3 = some ((.tup []), [(0, (bU 10 (g49r0 A x0 x1 x2 x3) 63))]) := g49is_spec h
def g49o (A : Ar) (args : List AV) (h : Heap) : Option (Bool × AV × Heap) := match args, h with
  | [.v (.cell (.ptr n0 n1 (some ⟨x0, n2, n3, n4, n5, n6⟩))), .v (.cell (.nat .u64 x1)), .v (.cell (.nat .u64 x2))], [(n7, ⟨[.nums .u64 n8 x3], n9, n10⟩)] => some (Nat.beq n0 0 && (Nat.beq n1 0 && (Nat.beq n2 2 && (Nat.beq n3 10 && (Nat.beq n4 0 && (Nat.beq n5 0 && (Nat.beq n6 0 && (Nat.beq n7 0 && (Nat.beq n8 10 && (Nat.beq n9 63 && (Nat.beq n10 1 && (g49ok A x0 x1 x2 x3))))))))))), (.tup []), [(0, (bU 10 (g49r0 A x0 x1 x2 x3) 63))])
  | _, _ => none
theorem g49o_sound : ∀ args h v h', g49o realA args h = some (true, v, h') → FnH Try.prog 49 args h v h' := by
  intro args h v h' hh
  unfold g49o at hh
  split at hh
  · rename_i n0 n1 x0 n2 n3 n4 n5 n6 x1 x2 n7 n8 x3 n9 n10
    simp only [Option.some.injEq, Prod.mk.injEq] at hh
    obtain ⟨hc, hv, hh⟩ := hh
    subst hv
    subst hh
    simp only [Bool.and_eq_true] at hc
    have en0 := beq_true hc.1
    subst en0
    replace hc := hc.2
    have en1 := beq_true hc.1
    subst en1
    replace hc := hc.2
    have en2 := beq_true hc.1
    subst en2
    replace hc := hc.2
    have en3 := beq_true hc.1
    subst en3
    replace hc := hc.2
    have en4 := beq_true hc.1
    subst en4
    replace hc := hc.2
    have en5 := beq_true hc.1
    subst en5
    replace hc := hc.2
    have en6 := beq_true hc.1
    subst en6
    replace hc := hc.2
    have en7 := beq_true hc.1
    subst en7
    replace hc := hc.2
    have en8 := beq_true hc.1
    subst en8
    replace hc := hc.2
    have en9 := beq_true hc.1
    subst en9
    replace hc := hc.2
    have en10 := beq_true hc.1
    subst en10
    replace hc := hc.2
    exact fnh_of mixed gtysOK g49O_sound g49O_det (an := g49an) (n := 100000) Try.func49 (c := bodyOf Try.f49) rfl (by kernel_rfl) Try.call49 (Nat.le_of_ble_eq_true rfl) (pins := [0]) (nilr := none) (fun _ => (g49_eq realA (100000) (outH [0] none) x0 x1 x2 x3).trans (show g49v realA x0 x1 x2 x3 = _ from g49ok_spec hc))
  · cases hh
/- (*engrosser/field.wide).more -/
def g50O (A : Ar) : Orc := orcOf [(53, g53o A)]
theorem g50O_sound : OSound Try.prog (g50O realA) := orc_sound fun f g hm args v hv => by
  simp only [List.mem_cons, List.not_mem_nil, or_false, Prod.mk.injEq] at hm
  rcases hm with ⟨rfl, rfl⟩
  · exact g53o_sound _ _ hv
theorem g50O_det : ODet (g50O realA) := orc_det _
def g50an : Ann := [(0, ([0, 1], [0])), (1, ([0, 1], [0])), (2, ([0, 4], [0]))]
def g50res : List ResultVar := []
noncomputable def g50D {R : Type} (A : Ar) (n : Nat) (p : List Bool) (K : Ex → St → Option R) (s : St) : Option R := codeD A gtys (g50O A) g50an n (sub (bodyOf Try.f50) p) K s
noncomputable def g50Q {R : Type} (A : Ar) (n : Nat) (p : List Bool) (K : Ex → St → Option R) : Ex → St → Option R := seqC (g50D A n p K) K
noncomputable def g50T {R : Type} (kk : AV → Heap → Option R) : Ex → St → Option R := finD gtys g50res kk
theorem g50Qn {R : Type} (A : Ar) (n : Nat) (p : List Bool) (K : Ex → St → Option R) (s : St) : g50Q A n p K .normal s = g50D A n p K s := rfl
section
variable {R : Type} (A : Ar) (n : Nat) (K : Ex → St → Option R) (s : St)
theorem g50p : g50D A n (pth 1) K s = g50D A n (pth 2) (g50Q A n (pth 3) K) s := by kernel_rfl
theorem g50p0 (s' : St) (h : keep g50an 0 s = keep g50an 0 s') : g50D A n (pth 2) K s = g50D A n (pth 2) K s' := codeD_first (id := 0) (by kernel_rfl) h K
theorem g50p1 : g50D A n (pth 3) K s = g50D A n (pth 5) (g50Q A n (pth 7) K) s := by kernel_rfl
theorem g50p10 (s' : St) (h : keep g50an 1 s = keep g50an 1 s') : g50D A n (pth 5) K s = g50D A n (pth 5) K s' := codeD_first (id := 1) (by kernel_rfl) h K
theorem g50p11 (s' : St) (h : keep g50an 2 s = keep g50an 2 s') : g50D A n (pth 7) K s = g50D A n (pth 7) K s' := codeD_first (id := 2) (by kernel_rfl) h K
theorem g50R0 (x0 x1 : Nat) (x2 : List Nat) : g50D A n (pth 2) K ⟨[(0, (.v (.cell (.ptr 0 0 (some ⟨x0, 2, 10, 0, 0, 0⟩))))), (1, (u64v x1))], [(0, (bU 10 x2 63))]⟩ = K .normal ⟨[(4, (u64v 0)), (0, (.v (.cell (.ptr 0 0 (some ⟨x0, 2, 10, 0, 0, 0⟩))))), (1, (u64v x1))], [(0, (bU 10 x2 63))]⟩ := by kernel_rfl
theorem g50R1 (x0 x1 : Nat) (x2 : List Nat) : g50D A n (pth 5) K ⟨[(0, (.v (.cell (.ptr 0 0 (some ⟨x0, 2, 10, 0, 0, 0⟩))))), (1, (u64v x1))], [(0, (bU 10 x2 63))]⟩ = match (generalizing := false) carryok (x2.getD (x0 + 1) 0) x1 0 with
    | true => K .normal ⟨[(4, (u64v (add64b (x2.getD (x0 + 1) 0) x1 0))), (16, (.v (.cell (.ptr 0 0 (some ⟨x0 + 1, 1, 10, 0, 1, 0⟩))))), (15, (.v (.cell (.ptr 0 0 (some ⟨x0, 2, 10, 0, 0, 0⟩))))), (14, (u64v (add64b (x2.getD (x0 + 1) 0) x1 0))), (13, (u64v (add64a (x2.getD (x0 + 1) 0) x1 0))), (5, (.tup [(.cell (.nat .u64 (add64a (x2.getD (x0 + 1) 0) x1 0))), (.cell (.nat .u64 (add64b (x2.getD (x0 + 1) 0) x1 0)))])), (12, (.tup [(.cell (.nat .u64 (add64a (x2.getD (x0 + 1) 0) x1 0))), (.cell (.nat .u64 (add64b (x2.getD (x0 + 1) 0) x1 0)))])), (11, (u64v x1)), (10, (u64v (x2.getD (x0 + 1) 0))), (9, (.v (.cell (.ptr 0 0 (some ⟨x0 + 1, 1, 10, 0, 1, 0⟩))))), (8, (.v (.cell (.ptr 0 0 (some ⟨x0, 2, 10, 0, 0, 0⟩))))), (7, (.v (.cell (.ptr 0 0 (some ⟨x0, 2, 10, 0, 0, 0⟩))))), (6, (.v (.cell (.ptr 0 0 (some ⟨x0, 2, 10, 0, 0, 0⟩))))), (0, (.v (.cell (.ptr 0 0 (some ⟨x0, 2, 10, 0, 0, 0⟩))))), (1, (u64v x1))], [(0, (bU 10 (x2.set (x0 + 1) (add64a (x2.getD (x0 + 1) 0) x1 0)) 63))]⟩
    | false => none := by kernel_rfl
theorem g50R2 (x0 x1 : Nat) (x2 : List Nat) : g50D A n (pth 7) K ⟨[(0, (.v (.cell (.ptr 0 0 (some ⟨x0, 2, 10, 0, 0, 0⟩))))), (4, (u64v x1))], [(0, (bU 10 x2 63))]⟩ = K .normal ⟨[(24, (.v (.cell (.ptr 0 0 (some ⟨x0 + 0, 1, 10, 0, 0, 0⟩))))), (23, (.v (.cell (.ptr 0 0 (some ⟨x0, 2, 10, 0, 0, 0⟩))))), (22, (u64v (A.nb .add .u64 (x2.getD (x0 + 0) 0) x1))), (21, (u64v x1)), (20, (u64v (x2.getD (x0 + 0) 0))), (19, (.v (.cell (.ptr 0 0 (some ⟨x0 + 0, 1, 10, 0, 0, 0⟩))))), (18, (.v (.cell (.ptr 0 0 (some ⟨x0, 2, 10, 0, 0, 0⟩))))), (17, (.v (.cell (.ptr 0 0 (some ⟨x0, 2, 10, 0, 0, 0⟩))))), (0, (.v (.cell (.ptr 0 0 (some ⟨x0, 2, 10, 0, 0, 0⟩))))), (4, (u64v x1))], [(0, (bU 10 (x2.set (x0 + 0) (A.nb .add .u64 (x2.getD (x0 + 0) 0) x1)) 63))]⟩ := by kernel_rfl
end
def g50 {R : Type} (A : Ar) (n : Nat) (kk : AV → Heap → Option R) (x0 x1 : Nat) (x2 : List Nat) : Option R :=
  match (generalizing := false) carryok (x2.getD (x0 + 1) 0) x1 0 with
  | true => kk (.tup []) [(0, (bU 10 ((x2.set (x0 + 1) (add64a (x2.getD (x0 + 1) 0) x1 0)).set (x0 + 0) (A.nb .add .u64 ((x2.set (x0 + 1) (add64a (x2.getD (x0 + 1) 0) x1 0)).getD (x0 + 0) 0) (add64b (x2.getD (x0 + 1) 0) x1 0))) 63))]
  | false => none
set_option maxRecDepth 100000 in
theorem g50_eq {R : Type} (A : Ar) (n : Nat) (kk : AV → Heap → Option R) (x0 x1 : Nat) (x2 : List Nat) :
    funD A gtys (g50O A) g50an n (bodyOf Try.f50) g50res [(.v (.cell (.ptr 0 0 (some ⟨x0, 2, 10, 0, 0, 0⟩)))), (u64v x1)] [(0, (bU 10 x2 63))] kk = g50 A n kk x0 x1 x2 := by
  have h7 : (g50T kk) .normal ⟨[(24, (.v (.cell (.ptr 0 0 (some ⟨x0 + 0, 1, 10, 0, 0, 0⟩))))), (23, (.v (.cell (.ptr 0 0 (some ⟨x0, 2, 10, 0, 0, 0⟩))))), (22, (u64v (A.nb .add .u64 ((x2.set (x0 + 1) (add64a (x2.getD (x0 + 1) 0) x1 0)).getD (x0 + 0) 0) (add64b (x2.getD (x0 + 1) 0) x1 0)))), (21, (u64v (add64b (x2.getD (x0 + 1) 0) x1 0))), (20, (u64v ((x2.set (x0 + 1) (add64a (x2.getD (x0 + 1) 0) x1 0)).getD (x0 + 0) 0))), (19, (.v (.cell (.ptr 0 0 (some ⟨x0 + 0, 1, 10, 0, 0, 0⟩))))), (18, (.v (.cell (.ptr 0 0 (some ⟨x0, 2, 10, 0, 0, 0⟩))))), (17, (.v (.cell (.ptr 0 0 (some ⟨x0, 2, 10, 0, 0, 0⟩))))), (0, (.v (.cell (.ptr 0 0 (some ⟨x0, 2, 10, 0, 0, 0⟩))))), (4, (u64v (add64b (x2.getD (x0 + 1) 0) x1 0)))], [(0, (bU 10 ((x2.set (x0 + 1) (add64a (x2.getD (x0 + 1) 0) x1 0)).set (x0 + 0) (A.nb .add .u64 ((x2.set (x0 + 1) (add64a (x2.getD (x0 + 1) 0) x1 0)).getD (x0 + 0) 0) (add64b (x2.getD (x0 + 1) 0) x1 0))) 63))]⟩ = kk (.tup []) [(0, (bU 10 ((x2.set (x0 + 1) (add64a (x2.getD (x0 + 1) 0) x1 0)).set (x0 + 0) (A.nb .add .u64 ((x2.set (x0 + 1) (add64a (x2.getD (x0 + 1) 0) x1 0)).getD (x0 + 0) 0) (add64b (x2.getD (x0 + 1) 0) x1 0))) 63))] := by kernel_rfl
  have h5 := g50R2 A n (g50T kk) x0 (add64b (x2.getD (x0 + 1) 0) x1 0) (x2.set (x0 + 1) (add64a (x2.getD (x0 + 1) 0) x1 0))
  have h8 := (g50p11 A n _ ⟨[(4, (u64v (add64b (x2.getD (x0 + 1) 0) x1 0))), (16, (.v (.cell (.ptr 0 0 (some ⟨x0 + 1, 1, 10, 0, 1, 0⟩))))), (15, (.v (.cell (.ptr 0 0 (some ⟨x0, 2, 10, 0, 0, 0⟩))))), (14, (u64v (add64b (x2.getD (x0 + 1) 0) x1 0))), (13, (u64v (add64a (x2.getD (x0 + 1) 0) x1 0))), (5, (.tup [(.cell (.nat .u64 (add64a (x2.getD (x0 + 1) 0) x1 0))), (.cell (.nat .u64 (add64b (x2.getD (x0 + 1) 0) x1 0)))])), (12, (.tup [(.cell (.nat .u64 (add64a (x2.getD (x0 + 1) 0) x1 0))), (.cell (.nat .u64 (add64b (x2.getD (x0 + 1) 0) x1 0)))])), (11, (u64v x1)), (10, (u64v (x2.getD (x0 + 1) 0))), (9, (.v (.cell (.ptr 0 0 (some ⟨x0 + 1, 1, 10, 0, 1, 0⟩))))), (8, (.v (.cell (.ptr 0 0 (some ⟨x0, 2, 10, 0, 0, 0⟩))))), (7, (.v (.cell (.ptr 0 0 (some ⟨x0, 2, 10, 0, 0, 0⟩))))), (6, (.v (.cell (.ptr 0 0 (some ⟨x0, 2, 10, 0, 0, 0⟩))))), (0, (.v (.cell (.ptr 0 0 (some ⟨x0, 2, 10, 0, 0, 0⟩))))), (1, (u64v x1))], [(0, (bU 10 (x2.set (x0 + 1) (add64a (x2.getD (x0 + 1) 0) x1 0)) 63))]⟩ _ (by kernel_rfl)).trans h5
  rw [h7] at h8
  have h9 := (g50Qn A n _ _ _).trans h8
  have h3 := g50R1 A n (g50Q A n (pth 7) (g50T kk)) x0 x1 x2
  have h10 := (g50p10 A n _ ⟨[(4, (u64v 0)), (0, (.v (.cell (.ptr 0 0 (some ⟨x0, 2, 10, 0, 0, 0⟩))))), (1, (u64v x1))], [(0, (bU 10 x2 63))]⟩ _ (by kernel_rfl)).trans h3
  rw [h9] at h10
  have h11 := (g50p1 A n _ _).trans h10
  have h12 := (g50Qn A n _ _ _).trans h11
  have h1 := g50R0 A n (g50Q A n (pth 3) (g50T kk)) x0 x1 x2
  have h13 := (g50p0 A n _ ⟨[(0, (.v (.cell (.ptr 0 0 (some ⟨x0, 2, 10, 0, 0, 0⟩))))), (1, (u64v x1))], [(0, (bU 10 x2 63))]⟩ _ (by kernel_rfl)).trans h1
  rw [h12] at h13
  have h14 := (g50p A n _ _).trans h13
  exact (show funD A gtys (g50O A) g50an n (bodyOf Try.f50) g50res [(.v (.cell (.ptr 0 0 (some ⟨x0, 2, 10, 0, 0, 0⟩)))), (u64v x1)] [(0, (bU 10 x2 63))] kk = g50D A n (pth 1) (g50T kk) ⟨[(0, (.v (.cell (.ptr 0 0 (some ⟨x0, 2, 10, 0, 0, 0⟩))))), (1, (u64v x1))], [(0, (bU 10 x2 63))]⟩ from by kernel_rfl).trans (h14.trans (by kernel_rfl))
def g50is (o : Option (AV × Heap)) : Bool := match o with
  | some (.tup [], [(n0, ⟨[.nums .u64 n1 _], n2, n3⟩)]) => Nat.beq n0 0 && (Nat.beq n1 10 && (Nat.beq n2 63 && (Nat.beq n3 1)))
  | _ => false
def g50g0 (o : Option (AV × Heap)) : List Nat := match o with
  | some (.tup [], [(_, ⟨[.nums .u64 _ x], _, _⟩)]) => x
  | _ => []
theorem g50is_spec {o : Option (AV × Heap)} (h : g50is o = true) : o = some ((.tup []), [(0, (bU 10 (g50g0 o) 63))]) := by
  unfold g50is at h
  split at h
  · rename_i n0 n1 z2 n2 n3
    simp only [Bool.and_eq_true] at h
    have en0 := beq_true h.1
    subst en0
    replace h := h.2
    have en1 := beq_true h.1
    subst en1
    replace h := h.2
    have en2 := beq_true h.1
    subst en2
    replace h := h.2
    have en3 := beq_true h
    subst en3
    rfl
  · cases h
def g50v (A : Ar) (x0 x1 : Nat) (x2 : List Nat) : Option (AV × Heap) := g50 A (100000) (outH [0] none) x0 x1 x2
def g50ok (A : Ar) (x0 x1 : Nat) (x2 : List Nat) : Bool := g50is (g50v A x0 x1 x2)
def g50r0 (A : Ar) (x0 x1 : Nat) (x2 : List Nat) : List Nat := g50g0 (g50v A x0 x1 x2)
theorem g50ok_spec {A : Ar} {x0 x1 x2} (h : g50ok A x0 x1 x2 = true) : g50v A x0 x1 x2 = some ((.tup []), [(0, (bU 10 (g50r0 A x0 x1 x2) 63))]) := g50is_spec h
def g50o (A : Ar) (args : List AV) (h : Heap) : Option (Bool × AV × Heap) := match args, h with
  | [.v (.cell (.ptr n0 n1 (some ⟨x0, n2, n3, n4, n5, n6⟩))), .v (.cell (.nat .u64 x1))], [(n7, ⟨[.nums .u64 n8 x2], n9, n10⟩)] => some (Nat.beq n0 0 && (Nat.beq n1 0 && (Nat.beq n2 2 && (Nat.beq n3 10 && (Nat.beq n4 0 && (Nat.beq n5 0 && (Nat.beq n6 0 && (Nat.beq n7 0 && (Nat.beq n8 10 && (Nat.beq n9 63 && (Nat.beq n10 1 && (g50ok A x0 x1 x2))))))))))), (.tup []), [(0, (bU 10 (g50r0 A x0 x1 x2) 63))])
  | _, _ => none
theorem g50o_sound : ∀ args h v h', g50o realA args h = some (true, v, h') → FnH Try.prog 50 args h v h' := by
  intro args h v h' hh
  unfold g50o at hh
  split at hh
  · rename_i n0 n1 x0 n2 n3 n4 n5 n6 x1 n7 n8 x2 n9 n10
    simp only [Option.some.injEq, Prod.mk.injEq] at hh
    obtain ⟨hc, hv, hh⟩ := hh
    subst hv
    subst hh
    simp only [Bool.and_eq_true] at hc
    have en0 := beq_true hc.1
    subst en0
    replace hc := hc.2
    have en1 := beq_true hc.1
    subst en1
    replace hc := hc.2
    have en2 := beq_true hc.1
    subst en2
    replace hc := hc.2
    have en3 := beq_true hc.1
    subst en3
    replace hc := hc.2
    have en4 := beq_true hc.1
    subst en4
    replace hc := hc.2
    have en5 := beq_true hc.1
    subst en5
    replace hc := hc.2
    have en6 := beq_true hc.1
    subst en6
    replace hc := hc.2
    have en7 := beq_true hc.1
    subst en7
    replace hc := hc.2
    have en8 := beq_true hc.1
    subst en8
    replace hc := hc.2
    have en9 := beq_true hc.1
    subst en9
    replace hc := hc.2
    have en10 := beq_true hc.1
    subst en10
    replace hc := hc.2
    exact fnh_of mixed gtysOK g50O_sound g50O_det (an := g50an) (n := 100000) Try.func50 (c := bodyOf Try.f50) rfl (by kernel_rfl) Try.call50 (Nat.le_of_ble_eq_true rfl) (pins := [0]) (nilr := none) (fun _ => (g50_eq realA (100000) (outH [0] none) x0 x1 x2).trans (show g50v realA x0 x1 x2 = _ from g50ok_spec hc))
  · cases hh
/- (engrosser/field.limbs).times -/
def g42O (A : Ar) : Orc := orcH [(51, g51o A), (47, g47o A)] [(49, ⟨[], none, (g49o A)⟩), (50, ⟨[], none, (g50o A)⟩)]
theorem g42O_sound : OSound Try.prog (g42O realA) := orcH_sound (fun f g hm args v hv => by
    simp only [List.mem_cons, List.not_mem_nil, or_false, Prod.mk.injEq] at hm
    rcases hm with ⟨rfl, rfl⟩ | ⟨rfl, rfl⟩
    · exact g51o_sound _ _ hv
    · exact g47o_sound _ _ hv) (fun f e hm args h v h' hv => by
    simp only [List.mem_cons, List.not_mem_nil, or_false, Prod.mk.injEq] at hm
    rcases hm with ⟨rfl, rfl⟩ | ⟨rfl, rfl⟩
    · exact g49o_sound _ _ _ _ hv
    · exact g50o_sound _ _ _ _ hv)
theorem g42O_det : ODet (g42O realA) := orcH_det _ _
def g42an : Ann := [(0, ([0, 1], [])), (1, ([2, 3, 4], [1000, 1001, 1002])), (2, ([2, 3, 4, 5], [1000, 1001, 1002, 2000])), (3, ([3, 4, 5, 14, 15], [1001, 1002, 2000])), (4, ([3, 4, 5, 14, 15], [1001, 1002, 2000])), (5, ([3, 4, 5, 6, 7, 14, 15], [1001, 1002, 2000])), (6, ([3, 4, 5, 6, 7, 14, 15, 19, 20], [1001, 1002, 2000])), (7, ([3, 4, 5, 6, 7, 14, 15, 19, 20], [1001, 1002, 2000])), (8, ([3, 4, 5, 6, 7, 8, 9, 14, 15, 19, 20], [1001, 1002, 2000])), (9, ([3, 4, 5, 6, 7, 9, 10, 14, 15, 19, 20], [1001, 1002, 2000])), (10, ([3, 4, 5, 6, 7, 9, 10, 14, 15, 19, 20], [1001, 1002, 2000])), (11, ([3, 4, 5, 6, 7, 9, 10, 14, 15, 19, 20], [1001, 1002, 2000])), (12, ([3, 4, 5, 6, 7, 14, 15, 19, 20], [1001, 1002, 2000])), (13, ([3, 4, 5, 14, 15], [1001, 1002, 2000])), (14, ([4, 5], [1002, 2000])), (15, ([4, 5, 11], [1002, 2000, 15000])), (16, ([4, 5, 11, 12], [1002, 2000, 15000])), (17, ([4, 5, 11, 12, 40], [1002, 2000, 15000])), (18, ([4, 5, 11, 12, 40], [1002, 2000, 15000])), (19, ([4, 5, 11, 12, 13, 40], [1002, 2000, 15000])), (20, ([4, 5, 11, 13, 40], [1002, 2000, 15000])), (21, ([4, 5, 11, 12, 40], [1002, 2000, 15000])), (22, ([4, 11, 12], [1002, 15000])), (23, ([4, 11], [1002, 15000]))]
def g42res : List ResultVar := [.cell 4 44]
noncomputable def g42D {R : Type} (A : Ar) (n : Nat) (p : List Bool) (K : Ex → St → Option R) (s : St) : Option R := codeD A gtys (g42O A) g42an n (sub (bodyOf Try.f42) p) K s
noncomputable def g42V {R : Type} (A : Ar) (n : Nat) (p : List Bool) (m : Nat) (K : Ex → St → Option R) (s : St) : Option R := loopD (fun K' s'' => codeD A gtys (g42O A) g42an n (sub (bodyOf Try.f42) p) K' s'') m K s
noncomputable def g42Q {R : Type} (A : Ar) (n : Nat) (p : List Bool) (K : Ex → St → Option R) : Ex → St → Option R := seqC (g42D A n p K) K
noncomputable def g42W {R : Type} (A : Ar) (n : Nat) (p : List Bool) (m : Nat) (K : Ex → St → Option R) : Ex → St → Option R := seqC (g42V A n p m K) K
noncomputable def g42T {R : Type} (kk : AV → Heap → Option R) : Ex → St → Option R := finD gtys g42res kk
theorem g42Qn {R : Type} (A : Ar) (n : Nat) (p : List Bool) (K : Ex → St → Option R) (s : St) : g42Q A n p K .normal s = g42D A n p K s := rfl
theorem g42Qe {R : Type} (A : Ar) (n : Nat) (p : List Bool) (K : Ex → St → Option R) (i : Nat) (s : St) : g42Q A n p K (.exit i) s = K (.exit i) s := rfl
theorem g42Wn {R : Type} (A : Ar) (n : Nat) (p : List Bool) (m : Nat) (K : Ex → St → Option R) (s : St) : g42W A n p m K .normal s = g42V A n p m K s := rfl
theorem g42We {R : Type} (A : Ar) (n : Nat) (p : List Bool) (m : Nat) (K : Ex → St → Option R) (i : Nat) (s : St) : g42W A n p m K (.exit i) s = K (.exit i) s := rfl
theorem g42Vs {R : Type} (A : Ar) (n : Nat) (p : List Bool) (m : Nat) (K : Ex → St → Option R) (s : St) : g42V A n p (m + 1) K s = g42D A n p (g42W A n p m K) s := rfl
section
variable {R : Type} (A : Ar) (n : Nat) (K : Ex → St → Option R) (s : St)
theorem g42p : g42D A n (pth 1) K s = g42D A n (pth 2) (g42Q A n (pth 3) K) s := by kernel_rfl
theorem g42p0 (s' : St) (h : keep g42an 0 s = keep g42an 0 s') : g42D A n (pth 2) K s = g42D A n (pth 2) K s' := codeD_first (id := 0) (by kernel_rfl) h K
theorem g42p1 : g42D A n (pth 3) K s = g42D A n (pth 5) (g42Q A n (pth 7) K) s := by kernel_rfl
theorem g42p10 (s' : St) (h : keep g42an 1 s = keep g42an 1 s') : g42D A n (pth 5) K s = g42D A n (pth 5) K s' := codeD_first (id := 1) (by kernel_rfl) h K
theorem g42p11 : g42D A n (pth 7) K s = g42D A n (pth 11) (g42Q A n (pth 15) K) s := by kernel_rfl
theorem g42p110 : g42D A n (pth 11) K s = g42D A n (pth 19) (g42Q A n (pth 27) K) s := by kernel_rfl
theorem g42p1100 (s' : St) (h : keep g42an 2 s = keep g42an 2 s') : g42D A n (pth 19) K s = g42D A n (pth 19) K s' := codeD_first (id := 2) (by kernel_rfl) h K
theorem g42p1101 : g42D A n (pth 27) K s = g42D A n (pth 43) (blockK 0 K) s := by kernel_rfl
theorem g42p11010 : g42D A n (pth 43) K s = g42V A n (pth 75) n K s := by kernel_rfl
theorem g42p110100 : g42D A n (pth 75) K s = g42D A n (pth 139) (g42Q A n (pth 203) K) s := by kernel_rfl
theorem g42p1101000 (s' : St) (h : keep g42an 3 s = keep g42an 3 s') : g42D A n (pth 139) K s = g42D A n (pth 139) K s' := codeD_first (id := 3) (by kernel_rfl) h K
theorem g42p1101001 : g42D A n (pth 203) K s = g42D A n (pth 331) (g42Q A n (pth 459) K) s := by kernel_rfl
theorem g42p11010010 (t : Bool) : ev s (.tmp 16) = some (.v (.cell (.bool t))) → g42D A n (pth 331) K s = (match t with
    | true => g42D A n (pth 587) K s
    | false => g42D A n (pth 843) K s) := codeD_cond t
theorem g42p110100100 : g42D A n (pth 587) K s = K .normal s := by kernel_rfl
theorem g42p110100101 : g42D A n (pth 843) K s = K (.exit 0) s := by kernel_rfl
theorem g42p11010011 : g42D A n (pth 459) K s = g42D A n (pth 715) (g42Q A n (pth 971) K) s := by kernel_rfl
theorem g42p110100110 : g42D A n (pth 715) K s = g42D A n (pth 1227) (blockK 1 K) s := by kernel_rfl
theorem g42p1101001100 : g42D A n (pth 1227) K s = g42D A n (pth 2251) (g42Q A n (pth 3275) K) s := by kernel_rfl
theorem g42p11010011000 (s' : St) (h : keep g42an 4 s = keep g42an 4 s') : g42D A n (pth 2251) K s = g42D A n (pth 2251) K s' := codeD_first (id := 4) (by kernel_rfl) h K
theorem g42p11010011001 : g42D A n (pth 3275) K s = g42D A n (pth 5323) (g42Q A n (pth 7371) K) s := by kernel_rfl
theorem g42p110100110010 (s' : St) (h : keep g42an 5 s = keep g42an 5 s') : g42D A n (pth 5323) K s = g42D A n (pth 5323) K s' := codeD_first (id := 5) (by kernel_rfl) h K
theorem g42p110100110011 : g42D A n (pth 7371) K s = g42D A n (pth 11467) (blockK 2 K) s := by kernel_rfl
theorem g42p1101001100110 : g42D A n (pth 11467) K s = g42V A n (pth 19659) n K s := by kernel_rfl
theorem g42p11010011001100 : g42D A n (pth 19659) K s = g42D A n (pth 36043) (g42Q A n (pth 52427) K) s := by kernel_rfl
theorem g42p110100110011000 (s' : St) (h : keep g42an 6 s = keep g42an 6 s') : g42D A n (pth 36043) K s = g42D A n (pth 36043) K s' := codeD_first (id := 6) (by kernel_rfl) h K
theorem g42p110100110011001 : g42D A n (pth 52427) K s = g42D A n (pth 85195) (g42Q A n (pth 117963) K) s := by kernel_rfl
theorem g42p1101001100110010 (t : Bool) : ev s (.tmp 21) = some (.v (.cell (.bool t))) → g42D A n (pth 85195) K s = (match t with
    | true => g42D A n (pth 150731) K s
    | false => g42D A n (pth 216267) K s) := codeD_cond t
theorem g42p11010011001100100 : g42D A n (pth 150731) K s = K .normal s := by kernel_rfl
theorem g42p11010011001100101 : g42D A n (pth 216267) K s = K (.exit 2) s := by kernel_rfl
theorem g42p1101001100110011 : g42D A n (pth 117963) K s = g42D A n (pth 183499) (g42Q A n (pth 249035) K) s := by kernel_rfl
theorem g42p11010011001100110 : g42D A n (pth 183499) K s = g42D A n (pth 314571) (blockK 3 K) s := by kernel_rfl
theorem g42p110100110011001100 : g42D A n (pth 314571) K s = g42D A n (pth 576715) (g42Q A n (pth 838859) K) s := by kernel_rfl
theorem g42p1101001100110011000 (s' : St) (h : keep g42an 7 s = keep g42an 7 s') : g42D A n (pth 576715) K s = g42D A n (pth 576715) K s' := codeD_first (id := 7) (by kernel_rfl) h K
theorem g42p1101001100110011001 : g42D A n (pth 838859) K s = g42D A n (pth 1363147) (g42Q A n (pth 1887435) K) s := by kernel_rfl
theorem g42p11010011001100110010 (s' : St) (h : keep g42an 8 s = keep g42an 8 s') : g42D A n (pth 1363147) K s = g42D A n (pth 1363147) K s' := codeD_first (id := 8) (by kernel_rfl) h K
theorem g42p11010011001100110011 : g42D A n (pth 1887435) K s = g42D A n (pth 2936011) (g42Q A n (pth 3984587) K) s := by kernel_rfl
theorem g42p110100110011001100110 : g42D A n (pth 2936011) K s = g42D A n (pth 5033163) (g42Q A n (pth 7130315) K) s := by kernel_rfl
theorem g42p1101001100110011001100 (s' : St) (h : keep g42an 9 s = keep g42an 9 s') : g42D A n (pth 5033163) K s = g42D A n (pth 5033163) K s' := codeD_first (id := 9) (by kernel_rfl) h K
theorem g42p1101001100110011001101 (t : Bool) : ev s (.tmp 28) = some (.v (.cell (.bool t))) → g42D A n (pth 7130315) K s = (match t with
    | true => g42D A n (pth 11324619) K s
    | false => g42D A n (pth 15518923) K s) := codeD_cond t
theorem g42p11010011001100110011010 (s' : St) (h : keep g42an 10 s = keep g42an 10 s') : g42D A n (pth 11324619) K s = g42D A n (pth 11324619) K s' := codeD_first (id := 10) (by kernel_rfl) h K
theorem g42p11010011001100110011011 : g42D A n (pth 15518923) K s = K .normal s := by kernel_rfl
theorem g42p110100110011001100111 (s' : St) (h : keep g42an 11 s = keep g42an 11 s') : g42D A n (pth 3984587) K s = g42D A n (pth 3984587) K s' := codeD_first (id := 11) (by kernel_rfl) h K
theorem g42p11010011001100111 (s' : St) (h : keep g42an 12 s = keep g42an 12 s') : g42D A n (pth 249035) K s = g42D A n (pth 249035) K s' := codeD_first (id := 12) (by kernel_rfl) h K
theorem g42p110100111 (s' : St) (h : keep g42an 13 s = keep g42an 13 s') : g42D A n (pth 971) K s = g42D A n (pth 971) K s' := codeD_first (id := 13) (by kernel_rfl) h K
theorem g42p111 : g42D A n (pth 15) K s = g42D A n (pth 23) (g42Q A n (pth 31) K) s := by kernel_rfl
theorem g42p1110 (s' : St) (h : keep g42an 14 s = keep g42an 14 s') : g42D A n (pth 23) K s = g42D A n (pth 23) K s' := codeD_first (id := 14) (by kernel_rfl) h K
theorem g42p1111 : g42D A n (pth 31) K s = g42D A n (pth 47) (g42Q A n (pth 63) K) s := by kernel_rfl
theorem g42p11110 (s' : St) (h : keep g42an 15 s = keep g42an 15 s') : g42D A n (pth 47) K s = g42D A n (pth 47) K s' := codeD_first (id := 15) (by kernel_rfl) h K
theorem g42p11111 : g42D A n (pth 63) K s = g42D A n (pth 95) (g42Q A n (pth 127) K) s := by kernel_rfl
theorem g42p111110 : g42D A n (pth 95) K s = g42D A n (pth 159) (g42Q A n (pth 223) K) s := by kernel_rfl
theorem g42p1111100 (s' : St) (h : keep g42an 16 s = keep g42an 16 s') : g42D A n (pth 159) K s = g42D A n (pth 159) K s' := codeD_first (id := 16) (by kernel_rfl) h K
theorem g42p1111101 : g42D A n (pth 223) K s = g42D A n (pth 351) (blockK 4 K) s := by kernel_rfl
theorem g42p11111010 : g42D A n (pth 351) K s = g42V A n (pth 607) n K s := by kernel_rfl
theorem g42p111110100 : g42D A n (pth 607) K s = g42D A n (pth 1119) (g42Q A n (pth 1631) K) s := by kernel_rfl
theorem g42p1111101000 (s' : St) (h : keep g42an 17 s = keep g42an 17 s') : g42D A n (pth 1119) K s = g42D A n (pth 1119) K s' := codeD_first (id := 17) (by kernel_rfl) h K
theorem g42p1111101001 : g42D A n (pth 1631) K s = g42D A n (pth 2655) (g42Q A n (pth 3679) K) s := by kernel_rfl
theorem g42p11111010010 (t : Bool) : ev s (.tmp 41) = some (.v (.cell (.bool t))) → g42D A n (pth 2655) K s = (match t with
    | true => g42D A n (pth 4703) K s
    | false => g42D A n (pth 6751) K s) := codeD_cond t
theorem g42p111110100100 : g42D A n (pth 4703) K s = K .normal s := by kernel_rfl
theorem g42p111110100101 : g42D A n (pth 6751) K s = K (.exit 4) s := by kernel_rfl
theorem g42p11111010011 : g42D A n (pth 3679) K s = g42D A n (pth 5727) (g42Q A n (pth 7775) K) s := by kernel_rfl
theorem g42p111110100110 : g42D A n (pth 5727) K s = g42D A n (pth 9823) (blockK 5 K) s := by kernel_rfl
theorem g42p1111101001100 : g42D A n (pth 9823) K s = g42D A n (pth 18015) (g42Q A n (pth 26207) K) s := by kernel_rfl
theorem g42p11111010011000 (s' : St) (h : keep g42an 18 s = keep g42an 18 s') : g42D A n (pth 18015) K s = g42D A n (pth 18015) K s' := codeD_first (id := 18) (by kernel_rfl) h K
theorem g42p11111010011001 : g42D A n (pth 26207) K s = g42D A n (pth 42591) (g42Q A n (pth 58975) K) s := by kernel_rfl
theorem g42p111110100110010 (s' : St) (h : keep g42an 19 s = keep g42an 19 s') : g42D A n (pth 42591) K s = g42D A n (pth 42591) K s' := codeD_first (id := 19) (by kernel_rfl) h K
theorem g42p111110100110011 (s' : St) (h : keep g42an 20 s = keep g42an 20 s') : g42D A n (pth 58975) K s = g42D A n (pth 58975) K s' := codeD_first (id := 20) (by kernel_rfl) h K
theorem g42p111110100111 (s' : St) (h : keep g42an 21 s = keep g42an 21 s') : g42D A n (pth 7775) K s = g42D A n (pth 7775) K s' := codeD_first (id := 21) (by kernel_rfl) h K
theorem g42p111111 : g42D A n (pth 127) K s = g42D A n (pth 191) (g42Q A n (pth 255) K) s := by kernel_rfl
theorem g42p1111110 (s' : St) (h : keep g42an 22 s = keep g42an 22 s') : g42D A n (pth 191) K s = g42D A n (pth 191) K s' := codeD_first (id := 22) (by kernel_rfl) h K
theorem g42p1111111 : g42D A n (pth 255) K s = g42D A n (pth 383) (g42Q A n (pth 511) K) s := by kernel_rfl
theorem g42p11111110 (s' : St) (h : keep g42an 23 s = keep g42an 23 s') : g42D A n (pth 383) K s = g42D A n (pth 383) K s' := codeD_first (id := 23) (by kernel_rfl) h K
theorem g42p11111111 : g42D A n (pth 511) K s = K .ret s := by kernel_rfl
theorem g42R11 (x0 : Int) (x1 x2 : Nat) (x3 : Int) (x4 : List Nat) (x5 : Int) (x6 : List Nat) (x7 : Int) (x8 x9 x10 : List Nat) : g42D A n (pth 3984587) K ⟨[(3, (pT 1001 0)), (4, (pT 1002 0)), (5, (pT 2000 0)), (6, (i6 x0)), (7, (u64v x1)), (9, (u64v x2)), (10, (i6 x3)), (14, (aN .u64 5 x4)), (15, (i6 x5)), (19, (aN .u64 5 x6)), (20, (i6 x7))], [(1001, (bU 5 x8 44)), (1002, (bU 5 x9 44)), (2000, (bU 10 x10 63))]⟩ = match (generalizing := false) A.neg x3 with
    | true => none
    | false => match (generalizing := false) A.lt (A.toN x3) 5 with
      | true => match (generalizing := false) g49ok A ((A.toN x3) * 2) x1 x2 x10 with
        | true => K .normal ⟨[(37, (.tup [])), (36, (u64v x2)), (35, (u64v x1)), (34, (.v (.cell (.ptr 2000 0 (some ⟨(A.toN x3) * 2, 2, 10, 0, 0, 0⟩))))), (33, (i6 x3)), (3, (pT 1001 0)), (4, (pT 1002 0)), (5, (pT 2000 0)), (6, (i6 x0)), (7, (u64v x1)), (9, (u64v x2)), (10, (i6 x3)), (14, (aN .u64 5 x4)), (15, (i6 x5)), (19, (aN .u64 5 x6)), (20, (i6 x7))], [(1001, (bU 5 x8 44)), (1002, (bU 5 x9 44)), (2000, (bU 10 (g49r0 A ((A.toN x3) * 2) x1 x2 x10) 63))]⟩
        | false => none
      | false => none := by kernel_rfl
theorem g42R12 (x0 : Int) (x1 : Nat) (x2 : List Nat) (x3 : Int) (x4 : List Nat) (x5 : Int) (x6 x7 x8 : List Nat) : g42D A n (pth 249035) K ⟨[(3, (pT 1001 0)), (4, (pT 1002 0)), (5, (pT 2000 0)), (6, (i6 x0)), (7, (u64v x1)), (14, (aN .u64 5 x2)), (15, (i6 x3)), (19, (aN .u64 5 x4)), (20, (i6 x5))], [(1001, (bU 5 x6 44)), (1002, (bU 5 x7 44)), (2000, (bU 10 x8 63))]⟩ = K .normal ⟨[(20, (i6 (A.ib .add .i64 x5 1))), (38, (i6 (A.ib .add .i64 x5 1))), (3, (pT 1001 0)), (4, (pT 1002 0)), (5, (pT 2000 0)), (6, (i6 x0)), (7, (u64v x1)), (14, (aN .u64 5 x2)), (15, (i6 x3)), (19, (aN .u64 5 x4)), (20, (i6 x5))], [(1001, (bU 5 x6 44)), (1002, (bU 5 x7 44)), (2000, (bU 10 x8 63))]⟩ := by kernel_rfl
theorem g42R7 (x0 : Int) (x1 : Nat) (x2 : List Nat) (x3 : Int) (x4 : List Nat) (x5 : Int) (x6 x7 x8 : List Nat) : g42D A n (pth 576715) K ⟨[(3, (pT 1001 0)), (4, (pT 1002 0)), (5, (pT 2000 0)), (6, (i6 x0)), (7, (u64v x1)), (14, (aN .u64 5 x2)), (15, (i6 x3)), (19, (aN .u64 5 x4)), (20, (i6 x5))], [(1001, (bU 5 x6 44)), (1002, (bU 5 x7 44)), (2000, (bU 10 x8 63))]⟩ = match (generalizing := false) A.neg x5 with
    | true => none
    | false => match (generalizing := false) A.lt (A.toN x5) 5 with
      | true => K .normal ⟨[(9, (u64v (x4.getD (A.toN x5) 0))), (8, (i6 x5)), (23, (u64v (x4.getD (A.toN x5) 0))), (22, (i6 x5)), (3, (pT 1001 0)), (4, (pT 1002 0)), (5, (pT 2000 0)), (6, (i6 x0)), (7, (u64v x1)), (14, (aN .u64 5 x2)), (15, (i6 x3)), (19, (aN .u64 5 x4)), (20, (i6 x5))], [(1001, (bU 5 x6 44)), (1002, (bU 5 x7 44)), (2000, (bU 10 x8 63))]⟩
      | false => none := by kernel_rfl
theorem g42R8 (x0 : Int) (x1 : Nat) (x2 : Int) (x3 : Nat) (x4 : List Nat) (x5 : Int) (x6 : List Nat) (x7 : Int) (x8 x9 x10 : List Nat) : g42D A n (pth 1363147) K ⟨[(3, (pT 1001 0)), (4, (pT 1002 0)), (5, (pT 2000 0)), (6, (i6 x0)), (7, (u64v x1)), (8, (i6 x2)), (9, (u64v x3)), (14, (aN .u64 5 x4)), (15, (i6 x5)), (19, (aN .u64 5 x6)), (20, (i6 x7))], [(1001, (bU 5 x8 44)), (1002, (bU 5 x9 44)), (2000, (bU 10 x10 63))]⟩ = K .normal ⟨[(10, (i6 (A.ib .add .i64 x0 x2))), (26, (i6 (A.ib .add .i64 x0 x2))), (25, (i6 x2)), (24, (i6 x0)), (3, (pT 1001 0)), (4, (pT 1002 0)), (5, (pT 2000 0)), (6, (i6 x0)), (7, (u64v x1)), (8, (i6 x2)), (9, (u64v x3)), (14, (aN .u64 5 x4)), (15, (i6 x5)), (19, (aN .u64 5 x6)), (20, (i6 x7))], [(1001, (bU 5 x8 44)), (1002, (bU 5 x9 44)), (2000, (bU 10 x10 63))]⟩ := by kernel_rfl
theorem g42R9 (x0 : Int) (x1 x2 : Nat) (x3 : Int) (x4 : List Nat) (x5 : Int) (x6 : List Nat) (x7 : Int) (x8 x9 x10 : List Nat) : g42D A n (pth 5033163) K ⟨[(3, (pT 1001 0)), (4, (pT 1002 0)), (5, (pT 2000 0)), (6, (i6 x0)), (7, (u64v x1)), (9, (u64v x2)), (10, (i6 x3)), (14, (aN .u64 5 x4)), (15, (i6 x5)), (19, (aN .u64 5 x6)), (20, (i6 x7))], [(1001, (bU 5 x8 44)), (1002, (bU 5 x9 44)), (2000, (bU 10 x10 63))]⟩ = K .normal ⟨[(28, (bO (A.ic .geq x3 5))), (27, (i6 x3)), (3, (pT 1001 0)), (4, (pT 1002 0)), (5, (pT 2000 0)), (6, (i6 x0)), (7, (u64v x1)), (9, (u64v x2)), (10, (i6 x3)), (14, (aN .u64 5 x4)), (15, (i6 x5)), (19, (aN .u64 5 x6)), (20, (i6 x7))], [(1001, (bU 5 x8 44)), (1002, (bU 5 x9 44)), (2000, (bU 10 x10 63))]⟩ := by kernel_rfl
theorem g42R10 (x0 : Int) (x1 x2 : Nat) (x3 : Int) (x4 : List Nat) (x5 : Int) (x6 : List Nat) (x7 : Int) (x8 x9 x10 : List Nat) : g42D A n (pth 11324619) K ⟨[(3, (pT 1001 0)), (4, (pT 1002 0)), (5, (pT 2000 0)), (6, (i6 x0)), (7, (u64v x1)), (9, (u64v x2)), (10, (i6 x3)), (14, (aN .u64 5 x4)), (15, (i6 x5)), (19, (aN .u64 5 x6)), (20, (i6 x7))], [(1001, (bU 5 x8 44)), (1002, (bU 5 x9 44)), (2000, (bU 10 x10 63))]⟩ = K .normal ⟨[(9, (u64v (A.nb .mul .u64 x2 19))), (10, (i6 (A.ib .sub .i64 x3 5))), (32, (u64v (A.nb .mul .u64 x2 19))), (31, (u64v x2)), (30, (i6 (A.ib .sub .i64 x3 5))), (29, (i6 x3)), (3, (pT 1001 0)), (4, (pT 1002 0)), (5, (pT 2000 0)), (6, (i6 x0)), (7, (u64v x1)), (9, (u64v x2)), (10, (i6 x3)), (14, (aN .u64 5 x4)), (15, (i6 x5)), (19, (aN .u64 5 x6)), (20, (i6 x7))], [(1001, (bU 5 x8 44)), (1002, (bU 5 x9 44)), (2000, (bU 10 x10 63))]⟩ := by kernel_rfl
theorem g42R6 (x0 : Int) (x1 : Nat) (x2 : List Nat) (x3 : Int) (x4 : List Nat) (x5 : Int) (x6 x7 x8 : List Nat) : g42D A n (pth 36043) K ⟨[(3, (pT 1001 0)), (4, (pT 1002 0)), (5, (pT 2000 0)), (6, (i6 x0)), (7, (u64v x1)), (14, (aN .u64 5 x2)), (15, (i6 x3)), (19, (aN .u64 5 x4)), (20, (i6 x5))], [(1001, (bU 5 x6 44)), (1002, (bU 5 x7 44)), (2000, (bU 10 x8 63))]⟩ = K .normal ⟨[(21, (bO (A.ic .lss x5 5))), (3, (pT 1001 0)), (4, (pT 1002 0)), (5, (pT 2000 0)), (6, (i6 x0)), (7, (u64v x1)), (14, (aN .u64 5 x2)), (15, (i6 x3)), (19, (aN .u64 5 x4)), (20, (i6 x5))], [(1001, (bU 5 x6 44)), (1002, (bU 5 x7 44)), (2000, (bU 10 x8 63))]⟩ := by kernel_rfl
theorem g42R13 (x0 : List Nat) (x1 : Int) (x2 x3 x4 : List Nat) : g42D A n (pth 971) K ⟨[(3, (pT 1001 0)), (4, (pT 1002 0)), (5, (pT 2000 0)), (14, (aN .u64 5 x0)), (15, (i6 x1))], [(1001, (bU 5 x2 44)), (1002, (bU 5 x3 44)), (2000, (bU 10 x4 63))]⟩ = K .normal ⟨[(15, (i6 (A.ib .add .i64 x1 1))), (39, (i6 (A.ib .add .i64 x1 1))), (3, (pT 1001 0)), (4, (pT 1002 0)), (5, (pT 2000 0)), (14, (aN .u64 5 x0)), (15, (i6 x1))], [(1001, (bU 5 x2 44)), (1002, (bU 5 x3 44)), (2000, (bU 10 x4 63))]⟩ := by kernel_rfl
theorem g42R4 (x0 : List Nat) (x1 : Int) (x2 x3 x4 : List Nat) : g42D A n (pth 2251) K ⟨[(3, (pT 1001 0)), (4, (pT 1002 0)), (5, (pT 2000 0)), (14, (aN .u64 5 x0)), (15, (i6 x1))], [(1001, (bU 5 x2 44)), (1002, (bU 5 x3 44)), (2000, (bU 10 x4 63))]⟩ = match (generalizing := false) A.neg x1 with
    | true => none
    | false => match (generalizing := false) A.lt (A.toN x1) 5 with
      | true => K .normal ⟨[(7, (u64v (x0.getD (A.toN x1) 0))), (6, (i6 x1)), (18, (u64v (x0.getD (A.toN x1) 0))), (17, (i6 x1)), (3, (pT 1001 0)), (4, (pT 1002 0)), (5, (pT 2000 0)), (14, (aN .u64 5 x0)), (15, (i6 x1))], [(1001, (bU 5 x2 44)), (1002, (bU 5 x3 44)), (2000, (bU 10 x4 63))]⟩
      | false => none := by kernel_rfl
theorem g42R5 (x0 : Int) (x1 : Nat) (x2 : List Nat) (x3 : Int) (x4 x5 x6 : List Nat) : g42D A n (pth 5323) K ⟨[(3, (pT 1001 0)), (4, (pT 1002 0)), (5, (pT 2000 0)), (6, (i6 x0)), (7, (u64v x1)), (14, (aN .u64 5 x2)), (15, (i6 x3))], [(1001, (bU 5 x4 44)), (1002, (bU 5 x5 44)), (2000, (bU 10 x6 63))]⟩ = K .normal ⟨[(20, (i6 0)), (19, (aN .u64 5 x4)), (3, (pT 1001 0)), (4, (pT 1002 0)), (5, (pT 2000 0)), (6, (i6 x0)), (7, (u64v x1)), (14, (aN .u64 5 x2)), (15, (i6 x3))], [(1001, (bU 5 x4 44)), (1002, (bU 5 x5 44)), (2000, (bU 10 x6 63))]⟩ := by kernel_rfl
theorem g42R18 (x0 : Nat) (x1 : Int) (x2 x3 x4 : List Nat) : g42D A n (pth 18015) K ⟨[(4, (pT 1002 0)), (5, (pT 2000 0)), (11, (pT 15000 0)), (12, (u64v x0)), (40, (i6 x1))], [(1002, (bU 5 x2 44)), (2000, (bU 10 x3 63)), (15000, (bU 5 x4 44))]⟩ = K .normal ⟨[(13, (i6 x1)), (42, (i6 x1)), (4, (pT 1002 0)), (5, (pT 2000 0)), (11, (pT 15000 0)), (12, (u64v x0)), (40, (i6 x1))], [(1002, (bU 5 x2 44)), (2000, (bU 10 x3 63)), (15000, (bU 5 x4 44))]⟩ := by kernel_rfl
theorem g42R19 (x0 : Nat) (x1 x2 : Int) (x3 x4 x5 : List Nat) : g42D A n (pth 42591) K ⟨[(4, (pT 1002 0)), (5, (pT 2000 0)), (11, (pT 15000 0)), (12, (u64v x0)), (13, (i6 x1)), (40, (i6 x2))], [(1002, (bU 5 x3 44)), (2000, (bU 10 x4 63)), (15000, (bU 5 x5 44))]⟩ = match (generalizing := false) A.neg x1 with
    | true => none
    | false => match (generalizing := false) A.lt (A.toN x1) 5 with
      | true => match (generalizing := false) g50ok A ((A.toN x1) * 2) x0 x4 with
        | true => K .normal ⟨[(46, (.tup [])), (45, (u64v x0)), (44, (.v (.cell (.ptr 2000 0 (some ⟨(A.toN x1) * 2, 2, 10, 0, 0, 0⟩))))), (43, (i6 x1)), (4, (pT 1002 0)), (5, (pT 2000 0)), (11, (pT 15000 0)), (12, (u64v x0)), (13, (i6 x1)), (40, (i6 x2))], [(1002, (bU 5 x3 44)), (2000, (bU 10 (g50r0 A ((A.toN x1) * 2) x0 x4) 63)), (15000, (bU 5 x5 44))]⟩
        | false => none
      | false => none := by kernel_rfl
theorem g42R20 (x0 x1 : Int) (x2 x3 x4 : List Nat) : g42D A n (pth 58975) K ⟨[(4, (pT 1002 0)), (5, (pT 2000 0)), (11, (pT 15000 0)), (13, (i6 x0)), (40, (i6 x1))], [(1002, (bU 5 x2 44)), (2000, (bU 10 x3 63)), (15000, (bU 5 x4 44))]⟩ = match (generalizing := false) A.neg x0 with
    | true => none
    | false => match (generalizing := false) A.lt (A.toN x0) 5 with
      | true => match (generalizing := false) A.neg x0 with
        | true => none
        | false => match (generalizing := false) A.lt (A.toN x0) 5 with
          | true => match (generalizing := false) g51ok A ((x3.drop ((A.toN x0) * 2)).take 2) with
            | true => match (generalizing := false) A.neg x0 with
              | true => none
              | false => match (generalizing := false) A.lt (A.toN x0) 5 with
                | true => K .normal ⟨[(12, (u64v (g51r0 A ((x3.drop ((A.toN x0) * 2)).take 2)))), (57, (.v (.cell (.ptr 15000 0 (some ⟨A.toN x0, 1, 5, 0, 0, 0⟩))))), (56, (u64v (g51r0 A ((x3.drop ((A.toN x0) * 2)).take 2)))), (55, (aN .u64 2 ((x3.drop ((A.toN x0) * 2)).take 2))), (54, (.v (.cell (.ptr 2000 0 (some ⟨(A.toN x0) * 2, 2, 10, 0, 0, 0⟩))))), (53, (i6 x0)), (52, (u64v (A.nb .and .u64 (x3.getD (((A.toN x0) * 2) + 1) 0) 2251799813685247))), (51, (u64v (x3.getD (((A.toN x0) * 2) + 1) 0))), (50, (.v (.cell (.ptr 2000 0 (some ⟨((A.toN x0) * 2) + 1, 1, 10, 0, 1, 0⟩))))), (49, (.v (.cell (.ptr 2000 0 (some ⟨(A.toN x0) * 2, 2, 10, 0, 0, 0⟩))))), (48, (i6 x0)), (47, (i6 x0)), (4, (pT 1002 0)), (5, (pT 2000 0)), (11, (pT 15000 0)), (13, (i6 x0)), (40, (i6 x1))], [(1002, (bU 5 x2 44)), (2000, (bU 10 x3 63)), (15000, (bU 5 (x4.set (A.toN x0) (A.nb .and .u64 (x3.getD (((A.toN x0) * 2) + 1) 0) 2251799813685247)) 44))]⟩
                | false => none
            | false => none
          | false => none
      | false => none := by kernel_rfl
theorem g42R21 (x0 : Nat) (x1 : Int) (x2 x3 x4 : List Nat) : g42D A n (pth 7775) K ⟨[(4, (pT 1002 0)), (5, (pT 2000 0)), (11, (pT 15000 0)), (12, (u64v x0)), (40, (i6 x1))], [(1002, (bU 5 x2 44)), (2000, (bU 10 x3 63)), (15000, (bU 5 x4 44))]⟩ = K .normal ⟨[(40, (i6 (A.ib .add .i64 x1 1))), (58, (i6 (A.ib .add .i64 x1 1))), (4, (pT 1002 0)), (5, (pT 2000 0)), (11, (pT 15000 0)), (12, (u64v x0)), (40, (i6 x1))], [(1002, (bU 5 x2 44)), (2000, (bU 10 x3 63)), (15000, (bU 5 x4 44))]⟩ := by kernel_rfl
theorem g42R22 (x0 : Nat) (x1 x2 : List Nat) : g42D A n (pth 191) K ⟨[(4, (pT 1002 0)), (11, (pT 15000 0)), (12, (u64v x0))], [(1002, (bU 5 x1 44)), (15000, (bU 5 x2 44))]⟩ = K .normal ⟨[(64, (pT 15000 0)), (63, (u64v (A.nb .add .u64 (x2.getD 0 0) (A.nb .mul .u64 x0 19)))), (62, (u64v (A.nb .mul .u64 x0 19))), (61, (u64v x0)), (60, (u64v (x2.getD 0 0))), (59, (pT 15000 0)), (4, (pT 1002 0)), (11, (pT 15000 0)), (12, (u64v x0))], [(1002, (bU 5 x1 44)), (15000, (bU 5 (x2.set 0 (A.nb .add .u64 (x2.getD 0 0) (A.nb .mul .u64 x0 19))) 44))]⟩ := by kernel_rfl
theorem g42R23 (x0 x1 : List Nat) : g42D A n (pth 383) K ⟨[(4, (pT 1002 0)), (11, (pT 15000 0))], [(1002, (bU 5 x0 44)), (15000, (bU 5 x1 44))]⟩ = match (generalizing := false) g47ok A x1 with
    | true => K .normal ⟨[(66, (aN .u64 5 (g47r0 A x1))), (65, (aN .u64 5 x1)), (4, (pT 1002 0)), (11, (pT 15000 0))], [(1002, (bU 5 (g47r0 A x1) 44)), (15000, (bU 5 x1 44))]⟩
    | false => none := by kernel_rfl
theorem g42R17 (x0 : Nat) (x1 : Int) (x2 x3 x4 : List Nat) : g42D A n (pth 1119) K ⟨[(4, (pT 1002 0)), (5, (pT 2000 0)), (11, (pT 15000 0)), (12, (u64v x0)), (40, (i6 x1))], [(1002, (bU 5 x2 44)), (2000, (bU 10 x3 63)), (15000, (bU 5 x4 44))]⟩ = K .normal ⟨[(41, (bO (A.ic .lss x1 5))), (4, (pT 1002 0)), (5, (pT 2000 0)), (11, (pT 15000 0)), (12, (u64v x0)), (40, (i6 x1))], [(1002, (bU 5 x2 44)), (2000, (bU 10 x3 63)), (15000, (bU 5 x4 44))]⟩ := by kernel_rfl
theorem g42R14 (x0 x1 : List Nat) : g42D A n (pth 23) K ⟨[(4, (pT 1002 0)), (5, (pT 2000 0))], [(1002, (bU 5 x0 44)), (2000, (bU 10 x1 63))]⟩ = K .normal ⟨[(11, (pT 15000 0)), (4, (pT 1002 0)), (5, (pT 2000 0))], [(15000, (bU 5 [0, 0, 0, 0, 0] 44)), (1002, (bU 5 x0 44)), (2000, (bU 10 x1 63))]⟩ := by kernel_rfl
theorem g42R15 (x0 x1 x2 : List Nat) : g42D A n (pth 47) K ⟨[(4, (pT 1002 0)), (5, (pT 2000 0)), (11, (pT 15000 0))], [(1002, (bU 5 x0 44)), (2000, (bU 10 x1 63)), (15000, (bU 5 x2 44))]⟩ = K .normal ⟨[(12, (u64v 0)), (4, (pT 1002 0)), (5, (pT 2000 0)), (11, (pT 15000 0))], [(1002, (bU 5 x0 44)), (2000, (bU 10 x1 63)), (15000, (bU 5 x2 44))]⟩ := by kernel_rfl
theorem g42R16 (x0 : Nat) (x1 x2 x3 : List Nat) : g42D A n (pth 159) K ⟨[(4, (pT 1002 0)), (5, (pT 2000 0)), (11, (pT 15000 0)), (12, (u64v x0))], [(1002, (bU 5 x1 44)), (2000, (bU 10 x2 63)), (15000, (bU 5 x3 44))]⟩ = K .normal ⟨[(40, (i6 0)), (4, (pT 1002 0)), (5, (pT 2000 0)), (11, (pT 15000 0)), (12, (u64v x0))], [(1002, (bU 5 x1 44)), (2000, (bU 10 x2 63)), (15000, (bU 5 x3 44))]⟩ := by kernel_rfl
theorem g42R3 (x0 : List Nat) (x1 : Int) (x2 x3 x4 : List Nat) : g42D A n (pth 139) K ⟨[(3, (pT 1001 0)), (4, (pT 1002 0)), (5, (pT 2000 0)), (14, (aN .u64 5 x0)), (15, (i6 x1))], [(1001, (bU 5 x2 44)), (1002, (bU 5 x3 44)), (2000, (bU 10 x4 63))]⟩ = K .normal ⟨[(16, (bO (A.ic .lss x1 5))), (3, (pT 1001 0)), (4, (pT 1002 0)), (5, (pT 2000 0)), (14, (aN .u64 5 x0)), (15, (i6 x1))], [(1001, (bU 5 x2 44)), (1002, (bU 5 x3 44)), (2000, (bU 10 x4 63))]⟩ := by kernel_rfl
theorem g42R0 (x0 x1 : List Nat) : g42D A n (pth 2) K ⟨[(0, (aN .u64 5 x0)), (1, (aN .u64 5 x1))], []⟩ = K .normal ⟨[(4, (pT 1002 0)), (3, (pT 1001 0)), (2, (pT 1000 0)), (0, (aN .u64 5 x0)), (1, (aN .u64 5 x1))], [(1002, (bU 5 [0, 0, 0, 0, 0] 44)), (1001, (bU 5 x1 44)), (1000, (bU 5 x0 44))]⟩ := by kernel_rfl
theorem g42R1 (x0 x1 x2 : List Nat) : g42D A n (pth 5) K ⟨[(2, (pT 1000 0)), (3, (pT 1001 0)), (4, (pT 1002 0))], [(1000, (bU 5 x0 44)), (1001, (bU 5 x1 44)), (1002, (bU 5 x2 44))]⟩ = K .normal ⟨[(5, (pT 2000 0)), (2, (pT 1000 0)), (3, (pT 1001 0)), (4, (pT 1002 0))], [(2000, (bU 10 [0, 0, 0, 0, 0, 0, 0, 0, 0, 0] 63)), (1000, (bU 5 x0 44)), (1001, (bU 5 x1 44)), (1002, (bU 5 x2 44))]⟩ := by kernel_rfl
theorem g42R2 (x0 x1 : List Nat) (x2 x3 : List Nat) : g42D A n (pth 19) K ⟨[(2, (pT 1000 0)), (3, (pT 1001 0)), (4, (pT 1002 0)), (5, (pT 2000 0))], [(1000, (bU 5 x0 44)), (1001, (bU 5 x1 44)), (1002, (bU 5 x2 44)), (2000, (bU 10 x3 63))]⟩ = K .normal ⟨[(15, (i6 0)), (14, (aN .u64 5 x0)), (2, (pT 1000 0)), (3, (pT 1001 0)), (4, (pT 1002 0)), (5, (pT 2000 0))], [(1000, (bU 5 x0 44)), (1001, (bU 5 x1 44)), (1002, (bU 5 x2 44)), (2000, (bU 10 x3 63))]⟩ := by kernel_rfl
end
def g42J11 {R : Type} (A : Ar) (n : Nat) (kk : AV → Heap → Option R) (lg42L3 : List Nat → Int → List Nat → List Nat → List Nat → Option R) (lg42L6 : Int → Nat → List Nat → Int → List Nat → Int → List Nat → List Nat → List Nat → Option R) (x0 : Int) (x1 x2 : Nat) (x3 : Int) (x4 : List Nat) (x5 : Int) (x6 : List Nat) (x7 : Int) (x8 x9 x10 : List Nat) : Option R :=
  match (generalizing := false) A.neg x3 with
  | true => none
  | false => match (generalizing := false) A.lt (A.toN x3) 5 with
    | true => match (generalizing := false) g49ok A ((A.toN x3) * 2) x1 x2 x10 with
      | true => lg42L6 x0 x1 x4 x5 x6 (A.ib .add .i64 x7 1) x8 x9 (g49r0 A ((A.toN x3) * 2) x1 x2 x10)
      | false => none
    | false => none
set_option maxRecDepth 100000 in
theorem g42J11_eq {R : Type} (A : Ar) (n : Nat) (kk : AV → Heap → Option R) (m0 m1 : Nat) (lg42L3 : List Nat → Int → List Nat → List Nat → List Nat → Option R) (lg42L6 : Int → Nat → List Nat → Int → List Nat → Int → List Nat → List Nat → List Nat → Option R) 
    (hg42L3 : ∀ (s : St) (x0 : List Nat) (x1 : Int) (x2 x3 x4 : List Nat), keep g42an 3 s = ⟨[(3, (pT 1001 0)), (4, (pT 1002 0)), (5, (pT 2000 0)), (14, (aN .u64 5 x0)), (15, (i6 x1))], [(1001, (bU 5 x2 44)), (1002, (bU 5 x3 44)), (2000, (bU 10 x4 63))]⟩ → g42V A n (pth 75) m0 (blockK 0 (g42Q A n (pth 15) (g42T kk))) s = lg42L3 x0 x1 x2 x3 x4)
    (hg42L6 : ∀ (s : St) (x0 : Int) (x1 : Nat) (x2 : List Nat) (x3 : Int) (x4 : List Nat) (x5 : Int) (x6 x7 x8 : List Nat), keep g42an 6 s = ⟨[(3, (pT 1001 0)), (4, (pT 1002 0)), (5, (pT 2000 0)), (6, (i6 x0)), (7, (u64v x1)), (14, (aN .u64 5 x2)), (15, (i6 x3)), (19, (aN .u64 5 x4)), (20, (i6 x5))], [(1001, (bU 5 x6 44)), (1002, (bU 5 x7 44)), (2000, (bU 10 x8 63))]⟩ → g42V A n (pth 19659) m1 (blockK 2 (blockK 1 (g42Q A n (pth 971) (g42W A n (pth 75) m0 (blockK 0 (g42Q A n (pth 15) (g42T kk))))))) s = lg42L6 x0 x1 x2 x3 x4 x5 x6 x7 x8) (s : St) (x0 : Int) (x1 x2 : Nat) (x3 : Int) (x4 : List Nat) (x5 : Int) (x6 : List Nat) (x7 : Int) (x8 x9 x10 : List Nat) (h : keep g42an 11 s = ⟨[(3, (pT 1001 0)), (4, (pT 1002 0)), (5, (pT 2000 0)), (6, (i6 x0)), (7, (u64v x1)), (9, (u64v x2)), (10, (i6 x3)), (14, (aN .u64 5 x4)), (15, (i6 x5)), (19, (aN .u64 5 x6)), (20, (i6 x7))], [(1001, (bU 5 x8 44)), (1002, (bU 5 x9 44)), (2000, (bU 10 x10 63))]⟩) :
    g42D A n (pth 3984587) (blockK 3 (g42Q A n (pth 249035) (g42W A n (pth 19659) m1 (blockK 2 (blockK 1 (g42Q A n (pth 971) (g42W A n (pth 75) m0 (blockK 0 (g42Q A n (pth 15) (g42T kk)))))))))) s = g42J11 A n kk lg42L3 lg42L6 x0 x1 x2 x3 x4 x5 x6 x7 x8 x9 x10 := by
  have h5 := (g42Wn A n _ _ _ _).trans (hg42L6 ⟨[(20, (i6 (A.ib .add .i64 x7 1))), (38, (i6 (A.ib .add .i64 x7 1))), (3, (pT 1001 0)), (4, (pT 1002 0)), (5, (pT 2000 0)), (6, (i6 x0)), (7, (u64v x1)), (14, (aN .u64 5 x4)), (15, (i6 x5)), (19, (aN .u64 5 x6)), (20, (i6 x7))], [(1001, (bU 5 x8 44)), (1002, (bU 5 x9 44)), (2000, (bU 10 (g49r0 A ((A.toN x3) * 2) x1 x2 x10) 63))]⟩ x0 x1 x4 x5 x6 (A.ib .add .i64 x7 1) x8 x9 (g49r0 A ((A.toN x3) * 2) x1 x2 x10) (by kernel_rfl))
  have h3 := g42R12 A n (g42W A n (pth 19659) m1 (blockK 2 (blockK 1 (g42Q A n (pth 971) (g42W A n (pth 75) m0 (blockK 0 (g42Q A n (pth 15) (g42T kk)))))))) x0 x1 x4 x5 x6 x7 x8 x9 (g49r0 A ((A.toN x3) * 2) x1 x2 x10)
  have h6 := (g42p11010011001100111 A n _ ⟨[(37, (.tup [])), (36, (u64v x2)), (35, (u64v x1)), (34, (.v (.cell (.ptr 2000 0 (some ⟨(A.toN x3) * 2, 2, 10, 0, 0, 0⟩))))), (33, (i6 x3)), (3, (pT 1001 0)), (4, (pT 1002 0)), (5, (pT 2000 0)), (6, (i6 x0)), (7, (u64v x1)), (9, (u64v x2)), (10, (i6 x3)), (14, (aN .u64 5 x4)), (15, (i6 x5)), (19, (aN .u64 5 x6)), (20, (i6 x7))], [(1001, (bU 5 x8 44)), (1002, (bU 5 x9 44)), (2000, (bU 10 (g49r0 A ((A.toN x3) * 2) x1 x2 x10) 63))]⟩ _ (by kernel_rfl)).trans h3
  rw [h5] at h6
  have h7 := (g42Qn A n _ _ _).trans h6
  have h8 := (blockK_n 3 _ _).trans h7
  have h1 := g42R11 A n (blockK 3 (g42Q A n (pth 249035) (g42W A n (pth 19659) m1 (blockK 2 (blockK 1 (g42Q A n (pth 971) (g42W A n (pth 75) m0 (blockK 0 (g42Q A n (pth 15) (g42T kk)))))))))) x0 x1 x2 x3 x4 x5 x6 x7 x8 x9 x10
  have h9 := (g42p110100110011001100111 A n _ ⟨[(3, (pT 1001 0)), (4, (pT 1002 0)), (5, (pT 2000 0)), (6, (i6 x0)), (7, (u64v x1)), (9, (u64v x2)), (10, (i6 x3)), (14, (aN .u64 5 x4)), (15, (i6 x5)), (19, (aN .u64 5 x6)), (20, (i6 x7))], [(1001, (bU 5 x8 44)), (1002, (bU 5 x9 44)), (2000, (bU 10 x10 63))]⟩ _ (by kernel_rfl)).trans h1
  rw [h8] at h9
  exact (codeD_first (s' := ⟨[(3, (pT 1001 0)), (4, (pT 1002 0)), (5, (pT 2000 0)), (6, (i6 x0)), (7, (u64v x1)), (9, (u64v x2)), (10, (i6 x3)), (14, (aN .u64 5 x4)), (15, (i6 x5)), (19, (aN .u64 5 x6)), (20, (i6 x7))], [(1001, (bU 5 x8 44)), (1002, (bU 5 x9 44)), (2000, (bU 10 x10 63))]⟩) (id := 11) (by kernel_rfl) (h.trans (by kernel_rfl)) _).trans (h9.trans (by kernel_rfl))
def g42J7 {R : Type} (A : Ar) (n : Nat) (kk : AV → Heap → Option R) (lg42L3 : List Nat → Int → List Nat → List Nat → List Nat → Option R) (lg42L6 : Int → Nat → List Nat → Int → List Nat → Int → List Nat → List Nat → List Nat → Option R) (x0 : Int) (x1 : Nat) (x2 : List Nat) (x3 : Int) (x4 : List Nat) (x5 : Int) (x6 x7 x8 : List Nat) : Option R :=
  match (generalizing := false) A.neg x5 with
  | true => none
  | false => match (generalizing := false) A.lt (A.toN x5) 5 with
    | true => match (generalizing := false) A.ic .geq (A.ib .add .i64 x0 x5) 5 with
      | true => g42J11 A n kk lg42L3 lg42L6 x0 x1 (A.nb .mul .u64 (x4.getD (A.toN x5) 0) 19) (A.ib .sub .i64 (A.ib .add .i64 x0 x5) 5) x2 x3 x4 x5 x6 x7 x8
      | false => g42J11 A n kk lg42L3 lg42L6 x0 x1 (x4.getD (A.toN x5) 0) (A.ib .add .i64 x0 x5) x2 x3 x4 x5 x6 x7 x8
    | false => none
set_option maxRecDepth 100000 in
theorem g42J7_eq {R : Type} (A : Ar) (n : Nat) (kk : AV → Heap → Option R) (m0 m1 : Nat) (lg42L3 : List Nat → Int → List Nat → List Nat → List Nat → Option R) (lg42L6 : Int → Nat → List Nat → Int → List Nat → Int → List Nat → List Nat → List Nat → Option R) 
    (hg42L3 : ∀ (s : St) (x0 : List Nat) (x1 : Int) (x2 x3 x4 : List Nat), keep g42an 3 s = ⟨[(3, (pT 1001 0)), (4, (pT 1002 0)), (5, (pT 2000 0)), (14, (aN .u64 5 x0)), (15, (i6 x1))], [(1001, (bU 5 x2 44)), (1002, (bU 5 x3 44)), (2000, (bU 10 x4 63))]⟩ → g42V A n (pth 75) m0 (blockK 0 (g42Q A n (pth 15) (g42T kk))) s = lg42L3 x0 x1 x2 x3 x4)
    (hg42L6 : ∀ (s : St) (x0 : Int) (x1 : Nat) (x2 : List Nat) (x3 : Int) (x4 : List Nat) (x5 : Int) (x6 x7 x8 : List Nat), keep g42an 6 s = ⟨[(3, (pT 1001 0)), (4, (pT 1002 0)), (5, (pT 2000 0)), (6, (i6 x0)), (7, (u64v x1)), (14, (aN .u64 5 x2)), (15, (i6 x3)), (19, (aN .u64 5 x4)), (20, (i6 x5))], [(1001, (bU 5 x6 44)), (1002, (bU 5 x7 44)), (2000, (bU 10 x8 63))]⟩ → g42V A n (pth 19659) m1 (blockK 2 (blockK 1 (g42Q A n (pth 971) (g42W A n (pth 75) m0 (blockK 0 (g42Q A n (pth 15) (g42T kk))))))) s = lg42L6 x0 x1 x2 x3 x4 x5 x6 x7 x8) (s : St) (x0 : Int) (x1 : Nat) (x2 : List Nat) (x3 : Int) (x4 : List Nat) (x5 : Int) (x6 x7 x8 : List Nat) (h : keep g42an 7 s = ⟨[(3, (pT 1001 0)), (4, (pT 1002 0)), (5, (pT 2000 0)), (6, (i6 x0)), (7, (u64v x1)), (14, (aN .u64 5 x2)), (15, (i6 x3)), (19, (aN .u64 5 x4)), (20, (i6 x5))], [(1001, (bU 5 x6 44)), (1002, (bU 5 x7 44)), (2000, (bU 10 x8 63))]⟩) :
    g42D A n (pth 117963) (g42W A n (pth 19659) m1 (blockK 2 (blockK 1 (g42Q A n (pth 971) (g42W A n (pth 75) m0 (blockK 0 (g42Q A n (pth 15) (g42T kk)))))))) s = g42J7 A n kk lg42L3 lg42L6 x0 x1 x2 x3 x4 x5 x6 x7 x8 := by
  have h9 := (g42Qn A n _ _ _).trans (g42J11_eq A n kk m0 m1 lg42L3 lg42L6 hg42L3 hg42L6  ⟨[(9, (u64v (A.nb .mul .u64 (x4.getD (A.toN x5) 0) 19))), (10, (i6 (A.ib .sub .i64 (A.ib .add .i64 x0 x5) 5))), (32, (u64v (A.nb .mul .u64 (x4.getD (A.toN x5) 0) 19))), (31, (u64v (x4.getD (A.toN x5) 0))), (30, (i6 (A.ib .sub .i64 (A.ib .add .i64 x0 x5) 5))), (29, (i6 (A.ib .add .i64 x0 x5))), (3, (pT 1001 0)), (4, (pT 1002 0)), (5, (pT 2000 0)), (6, (i6 x0)), (7, (u64v x1)), (9, (u64v (x4.getD (A.toN x5) 0))), (10, (i6 (A.ib .add .i64 x0 x5))), (14, (aN .u64 5 x2)), (15, (i6 x3)), (19, (aN .u64 5 x4)), (20, (i6 x5))], [(1001, (bU 5 x6 44)), (1002, (bU 5 x7 44)), (2000, (bU 10 x8 63))]⟩ x0 x1 (A.nb .mul .u64 (x4.getD (A.toN x5) 0) 19) (A.ib .sub .i64 (A.ib .add .i64 x0 x5) 5) x2 x3 x4 x5 x6 x7 x8 (by kernel_rfl))
  have h7 := g42R10 A n (g42Q A n (pth 3984587) (blockK 3 (g42Q A n (pth 249035) (g42W A n (pth 19659) m1 (blockK 2 (blockK 1 (g42Q A n (pth 971) (g42W A n (pth 75) m0 (blockK 0 (g42Q A n (pth 15) (g42T kk))))))))))) x0 x1 (x4.getD (A.toN x5) 0) (A.ib .add .i64 x0 x5) x2 x3 x4 x5 x6 x7 x8
  have h10 := (g42p11010011001100110011010 A n _ ⟨[(28, (bO (A.ic .geq (A.ib .add .i64 x0 x5) 5))), (27, (i6 (A.ib .add .i64 x0 x5))), (3, (pT 1001 0)), (4, (pT 1002 0)), (5, (pT 2000 0)), (6, (i6 x0)), (7, (u64v x1)), (9, (u64v (x4.getD (A.toN x5) 0))), (10, (i6 (A.ib .add .i64 x0 x5))), (14, (aN .u64 5 x2)), (15, (i6 x3)), (19, (aN .u64 5 x4)), (20, (i6 x5))], [(1001, (bU 5 x6 44)), (1002, (bU 5 x7 44)), (2000, (bU 10 x8 63))]⟩ _ (by kernel_rfl)).trans h7
  rw [h9] at h10
  have h11 := (g42Qn A n _ _ _).trans (g42J11_eq A n kk m0 m1 lg42L3 lg42L6 hg42L3 hg42L6  ⟨[(28, (bO (A.ic .geq (A.ib .add .i64 x0 x5) 5))), (27, (i6 (A.ib .add .i64 x0 x5))), (3, (pT 1001 0)), (4, (pT 1002 0)), (5, (pT 2000 0)), (6, (i6 x0)), (7, (u64v x1)), (9, (u64v (x4.getD (A.toN x5) 0))), (10, (i6 (A.ib .add .i64 x0 x5))), (14, (aN .u64 5 x2)), (15, (i6 x3)), (19, (aN .u64 5 x4)), (20, (i6 x5))], [(1001, (bU 5 x6 44)), (1002, (bU 5 x7 44)), (2000, (bU 10 x8 63))]⟩ x0 x1 (x4.getD (A.toN x5) 0) (A.ib .add .i64 x0 x5) x2 x3 x4 x5 x6 x7 x8 (by kernel_rfl))
  have h12 := (g42p11010011001100110011011 A n _ _).trans h11
  have h13 := g42p1101001100110011001101 A n (g42Q A n (pth 3984587) (blockK 3 (g42Q A n (pth 249035) (g42W A n (pth 19659) m1 (blockK 2 (blockK 1 (g42Q A n (pth 971) (g42W A n (pth 75) m0 (blockK 0 (g42Q A n (pth 15) (g42T kk))))))))))) ⟨[(28, (bO (A.ic .geq (A.ib .add .i64 x0 x5) 5))), (27, (i6 (A.ib .add .i64 x0 x5))), (3, (pT 1001 0)), (4, (pT 1002 0)), (5, (pT 2000 0)), (6, (i6 x0)), (7, (u64v x1)), (9, (u64v (x4.getD (A.toN x5) 0))), (10, (i6 (A.ib .add .i64 x0 x5))), (14, (aN .u64 5 x2)), (15, (i6 x3)), (19, (aN .u64 5 x4)), (20, (i6 x5))], [(1001, (bU 5 x6 44)), (1002, (bU 5 x7 44)), (2000, (bU 10 x8 63))]⟩ (A.ic .geq (A.ib .add .i64 x0 x5) 5) (by kernel_rfl)
  rw [h10, h12] at h13
  have h14 := (g42Qn A n _ _ _).trans h13
  have h5 := g42R9 A n (g42Q A n (pth 7130315) (g42Q A n (pth 3984587) (blockK 3 (g42Q A n (pth 249035) (g42W A n (pth 19659) m1 (blockK 2 (blockK 1 (g42Q A n (pth 971) (g42W A n (pth 75) m0 (blockK 0 (g42Q A n (pth 15) (g42T kk)))))))))))) x0 x1 (x4.getD (A.toN x5) 0) (A.ib .add .i64 x0 x5) x2 x3 x4 x5 x6 x7 x8
  have h15 := (g42p1101001100110011001100 A n _ ⟨[(10, (i6 (A.ib .add .i64 x0 x5))), (26, (i6 (A.ib .add .i64 x0 x5))), (25, (i6 x5)), (24, (i6 x0)), (3, (pT 1001 0)), (4, (pT 1002 0)), (5, (pT 2000 0)), (6, (i6 x0)), (7, (u64v x1)), (8, (i6 x5)), (9, (u64v (x4.getD (A.toN x5) 0))), (14, (aN .u64 5 x2)), (15, (i6 x3)), (19, (aN .u64 5 x4)), (20, (i6 x5))], [(1001, (bU 5 x6 44)), (1002, (bU 5 x7 44)), (2000, (bU 10 x8 63))]⟩ _ (by kernel_rfl)).trans h5
  rw [h14] at h15
  have h16 := (g42p110100110011001100110 A n _ _).trans h15
  have h17 := (g42p11010011001100110011 A n _ _).trans h16
  have h18 := (g42Qn A n _ _ _).trans h17
  have h3 := g42R8 A n (g42Q A n (pth 1887435) (blockK 3 (g42Q A n (pth 249035) (g42W A n (pth 19659) m1 (blockK 2 (blockK 1 (g42Q A n (pth 971) (g42W A n (pth 75) m0 (blockK 0 (g42Q A n (pth 15) (g42T kk))))))))))) x0 x1 x5 (x4.getD (A.toN x5) 0) x2 x3 x4 x5 x6 x7 x8
  have h19 := (g42p11010011001100110010 A n _ ⟨[(9, (u64v (x4.getD (A.toN x5) 0))), (8, (i6 x5)), (23, (u64v (x4.getD (A.toN x5) 0))), (22, (i6 x5)), (3, (pT 1001 0)), (4, (pT 1002 0)), (5, (pT 2000 0)), (6, (i6 x0)), (7, (u64v x1)), (14, (aN .u64 5 x2)), (15, (i6 x3)), (19, (aN .u64 5 x4)), (20, (i6 x5))], [(1001, (bU 5 x6 44)), (1002, (bU 5 x7 44)), (2000, (bU 10 x8 63))]⟩ _ (by kernel_rfl)).trans h3
  rw [h18] at h19
  have h20 := (g42p1101001100110011001 A n _ _).trans h19
  have h21 := (g42Qn A n _ _ _).trans h20
  have h1 := g42R7 A n (g42Q A n (pth 838859) (blockK 3 (g42Q A n (pth 249035) (g42W A n (pth 19659) m1 (blockK 2 (blockK 1 (g42Q A n (pth 971) (g42W A n (pth 75) m0 (blockK 0 (g42Q A n (pth 15) (g42T kk))))))))))) x0 x1 x2 x3 x4 x5 x6 x7 x8
  have h22 := (g42p1101001100110011000 A n _ ⟨[(3, (pT 1001 0)), (4, (pT 1002 0)), (5, (pT 2000 0)), (6, (i6 x0)), (7, (u64v x1)), (14, (aN .u64 5 x2)), (15, (i6 x3)), (19, (aN .u64 5 x4)), (20, (i6 x5))], [(1001, (bU 5 x6 44)), (1002, (bU 5 x7 44)), (2000, (bU 10 x8 63))]⟩ _ (by kernel_rfl)).trans h1
  rw [h21] at h22
  have h23 := (g42p110100110011001100 A n _ _).trans h22
  have h24 := (g42p11010011001100110 A n _ _).trans h23
  have h25 := (g42p1101001100110011 A n _ _).trans h24
  exact (codeD_first (s' := ⟨[(3, (pT 1001 0)), (4, (pT 1002 0)), (5, (pT 2000 0)), (6, (i6 x0)), (7, (u64v x1)), (14, (aN .u64 5 x2)), (15, (i6 x3)), (19, (aN .u64 5 x4)), (20, (i6 x5))], [(1001, (bU 5 x6 44)), (1002, (bU 5 x7 44)), (2000, (bU 10 x8 63))]⟩) (id := 7) (by kernel_rfl) (h.trans (by kernel_rfl)) _).trans (h25.trans (by kernel_rfl))
def g42L6 {R : Type} (A : Ar) (n : Nat) (kk : AV → Heap → Option R) (lg42L3 : List Nat → Int → List Nat → List Nat → List Nat → Option R) : Nat → Int → Nat → List Nat → Int → List Nat → Int → List Nat → List Nat → List Nat → Option R
  | 0, _, _, _, _, _, _, _, _, _ => none
  | m + 1, x0, x1, x2, x3, x4, x5, x6, x7, x8 => match (generalizing := false) A.ic .lss x5 5 with
  | true => g42J7 A n kk lg42L3 (g42L6 A n kk lg42L3 m) x0 x1 x2 x3 x4 x5 x6 x7 x8
  | false => lg42L3 x2 (A.ib .add .i64 x3 1) x6 x7 x8
set_option maxRecDepth 100000 in
theorem g42L6_eq {R : Type} (A : Ar) (n : Nat) (kk : AV → Heap → Option R) (m0 : Nat) (lg42L3 : List Nat → Int → List Nat → List Nat → List Nat → Option R) 
    (hg42L3 : ∀ (s : St) (x0 : List Nat) (x1 : Int) (x2 x3 x4 : List Nat), keep g42an 3 s = ⟨[(3, (pT 1001 0)), (4, (pT 1002 0)), (5, (pT 2000 0)), (14, (aN .u64 5 x0)), (15, (i6 x1))], [(1001, (bU 5 x2 44)), (1002, (bU 5 x3 44)), (2000, (bU 10 x4 63))]⟩ → g42V A n (pth 75) m0 (blockK 0 (g42Q A n (pth 15) (g42T kk))) s = lg42L3 x0 x1 x2 x3 x4) (m : Nat) (s : St) (x0 : Int) (x1 : Nat) (x2 : List Nat) (x3 : Int) (x4 : List Nat) (x5 : Int) (x6 x7 x8 : List Nat) (h : keep g42an 6 s = ⟨[(3, (pT 1001 0)), (4, (pT 1002 0)), (5, (pT 2000 0)), (6, (i6 x0)), (7, (u64v x1)), (14, (aN .u64 5 x2)), (15, (i6 x3)), (19, (aN .u64 5 x4)), (20, (i6 x5))], [(1001, (bU 5 x6 44)), (1002, (bU 5 x7 44)), (2000, (bU 10 x8 63))]⟩) :
    g42V A n (pth 19659) m (blockK 2 (blockK 1 (g42Q A n (pth 971) (g42W A n (pth 75) m0 (blockK 0 (g42Q A n (pth 15) (g42T kk))))))) s = g42L6 A n kk lg42L3 m x0 x1 x2 x3 x4 x5 x6 x7 x8 := by
  induction m generalizing s x0 x1 x2 x3 x4 x5 x6 x7 x8 with
  | zero => rfl
  | succ m ih =>
    have h3 := (g42Qn A n _ _ _).trans (g42J7_eq A n kk m0 m lg42L3 (g42L6 A n kk lg42L3 m) hg42L3 ih  ⟨[(21, (bO (A.ic .lss x5 5))), (3, (pT 1001 0)), (4, (pT 1002 0)), (5, (pT 2000 0)), (6, (i6 x0)), (7, (u64v x1)), (14, (aN .u64 5 x2)), (15, (i6 x3)), (19, (aN .u64 5 x4)), (20, (i6 x5))], [(1001, (bU 5 x6 44)), (1002, (bU 5 x7 44)), (2000, (bU 10 x8 63))]⟩ x0 x1 x2 x3 x4 x5 x6 x7 x8 (by kernel_rfl))
    have h4 := (g42p11010011001100100 A n _ _).trans h3
    have h7 := (g42Wn A n _ _ _ _).trans (hg42L3 ⟨[(15, (i6 (A.ib .add .i64 x3 1))), (39, (i6 (A.ib .add .i64 x3 1))), (3, (pT 1001 0)), (4, (pT 1002 0)), (5, (pT 2000 0)), (14, (aN .u64 5 x2)), (15, (i6 x3))], [(1001, (bU 5 x6 44)), (1002, (bU 5 x7 44)), (2000, (bU 10 x8 63))]⟩ x2 (A.ib .add .i64 x3 1) x6 x7 x8 (by kernel_rfl))
    have h5 := g42R13 A n (g42W A n (pth 75) m0 (blockK 0 (g42Q A n (pth 15) (g42T kk)))) x2 x3 x6 x7 x8
    have h8 := (g42p110100111 A n _ ⟨[(21, (bO (A.ic .lss x5 5))), (3, (pT 1001 0)), (4, (pT 1002 0)), (5, (pT 2000 0)), (6, (i6 x0)), (7, (u64v x1)), (14, (aN .u64 5 x2)), (15, (i6 x3)), (19, (aN .u64 5 x4)), (20, (i6 x5))], [(1001, (bU 5 x6 44)), (1002, (bU 5 x7 44)), (2000, (bU 10 x8 63))]⟩ _ (by kernel_rfl)).trans h5
    rw [h7] at h8
    have h9 := (g42Qn A n _ _ _).trans h8
    have h10 := (blockK_n 1 _ _).trans h9
    have h11 := (blockK_hit 2 _ _).trans h10
    have h12 := (g42We A n (pth 19659) m _ _ _).trans h11
    have h13 := (g42Qe A n (pth 117963) _ _ _).trans h12
    have h14 := (g42p11010011001100101 A n _ _).trans h13
    have h15 := g42p1101001100110010 A n (g42Q A n (pth 117963) (g42W A n (pth 19659) m (blockK 2 (blockK 1 (g42Q A n (pth 971) (g42W A n (pth 75) m0 (blockK 0 (g42Q A n (pth 15) (g42T kk))))))))) ⟨[(21, (bO (A.ic .lss x5 5))), (3, (pT 1001 0)), (4, (pT 1002 0)), (5, (pT 2000 0)), (6, (i6 x0)), (7, (u64v x1)), (14, (aN .u64 5 x2)), (15, (i6 x3)), (19, (aN .u64 5 x4)), (20, (i6 x5))], [(1001, (bU 5 x6 44)), (1002, (bU 5 x7 44)), (2000, (bU 10 x8 63))]⟩ (A.ic .lss x5 5) (by kernel_rfl)
    rw [h4, h14] at h15
    have h16 := (g42p110100110011001 A n _ _).trans h15
    have h17 := (g42Qn A n _ _ _).trans h16
    have h1 := g42R6 A n (g42Q A n (pth 52427) (g42W A n (pth 19659) m (blockK 2 (blockK 1 (g42Q A n (pth 971) (g42W A n (pth 75) m0 (blockK 0 (g42Q A n (pth 15) (g42T kk))))))))) x0 x1 x2 x3 x4 x5 x6 x7 x8
    have h18 := (g42p110100110011000 A n _ ⟨[(3, (pT 1001 0)), (4, (pT 1002 0)), (5, (pT 2000 0)), (6, (i6 x0)), (7, (u64v x1)), (14, (aN .u64 5 x2)), (15, (i6 x3)), (19, (aN .u64 5 x4)), (20, (i6 x5))], [(1001, (bU 5 x6 44)), (1002, (bU 5 x7 44)), (2000, (bU 10 x8 63))]⟩ _ (by kernel_rfl)).trans h1
    rw [h17] at h18
    have h19 := (g42p11010011001100 A n _ _).trans h18
    exact (loopD_first (s' := ⟨[(3, (pT 1001 0)), (4, (pT 1002 0)), (5, (pT 2000 0)), (6, (i6 x0)), (7, (u64v x1)), (14, (aN .u64 5 x2)), (15, (i6 x3)), (19, (aN .u64 5 x4)), (20, (i6 x5))], [(1001, (bU 5 x6 44)), (1002, (bU 5 x7 44)), (2000, (bU 10 x8 63))]⟩) (id := 6) (by kernel_rfl) (h.trans (by kernel_rfl)) _).trans ((g42Vs A n _ m _ _).trans (h19.trans (by kernel_rfl)))
def g42J4 {R : Type} (A : Ar) (n : Nat) (kk : AV → Heap → Option R) (lg42L3 : List Nat → Int → List Nat → List Nat → List Nat → Option R) (x0 : List Nat) (x1 : Int) (x2 x3 x4 : List Nat) : Option R :=
  match (generalizing := false) A.neg x1 with
  | true => none
  | false => match (generalizing := false) A.lt (A.toN x1) 5 with
    | true => g42L6 A n kk lg42L3 n x1 (x0.getD (A.toN x1) 0) x0 x1 x2 0 x2 x3 x4
    | false => none
set_option maxRecDepth 100000 in
theorem g42J4_eq {R : Type} (A : Ar) (n : Nat) (kk : AV → Heap → Option R) (m0 : Nat) (lg42L3 : List Nat → Int → List Nat → List Nat → List Nat → Option R) 
    (hg42L3 : ∀ (s : St) (x0 : List Nat) (x1 : Int) (x2 x3 x4 : List Nat), keep g42an 3 s = ⟨[(3, (pT 1001 0)), (4, (pT 1002 0)), (5, (pT 2000 0)), (14, (aN .u64 5 x0)), (15, (i6 x1))], [(1001, (bU 5 x2 44)), (1002, (bU 5 x3 44)), (2000, (bU 10 x4 63))]⟩ → g42V A n (pth 75) m0 (blockK 0 (g42Q A n (pth 15) (g42T kk))) s = lg42L3 x0 x1 x2 x3 x4) (s : St) (x0 : List Nat) (x1 : Int) (x2 x3 x4 : List Nat) (h : keep g42an 4 s = ⟨[(3, (pT 1001 0)), (4, (pT 1002 0)), (5, (pT 2000 0)), (14, (aN .u64 5 x0)), (15, (i6 x1))], [(1001, (bU 5 x2 44)), (1002, (bU 5 x3 44)), (2000, (bU 10 x4 63))]⟩) :
    g42D A n (pth 459) (g42W A n (pth 75) m0 (blockK 0 (g42Q A n (pth 15) (g42T kk)))) s = g42J4 A n kk lg42L3 x0 x1 x2 x3 x4 := by
  have h5 := (g42p1101001100110 A n _ _).trans (g42L6_eq A n kk m0 lg42L3 hg42L3 n ⟨[(20, (i6 0)), (19, (aN .u64 5 x2)), (3, (pT 1001 0)), (4, (pT 1002 0)), (5, (pT 2000 0)), (6, (i6 x1)), (7, (u64v (x0.getD (A.toN x1) 0))), (14, (aN .u64 5 x0)), (15, (i6 x1))], [(1001, (bU 5 x2 44)), (1002, (bU 5 x3 44)), (2000, (bU 10 x4 63))]⟩ x1 (x0.getD (A.toN x1) 0) x0 x1 x2 0 x2 x3 x4 (by kernel_rfl))
  have h6 := (g42p110100110011 A n _ _).trans h5
  have h7 := (g42Qn A n _ _ _).trans h6
  have h3 := g42R5 A n (g42Q A n (pth 7371) (blockK 1 (g42Q A n (pth 971) (g42W A n (pth 75) m0 (blockK 0 (g42Q A n (pth 15) (g42T kk))))))) x1 (x0.getD (A.toN x1) 0) x0 x1 x2 x3 x4
  have h8 := (g42p110100110010 A n _ ⟨[(7, (u64v (x0.getD (A.toN x1) 0))), (6, (i6 x1)), (18, (u64v (x0.getD (A.toN x1) 0))), (17, (i6 x1)), (3, (pT 1001 0)), (4, (pT 1002 0)), (5, (pT 2000 0)), (14, (aN .u64 5 x0)), (15, (i6 x1))], [(1001, (bU 5 x2 44)), (1002, (bU 5 x3 44)), (2000, (bU 10 x4 63))]⟩ _ (by kernel_rfl)).trans h3
  rw [h7] at h8
  have h9 := (g42p11010011001 A n _ _).trans h8
  have h10 := (g42Qn A n _ _ _).trans h9
  have h1 := g42R4 A n (g42Q A n (pth 3275) (blockK 1 (g42Q A n (pth 971) (g42W A n (pth 75) m0 (blockK 0 (g42Q A n (pth 15) (g42T kk))))))) x0 x1 x2 x3 x4
  have h11 := (g42p11010011000 A n _ ⟨[(3, (pT 1001 0)), (4, (pT 1002 0)), (5, (pT 2000 0)), (14, (aN .u64 5 x0)), (15, (i6 x1))], [(1001, (bU 5 x2 44)), (1002, (bU 5 x3 44)), (2000, (bU 10 x4 63))]⟩ _ (by kernel_rfl)).trans h1
  rw [h10] at h11
  have h12 := (g42p1101001100 A n _ _).trans h11
  have h13 := (g42p110100110 A n _ _).trans h12
  have h14 := (g42p11010011 A n _ _).trans h13
  exact (codeD_first (s' := ⟨[(3, (pT 1001 0)), (4, (pT 1002 0)), (5, (pT 2000 0)), (14, (aN .u64 5 x0)), (15, (i6 x1))], [(1001, (bU 5 x2 44)), (1002, (bU 5 x3 44)), (2000, (bU 10 x4 63))]⟩) (id := 4) (by kernel_rfl) (h.trans (by kernel_rfl)) _).trans (h14.trans (by kernel_rfl))
def g42J18 {R : Type} (A : Ar) (n : Nat) (kk : AV → Heap → Option R) (lg42L17 : Nat → Int → List Nat → List Nat → List Nat → Option R) (x0 : Nat) (x1 : Int) (x2 x3 x4 : List Nat) : Option R :=
  match (generalizing := false) A.neg x1 with
  | true => none
  | false => match (generalizing := false) A.lt (A.toN x1) 5 with
    | true => match (generalizing := false) g50ok A ((A.toN x1) * 2) x0 x3 with
      | true => match (generalizing := false) A.neg x1 with
        | true => none
        | false => match (generalizing := false) A.lt (A.toN x1) 5 with
          | true => match (generalizing := false) A.neg x1 with
            | true => none
            | false => match (generalizing := false) A.lt (A.toN x1) 5 with
              | true => match (generalizing := false) g51ok A (((g50r0 A ((A.toN x1) * 2) x0 x3).drop ((A.toN x1) * 2)).take 2) with
                | true => match (generalizing := false) A.neg x1 with
                  | true => none
                  | false => match (generalizing := false) A.lt (A.toN x1) 5 with
                    | true => lg42L17 (g51r0 A (((g50r0 A ((A.toN x1) * 2) x0 x3).drop ((A.toN x1) * 2)).take 2)) (A.ib .add .i64 x1 1) x2 (g50r0 A ((A.toN x1) * 2) x0 x3) (x4.set (A.toN x1) (A.nb .and .u64 ((g50r0 A ((A.toN x1) * 2) x0 x3).getD (((A.toN x1) * 2) + 1) 0) 2251799813685247))
                    | false => none
                | false => none
              | false => none
          | false => none
      | false => none
    | false => none
set_option maxRecDepth 100000 in
theorem g42J18_eq {R : Type} (A : Ar) (n : Nat) (kk : AV → Heap → Option R) (m0 : Nat) (lg42L17 : Nat → Int → List Nat → List Nat → List Nat → Option R) 
    (hg42L17 : ∀ (s : St) (x0 : Nat) (x1 : Int) (x2 x3 x4 : List Nat), keep g42an 17 s = ⟨[(4, (pT 1002 0)), (5, (pT 2000 0)), (11, (pT 15000 0)), (12, (u64v x0)), (40, (i6 x1))], [(1002, (bU 5 x2 44)), (2000, (bU 10 x3 63)), (15000, (bU 5 x4 44))]⟩ → g42V A n (pth 607) m0 (blockK 4 (g42Q A n (pth 127) (g42T kk))) s = lg42L17 x0 x1 x2 x3 x4) (s : St) (x0 : Nat) (x1 : Int) (x2 x3 x4 : List Nat) (h : keep g42an 18 s = ⟨[(4, (pT 1002 0)), (5, (pT 2000 0)), (11, (pT 15000 0)), (12, (u64v x0)), (40, (i6 x1))], [(1002, (bU 5 x2 44)), (2000, (bU 10 x3 63)), (15000, (bU 5 x4 44))]⟩) :
    g42D A n (pth 3679) (g42W A n (pth 607) m0 (blockK 4 (g42Q A n (pth 127) (g42T kk)))) s = g42J18 A n kk lg42L17 x0 x1 x2 x3 x4 := by
  have h9 := (g42Wn A n _ _ _ _).trans (hg42L17 ⟨[(40, (i6 (A.ib .add .i64 x1 1))), (58, (i6 (A.ib .add .i64 x1 1))), (4, (pT 1002 0)), (5, (pT 2000 0)), (11, (pT 15000 0)), (12, (u64v (g51r0 A (((g50r0 A ((A.toN x1) * 2) x0 x3).drop ((A.toN x1) * 2)).take 2)))), (40, (i6 x1))], [(1002, (bU 5 x2 44)), (2000, (bU 10 (g50r0 A ((A.toN x1) * 2) x0 x3) 63)), (15000, (bU 5 (x4.set (A.toN x1) (A.nb .and .u64 ((g50r0 A ((A.toN x1) * 2) x0 x3).getD (((A.toN x1) * 2) + 1) 0) 2251799813685247)) 44))]⟩ (g51r0 A (((g50r0 A ((A.toN x1) * 2) x0 x3).drop ((A.toN x1) * 2)).take 2)) (A.ib .add .i64 x1 1) x2 (g50r0 A ((A.toN x1) * 2) x0 x3) (x4.set (A.toN x1) (A.nb .and .u64 ((g50r0 A ((A.toN x1) * 2) x0 x3).getD (((A.toN x1) * 2) + 1) 0) 2251799813685247)) (by kernel_rfl))
  have h7 := g42R21 A n (g42W A n (pth 607) m0 (blockK 4 (g42Q A n (pth 127) (g42T kk)))) (g51r0 A (((g50r0 A ((A.toN x1) * 2) x0 x3).drop ((A.toN x1) * 2)).take 2)) x1 x2 (g50r0 A ((A.toN x1) * 2) x0 x3) (x4.set (A.toN x1) (A.nb .and .u64 ((g50r0 A ((A.toN x1) * 2) x0 x3).getD (((A.toN x1) * 2) + 1) 0) 2251799813685247))
  have h10 := (g42p111110100111 A n _ ⟨[(12, (u64v (g51r0 A (((g50r0 A ((A.toN x1) * 2) x0 x3).drop ((A.toN x1) * 2)).take 2)))), (57, (.v (.cell (.ptr 15000 0 (some ⟨A.toN x1, 1, 5, 0, 0, 0⟩))))), (56, (u64v (g51r0 A (((g50r0 A ((A.toN x1) * 2) x0 x3).drop ((A.toN x1) * 2)).take 2)))), (55, (aN .u64 2 (((g50r0 A ((A.toN x1) * 2) x0 x3).drop ((A.toN x1) * 2)).take 2))), (54, (.v (.cell (.ptr 2000 0 (some ⟨(A.toN x1) * 2, 2, 10, 0, 0, 0⟩))))), (53, (i6 x1)), (52, (u64v (A.nb .and .u64 ((g50r0 A ((A.toN x1) * 2) x0 x3).getD (((A.toN x1) * 2) + 1) 0) 2251799813685247))), (51, (u64v ((g50r0 A ((A.toN x1) * 2) x0 x3).getD (((A.toN x1) * 2) + 1) 0))), (50, (.v (.cell (.ptr 2000 0 (some ⟨((A.toN x1) * 2) + 1, 1, 10, 0, 1, 0⟩))))), (49, (.v (.cell (.ptr 2000 0 (some ⟨(A.toN x1) * 2, 2, 10, 0, 0, 0⟩))))), (48, (i6 x1)), (47, (i6 x1)), (4, (pT 1002 0)), (5, (pT 2000 0)), (11, (pT 15000 0)), (13, (i6 x1)), (40, (i6 x1))], [(1002, (bU 5 x2 44)), (2000, (bU 10 (g50r0 A ((A.toN x1) * 2) x0 x3) 63)), (15000, (bU 5 (x4.set (A.toN x1) (A.nb .and .u64 ((g50r0 A ((A.toN x1) * 2) x0 x3).getD (((A.toN x1) * 2) + 1) 0) 2251799813685247)) 44))]⟩ _ (by kernel_rfl)).trans h7
  rw [h9] at h10
  have h11 := (g42Qn A n _ _ _).trans h10
  have h12 := (blockK_n 5 _ _).trans h11
  have h5 := g42R20 A n (blockK 5 (g42Q A n (pth 7775) (g42W A n (pth 607) m0 (blockK 4 (g42Q A n (pth 127) (g42T kk)))))) x1 x1 x2 (g50r0 A ((A.toN x1) * 2) x0 x3) x4
  have h13 := (g42p111110100110011 A n _ ⟨[(46, (.tup [])), (45, (u64v x0)), (44, (.v (.cell (.ptr 2000 0 (some ⟨(A.toN x1) * 2, 2, 10, 0, 0, 0⟩))))), (43, (i6 x1)), (4, (pT 1002 0)), (5, (pT 2000 0)), (11, (pT 15000 0)), (12, (u64v x0)), (13, (i6 x1)), (40, (i6 x1))], [(1002, (bU 5 x2 44)), (2000, (bU 10 (g50r0 A ((A.toN x1) * 2) x0 x3) 63)), (15000, (bU 5 x4 44))]⟩ _ (by kernel_rfl)).trans h5
  rw [h12] at h13
  have h14 := (g42Qn A n _ _ _).trans h13
  have h3 := g42R19 A n (g42Q A n (pth 58975) (blockK 5 (g42Q A n (pth 7775) (g42W A n (pth 607) m0 (blockK 4 (g42Q A n (pth 127) (g42T kk))))))) x0 x1 x1 x2 x3 x4
  have h15 := (g42p111110100110010 A n _ ⟨[(13, (i6 x1)), (42, (i6 x1)), (4, (pT 1002 0)), (5, (pT 2000 0)), (11, (pT 15000 0)), (12, (u64v x0)), (40, (i6 x1))], [(1002, (bU 5 x2 44)), (2000, (bU 10 x3 63)), (15000, (bU 5 x4 44))]⟩ _ (by kernel_rfl)).trans h3
  rw [h14] at h15
  have h16 := (g42p11111010011001 A n _ _).trans h15
  have h17 := (g42Qn A n _ _ _).trans h16
  have h1 := g42R18 A n (g42Q A n (pth 26207) (blockK 5 (g42Q A n (pth 7775) (g42W A n (pth 607) m0 (blockK 4 (g42Q A n (pth 127) (g42T kk))))))) x0 x1 x2 x3 x4
  have h18 := (g42p11111010011000 A n _ ⟨[(4, (pT 1002 0)), (5, (pT 2000 0)), (11, (pT 15000 0)), (12, (u64v x0)), (40, (i6 x1))], [(1002, (bU 5 x2 44)), (2000, (bU 10 x3 63)), (15000, (bU 5 x4 44))]⟩ _ (by kernel_rfl)).trans h1
  rw [h17] at h18
  have h19 := (g42p1111101001100 A n _ _).trans h18
  have h20 := (g42p111110100110 A n _ _).trans h19
  have h21 := (g42p11111010011 A n _ _).trans h20
  exact (codeD_first (s' := ⟨[(4, (pT 1002 0)), (5, (pT 2000 0)), (11, (pT 15000 0)), (12, (u64v x0)), (40, (i6 x1))], [(1002, (bU 5 x2 44)), (2000, (bU 10 x3 63)), (15000, (bU 5 x4 44))]⟩) (id := 18) (by kernel_rfl) (h.trans (by kernel_rfl)) _).trans (h21.trans (by kernel_rfl))
def g42J22 {R : Type} (A : Ar) (n : Nat) (kk : AV → Heap → Option R)  (x0 : Nat) (x1 x2 : List Nat) : Option R :=
  match (generalizing := false) g47ok A (x2.set 0 (A.nb .add .u64 (x2.getD 0 0) (A.nb .mul .u64 x0 19))) with
  | true => kk (aN .u64 5 (g47r0 A (x2.set 0 (A.nb .add .u64 (x2.getD 0 0) (A.nb .mul .u64 x0 19))))) [(1002, (bU 5 (g47r0 A (x2.set 0 (A.nb .add .u64 (x2.getD 0 0) (A.nb .mul .u64 x0 19)))) 44)), (15000, (bU 5 (x2.set 0 (A.nb .add .u64 (x2.getD 0 0) (A.nb .mul .u64 x0 19))) 44))]
  | false => none
set_option maxRecDepth 100000 in
theorem g42J22_eq {R : Type} (A : Ar) (n : Nat) (kk : AV → Heap → Option R)    (s : St) (x0 : Nat) (x1 x2 : List Nat) (h : keep g42an 22 s = ⟨[(4, (pT 1002 0)), (11, (pT 15000 0)), (12, (u64v x0))], [(1002, (bU 5 x1 44)), (15000, (bU 5 x2 44))]⟩) :
    g42D A n (pth 127) (g42T kk) s = g42J22 A n kk  x0 x1 x2 := by
  have h5 : (g42T kk) .ret ⟨[(66, (aN .u64 5 (g47r0 A (x2.set 0 (A.nb .add .u64 (x2.getD 0 0) (A.nb .mul .u64 x0 19)))))), (65, (aN .u64 5 (x2.set 0 (A.nb .add .u64 (x2.getD 0 0) (A.nb .mul .u64 x0 19))))), (4, (pT 1002 0)), (11, (pT 15000 0))], [(1002, (bU 5 (g47r0 A (x2.set 0 (A.nb .add .u64 (x2.getD 0 0) (A.nb .mul .u64 x0 19)))) 44)), (15000, (bU 5 (x2.set 0 (A.nb .add .u64 (x2.getD 0 0) (A.nb .mul .u64 x0 19))) 44))]⟩ = kk (aN .u64 5 (g47r0 A (x2.set 0 (A.nb .add .u64 (x2.getD 0 0) (A.nb .mul .u64 x0 19))))) [(1002, (bU 5 (g47r0 A (x2.set 0 (A.nb .add .u64 (x2.getD 0 0) (A.nb .mul .u64 x0 19)))) 44)), (15000, (bU 5 (x2.set 0 (A.nb .add .u64 (x2.getD 0 0) (A.nb .mul .u64 x0 19))) 44))] := by kernel_rfl
  have h6 := (g42p11111111 A n _ _).trans h5
  have h7 := (g42Qn A n _ _ _).trans h6
  have h3 := g42R23 A n (g42Q A n (pth 511) (g42T kk)) x1 (x2.set 0 (A.nb .add .u64 (x2.getD 0 0) (A.nb .mul .u64 x0 19)))
  have h8 := (g42p11111110 A n _ ⟨[(64, (pT 15000 0)), (63, (u64v (A.nb .add .u64 (x2.getD 0 0) (A.nb .mul .u64 x0 19)))), (62, (u64v (A.nb .mul .u64 x0 19))), (61, (u64v x0)), (60, (u64v (x2.getD 0 0))), (59, (pT 15000 0)), (4, (pT 1002 0)), (11, (pT 15000 0)), (12, (u64v x0))], [(1002, (bU 5 x1 44)), (15000, (bU 5 (x2.set 0 (A.nb .add .u64 (x2.getD 0 0) (A.nb .mul .u64 x0 19))) 44))]⟩ _ (by kernel_rfl)).trans h3
  rw [h7] at h8
  have h9 := (g42p1111111 A n _ _).trans h8
  have h10 := (g42Qn A n _ _ _).trans h9
  have h1 := g42R22 A n (g42Q A n (pth 255) (g42T kk)) x0 x1 x2
  have h11 := (g42p1111110 A n _ ⟨[(4, (pT 1002 0)), (11, (pT 15000 0)), (12, (u64v x0))], [(1002, (bU 5 x1 44)), (15000, (bU 5 x2 44))]⟩ _ (by kernel_rfl)).trans h1
  rw [h10] at h11
  have h12 := (g42p111111 A n _ _).trans h11
  exact (codeD_first (s' := ⟨[(4, (pT 1002 0)), (11, (pT 15000 0)), (12, (u64v x0))], [(1002, (bU 5 x1 44)), (15000, (bU 5 x2 44))]⟩) (id := 22) (by kernel_rfl) (h.trans (by kernel_rfl)) _).trans (h12.trans (by kernel_rfl))
def g42L17 {R : Type} (A : Ar) (n : Nat) (kk : AV → Heap → Option R)  : Nat → Nat → Int → List Nat → List Nat → List Nat → Option R
  | 0, _, _, _, _, _ => none
  | m + 1, x0, x1, x2, x3, x4 => match (generalizing := false) A.ic .lss x1 5 with
  | true => g42J18 A n kk (g42L17 A n kk  m) x0 x1 x2 x3 x4
  | false => g42J22 A n kk  x0 x2 x4
set_option maxRecDepth 100000 in
theorem g42L17_eq {R : Type} (A : Ar) (n : Nat) (kk : AV → Heap → Option R)    (m : Nat) (s : St) (x0 : Nat) (x1 : Int) (x2 x3 x4 : List Nat) (h : keep g42an 17 s = ⟨[(4, (pT 1002 0)), (5, (pT 2000 0)), (11, (pT 15000 0)), (12, (u64v x0)), (40, (i6 x1))], [(1002, (bU 5 x2 44)), (2000, (bU 10 x3 63)), (15000, (bU 5 x4 44))]⟩) :
    g42V A n (pth 607) m (blockK 4 (g42Q A n (pth 127) (g42T kk))) s = g42L17 A n kk  m x0 x1 x2 x3 x4 := by
  induction m generalizing s x0 x1 x2 x3 x4 with
  | zero => rfl
  | succ m ih =>
    have h3 := (g42Qn A n _ _ _).trans (g42J18_eq A n kk m (g42L17 A n kk  m) ih  ⟨[(41, (bO (A.ic .lss x1 5))), (4, (pT 1002 0)), (5, (pT 2000 0)), (11, (pT 15000 0)), (12, (u64v x0)), (40, (i6 x1))], [(1002, (bU 5 x2 44)), (2000, (bU 10 x3 63)), (15000, (bU 5 x4 44))]⟩ x0 x1 x2 x3 x4 (by kernel_rfl))
    have h4 := (g42p111110100100 A n _ _).trans h3
    have h5 := (g42Qn A n _ _ _).trans (g42J22_eq A n kk     ⟨[(41, (bO (A.ic .lss x1 5))), (4, (pT 1002 0)), (5, (pT 2000 0)), (11, (pT 15000 0)), (12, (u64v x0)), (40, (i6 x1))], [(1002, (bU 5 x2 44)), (2000, (bU 10 x3 63)), (15000, (bU 5 x4 44))]⟩ x0 x2 x4 (by kernel_rfl))
    have h6 := (blockK_hit 4 _ _).trans h5
    have h7 := (g42We A n (pth 607) m _ _ _).trans h6
    have h8 := (g42Qe A n (pth 3679) _ _ _).trans h7
    have h9 := (g42p111110100101 A n _ _).trans h8
    have h10 := g42p11111010010 A n (g42Q A n (pth 3679) (g42W A n (pth 607) m (blockK 4 (g42Q A n (pth 127) (g42T kk))))) ⟨[(41, (bO (A.ic .lss x1 5))), (4, (pT 1002 0)), (5, (pT 2000 0)), (11, (pT 15000 0)), (12, (u64v x0)), (40, (i6 x1))], [(1002, (bU 5 x2 44)), (2000, (bU 10 x3 63)), (15000, (bU 5 x4 44))]⟩ (A.ic .lss x1 5) (by kernel_rfl)
    rw [h4, h9] at h10
    have h11 := (g42p1111101001 A n _ _).trans h10
    have h12 := (g42Qn A n _ _ _).trans h11
    have h1 := g42R17 A n (g42Q A n (pth 1631) (g42W A n (pth 607) m (blockK 4 (g42Q A n (pth 127) (g42T kk))))) x0 x1 x2 x3 x4
    have h13 := (g42p1111101000 A n _ ⟨[(4, (pT 1002 0)), (5, (pT 2000 0)), (11, (pT 15000 0)), (12, (u64v x0)), (40, (i6 x1))], [(1002, (bU 5 x2 44)), (2000, (bU 10 x3 63)), (15000, (bU 5 x4 44))]⟩ _ (by kernel_rfl)).trans h1
    rw [h12] at h13
    have h14 := (g42p111110100 A n _ _).trans h13
    exact (loopD_first (s' := ⟨[(4, (pT 1002 0)), (5, (pT 2000 0)), (11, (pT 15000 0)), (12, (u64v x0)), (40, (i6 x1))], [(1002, (bU 5 x2 44)), (2000, (bU 10 x3 63)), (15000, (bU 5 x4 44))]⟩) (id := 17) (by kernel_rfl) (h.trans (by kernel_rfl)) _).trans ((g42Vs A n _ m _ _).trans (h14.trans (by kernel_rfl)))
def g42J14 {R : Type} (A : Ar) (n : Nat) (kk : AV → Heap → Option R)  (x0 x1 : List Nat) : Option R :=
  g42L17 A n kk  n 0 0 x0 x1 [0, 0, 0, 0, 0]
set_option maxRecDepth 100000 in
theorem g42J14_eq {R : Type} (A : Ar) (n : Nat) (kk : AV → Heap → Option R)    (s : St) (x0 x1 : List Nat) (h : keep g42an 14 s = ⟨[(4, (pT 1002 0)), (5, (pT 2000 0))], [(1002, (bU 5 x0 44)), (2000, (bU 10 x1 63))]⟩) :
    g42D A n (pth 15) (g42T kk) s = g42J14 A n kk  x0 x1 := by
  have h7 := (g42p11111010 A n _ _).trans (g42L17_eq A n kk    n ⟨[(40, (i6 0)), (4, (pT 1002 0)), (5, (pT 2000 0)), (11, (pT 15000 0)), (12, (u64v 0))], [(1002, (bU 5 x0 44)), (2000, (bU 10 x1 63)), (15000, (bU 5 [0, 0, 0, 0, 0] 44))]⟩ 0 0 x0 x1 [0, 0, 0, 0, 0] (by kernel_rfl))
  have h8 := (g42p1111101 A n _ _).trans h7
  have h9 := (g42Qn A n _ _ _).trans h8
  have h5 := g42R16 A n (g42Q A n (pth 223) (g42Q A n (pth 127) (g42T kk))) 0 x0 x1 [0, 0, 0, 0, 0]
  have h10 := (g42p1111100 A n _ ⟨[(12, (u64v 0)), (4, (pT 1002 0)), (5, (pT 2000 0)), (11, (pT 15000 0))], [(1002, (bU 5 x0 44)), (2000, (bU 10 x1 63)), (15000, (bU 5 [0, 0, 0, 0, 0] 44))]⟩ _ (by kernel_rfl)).trans h5
  rw [h9] at h10
  have h11 := (g42p111110 A n _ _).trans h10
  have h12 := (g42p11111 A n _ _).trans h11
  have h13 := (g42Qn A n _ _ _).trans h12
  have h3 := g42R15 A n (g42Q A n (pth 63) (g42T kk)) x0 x1 [0, 0, 0, 0, 0]
  have h14 := (g42p11110 A n _ ⟨[(11, (pT 15000 0)), (4, (pT 1002 0)), (5, (pT 2000 0))], [(15000, (bU 5 [0, 0, 0, 0, 0] 44)), (1002, (bU 5 x0 44)), (2000, (bU 10 x1 63))]⟩ _ (by kernel_rfl)).trans h3
  rw [h13] at h14
  have h15 := (g42p1111 A n _ _).trans h14
  have h16 := (g42Qn A n _ _ _).trans h15
  have h1 := g42R14 A n (g42Q A n (pth 31) (g42T kk)) x0 x1
  have h17 := (g42p1110 A n _ ⟨[(4, (pT 1002 0)), (5, (pT 2000 0))], [(1002, (bU 5 x0 44)), (2000, (bU 10 x1 63))]⟩ _ (by kernel_rfl)).trans h1
  rw [h16] at h17
  have h18 := (g42p111 A n _ _).trans h17
  exact (codeD_first (s' := ⟨[(4, (pT 1002 0)), (5, (pT 2000 0))], [(1002, (bU 5 x0 44)), (2000, (bU 10 x1 63))]⟩) (id := 14) (by kernel_rfl) (h.trans (by kernel_rfl)) _).trans (h18.trans (by kernel_rfl))
def g42L3 {R : Type} (A : Ar) (n : Nat) (kk : AV → Heap → Option R)  : Nat → List Nat → Int → List Nat → List Nat → List Nat → Option R
  | 0, _, _, _, _, _ => none
  | m + 1, x0, x1, x2, x3, x4 => match (generalizing := false) A.ic .lss x1 5 with
  | true => g42J4 A n kk (g42L3 A n kk  m) x0 x1 x2 x3 x4
  | false => g42J14 A n kk  x3 x4
set_option maxRecDepth 100000 in
theorem g42L3_eq {R : Type} (A : Ar) (n : Nat) (kk : AV → Heap → Option R)    (m : Nat) (s : St) (x0 : List Nat) (x1 : Int) (x2 x3 x4 : List Nat) (h : keep g42an 3 s = ⟨[(3, (pT 1001 0)), (4, (pT 1002 0)), (5, (pT 2000 0)), (14, (aN .u64 5 x0)), (15, (i6 x1))], [(1001, (bU 5 x2 44)), (1002, (bU 5 x3 44)), (2000, (bU 10 x4 63))]⟩) :
    g42V A n (pth 75) m (blockK 0 (g42Q A n (pth 15) (g42T kk))) s = g42L3 A n kk  m x0 x1 x2 x3 x4 := by
  induction m generalizing s x0 x1 x2 x3 x4 with
  | zero => rfl
  | succ m ih =>
    have h3 := (g42Qn A n _ _ _).trans (g42J4_eq A n kk m (g42L3 A n kk  m) ih  ⟨[(16, (bO (A.ic .lss x1 5))), (3, (pT 1001 0)), (4, (pT 1002 0)), (5, (pT 2000 0)), (14, (aN .u64 5 x0)), (15, (i6 x1))], [(1001, (bU 5 x2 44)), (1002, (bU 5 x3 44)), (2000, (bU 10 x4 63))]⟩ x0 x1 x2 x3 x4 (by kernel_rfl))
    have h4 := (g42p110100100 A n _ _).trans h3
    have h5 := (g42Qn A n _ _ _).trans (g42J14_eq A n kk     ⟨[(16, (bO (A.ic .lss x1 5))), (3, (pT 1001 0)), (4, (pT 1002 0)), (5, (pT 2000 0)), (14, (aN .u64 5 x0)), (15, (i6 x1))], [(1001, (bU 5 x2 44)), (1002, (bU 5 x3 44)), (2000, (bU 10 x4 63))]⟩ x3 x4 (by kernel_rfl))
    have h6 := (blockK_hit 0 _ _).trans h5
    have h7 := (g42We A n (pth 75) m _ _ _).trans h6
    have h8 := (g42Qe A n (pth 459) _ _ _).trans h7
    have h9 := (g42p110100101 A n _ _).trans h8
    have h10 := g42p11010010 A n (g42Q A n (pth 459) (g42W A n (pth 75) m (blockK 0 (g42Q A n (pth 15) (g42T kk))))) ⟨[(16, (bO (A.ic .lss x1 5))), (3, (pT 1001 0)), (4, (pT 1002 0)), (5, (pT 2000 0)), (14, (aN .u64 5 x0)), (15, (i6 x1))], [(1001, (bU 5 x2 44)), (1002, (bU 5 x3 44)), (2000, (bU 10 x4 63))]⟩ (A.ic .lss x1 5) (by kernel_rfl)
    rw [h4, h9] at h10
    have h11 := (g42p1101001 A n _ _).trans h10
    have h12 := (g42Qn A n _ _ _).trans h11
    have h1 := g42R3 A n (g42Q A n (pth 203) (g42W A n (pth 75) m (blockK 0 (g42Q A n (pth 15) (g42T kk))))) x0 x1 x2 x3 x4
    have h13 := (g42p1101000 A n _ ⟨[(3, (pT 1001 0)), (4, (pT 1002 0)), (5, (pT 2000 0)), (14, (aN .u64 5 x0)), (15, (i6 x1))], [(1001, (bU 5 x2 44)), (1002, (bU 5 x3 44)), (2000, (bU 10 x4 63))]⟩ _ (by kernel_rfl)).trans h1
    rw [h12] at h13
    have h14 := (g42p110100 A n _ _).trans h13
    exact (loopD_first (s' := ⟨[(3, (pT 1001 0)), (4, (pT 1002 0)), (5, (pT 2000 0)), (14, (aN .u64 5 x0)), (15, (i6 x1))], [(1001, (bU 5 x2 44)), (1002, (bU 5 x3 44)), (2000, (bU 10 x4 63))]⟩) (id := 3) (by kernel_rfl) (h.trans (by kernel_rfl)) _).trans ((g42Vs A n _ m _ _).trans (h14.trans (by kernel_rfl)))
def g42 {R : Type} (A : Ar) (n : Nat) (kk : AV → Heap → Option R) (a b : List Nat) : Option R :=
  g42L3 A n kk  n a 0 b [0, 0, 0, 0, 0] [0, 0, 0, 0, 0, 0, 0, 0, 0, 0]
set_option maxRecDepth 100000 in
theorem g42_eq {R : Type} (A : Ar) (n : Nat) (kk : AV → Heap → Option R) (a b : List Nat) :
    funD A gtys (g42O A) g42an n (bodyOf Try.f42) g42res [(aN .u64 5 a), (aN .u64 5 b)] [] kk = g42 A n kk a b := by
  have h7 := (g42p11010 A n _ _).trans (g42L3_eq A n kk    n ⟨[(15, (i6 0)), (14, (aN .u64 5 a)), (2, (pT 1000 0)), (3, (pT 1001 0)), (4, (pT 1002 0)), (5, (pT 2000 0))], [(1000, (bU 5 a 44)), (1001, (bU 5 b 44)), (1002, (bU 5 [0, 0, 0, 0, 0] 44)), (2000, (bU 10 [0, 0, 0, 0, 0, 0, 0, 0, 0, 0] 63))]⟩ a 0 b [0, 0, 0, 0, 0] [0, 0, 0, 0, 0, 0, 0, 0, 0, 0] (by kernel_rfl))
  have h8 := (g42p1101 A n _ _).trans h7
  have h9 := (g42Qn A n _ _ _).trans h8
  have h5 := g42R2 A n (g42Q A n (pth 27) (g42Q A n (pth 15) (g42T kk))) a b [0, 0, 0, 0, 0] [0, 0, 0, 0, 0, 0, 0, 0, 0, 0]
  have h10 := (g42p1100 A n _ ⟨[(5, (pT 2000 0)), (2, (pT 1000 0)), (3, (pT 1001 0)), (4, (pT 1002 0))], [(2000, (bU 10 [0, 0, 0, 0, 0, 0, 0, 0, 0, 0] 63)), (1000, (bU 5 a 44)), (1001, (bU 5 b 44)), (1002, (bU 5 [0, 0, 0, 0, 0] 44))]⟩ _ (by kernel_rfl)).trans h5
  rw [h9] at h10
  have h11 := (g42p110 A n _ _).trans h10
  have h12 := (g42p11 A n _ _).trans h11
  have h13 := (g42Qn A n _ _ _).trans h12
  have h3 := g42R1 A n (g42Q A n (pth 7) (g42T kk)) a b [0, 0, 0, 0, 0]
  have h14 := (g42p10 A n _ ⟨[(4, (pT 1002 0)), (3, (pT 1001 0)), (2, (pT 1000 0)), (0, (aN .u64 5 a)), (1, (aN .u64 5 b))], [(1002, (bU 5 [0, 0, 0, 0, 0] 44)), (1001, (bU 5 b 44)), (1000, (bU 5 a 44))]⟩ _ (by kernel_rfl)).trans h3
  rw [h13] at h14
  have h15 := (g42p1 A n _ _).trans h14
  have h16 := (g42Qn A n _ _ _).trans h15
  have h1 := g42R0 A n (g42Q A n (pth 3) (g42T kk)) a b
  have h17 := (g42p0 A n _ ⟨[(0, (aN .u64 5 a)), (1, (aN .u64 5 b))], []⟩ _ (by kernel_rfl)).trans h1
  rw [h16] at h17
  have h18 := (g42p A n _ _).trans h17
  exact (show funD A gtys (g42O A) g42an n (bodyOf Try.f42) g42res [(aN .u64 5 a), (aN .u64 5 b)] [] kk = g42D A n (pth 1) (g42T kk) ⟨[(0, (aN .u64 5 a)), (1, (aN .u64 5 b))], []⟩ from by kernel_rfl).trans (h18.trans (by kernel_rfl))
def g42is (o : Option AV) : Bool := match o with
  | some (aN .u64 5 _) => true
  | _ => false
def g42g0 (o : Option AV) : List Nat := match o with
  | some (aN .u64 5 x) => x
  | _ => []
theorem g42is_spec {o : Option AV} (h : g42is o = true) : o = some (aN .u64 5 (g42g0 o)) := by
  unfold g42is at h
  split at h
  · rfl
  · cases h
def g42v (A : Ar) (a b : List Nat) : Option AV := g42 A (100000) (fun v _ => some v) a b
def g42ok (A : Ar) (a b : List Nat) : Bool := g42is (g42v A a b)
def g42r0 (A : Ar) (a b : List Nat) : List Nat := g42g0 (g42v A a b)
theorem g42ok_spec {A : Ar} {a b} (h : g42ok A a b = true) : g42v A a b = some (aN .u64 5 (g42r0 A a b)) := g42is_spec h
def g42o (A : Ar) (args : List AV) : Option (Bool × AV) := match args with
  | [.v (.agg [.nums .u64 n0 a]), .v (.agg [.nums .u64 n1 b])] => some (Nat.beq n0 5 && (Nat.beq n1 5 && (g42ok A a b)), .v (.agg [.nums .u64 5 (g42r0 A a b)]))
  | _ => none
theorem g42o_sound : ∀ args v, g42o realA args = some (true, v) → Fn1 Try.prog 42 args v := by
  intro args v h
  unfold g42o at h
  split at h
  · rename_i n0 a n1 b
    simp only [Option.some.injEq, Prod.mk.injEq] at h
    obtain ⟨hc, h⟩ := h
    subst h
    · skip
      simp only [Bool.and_eq_true] at hc
      have en0 := beq_true hc.1
      subst en0
      replace hc := hc.2
      have en1 := beq_true hc.1
      subst en1
      replace hc := hc.2
      exact fn1_of mixed gtysOK g42O_sound g42O_det (an := g42an) (n := 100000) Try.func42 (c := bodyOf Try.f42) rfl (by kernel_rfl) Try.call42 (Nat.le_of_ble_eq_true rfl) (fun b => rfl) (fun _ => (g42_eq realA (100000) (fun v _ => some v) a b).trans (show g42v realA a b = _ from g42ok_spec hc))
  · cases h
end Go.Sx
