import Derived.Test.YtnnepclpggbjgaaSxS03V
/- printed by sxgen -/
namespace Go.Sx
open Go.Proofs
set_option linter.unusedVariables false
/- engrosser/engrosserref03.Odd -/
def g32O (A : Ar) : Orc := orcOf [(39, g39o A)]
theorem g32O_sound : OSound Try.prog (g32O realA) := orc_sound fun f g hm args v hv => by
  simp only [List.mem_cons, List.not_mem_nil, or_false, Prod.mk.injEq] at hm
  rcases hm with ⟨rfl, rfl⟩
  · exact g39o_sound _ _ hv
theorem g32O_det : ODet (g32O realA) := orc_det _
def g32an : Ann := [(0, ([0], [])), (1, ([1], [1000]))]
def g32res : List ResultVar := [.tmp 2]
noncomputable def g32D {R : Type} (A : Ar) (n : Nat) (p : List Bool) (K : Ex → St → Option R) (s : St) : Option R := codeD A gtys (g32O A) g32an n (sub (bodyOf Try.f32) p) K s
noncomputable def g32Q {R : Type} (A : Ar) (n : Nat) (p : List Bool) (K : Ex → St → Option R) : Ex → St → Option R := seqC (g32D A n p K) K
noncomputable def g32T {R : Type} (kk : AV → Heap → Option R) : Ex → St → Option R := finD gtys g32res kk
theorem g32Qn {R : Type} (A : Ar) (n : Nat) (p : List Bool) (K : Ex → St → Option R) (s : St) : g32Q A n p K .normal s = g32D A n p K s := rfl
theorem g32F {R : Type} (A : Ar) (n : Nat) (p : List Bool) (i : Nat) (K : Ex → St → Option R) (s s' : St) (hf : firstReg (sub (bodyOf Try.f32) p) = some i) (h : keep g32an i s = keep g32an i s') : g32D A n p K s = g32D A n p K s' := codeD_first hf h K
section
variable {R : Type} (A : Ar) (n : Nat) (K : Ex → St → Option R) (s : St)
theorem g32p1 : g32D A n (pth 1) K s = g32D A n (pth 2) (g32Q A n (pth 3) K) s := by kernel_rfl
theorem g32p3 : g32D A n (pth 3) K s = g32D A n (pth 5) (g32Q A n (pth 7) K) s := by kernel_rfl
theorem g32p7 : g32D A n (pth 7) K s = K .ret s := by kernel_rfl
def g32R0s0 (A : Ar) (x0 : List Nat) : St := ⟨[(2, (bO false)), (1, (pT 1000 0)), (0, (aN .u64 4 x0))], [(1000, (bU 4 x0 24))]⟩
theorem g32R0 (x0 : List Nat) : g32D A n (pth 2) K ⟨[(0, (aN .u64 4 x0))], []⟩ = K .normal (g32R0s0 A x0) := by kernel_rfl
def g32R1s0 (A : Ar) (x0 : List Nat) : St := ⟨[(2, (bO (A.nc .eql (A.nb .rem .u32 ((g39r0 A x0).getD 0 0) 2) 1))), (7, (bO (A.nc .eql (A.nb .rem .u32 ((g39r0 A x0).getD 0 0) 2) 1))), (6, (u32v (A.nb .rem .u32 ((g39r0 A x0).getD 0 0) 2))), (5, (u32v ((g39r0 A x0).getD 0 0))), (4, (aN .u32 8 (g39r0 A x0))), (3, (aN .u64 4 x0)), (1, (pT 1000 0))], [(1000, (bU 4 x0 24))]⟩
theorem g32R1 (x0 : List Nat) : g32D A n (pth 5) K ⟨[(1, (pT 1000 0))], [(1000, (bU 4 x0 24))]⟩ = match (generalizing := false) g39ok A x0 with
    | true => K .normal (g32R1s0 A x0)
    | false => none := by kernel_rfl
end
def g32 {R : Type} (A : Ar) (n : Nat) (kk : AV → Heap → Option R) (a : List Nat) : Option R :=
  match (generalizing := false) g39ok A a with
  | true => kk (bO (A.nc .eql (A.nb .rem .u32 ((g39r0 A a).getD 0 0) 2) 1)) [(1000, (bU 4 a 24))]
  | false => none
set_option maxRecDepth 100000 in
theorem g32_eq {R : Type} (A : Ar) (n : Nat) (kk : AV → Heap → Option R) (a : List Nat) :
    funD A gtys (g32O A) g32an n (bodyOf Try.f32) g32res [(aN .u64 4 a)] [] kk = g32 A n kk a := by
  have h1 : (g32T kk) .ret (g32R1s0 A a) = kk (bO (A.nc .eql (A.nb .rem .u32 ((g39r0 A a).getD 0 0) 2) 1)) [(1000, (bU 4 a 24))] := by kernel_rfl
  have h2 := (g32p7 A n _ _).trans h1
  have h3 := (g32Qn A n _ _ _).trans h2
  have h4 := (g32F A n _ 1 _ (g32R0s0 A a) _ (by kernel_rfl) (by kernel_rfl)).trans (g32R1 A n (g32Q A n (pth 7) (g32T kk)) a)
  rw [h3] at h4
  have h5 := (g32p3 A n _ _).trans h4
  have h6 := (g32Qn A n _ _ _).trans h5
  have h7 := (g32F A n _ 0 _ ⟨[(0, (aN .u64 4 a))], []⟩ _ (by kernel_rfl) (by kernel_rfl)).trans (g32R0 A n (g32Q A n (pth 3) (g32T kk)) a)
  rw [h6] at h7
  have h8 := (g32p1 A n _ _).trans h7
  exact (show funD A gtys (g32O A) g32an n (bodyOf Try.f32) g32res [(aN .u64 4 a)] [] kk = g32D A n (pth 1) (g32T kk) ⟨[(0, (aN .u64 4 a))], []⟩ from by kernel_rfl).trans (h8.trans (by kernel_rfl))
def g32is (o : Option AV) : Bool := match o with
  | some (.v (.cell (.bool _))) => true
  | _ => false
def g32g0 (o : Option AV) : Bool := match o with
  | some (.v (.cell (.bool x))) => x
  | _ => false
theorem g32is_spec {o : Option AV} (h : g32is o = true) : o = some (.v (.cell (.bool (g32g0 o)))) := by
  unfold g32is at h
  split at h
  · rfl
  · cases h
def g32v (A : Ar) (a : List Nat) : Option AV := g32 A (100000) (fun v _ => some v) a
def g32ok (A : Ar) (a : List Nat) : Bool := g32is (g32v A a)
def g32r0 (A : Ar) (a : List Nat) : Bool := g32g0 (g32v A a)
theorem g32ok_spec {A : Ar} {a} (h : g32ok A a = true) : g32v A a = some (.v (.cell (.bool (g32r0 A a)))) := g32is_spec h
def g32o (A : Ar) (args : List AV) : Option (Bool × AV) := match args with
  | [.v (.agg [.nums .u64 n0 a])] => some (Nat.beq n0 4 && (g32ok A a), .v (.cell (.bool (g32r0 A a))))
  | _ => none
theorem g32o_sound : ∀ args v, g32o realA args = some (true, v) → Fn1 Try.prog 32 args v := by
  intro args v h
  unfold g32o at h
  split at h
  · rename_i n0 a
    simp only [Option.some.injEq, Prod.mk.injEq] at h
    obtain ⟨hc, h⟩ := h
    subst h
    · skip
      simp only [Bool.and_eq_true] at hc
      have en0 := beq_true hc.1
      subst en0
      replace hc := hc.2
      exact fn1_of mixed gtysOK g32O_sound g32O_det (an := g32an) (n := 100000) Try.func32 (c := bodyOf Try.f32) rfl (by kernel_rfl) Try.call32 (Nat.le_of_ble_eq_true rfl) (fun b => rfl) (fun _ => (g32_eq realA (100000) (fun v _ => some v) a).trans (show g32v realA a = _ from g32ok_spec hc))
  · cases h
/- engrosser/engrosserref03.Small -/
def g35O (A : Ar) : Orc := orcOf []
theorem g35O_sound : OSound Try.prog (g35O realA) := orc_sound fun f g hm args v hv => by
  cases hm
theorem g35O_det : ODet (g35O realA) := orc_det _
def g35an : Ann := [(0, ([0], [])), (1, ([0, 2], [1000]))]
def g35res : List ResultVar := [.cell 2 24]
noncomputable def g35D {R : Type} (A : Ar) (n : Nat) (p : List Bool) (K : Ex → St → Option R) (s : St) : Option R := codeD A gtys (g35O A) g35an n (sub (bodyOf Try.f35) p) K s
noncomputable def g35Q {R : Type} (A : Ar) (n : Nat) (p : List Bool) (K : Ex → St → Option R) : Ex → St → Option R := seqC (g35D A n p K) K
noncomputable def g35T {R : Type} (kk : AV → Heap → Option R) : Ex → St → Option R := finD gtys g35res kk
theorem g35Qn {R : Type} (A : Ar) (n : Nat) (p : List Bool) (K : Ex → St → Option R) (s : St) : g35Q A n p K .normal s = g35D A n p K s := rfl
theorem g35F {R : Type} (A : Ar) (n : Nat) (p : List Bool) (i : Nat) (K : Ex → St → Option R) (s s' : St) (hf : firstReg (sub (bodyOf Try.f35) p) = some i) (h : keep g35an i s = keep g35an i s') : g35D A n p K s = g35D A n p K s' := codeD_first hf h K
section
variable {R : Type} (A : Ar) (n : Nat) (K : Ex → St → Option R) (s : St)
theorem g35p1 : g35D A n (pth 1) K s = g35D A n (pth 2) (g35Q A n (pth 3) K) s := by kernel_rfl
theorem g35p3 : g35D A n (pth 3) K s = g35D A n (pth 5) (g35Q A n (pth 7) K) s := by kernel_rfl
theorem g35p7 : g35D A n (pth 7) K s = K .ret s := by kernel_rfl
def g35R0s0 (A : Ar) (x0 : Nat) : St := ⟨[(2, (pT 1000 0)), (0, (u64v x0))], [(1000, (bU 4 [0, 0, 0, 0] 24))]⟩
theorem g35R0 (x0 : Nat) : g35D A n (pth 2) K ⟨[(0, (u64v x0))], []⟩ = K .normal (g35R0s0 A x0) := by kernel_rfl
def g35R1s0 (A : Ar) (x0 : Nat) (x1 : List Nat) : St := ⟨[(4, (aN .u64 4 ([0, 0, 0, 0].set 0 x0))), (3, (u64v x0)), (0, (u64v x0)), (2, (pT 1000 0))], [(1000, (bU 4 ([0, 0, 0, 0].set 0 x0) 24))]⟩
theorem g35R1 (x0 : Nat) (x1 : List Nat) : g35D A n (pth 5) K ⟨[(0, (u64v x0)), (2, (pT 1000 0))], [(1000, (bU 4 x1 24))]⟩ = K .normal (g35R1s0 A x0 x1) := by kernel_rfl
end
def g35 {R : Type} (A : Ar) (n : Nat) (kk : AV → Heap → Option R) (a : Nat) : Option R :=
  kk (aN .u64 4 ([0, 0, 0, 0].set 0 a)) [(1000, (bU 4 ([0, 0, 0, 0].set 0 a) 24))]
set_option maxRecDepth 100000 in
theorem g35_eq {R : Type} (A : Ar) (n : Nat) (kk : AV → Heap → Option R) (a : Nat) :
    funD A gtys (g35O A) g35an n (bodyOf Try.f35) g35res [(u64v a)] [] kk = g35 A n kk a := by
  have h1 : (g35T kk) .ret (g35R1s0 A a [0, 0, 0, 0]) = kk (aN .u64 4 ([0, 0, 0, 0].set 0 a)) [(1000, (bU 4 ([0, 0, 0, 0].set 0 a) 24))] := by kernel_rfl
  have h2 := (g35p7 A n _ _).trans h1
  have h3 := (g35Qn A n _ _ _).trans h2
  have h4 := (g35F A n _ 1 _ (g35R0s0 A a) _ (by kernel_rfl) (by kernel_rfl)).trans (g35R1 A n (g35Q A n (pth 7) (g35T kk)) a [0, 0, 0, 0])
  rw [h3] at h4
  have h5 := (g35p3 A n _ _).trans h4
  have h6 := (g35Qn A n _ _ _).trans h5
  have h7 := (g35F A n _ 0 _ ⟨[(0, (u64v a))], []⟩ _ (by kernel_rfl) (by kernel_rfl)).trans (g35R0 A n (g35Q A n (pth 3) (g35T kk)) a)
  rw [h6] at h7
  have h8 := (g35p1 A n _ _).trans h7
  exact (show funD A gtys (g35O A) g35an n (bodyOf Try.f35) g35res [(u64v a)] [] kk = g35D A n (pth 1) (g35T kk) ⟨[(0, (u64v a))], []⟩ from by kernel_rfl).trans (h8.trans (by kernel_rfl))
def g35is (o : Option AV) : Bool := match o with
  | some (aN .u64 4 _) => true
  | _ => false
def g35g0 (o : Option AV) : List Nat := match o with
  | some (aN .u64 4 x) => x
  | _ => []
theorem g35is_spec {o : Option AV} (h : g35is o = true) : o = some (aN .u64 4 (g35g0 o)) := by
  unfold g35is at h
  split at h
  · rfl
  · cases h
def g35v (A : Ar) (a : Nat) : Option AV := g35 A (100000) (fun v _ => some v) a
def g35ok (A : Ar) (a : Nat) : Bool := g35is (g35v A a)
def g35r0 (A : Ar) (a : Nat) : List Nat := g35g0 (g35v A a)
theorem g35ok_spec {A : Ar} {a} (h : g35ok A a = true) : g35v A a = some (aN .u64 4 (g35r0 A a)) := g35is_spec h
def g35o (A : Ar) (args : List AV) : Option (Bool × AV) := match args with
  | [.v (.cell (.nat .u64 a))] => some (g35ok A a, .v (.agg [.nums .u64 4 (g35r0 A a)]))
  | _ => none
theorem g35o_sound : ∀ args v, g35o realA args = some (true, v) → Fn1 Try.prog 35 args v := by
  intro args v h
  unfold g35o at h
  split at h
  · rename_i a
    simp only [Option.some.injEq, Prod.mk.injEq] at h
    obtain ⟨hc, h⟩ := h
    subst h
    · skip
      exact fn1_of mixed gtysOK g35O_sound g35O_det (an := g35an) (n := 100000) Try.func35 (c := bodyOf Try.f35) rfl (by kernel_rfl) Try.call35 (Nat.le_of_ble_eq_true rfl) (fun b => rfl) (fun _ => (g35_eq realA (100000) (fun v _ => some v) a).trans (show g35v realA a = _ from g35ok_spec hc))
  · cases h
end Go.Sx
