import Derived.Test.YtnnepclpggbjgaaSxS03b
/- printed by sxgen -/
namespace Go.Sx
open Go.Proofs
set_option linter.unusedVariables false
/- engrosser/field.Invert -/
def g27O (A : Ar) : Orc := orcOf [(24, g24o A)]
theorem g27O_sound : OSound Try.prog (g27O realA) := orc_sound fun f g hm args v hv => by
  simp only [List.mem_cons, List.not_mem_nil, or_false, Prod.mk.injEq] at hm
  rcases hm with ⟨rfl, rfl⟩
  · exact g24o_sound _ _ hv
theorem g27O_det : ODet (g27O realA) := orc_det _
def g27an : Ann := [(0, ([0], [])), (1, ([1, 2], [1000, 1001]))]
def g27res : List ResultVar := [.cell 2 24]
noncomputable def g27D {R : Type} (A : Ar) (n : Nat) (p : List Bool) (K : Ex → St → Option R) (s : St) : Option R := codeD A gtys (g27O A) g27an n (sub (bodyOf Try.f27) p) K s
noncomputable def g27Q {R : Type} (A : Ar) (n : Nat) (p : List Bool) (K : Ex → St → Option R) : Ex → St → Option R := seqC (g27D A n p K) K
noncomputable def g27T {R : Type} (kk : AV → Heap → Option R) : Ex → St → Option R := finD gtys g27res kk
theorem g27Qn {R : Type} (A : Ar) (n : Nat) (p : List Bool) (K : Ex → St → Option R) (s : St) : g27Q A n p K .normal s = g27D A n p K s := rfl
theorem g27F {R : Type} (A : Ar) (n : Nat) (p : List Bool) (i : Nat) (K : Ex → St → Option R) (s s' : St) (hf : firstReg (sub (bodyOf Try.f27) p) = some i) (h : keep g27an i s = keep g27an i s') : g27D A n p K s = g27D A n p K s' := codeD_first hf h K
section
variable {R : Type} (A : Ar) (n : Nat) (K : Ex → St → Option R) (s : St)
theorem g27p1 : g27D A n (pth 1) K s = g27D A n (pth 2) (g27Q A n (pth 3) K) s := by kernel_rfl
theorem g27p3 : g27D A n (pth 3) K s = g27D A n (pth 5) (g27Q A n (pth 7) K) s := by kernel_rfl
theorem g27p7 : g27D A n (pth 7) K s = K .ret s := by kernel_rfl
def g27R0s0 (A : Ar) (x0 : List Nat) : St := ⟨[(2, (pT 1001 0)), (1, (pT 1000 0)), (0, (aN .u64 4 x0))], [(1001, (bU 4 [0, 0, 0, 0] 24)), (1000, (bU 4 x0 24))]⟩
theorem g27R0 (x0 : List Nat) : g27D A n (pth 2) K ⟨[(0, (aN .u64 4 x0))], []⟩ = K .normal (g27R0s0 A x0) := by kernel_rfl
def g27R1s0 (A : Ar) (x0 x1 : List Nat) : St := ⟨[(5, (aN .u64 4 (g24r0 A x0 (((([0, 0, 0, 0].set 0 18446744073709551595).set 1 18446744073709551615).set 2 18446744073709551615).set 3 9223372036854775807)))), (4, (aN .u64 4 (((([0, 0, 0, 0].set 0 18446744073709551595).set 1 18446744073709551615).set 2 18446744073709551615).set 3 9223372036854775807))), (3, (aN .u64 4 x0)), (1, (pT 1000 0)), (2, (pT 1001 0))], [(1000, (bU 4 x0 24)), (1001, (bU 4 (g24r0 A x0 (((([0, 0, 0, 0].set 0 18446744073709551595).set 1 18446744073709551615).set 2 18446744073709551615).set 3 9223372036854775807)) 24))]⟩
theorem g27R1 (x0 x1 : List Nat) : g27D A n (pth 5) K ⟨[(1, (pT 1000 0)), (2, (pT 1001 0))], [(1000, (bU 4 x0 24)), (1001, (bU 4 x1 24))]⟩ = match (generalizing := false) g24ok A x0 (((([0, 0, 0, 0].set 0 18446744073709551595).set 1 18446744073709551615).set 2 18446744073709551615).set 3 9223372036854775807) with
    | true => K .normal (g27R1s0 A x0 x1)
    | false => none := by kernel_rfl
end
def g27 {R : Type} (A : Ar) (n : Nat) (kk : AV → Heap → Option R) (a : List Nat) : Option R :=
  match (generalizing := false) g24ok A a (((([0, 0, 0, 0].set 0 18446744073709551595).set 1 18446744073709551615).set 2 18446744073709551615).set 3 9223372036854775807) with
  | true => kk (aN .u64 4 (g24r0 A a (((([0, 0, 0, 0].set 0 18446744073709551595).set 1 18446744073709551615).set 2 18446744073709551615).set 3 9223372036854775807))) [(1000, (bU 4 a 24)), (1001, (bU 4 (g24r0 A a (((([0, 0, 0, 0].set 0 18446744073709551595).set 1 18446744073709551615).set 2 18446744073709551615).set 3 9223372036854775807)) 24))]
  | false => none
set_option maxRecDepth 100000 in
theorem g27_eq {R : Type} (A : Ar) (n : Nat) (kk : AV → Heap → Option R) (a : List Nat) :
    funD A gtys (g27O A) g27an n (bodyOf Try.f27) g27res [(aN .u64 4 a)] [] kk = g27 A n kk a := by
  have h1 : (g27T kk) .ret (g27R1s0 A a [0, 0, 0, 0]) = kk (aN .u64 4 (g24r0 A a (((([0, 0, 0, 0].set 0 18446744073709551595).set 1 18446744073709551615).set 2 18446744073709551615).set 3 9223372036854775807))) [(1000, (bU 4 a 24)), (1001, (bU 4 (g24r0 A a (((([0, 0, 0, 0].set 0 18446744073709551595).set 1 18446744073709551615).set 2 18446744073709551615).set 3 9223372036854775807)) 24))] := by kernel_rfl
  have h2 := (g27p7 A n _ _).trans h1
  have h3 := (g27Qn A n _ _ _).trans h2
  have h4 := (g27F A n _ 1 _ (g27R0s0 A a) _ (by kernel_rfl) (by kernel_rfl)).trans (g27R1 A n (g27Q A n (pth 7) (g27T kk)) a [0, 0, 0, 0])
  rw [h3] at h4
  have h5 := (g27p3 A n _ _).trans h4
  have h6 := (g27Qn A n _ _ _).trans h5
  have h7 := (g27F A n _ 0 _ ⟨[(0, (aN .u64 4 a))], []⟩ _ (by kernel_rfl) (by kernel_rfl)).trans (g27R0 A n (g27Q A n (pth 3) (g27T kk)) a)
  rw [h6] at h7
  have h8 := (g27p1 A n _ _).trans h7
  exact (show funD A gtys (g27O A) g27an n (bodyOf Try.f27) g27res [(aN .u64 4 a)] [] kk = g27D A n (pth 1) (g27T kk) ⟨[(0, (aN .u64 4 a))], []⟩ from by kernel_rfl).trans (h8.trans (by kernel_rfl))
def g27is (o : Option AV) : Bool := match o with
  | some (aN .u64 4 _) => true
  | _ => false
def g27g0 (o : Option AV) : List Nat := match o with
  | some (aN .u64 4 x) => x
  | _ => []
theorem g27is_spec {o : Option AV} (h : g27is o = true) : o = some (aN .u64 4 (g27g0 o)) := by
  unfold g27is at h
  split at h
  · rfl
  · cases h
def g27v (A : Ar) (a : List Nat) : Option AV := g27 A (100000) (fun v _ => some v) a
def g27ok (A : Ar) (a : List Nat) : Bool := g27is (g27v A a)
def g27r0 (A : Ar) (a : List Nat) : List Nat := g27g0 (g27v A a)
theorem g27ok_spec {A : Ar} {a} (h : g27ok A a = true) : g27v A a = some (aN .u64 4 (g27r0 A a)) := g27is_spec h
def g27o (A : Ar) (args : List AV) : Option (Bool × AV) := match args with
  | [.v (.agg [.nums .u64 n0 a])] => some (Nat.beq n0 4 && (g27ok A a), .v (.agg [.nums .u64 4 (g27r0 A a)]))
  | _ => none
theorem g27o_sound : ∀ args v, g27o realA args = some (true, v) → Fn1 Try.prog 27 args v := by
  intro args v h
  unfold g27o at h
  split at h
  · rename_i n0 a
    simp only [Option.some.injEq, Prod.mk.injEq] at h
    obtain ⟨hc, h⟩ := h
    subst h
    · skip
      simp only [Bool.and_eq_true] at hc
      have en0 := beq_true hc.1
      subst en0
      replace hc := hc.2
      exact fn1_of mixed gtysOK g27O_sound g27O_det (an := g27an) (n := 100000) Try.func27 (c := bodyOf Try.f27) rfl (by kernel_rfl) Try.call27 (Nat.le_of_ble_eq_true rfl) (fun b => rfl) (fun _ => (g27_eq realA (100000) (fun v _ => some v) a).trans (show g27v realA a = _ from g27ok_spec hc))
  · cases h
end Go.Sx
