/- printed by sxgen -/
import Derived.Test.YtnnepclpggbjgaaSxS03c
namespace Go.Sx
open Go.Proofs
set_option linter.unusedVariables false
/- engrosser/field.Invert -/
def g27O (A : Ar) : Orc := orcOf [(24, g24o A)]
theorem g27O_sound : OSound Try.prog (g27O realA) := orc_sound fun f g hm args v hv => by
  simp only [List.mem_cons, List.not_mem_nil, or_false, Prod.mk.injEq] at hm
  rcases hm with ⟨rfl, rfl⟩
  · exact g24o_sound _ _ hv
theorem g27O_det : ODet (g27O realA) := orc_det _
def g27an : Ann := [(0, ([0], [])), (1, ([1, 2], [1000, 1001]))]
def g27res : List ResultVar := [.cell 2 24]
noncomputable def g27D {R : Type} (A : Ar) (n : Nat) (p : List Bool) (K : Ex → St → Option R) (s : St) : Option R := codeD A gtys (g27O A) g27an n (sub (bodyOf Try.f27) p) K s
noncomputable def g27Q {R : Type} (A : Ar) (n : Nat) (p : List Bool) (K : Ex → St → Option R) : Ex → St → Option R := seqC (g27D A n p K) K
noncomputable def g27T {R : Type} (kk : AV → Heap → Option R) : Ex → St → Option R := finD gtys g27res kk
theorem g27Qn {R : Type} (A : Ar) (n : Nat) (p : List Bool) (K : Ex → St → Option R) (s : St) : g27Q A n p K .normal s = g27D A n p K s := rfl
section
variable {R : Type} (A : Ar) (n : Nat) (K : Ex → St → Option R) (s : St)
theorem g27p : g27D A n (pth 1) K s = g27D A n (pth 2) (g27Q A n (pth 3) K) s := by kernel_rfl
theorem g27p0 (s' : St) (h : keep g27an 0 s = keep g27an 0 s') : g27D A n (pth 2) K s = g27D A n (pth 2) K s' := codeD_first (id := 0) (by kernel_rfl) h K
theorem g27p1 : g27D A n (pth 3) K s = g27D A n (pth 5) (g27Q A n (pth 7) K) s := by kernel_rfl
theorem g27p10 (s' : St) (h : keep g27an 1 s = keep g27an 1 s') : g27D A n (pth 5) K s = g27D A n (pth 5) K s' := codeD_first (id := 1) (by kernel_rfl) h K
theorem g27p11 : g27D A n (pth 7) K s = K .ret s := by kernel_rfl
theorem g27R0 (x0 : List Nat) : g27D A n (pth 2) K ⟨[(0, (aN .u64 4 x0))], []⟩ = K .normal ⟨[(2, (pT 1001 0)), (1, (pT 1000 0)), (0, (aN .u64 4 x0))], [(1001, (bU 4 [0, 0, 0, 0] 24)), (1000, (bU 4 x0 24))]⟩ := by kernel_rfl
theorem g27R1 (x0 x1 : List Nat) : g27D A n (pth 5) K ⟨[(1, (pT 1000 0)), (2, (pT 1001 0))], [(1000, (bU 4 x0 24)), (1001, (bU 4 x1 24))]⟩ = match (generalizing := false) g24ok A x0 (((([0, 0, 0, 0].set 0 18446744073709551595).set 1 18446744073709551615).set 2 18446744073709551615).set 3 9223372036854775807) with
    | true => K .normal ⟨[(5, (aN .u64 4 (g24r0 A x0 (((([0, 0, 0, 0].set 0 18446744073709551595).set 1 18446744073709551615).set 2 18446744073709551615).set 3 9223372036854775807)))), (4, (aN .u64 4 (((([0, 0, 0, 0].set 0 18446744073709551595).set 1 18446744073709551615).set 2 18446744073709551615).set 3 9223372036854775807))), (3, (aN .u64 4 x0)), (1, (pT 1000 0)), (2, (pT 1001 0))], [(1000, (bU 4 x0 24)), (1001, (bU 4 (g24r0 A x0 (((([0, 0, 0, 0].set 0 18446744073709551595).set 1 18446744073709551615).set 2 18446744073709551615).set 3 9223372036854775807)) 24))]⟩
    | false => none := by kernel_rfl
end
def g27 {R : Type} (A : Ar) (n : Nat) (kk : AV → Heap → Option R) (a : List Nat) : Option R :=
  match (generalizing := false) g24ok A a (((([0, 0, 0, 0].set 0 18446744073709551595).set 1 18446744073709551615).set 2 18446744073709551615).set 3 9223372036854775807) with
  | true => kk (aN .u64 4 (g24r0 A a (((([0, 0, 0, 0].set 0 18446744073709551595).set 1 18446744073709551615).set 2 18446744073709551615).set 3 9223372036854775807))) [(1000, (bU 4 a 24)), (1001, (bU 4 (g24r0 A a (((([0, 0, 0, 0].set 0 18446744073709551595).set 1 18446744073709551615).set 2 18446744073709551615).set 3 9223372036854775807)) 24))]
  | false => none
set_option maxRecDepth 100000 in
theorem g27_eq {R : Type} (A : Ar) (n : Nat) (kk : AV → Heap → Option R) (a : List Nat) :
    funD A gtys (g27O A) g27an n (bodyOf Try.f27) g27res [(aN .u64 4 a)] [] kk = g27 A n kk a := by
  have h5 : (g27T kk) .ret ⟨[(5, (aN .u64 4 (g24r0 A a (((([0, 0, 0, 0].set 0 18446744073709551595).set 1 18446744073709551615).set 2 18446744073709551615).set 3 9223372036854775807)))), (4, (aN .u64 4 (((([0, 0, 0, 0].set 0 18446744073709551595).set 1 18446744073709551615).set 2 18446744073709551615).set 3 9223372036854775807))), (3, (aN .u64 4 a)), (1, (pT 1000 0)), (2, (pT 1001 0))], [(1000, (bU 4 a 24)), (1001, (bU 4 (g24r0 A a (((([0, 0, 0, 0].set 0 18446744073709551595).set 1 18446744073709551615).set 2 18446744073709551615).set 3 9223372036854775807)) 24))]⟩ = kk (aN .u64 4 (g24r0 A a (((([0, 0, 0, 0].set 0 18446744073709551595).set 1 18446744073709551615).set 2 18446744073709551615).set 3 9223372036854775807))) [(1000, (bU 4 a 24)), (1001, (bU 4 (g24r0 A a (((([0, 0, 0, 0].set 0 18446744073709551595).set 1 18446744073709551615).set 2 18446744073709551615).set 3 9223372036854775807)) 24))] := by kernel_rfl
  have h6 := (g27p11 A n _ _).trans h5
  have h7 := (g27Qn A n _ _ _).trans h6
  have h3 := g27R1 A n (g27Q A n (pth 7) (g27T kk)) a [0, 0, 0, 0]
  have h8 := (g27p10 A n _ ⟨[(2, (pT 1001 0)), (1, (pT 1000 0)), (0, (aN .u64 4 a))], [(1001, (bU 4 [0, 0, 0, 0] 24)), (1000, (bU 4 a 24))]⟩ _ (by kernel_rfl)).trans h3
  rw [h7] at h8
  have h9 := (g27p1 A n _ _).trans h8
  have h10 := (g27Qn A n _ _ _).trans h9
  have h1 := g27R0 A n (g27Q A n (pth 3) (g27T kk)) a
  have h11 := (g27p0 A n _ ⟨[(0, (aN .u64 4 a))], []⟩ _ (by kernel_rfl)).trans h1
  rw [h10] at h11
  have h12 := (g27p A n _ _).trans h11
  exact (show funD A gtys (g27O A) g27an n (bodyOf Try.f27) g27res [(aN .u64 4 a)] [] kk = g27D A n (pth 1) (g27T kk) ⟨[(0, (aN .u64 4 a))], []⟩ from by kernel_rfl).trans (h12.trans (by kernel_rfl))
def g27is (o : Option AV) : Bool := match o with
  | some (aN .u64 4 _) => true
  | _ => false
def g27g0 (o : Option AV) : List Nat := match o with
  | some (aN .u64 4 x) => x
  | _ => []
theorem g27is_spec {o : Option AV} (h : g27is o = true) : o = some (aN .u64 4 (g27g0 o)) := by
  unfold g27is at h
  split at h
  · rfl
  · cases h
def g27v (A : Ar) (a : List Nat) : Option AV := g27 A (100000) (fun v _ => some v) a
def g27ok (A : Ar) (a : List Nat) : Bool := g27is (g27v A a)
def g27r0 (A : Ar) (a : List Nat) : List Nat := g27g0 (g27v A a)
theorem g27ok_spec {A : Ar} {a} (h : g27ok A a = true) : g27v A a = some (aN .u64 4 (g27r0 A a)) := g27is_spec h
def g27o (A : Ar) (args : List AV) : Option (Bool × AV) := match args with
  | [.v (.agg [.nums .u64 n0 a])] => some (Nat.beq n0 4 && (g27ok A a), .v (.agg [.nums .u64 4 (g27r0 A a)]))
  | _ => none
theorem g27o_sound : ∀ args v, g27o realA args = some (true, v) → Fn1 Try.prog 27 args v := by
  intro args v h
  unfold g27o at h
  split at h
  · rename_i n0 a
    simp only [Option.some.injEq, Prod.mk.injEq] at h
    obtain ⟨hc, h⟩ := h
    subst h
    · skip
      simp only [Bool.and_eq_true] at hc
      have en0 := beq_true hc.1
      subst en0
      replace hc := hc.2
      exact fn1_of mixed gtysOK g27O_sound g27O_det (an := g27an) (n := 100000) Try.func27 (c := bodyOf Try.f27) rfl (by kernel_rfl) Try.call27 (Nat.le_of_ble_eq_true rfl) (fun b => rfl) (fun _ => (g27_eq realA (100000) (fun v _ => some v) a).trans (show g27v realA a = _ from g27ok_spec hc))
  · cases h
/- engrosser/engrosserlaw03.FieldInverts -/
def g8O (A : Ar) : Orc := orcOf [(11, g11o A), (12, g12o A), (27, g27o A), (16, g16o A), (23, g23o A)]
theorem g8O_sound : OSound Try.prog (g8O realA) := orc_sound fun f g hm args v hv => by
  simp only [List.mem_cons, List.not_mem_nil, or_false, Prod.mk.injEq] at hm
  rcases hm with ⟨rfl, rfl⟩ | ⟨rfl, rfl⟩ | ⟨rfl, rfl⟩ | ⟨rfl, rfl⟩ | ⟨rfl, rfl⟩
  · exact g11o_sound _ _ hv
  · exact g12o_sound _ _ hv
  · exact g27o_sound _ _ hv
  · exact g16o_sound _ _ hv
  · exact g23o_sound _ _ hv
theorem g8O_det : ODet (g8O realA) := orc_det _
def g8an : Ann := [(0, ([0], [])), (1, ([1], [1000])), (2, ([1, 3], [1000])), (3, ([], [])), (4, ([1, 3], [1000])), (5, ([1, 3, 4], [1000, 5003])), (6, ([1, 3, 4, 5], [1000, 5003, 6002])), (7, ([3, 4, 5], [5003, 6002])), (8, ([1, 3, 4, 5], [1000, 5003, 6002]))]
def g8res : List ResultVar := [.tmp 2]
noncomputable def g8D {R : Type} (A : Ar) (n : Nat) (p : List Bool) (K : Ex → St → Option R) (s : St) : Option R := codeD A gtys (g8O A) g8an n (sub (bodyOf Try.f8) p) K s
noncomputable def g8Q {R : Type} (A : Ar) (n : Nat) (p : List Bool) (K : Ex → St → Option R) : Ex → St → Option R := seqC (g8D A n p K) K
noncomputable def g8T {R : Type} (kk : AV → Heap → Option R) : Ex → St → Option R := finD gtys g8res kk
theorem g8Qn {R : Type} (A : Ar) (n : Nat) (p : List Bool) (K : Ex → St → Option R) (s : St) : g8Q A n p K .normal s = g8D A n p K s := rfl
theorem g8Qr {R : Type} (A : Ar) (n : Nat) (p : List Bool) (K : Ex → St → Option R) (s : St) : g8Q A n p K .ret s = K .ret s := rfl
section
variable {R : Type} (A : Ar) (n : Nat) (K : Ex → St → Option R) (s : St)
theorem g8p : g8D A n (pth 1) K s = g8D A n (pth 2) (g8Q A n (pth 3) K) s := by kernel_rfl
theorem g8p0 (s' : St) (h : keep g8an 0 s = keep g8an 0 s') : g8D A n (pth 2) K s = g8D A n (pth 2) K s' := codeD_first (id := 0) (by kernel_rfl) h K
theorem g8p1 : g8D A n (pth 3) K s = g8D A n (pth 5) (g8Q A n (pth 7) K) s := by kernel_rfl
theorem g8p10 (s' : St) (h : keep g8an 1 s = keep g8an 1 s') : g8D A n (pth 5) K s = g8D A n (pth 5) K s' := codeD_first (id := 1) (by kernel_rfl) h K
theorem g8p11 : g8D A n (pth 7) K s = g8D A n (pth 11) (g8Q A n (pth 15) K) s := by kernel_rfl
theorem g8p110 : g8D A n (pth 11) K s = g8D A n (pth 19) (g8Q A n (pth 27) K) s := by kernel_rfl
theorem g8p1100 (s' : St) (h : keep g8an 2 s = keep g8an 2 s') : g8D A n (pth 19) K s = g8D A n (pth 19) K s' := codeD_first (id := 2) (by kernel_rfl) h K
theorem g8p1101 (t : Bool) : ev s (.tmp 8) = some (.v (.cell (.bool t))) → g8D A n (pth 27) K s = (match t with
    | true => g8D A n (pth 43) K s
    | false => g8D A n (pth 59) K s) := codeD_cond t
theorem g8p11010 : g8D A n (pth 43) K s = g8D A n (pth 75) (g8Q A n (pth 107) K) s := by kernel_rfl
theorem g8p110100 (s' : St) (h : keep g8an 3 s = keep g8an 3 s') : g8D A n (pth 75) K s = g8D A n (pth 75) K s' := codeD_first (id := 3) (by kernel_rfl) h K
theorem g8p110101 : g8D A n (pth 107) K s = K .ret s := by kernel_rfl
theorem g8p11011 : g8D A n (pth 59) K s = K .normal s := by kernel_rfl
theorem g8p111 : g8D A n (pth 15) K s = g8D A n (pth 23) (g8Q A n (pth 31) K) s := by kernel_rfl
theorem g8p1110 (s' : St) (h : keep g8an 4 s = keep g8an 4 s') : g8D A n (pth 23) K s = g8D A n (pth 23) K s' := codeD_first (id := 4) (by kernel_rfl) h K
theorem g8p1111 : g8D A n (pth 31) K s = g8D A n (pth 47) (g8Q A n (pth 63) K) s := by kernel_rfl
theorem g8p11110 (s' : St) (h : keep g8an 5 s = keep g8an 5 s') : g8D A n (pth 47) K s = g8D A n (pth 47) K s' := codeD_first (id := 5) (by kernel_rfl) h K
theorem g8p11111 : g8D A n (pth 63) K s = g8D A n (pth 95) (g8Q A n (pth 127) K) s := by kernel_rfl
theorem g8p111110 : g8D A n (pth 95) K s = g8D A n (pth 159) (g8Q A n (pth 223) K) s := by kernel_rfl
theorem g8p1111100 (s' : St) (h : keep g8an 6 s = keep g8an 6 s') : g8D A n (pth 159) K s = g8D A n (pth 159) K s' := codeD_first (id := 6) (by kernel_rfl) h K
theorem g8p1111101 (t : Bool) : ev s (.tmp 16) = some (.v (.cell (.bool t))) → g8D A n (pth 223) K s = (match t with
    | true => g8D A n (pth 351) K s
    | false => g8D A n (pth 479) K s) := codeD_cond t
theorem g8p11111010 : g8D A n (pth 351) K s = g8D A n (pth 607) (g8Q A n (pth 863) K) s := by kernel_rfl
theorem g8p111110100 (s' : St) (h : keep g8an 7 s = keep g8an 7 s') : g8D A n (pth 607) K s = g8D A n (pth 607) K s' := codeD_first (id := 7) (by kernel_rfl) h K
theorem g8p111110101 : g8D A n (pth 863) K s = K .ret s := by kernel_rfl
theorem g8p11111011 : g8D A n (pth 479) K s = K .normal s := by kernel_rfl
theorem g8p111111 : g8D A n (pth 127) K s = g8D A n (pth 191) (g8Q A n (pth 255) K) s := by kernel_rfl
theorem g8p1111110 (s' : St) (h : keep g8an 8 s = keep g8an 8 s') : g8D A n (pth 191) K s = g8D A n (pth 191) K s' := codeD_first (id := 8) (by kernel_rfl) h K
theorem g8p1111111 : g8D A n (pth 255) K s = K .ret s := by kernel_rfl
theorem g8R8 (x0 : Bool) (x1 x2 x3 : List Nat) : g8D A n (pth 191) K ⟨[(1, (pT 1000 0)), (3, (bO x0)), (4, (pT 5003 0)), (5, (pT 6002 0))], [(1000, (bU 4 x1 24)), (5003, (bU 4 x2 24)), (6002, (bU 4 x3 24))]⟩ = match (generalizing := false) x0 with
    | true => match (generalizing := false) g16ok A x1 x3 with
      | true => match (generalizing := false) g23ok A 1 with
        | true => match (generalizing := false) (A.lq (g16r0 A x1 x3) (g23r0 A 1)) && true with
          | true => match (generalizing := false) g27ok A x3 with
            | true => match (generalizing := false) (A.lq (g27r0 A x3) x2) && true with
              | true => K .normal ⟨[(2, (bO true)), (36, (bO true)), (35, (bO true)), (34, (aN .u64 4 x2)), (33, (aN .u64 4 (g27r0 A x3))), (32, (aN .u64 4 x3)), (31, (bO true)), (30, (bO true)), (29, (bO true)), (28, (aN .u64 4 (g23r0 A 1))), (27, (aN .u64 4 (g16r0 A x1 x3))), (26, (aN .u64 4 x3)), (25, (aN .u64 4 x1)), (24, (bO true)), (23, (bO true)), (1, (pT 1000 0)), (3, (bO x0)), (4, (pT 5003 0)), (5, (pT 6002 0))], [(1000, (bU 4 x1 24)), (5003, (bU 4 x2 24)), (6002, (bU 4 x3 24))]⟩
              | false => K .normal ⟨[(2, (bO false)), (36, (bO false)), (35, (bO false)), (34, (aN .u64 4 x2)), (33, (aN .u64 4 (g27r0 A x3))), (32, (aN .u64 4 x3)), (31, (bO true)), (30, (bO true)), (29, (bO true)), (28, (aN .u64 4 (g23r0 A 1))), (27, (aN .u64 4 (g16r0 A x1 x3))), (26, (aN .u64 4 x3)), (25, (aN .u64 4 x1)), (24, (bO true)), (23, (bO true)), (1, (pT 1000 0)), (3, (bO x0)), (4, (pT 5003 0)), (5, (pT 6002 0))], [(1000, (bU 4 x1 24)), (5003, (bU 4 x2 24)), (6002, (bU 4 x3 24))]⟩
            | false => none
          | false => K .normal ⟨[(2, (bO false)), (36, (bO false)), (35, uN), (34, uN), (33, uN), (32, uN), (31, (bO false)), (30, (bO false)), (29, (bO false)), (28, (aN .u64 4 (g23r0 A 1))), (27, (aN .u64 4 (g16r0 A x1 x3))), (26, (aN .u64 4 x3)), (25, (aN .u64 4 x1)), (24, (bO true)), (23, (bO true)), (1, (pT 1000 0)), (3, (bO x0)), (4, (pT 5003 0)), (5, (pT 6002 0))], [(1000, (bU 4 x1 24)), (5003, (bU 4 x2 24)), (6002, (bU 4 x3 24))]⟩
        | false => none
      | false => none
    | false => K .normal ⟨[(2, (bO false)), (36, (bO false)), (35, uN), (34, uN), (33, uN), (32, uN), (31, (bO false)), (30, (bO false)), (29, uN), (28, uN), (27, uN), (26, uN), (25, uN), (24, (bO false)), (23, (bO false)), (1, (pT 1000 0)), (3, (bO x0)), (4, (pT 5003 0)), (5, (pT 6002 0))], [(1000, (bU 4 x1 24)), (5003, (bU 4 x2 24)), (6002, (bU 4 x3 24))]⟩ := by kernel_rfl
theorem g8R4 (x0 : Bool) (x1 : List Nat) : g8D A n (pth 23) K ⟨[(1, (pT 1000 0)), (3, (bO x0))], [(1000, (bU 4 x1 24))]⟩ = match (generalizing := false) g12ok A x1 [0, 0, 0, 0] with
    | true => K .normal ⟨[(4, (pT 5003 0)), (11, (aN .u64 4 (g12r0 A x1 [0, 0, 0, 0]))), (10, (aN .u64 4 [0, 0, 0, 0])), (9, (aN .u64 4 x1)), (1, (pT 1000 0)), (3, (bO x0))], [(5003, (bU 4 (g12r0 A x1 [0, 0, 0, 0]) 24)), (1000, (bU 4 x1 24))]⟩
    | false => none := by kernel_rfl
theorem g8R5 (x0 : Bool) (x1 x2 : List Nat) : g8D A n (pth 47) K ⟨[(1, (pT 1000 0)), (3, (bO x0)), (4, (pT 5003 0))], [(1000, (bU 4 x1 24)), (5003, (bU 4 x2 24))]⟩ = match (generalizing := false) g27ok A x1 with
    | true => K .normal ⟨[(5, (pT 6002 0)), (13, (aN .u64 4 (g27r0 A x1))), (12, (aN .u64 4 x1)), (1, (pT 1000 0)), (3, (bO x0)), (4, (pT 5003 0))], [(6002, (bU 4 (g27r0 A x1) 24)), (1000, (bU 4 x1 24)), (5003, (bU 4 x2 24))]⟩
    | false => none := by kernel_rfl
theorem g8R6 (x0 : Bool) (x1 x2 x3 : List Nat) : g8D A n (pth 159) K ⟨[(1, (pT 1000 0)), (3, (bO x0)), (4, (pT 5003 0)), (5, (pT 6002 0))], [(1000, (bU 4 x1 24)), (5003, (bU 4 x2 24)), (6002, (bU 4 x3 24))]⟩ = K .normal ⟨[(16, (bO ((A.lq x2 [0, 0, 0, 0]) && true))), (15, (aN .u64 4 [0, 0, 0, 0])), (14, (aN .u64 4 x2)), (1, (pT 1000 0)), (3, (bO x0)), (4, (pT 5003 0)), (5, (pT 6002 0))], [(1000, (bU 4 x1 24)), (5003, (bU 4 x2 24)), (6002, (bU 4 x3 24))]⟩ := by kernel_rfl
theorem g8R7 (x0 : Bool) (x1 x2 : List Nat) : g8D A n (pth 607) K ⟨[(3, (bO x0)), (4, (pT 5003 0)), (5, (pT 6002 0))], [(5003, (bU 4 x1 24)), (6002, (bU 4 x2 24))]⟩ = match (generalizing := false) x0 with
    | true => match (generalizing := false) (A.lq x2 x1) && true with
      | true => K .normal ⟨[(2, (bO true)), (22, (bO true)), (21, (bO true)), (20, (aN .u64 4 x1)), (19, (aN .u64 4 x2)), (18, (bO true)), (17, (bO true)), (3, (bO x0)), (4, (pT 5003 0)), (5, (pT 6002 0))], [(5003, (bU 4 x1 24)), (6002, (bU 4 x2 24))]⟩
      | false => K .normal ⟨[(2, (bO false)), (22, (bO false)), (21, (bO false)), (20, (aN .u64 4 x1)), (19, (aN .u64 4 x2)), (18, (bO true)), (17, (bO true)), (3, (bO x0)), (4, (pT 5003 0)), (5, (pT 6002 0))], [(5003, (bU 4 x1 24)), (6002, (bU 4 x2 24))]⟩
    | false => K .normal ⟨[(2, (bO false)), (22, (bO false)), (21, uN), (20, uN), (19, uN), (18, (bO false)), (17, (bO false)), (3, (bO x0)), (4, (pT 5003 0)), (5, (pT 6002 0))], [(5003, (bU 4 x1 24)), (6002, (bU 4 x2 24))]⟩ := by kernel_rfl
theorem g8R0 (x0 : List Nat) : g8D A n (pth 2) K ⟨[(0, (aN .u64 4 x0))], []⟩ = K .normal ⟨[(2, (bO false)), (1, (pT 1000 0)), (0, (aN .u64 4 x0))], [(1000, (bU 4 x0 24))]⟩ := by kernel_rfl
theorem g8R1 (x0 : List Nat) : g8D A n (pth 5) K ⟨[(1, (pT 1000 0))], [(1000, (bU 4 x0 24))]⟩ = match (generalizing := false) g11ok A with
    | true => K .normal ⟨[(3, (bO (g11r0 A))), (6, (bO (g11r0 A))), (1, (pT 1000 0))], [(1000, (bU 4 x0 24))]⟩
    | false => none := by kernel_rfl
theorem g8R2 (x0 : Bool) (x1 : List Nat) : g8D A n (pth 19) K ⟨[(1, (pT 1000 0)), (3, (bO x0))], [(1000, (bU 4 x1 24))]⟩ = K .normal ⟨[(8, (bO (!x0))), (7, (bO x0)), (1, (pT 1000 0)), (3, (bO x0))], [(1000, (bU 4 x1 24))]⟩ := by kernel_rfl
theorem g8R3 : g8D A n (pth 75) K ⟨[], []⟩ = K .normal ⟨[(2, (bO false))], []⟩ := by kernel_rfl
end
def g8J8 {R : Type} (A : Ar) (n : Nat) (kk : AV → Heap → Option R)  (x0 : Bool) (x1 x2 x3 : List Nat) : Option R :=
  match (generalizing := false) x0 with
  | true => match (generalizing := false) g16ok A x1 x3 with
    | true => match (generalizing := false) g23ok A 1 with
      | true => match (generalizing := false) (A.lq (g16r0 A x1 x3) (g23r0 A 1)) && true with
        | true => match (generalizing := false) g27ok A x3 with
          | true => match (generalizing := false) (A.lq (g27r0 A x3) x2) && true with
            | true => kk (bO true) [(1000, (bU 4 x1 24)), (5003, (bU 4 x2 24)), (6002, (bU 4 x3 24))]
            | false => kk (bO false) [(1000, (bU 4 x1 24)), (5003, (bU 4 x2 24)), (6002, (bU 4 x3 24))]
          | false => none
        | false => kk (bO false) [(1000, (bU 4 x1 24)), (5003, (bU 4 x2 24)), (6002, (bU 4 x3 24))]
      | false => none
    | false => none
  | false => kk (bO false) [(1000, (bU 4 x1 24)), (5003, (bU 4 x2 24)), (6002, (bU 4 x3 24))]
set_option maxRecDepth 100000 in
theorem g8J8_eq {R : Type} (A : Ar) (n : Nat) (kk : AV → Heap → Option R)    (s : St) (x0 : Bool) (x1 x2 x3 : List Nat) (h : keep g8an 8 s = ⟨[(1, (pT 1000 0)), (3, (bO x0)), (4, (pT 5003 0)), (5, (pT 6002 0))], [(1000, (bU 4 x1 24)), (5003, (bU 4 x2 24)), (6002, (bU 4 x3 24))]⟩) :
    g8D A n (pth 127) (g8T kk) s = g8J8 A n kk  x0 x1 x2 x3 := by
  have h3 : (g8T kk) .ret ⟨[(2, (bO true)), (36, (bO true)), (35, (bO true)), (34, (aN .u64 4 x2)), (33, (aN .u64 4 (g27r0 A x3))), (32, (aN .u64 4 x3)), (31, (bO true)), (30, (bO true)), (29, (bO true)), (28, (aN .u64 4 (g23r0 A 1))), (27, (aN .u64 4 (g16r0 A x1 x3))), (26, (aN .u64 4 x3)), (25, (aN .u64 4 x1)), (24, (bO true)), (23, (bO true)), (1, (pT 1000 0)), (3, (bO x0)), (4, (pT 5003 0)), (5, (pT 6002 0))], [(1000, (bU 4 x1 24)), (5003, (bU 4 x2 24)), (6002, (bU 4 x3 24))]⟩ = kk (bO true) [(1000, (bU 4 x1 24)), (5003, (bU 4 x2 24)), (6002, (bU 4 x3 24))] := by kernel_rfl
  have h4 := (g8p1111111 A n _ _).trans h3
  have h5 := (g8Qn A n _ _ _).trans h4
  have h6 : (g8T kk) .ret ⟨[(2, (bO false)), (36, (bO false)), (35, (bO false)), (34, (aN .u64 4 x2)), (33, (aN .u64 4 (g27r0 A x3))), (32, (aN .u64 4 x3)), (31, (bO true)), (30, (bO true)), (29, (bO true)), (28, (aN .u64 4 (g23r0 A 1))), (27, (aN .u64 4 (g16r0 A x1 x3))), (26, (aN .u64 4 x3)), (25, (aN .u64 4 x1)), (24, (bO true)), (23, (bO true)), (1, (pT 1000 0)), (3, (bO x0)), (4, (pT 5003 0)), (5, (pT 6002 0))], [(1000, (bU 4 x1 24)), (5003, (bU 4 x2 24)), (6002, (bU 4 x3 24))]⟩ = kk (bO false) [(1000, (bU 4 x1 24)), (5003, (bU 4 x2 24)), (6002, (bU 4 x3 24))] := by kernel_rfl
  have h7 := (g8p1111111 A n _ _).trans h6
  have h8 := (g8Qn A n _ _ _).trans h7
  have h9 : (g8T kk) .ret ⟨[(2, (bO false)), (36, (bO false)), (35, uN), (34, uN), (33, uN), (32, uN), (31, (bO false)), (30, (bO false)), (29, (bO false)), (28, (aN .u64 4 (g23r0 A 1))), (27, (aN .u64 4 (g16r0 A x1 x3))), (26, (aN .u64 4 x3)), (25, (aN .u64 4 x1)), (24, (bO true)), (23, (bO true)), (1, (pT 1000 0)), (3, (bO x0)), (4, (pT 5003 0)), (5, (pT 6002 0))], [(1000, (bU 4 x1 24)), (5003, (bU 4 x2 24)), (6002, (bU 4 x3 24))]⟩ = kk (bO false) [(1000, (bU 4 x1 24)), (5003, (bU 4 x2 24)), (6002, (bU 4 x3 24))] := by kernel_rfl
  have h10 := (g8p1111111 A n _ _).trans h9
  have h11 := (g8Qn A n _ _ _).trans h10
  have h12 : (g8T kk) .ret ⟨[(2, (bO false)), (36, (bO false)), (35, uN), (34, uN), (33, uN), (32, uN), (31, (bO false)), (30, (bO false)), (29, uN), (28, uN), (27, uN), (26, uN), (25, uN), (24, (bO false)), (23, (bO false)), (1, (pT 1000 0)), (3, (bO x0)), (4, (pT 5003 0)), (5, (pT 6002 0))], [(1000, (bU 4 x1 24)), (5003, (bU 4 x2 24)), (6002, (bU 4 x3 24))]⟩ = kk (bO false) [(1000, (bU 4 x1 24)), (5003, (bU 4 x2 24)), (6002, (bU 4 x3 24))] := by kernel_rfl
  have h13 := (g8p1111111 A n _ _).trans h12
  have h14 := (g8Qn A n _ _ _).trans h13
  have h1 := g8R8 A n (g8Q A n (pth 255) (g8T kk)) x0 x1 x2 x3
  have h15 := (g8p1111110 A n _ ⟨[(1, (pT 1000 0)), (3, (bO x0)), (4, (pT 5003 0)), (5, (pT 6002 0))], [(1000, (bU 4 x1 24)), (5003, (bU 4 x2 24)), (6002, (bU 4 x3 24))]⟩ _ (by kernel_rfl)).trans h1
  rw [h5, h8, h11, h14] at h15
  have h16 := (g8p111111 A n _ _).trans h15
  exact (codeD_first (s' := ⟨[(1, (pT 1000 0)), (3, (bO x0)), (4, (pT 5003 0)), (5, (pT 6002 0))], [(1000, (bU 4 x1 24)), (5003, (bU 4 x2 24)), (6002, (bU 4 x3 24))]⟩) (id := 8) (by kernel_rfl) (h.trans (by kernel_rfl)) _).trans (h16.trans (by kernel_rfl))
def g8J4 {R : Type} (A : Ar) (n : Nat) (kk : AV → Heap → Option R)  (x0 : Bool) (x1 : List Nat) : Option R :=
  match (generalizing := false) g12ok A x1 [0, 0, 0, 0] with
  | true => match (generalizing := false) g27ok A x1 with
    | true => match (generalizing := false) (A.lq (g12r0 A x1 [0, 0, 0, 0]) [0, 0, 0, 0]) && true with
      | true => match (generalizing := false) x0 with
        | true => match (generalizing := false) (A.lq (g27r0 A x1) (g12r0 A x1 [0, 0, 0, 0])) && true with
          | true => kk (bO true) [(5003, (bU 4 (g12r0 A x1 [0, 0, 0, 0]) 24)), (6002, (bU 4 (g27r0 A x1) 24))]
          | false => kk (bO false) [(5003, (bU 4 (g12r0 A x1 [0, 0, 0, 0]) 24)), (6002, (bU 4 (g27r0 A x1) 24))]
        | false => kk (bO false) [(5003, (bU 4 (g12r0 A x1 [0, 0, 0, 0]) 24)), (6002, (bU 4 (g27r0 A x1) 24))]
      | false => g8J8 A n kk  x0 x1 (g12r0 A x1 [0, 0, 0, 0]) (g27r0 A x1)
    | false => none
  | false => none
set_option maxRecDepth 100000 in
theorem g8J4_eq {R : Type} (A : Ar) (n : Nat) (kk : AV → Heap → Option R)    (s : St) (x0 : Bool) (x1 : List Nat) (h : keep g8an 4 s = ⟨[(1, (pT 1000 0)), (3, (bO x0))], [(1000, (bU 4 x1 24))]⟩) :
    g8D A n (pth 15) (g8T kk) s = g8J4 A n kk  x0 x1 := by
  have h9 : (g8T kk) .ret ⟨[(2, (bO true)), (22, (bO true)), (21, (bO true)), (20, (aN .u64 4 (g12r0 A x1 [0, 0, 0, 0]))), (19, (aN .u64 4 (g27r0 A x1))), (18, (bO true)), (17, (bO true)), (3, (bO x0)), (4, (pT 5003 0)), (5, (pT 6002 0))], [(5003, (bU 4 (g12r0 A x1 [0, 0, 0, 0]) 24)), (6002, (bU 4 (g27r0 A x1) 24))]⟩ = kk (bO true) [(5003, (bU 4 (g12r0 A x1 [0, 0, 0, 0]) 24)), (6002, (bU 4 (g27r0 A x1) 24))] := by kernel_rfl
  have h10 := (g8Qr A n (pth 127) _ _).trans h9
  have h11 := (g8p111110101 A n _ _).trans h10
  have h12 := (g8Qn A n _ _ _).trans h11
  have h13 : (g8T kk) .ret ⟨[(2, (bO false)), (22, (bO false)), (21, (bO false)), (20, (aN .u64 4 (g12r0 A x1 [0, 0, 0, 0]))), (19, (aN .u64 4 (g27r0 A x1))), (18, (bO true)), (17, (bO true)), (3, (bO x0)), (4, (pT 5003 0)), (5, (pT 6002 0))], [(5003, (bU 4 (g12r0 A x1 [0, 0, 0, 0]) 24)), (6002, (bU 4 (g27r0 A x1) 24))]⟩ = kk (bO false) [(5003, (bU 4 (g12r0 A x1 [0, 0, 0, 0]) 24)), (6002, (bU 4 (g27r0 A x1) 24))] := by kernel_rfl
  have h14 := (g8Qr A n (pth 127) _ _).trans h13
  have h15 := (g8p111110101 A n _ _).trans h14
  have h16 := (g8Qn A n _ _ _).trans h15
  have h17 : (g8T kk) .ret ⟨[(2, (bO false)), (22, (bO false)), (21, uN), (20, uN), (19, uN), (18, (bO false)), (17, (bO false)), (3, (bO x0)), (4, (pT 5003 0)), (5, (pT 6002 0))], [(5003, (bU 4 (g12r0 A x1 [0, 0, 0, 0]) 24)), (6002, (bU 4 (g27r0 A x1) 24))]⟩ = kk (bO false) [(5003, (bU 4 (g12r0 A x1 [0, 0, 0, 0]) 24)), (6002, (bU 4 (g27r0 A x1) 24))] := by kernel_rfl
  have h18 := (g8Qr A n (pth 127) _ _).trans h17
  have h19 := (g8p111110101 A n _ _).trans h18
  have h20 := (g8Qn A n _ _ _).trans h19
  have h7 := g8R7 A n (g8Q A n (pth 863) (g8Q A n (pth 127) (g8T kk))) x0 (g12r0 A x1 [0, 0, 0, 0]) (g27r0 A x1)
  have h21 := (g8p111110100 A n _ ⟨[(16, (bO ((A.lq (g12r0 A x1 [0, 0, 0, 0]) [0, 0, 0, 0]) && true))), (15, (aN .u64 4 [0, 0, 0, 0])), (14, (aN .u64 4 (g12r0 A x1 [0, 0, 0, 0]))), (1, (pT 1000 0)), (3, (bO x0)), (4, (pT 5003 0)), (5, (pT 6002 0))], [(1000, (bU 4 x1 24)), (5003, (bU 4 (g12r0 A x1 [0, 0, 0, 0]) 24)), (6002, (bU 4 (g27r0 A x1) 24))]⟩ _ (by kernel_rfl)).trans h7
  rw [h12, h16, h20] at h21
  have h22 := (g8p11111010 A n _ _).trans h21
  have h23 := (g8Qn A n _ _ _).trans (g8J8_eq A n kk     ⟨[(16, (bO ((A.lq (g12r0 A x1 [0, 0, 0, 0]) [0, 0, 0, 0]) && true))), (15, (aN .u64 4 [0, 0, 0, 0])), (14, (aN .u64 4 (g12r0 A x1 [0, 0, 0, 0]))), (1, (pT 1000 0)), (3, (bO x0)), (4, (pT 5003 0)), (5, (pT 6002 0))], [(1000, (bU 4 x1 24)), (5003, (bU 4 (g12r0 A x1 [0, 0, 0, 0]) 24)), (6002, (bU 4 (g27r0 A x1) 24))]⟩ x0 x1 (g12r0 A x1 [0, 0, 0, 0]) (g27r0 A x1) (by kernel_rfl))
  have h24 := (g8p11111011 A n _ _).trans h23
  have h25 := g8p1111101 A n (g8Q A n (pth 127) (g8T kk)) ⟨[(16, (bO ((A.lq (g12r0 A x1 [0, 0, 0, 0]) [0, 0, 0, 0]) && true))), (15, (aN .u64 4 [0, 0, 0, 0])), (14, (aN .u64 4 (g12r0 A x1 [0, 0, 0, 0]))), (1, (pT 1000 0)), (3, (bO x0)), (4, (pT 5003 0)), (5, (pT 6002 0))], [(1000, (bU 4 x1 24)), (5003, (bU 4 (g12r0 A x1 [0, 0, 0, 0]) 24)), (6002, (bU 4 (g27r0 A x1) 24))]⟩ ((A.lq (g12r0 A x1 [0, 0, 0, 0]) [0, 0, 0, 0]) && true) (by kernel_rfl)
  rw [h22, h24] at h25
  have h26 := (g8Qn A n _ _ _).trans h25
  have h5 := g8R6 A n (g8Q A n (pth 223) (g8Q A n (pth 127) (g8T kk))) x0 x1 (g12r0 A x1 [0, 0, 0, 0]) (g27r0 A x1)
  have h27 := (g8p1111100 A n _ ⟨[(5, (pT 6002 0)), (13, (aN .u64 4 (g27r0 A x1))), (12, (aN .u64 4 x1)), (1, (pT 1000 0)), (3, (bO x0)), (4, (pT 5003 0))], [(6002, (bU 4 (g27r0 A x1) 24)), (1000, (bU 4 x1 24)), (5003, (bU 4 (g12r0 A x1 [0, 0, 0, 0]) 24))]⟩ _ (by kernel_rfl)).trans h5
  rw [h26] at h27
  have h28 := (g8p111110 A n _ _).trans h27
  have h29 := (g8p11111 A n _ _).trans h28
  have h30 := (g8Qn A n _ _ _).trans h29
  have h3 := g8R5 A n (g8Q A n (pth 63) (g8T kk)) x0 x1 (g12r0 A x1 [0, 0, 0, 0])
  have h31 := (g8p11110 A n _ ⟨[(4, (pT 5003 0)), (11, (aN .u64 4 (g12r0 A x1 [0, 0, 0, 0]))), (10, (aN .u64 4 [0, 0, 0, 0])), (9, (aN .u64 4 x1)), (1, (pT 1000 0)), (3, (bO x0))], [(5003, (bU 4 (g12r0 A x1 [0, 0, 0, 0]) 24)), (1000, (bU 4 x1 24))]⟩ _ (by kernel_rfl)).trans h3
  rw [h30] at h31
  have h32 := (g8p1111 A n _ _).trans h31
  have h33 := (g8Qn A n _ _ _).trans h32
  have h1 := g8R4 A n (g8Q A n (pth 31) (g8T kk)) x0 x1
  have h34 := (g8p1110 A n _ ⟨[(1, (pT 1000 0)), (3, (bO x0))], [(1000, (bU 4 x1 24))]⟩ _ (by kernel_rfl)).trans h1
  rw [h33] at h34
  have h35 := (g8p111 A n _ _).trans h34
  exact (codeD_first (s' := ⟨[(1, (pT 1000 0)), (3, (bO x0))], [(1000, (bU 4 x1 24))]⟩) (id := 4) (by kernel_rfl) (h.trans (by kernel_rfl)) _).trans (h35.trans (by kernel_rfl))
def g8 {R : Type} (A : Ar) (n : Nat) (kk : AV → Heap → Option R) (a : List Nat) : Option R :=
  match (generalizing := false) g11ok A with
  | true => match (generalizing := false) !(g11r0 A) with
    | true => kk (bO false) []
    | false => g8J4 A n kk  (g11r0 A) a
  | false => none
set_option maxRecDepth 100000 in
theorem g8_eq {R : Type} (A : Ar) (n : Nat) (kk : AV → Heap → Option R) (a : List Nat) :
    funD A gtys (g8O A) g8an n (bodyOf Try.f8) g8res [(aN .u64 4 a)] [] kk = g8 A n kk a := by
  have h9 : (g8T kk) .ret ⟨[(2, (bO false))], []⟩ = kk (bO false) [] := by kernel_rfl
  have h10 := (g8Qr A n (pth 15) _ _).trans h9
  have h11 := (g8p110101 A n _ _).trans h10
  have h12 := (g8Qn A n _ _ _).trans h11
  have h7 := g8R3 A n (g8Q A n (pth 107) (g8Q A n (pth 15) (g8T kk))) 
  have h13 := (g8p110100 A n _ ⟨[(8, (bO (!(g11r0 A)))), (7, (bO (g11r0 A))), (1, (pT 1000 0)), (3, (bO (g11r0 A)))], [(1000, (bU 4 a 24))]⟩ _ (by kernel_rfl)).trans h7
  rw [h12] at h13
  have h14 := (g8p11010 A n _ _).trans h13
  have h15 := (g8Qn A n _ _ _).trans (g8J4_eq A n kk     ⟨[(8, (bO (!(g11r0 A)))), (7, (bO (g11r0 A))), (1, (pT 1000 0)), (3, (bO (g11r0 A)))], [(1000, (bU 4 a 24))]⟩ (g11r0 A) a (by kernel_rfl))
  have h16 := (g8p11011 A n _ _).trans h15
  have h17 := g8p1101 A n (g8Q A n (pth 15) (g8T kk)) ⟨[(8, (bO (!(g11r0 A)))), (7, (bO (g11r0 A))), (1, (pT 1000 0)), (3, (bO (g11r0 A)))], [(1000, (bU 4 a 24))]⟩ (!(g11r0 A)) (by kernel_rfl)
  rw [h14, h16] at h17
  have h18 := (g8Qn A n _ _ _).trans h17
  have h5 := g8R2 A n (g8Q A n (pth 27) (g8Q A n (pth 15) (g8T kk))) (g11r0 A) a
  have h19 := (g8p1100 A n _ ⟨[(3, (bO (g11r0 A))), (6, (bO (g11r0 A))), (1, (pT 1000 0))], [(1000, (bU 4 a 24))]⟩ _ (by kernel_rfl)).trans h5
  rw [h18] at h19
  have h20 := (g8p110 A n _ _).trans h19
  have h21 := (g8p11 A n _ _).trans h20
  have h22 := (g8Qn A n _ _ _).trans h21
  have h3 := g8R1 A n (g8Q A n (pth 7) (g8T kk)) a
  have h23 := (g8p10 A n _ ⟨[(2, (bO false)), (1, (pT 1000 0)), (0, (aN .u64 4 a))], [(1000, (bU 4 a 24))]⟩ _ (by kernel_rfl)).trans h3
  rw [h22] at h23
  have h24 := (g8p1 A n _ _).trans h23
  have h25 := (g8Qn A n _ _ _).trans h24
  have h1 := g8R0 A n (g8Q A n (pth 3) (g8T kk)) a
  have h26 := (g8p0 A n _ ⟨[(0, (aN .u64 4 a))], []⟩ _ (by kernel_rfl)).trans h1
  rw [h25] at h26
  have h27 := (g8p A n _ _).trans h26
  exact (show funD A gtys (g8O A) g8an n (bodyOf Try.f8) g8res [(aN .u64 4 a)] [] kk = g8D A n (pth 1) (g8T kk) ⟨[(0, (aN .u64 4 a))], []⟩ from by kernel_rfl).trans (h27.trans (by kernel_rfl))
def g8is (o : Option AV) : Bool := match o with
  | some (.v (.cell (.bool _))) => true
  | _ => false
def g8g0 (o : Option AV) : Bool := match o with
  | some (.v (.cell (.bool x))) => x
  | _ => false
theorem g8is_spec {o : Option AV} (h : g8is o = true) : o = some (.v (.cell (.bool (g8g0 o)))) := by
  unfold g8is at h
  split at h
  · rfl
  · cases h
def g8v (A : Ar) (a : List Nat) : Option AV := g8 A (100000) (fun v _ => some v) a
def g8ok (A : Ar) (a : List Nat) : Bool := g8is (g8v A a)
def g8r0 (A : Ar) (a : List Nat) : Bool := g8g0 (g8v A a)
theorem g8ok_spec {A : Ar} {a} (h : g8ok A a = true) : g8v A a = some (.v (.cell (.bool (g8r0 A a)))) := g8is_spec h
def g8o (A : Ar) (args : List AV) : Option (Bool × AV) := match args with
  | [.v (.agg [.nums .u64 n0 a])] => some (Nat.beq n0 4 && (g8ok A a), .v (.cell (.bool (g8r0 A a))))
  | _ => none
theorem g8o_sound : ∀ args v, g8o realA args = some (true, v) → Fn1 Try.prog 8 args v := by
  intro args v h
  unfold g8o at h
  split at h
  · rename_i n0 a
    simp only [Option.some.injEq, Prod.mk.injEq] at h
    obtain ⟨hc, h⟩ := h
    subst h
    · skip
      simp only [Bool.and_eq_true] at hc
      have en0 := beq_true hc.1
      subst en0
      replace hc := hc.2
      exact fn1_of mixed gtysOK g8O_sound g8O_det (an := g8an) (n := 100000) Try.func8 (c := bodyOf Try.f8) rfl (by kernel_rfl) Try.call8 (Nat.le_of_ble_eq_true rfl) (fun b => rfl) (fun _ => (g8_eq realA (100000) (fun v _ => some v) a).trans (show g8v realA a = _ from g8ok_spec hc))
  · cases h
end Go.Sx
