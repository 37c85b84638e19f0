import Derived.Test.YtojnnbolfmefkaaSxY05a
namespace Go.Sx
set_option linter.unusedSectionVars false
open Go.Proofs
set_option linter.unusedVariables false
set_option maxRecDepth 100000
theorem SxY05rpi {R : Type} (c : Bool) {f1 f2 : Nat → Option R} {a1 a2 : Option R} (h1 : Prs f1 a1) (h2 : Prs f2 a2) : Prs (fun k => match c with | true => f1 k | false => f2 k) (match c with | true => a1 | false => a2) := by cases c <;> assumption
attribute [local irreducible] g56ok g56r0 g57ok g57r0 g58ok g58r0 g67ok g67r0 g44ok g44r0 g68ok g68r0 g49ok g49r0 g35ok g35r0 g77ok g77r0 g77r1 g34ok g34r0 g61ok g61r0 g61r1 g53ok g53r0
def g32O (A : Ar) : Orc := orcOf [(57, g57o A), (44, g44o A), (58, g58o A), (56, g56o A)]
theorem g32O_sound : OSound Try.prog (g32O realA) := orc_sound fun f g hm args v hv => by
  simp only [List.mem_cons, List.not_mem_nil, or_false, Prod.mk.injEq] at hm
  rcases hm with ⟨rfl, rfl⟩ | ⟨rfl, rfl⟩ | ⟨rfl, rfl⟩ | ⟨rfl, rfl⟩
  · exact g57o_sound _ _ hv
  · exact g44o_sound _ _ hv
  · exact g58o_sound _ _ hv
  · exact g56o_sound _ _ hv
theorem g32O_det : ODet (g32O realA) := orc_det _
def g32an : Ann := [(0, ([], [])), (1, ([0], [1000]))]
def g32res : List ResultVar := [.cell 0 24]
def g32cut : List Nat := []
noncomputable def g32N {R : Type} (A : Ar) (kk : AV → Heap → Option R) (t : List Bool → St → Option R) (p : List Bool) (s : St) : Option R := nodeN A gtys (g32O A) g32an g32cut t (bodyOf Try.f32) (finD gtys g32res kk) p s
def g32 {R : Type} (A : Ar) (n : Nat) (kk : AV → Heap → Option R)  : Option R :=
  match g57ok A 121665 with
  | true => match g44ok A (g57r0 A 121665) with
    | true => match g57ok A 121666 with
      | true => match g58ok A (g57r0 A 121666) with
        | true => match g56ok A (g44r0 A (g57r0 A 121665)) (g58r0 A (g57r0 A 121666)) with
          | true => kk (aN .u64 4 (g56r0 A (g44r0 A (g57r0 A 121665)) (g58r0 A (g57r0 A 121666)))) [(1000, (bU 4 (g56r0 A (g44r0 A (g57r0 A 121665)) (g58r0 A (g57r0 A 121666))) 24))]
          | false => none
        | false => none
      | false => none
    | false => none
  | false => none
section
variable {R : Type} {A : Ar} {n : Nat} {kk : AV → Heap → Option R} {tb : Nat → List Bool → St → Option R} (st : Stp (g32N A kk) tb)
include st
theorem g32_go  : Prs (fun k => funN A gtys (g32O A) g32an g32cut (bodyOf Try.f32) g32res [] [] kk (tb k)) (g32 A n kk ) := by
  unfold g32
  exact pc (SxY05rpi _ (SxY05rpi _ (SxY05rpi _ (SxY05rpi _ (SxY05rpi _ (pf _) pn) pn) pn) pn) pn) (by kernel_rfl)
end
def g32is (o : Option AV) : Bool := match o with
  | some (aN .u64 4 _) => true
  | _ => false
def g32g0 (o : Option AV) : List Nat := match o with
  | some (aN .u64 4 x) => x
  | _ => []
theorem g32is_spec {o : Option AV} (h : g32is o = true) : o = some (aN .u64 4 (g32g0 o)) := by
  unfold g32is at h
  split at h
  · rfl
  · cases h
def g32v (A : Ar)  : Option AV := g32 A (100000) (fun v _ => some v) 
def g32ok (A : Ar)  : Bool := g32is (g32v A )
def g32r0 (A : Ar)  : List Nat := g32g0 (g32v A )
theorem g32ok_spec {A : Ar} (h : g32ok A = true) : g32v A = some (aN .u64 4 (g32r0 A)) := g32is_spec h
def g32o (A : Ar) (args : List AV) : Option (Bool × AV) := match args with
  | [] => some (g32ok A , .v (.agg [.nums .u64 4 (g32r0 A)]))
  | _ => none
theorem g32o_sound : ∀ args v, g32o realA args = some (true, v) → Fn1 Try.prog 32 args v := by
  intro args v h
  unfold g32o at h
  split at h
  · simp only [Option.some.injEq, Prod.mk.injEq] at h
    obtain ⟨hc, h⟩ := h
    subst h
    · skip
      exact fn1_ofG mixed gtysOK g32O_sound g32O_det (an := g32an) (cut := g32cut) Try.func32 (c := bodyOf Try.f32) rfl (by kernel_rfl) Try.call32 (Nat.le_of_ble_eq_true rfl) (fun b => rfl) (fun _ => (show g32v realA  = _ from g32ok_spec hc)) fun _ st => g32_go st
  · cases h
attribute [local irreducible] g32ok g32r0
def g50O (A : Ar) : Orc := orcOf [(56, g56o A), (68, g68o A), (57, g57o A), (67, g67o A)]
theorem g50O_sound : OSound Try.prog (g50O realA) := orc_sound fun f g hm args v hv => by
  simp only [List.mem_cons, List.not_mem_nil, or_false, Prod.mk.injEq] at hm
  rcases hm with ⟨rfl, rfl⟩ | ⟨rfl, rfl⟩ | ⟨rfl, rfl⟩ | ⟨rfl, rfl⟩
  · exact g56o_sound _ _ hv
  · exact g68o_sound _ _ hv
  · exact g57o_sound _ _ hv
  · exact g67o_sound _ _ hv
theorem g50O_det : ODet (g50O realA) := orc_det _
def g50an : Ann := [(0, ([0, 1], [])), (1, ([2, 3], [1000, 1001])), (2, ([2, 3, 5], [1000, 1001, 2005])), (3, ([2, 5, 6], [1000, 2005, 3005]))]
def g50res : List ResultVar := [.tmp 4]
def g50cut : List Nat := []
noncomputable def g50N {R : Type} (A : Ar) (kk : AV → Heap → Option R) (t : List Bool → St → Option R) (p : List Bool) (s : St) : Option R := nodeN A gtys (g50O A) g50an g50cut t (bodyOf Try.f50) (finD gtys g50res kk) p s
def g50 {R : Type} (A : Ar) (n : Nat) (kk : AV → Heap → Option R) (a b0 b1 : List Nat) : Option R :=
  match g56ok A b0 b0 with
  | true => match g56ok A b1 b1 with
    | true => match g68ok A (g56r0 A b1 b1) (g56r0 A b0 b0) with
      | true => match g57ok A 1 with
        | true => match g56ok A (g56r0 A b0 b0) (g56r0 A b1 b1) with
          | true => match g56ok A a (g56r0 A (g56r0 A b0 b0) (g56r0 A b1 b1)) with
            | true => match g67ok A (g57r0 A 1) (g56r0 A a (g56r0 A (g56r0 A b0 b0) (g56r0 A b1 b1))) with
              | true => kk (bO ((A.lq (g68r0 A (g56r0 A b1 b1) (g56r0 A b0 b0)) (g67r0 A (g57r0 A 1) (g56r0 A a (g56r0 A (g56r0 A b0 b0) (g56r0 A b1 b1))))) && true)) [(1000, (bU 4 a 24)), (2005, (bU 4 (g56r0 A b0 b0) 24)), (3005, (bU 4 (g56r0 A b1 b1) 24))]
              | false => none
            | false => none
          | false => none
        | false => none
      | false => none
    | false => none
  | false => none
section
variable {R : Type} {A : Ar} {n : Nat} {kk : AV → Heap → Option R} {tb : Nat → List Bool → St → Option R} (st : Stp (g50N A kk) tb)
include st
theorem g50_go {a : List Nat} {b0 : List Nat} {b1 : List Nat} : Prs (fun k => funN A gtys (g50O A) g50an g50cut (bodyOf Try.f50) g50res [(aN .u64 4 a), (.v (.agg [.nums .u64 4 b0, .nums .u64 4 b1]))] [] kk (tb k)) (g50 A n kk a b0 b1) := by
  unfold g50
  exact pc (SxY05rpi _ (SxY05rpi _ (SxY05rpi _ (SxY05rpi _ (SxY05rpi _ (SxY05rpi _ (SxY05rpi _ (pf _) pn) pn) pn) pn) pn) pn) pn) (by kernel_rfl)
end
def g50is (o : Option AV) : Bool := match o with
  | some (.v (.cell (.bool _))) => true
  | _ => false
def g50g0 (o : Option AV) : Bool := match o with
  | some (.v (.cell (.bool x))) => x
  | _ => false
theorem g50is_spec {o : Option AV} (h : g50is o = true) : o = some (.v (.cell (.bool (g50g0 o)))) := by
  unfold g50is at h
  split at h
  · rfl
  · cases h
def g50v (A : Ar) (a b0 b1 : List Nat) : Option AV := g50 A (100000) (fun v _ => some v) a b0 b1
def g50ok (A : Ar) (a b0 b1 : List Nat) : Bool := g50is (g50v A a b0 b1)
def g50r0 (A : Ar) (a b0 b1 : List Nat) : Bool := g50g0 (g50v A a b0 b1)
theorem g50ok_spec {A : Ar} {a b0 b1} (h : g50ok A a b0 b1 = true) : g50v A a b0 b1 = some (.v (.cell (.bool (g50r0 A a b0 b1)))) := g50is_spec h
def g50o (A : Ar) (args : List AV) : Option (Bool × AV) := match args with
  | [.v (.agg [.nums .u64 n0 a]), .v (.agg [.nums .u64 n1 b0, .nums .u64 n2 b1])] => some (Nat.beq n0 4 && (Nat.beq n1 4 && (Nat.beq n2 4 && (g50ok A a b0 b1))), .v (.cell (.bool (g50r0 A a b0 b1))))
  | _ => none
theorem g50o_sound : ∀ args v, g50o realA args = some (true, v) → Fn1 Try.prog 50 args v := by
  intro args v h
  unfold g50o at h
  split at h
  · rename_i n0 a n1 b0 n2 b1
    simp only [Option.some.injEq, Prod.mk.injEq] at h
    obtain ⟨hc, h⟩ := h
    subst h
    · skip
      simp only [Bool.and_eq_true] at hc
      have en0 := beq_true hc.1
      subst en0
      replace hc := hc.2
      have en1 := beq_true hc.1
      subst en1
      replace hc := hc.2
      have en2 := beq_true hc.1
      subst en2
      replace hc := hc.2
      exact fn1_ofG mixed gtysOK g50O_sound g50O_det (an := g50an) (cut := g50cut) Try.func50 (c := bodyOf Try.f50) rfl (by kernel_rfl) Try.call50 (Nat.le_of_ble_eq_true rfl) (fun b => rfl) (fun _ => (show g50v realA a b0 b1 = _ from g50ok_spec hc)) fun _ st => g50_go st
  · cases h
attribute [local irreducible] g50ok g50r0
def g19O (A : Ar) : Orc := orcOf [(49, g49o A), (32, g32o A), (50, g50o A)]
theorem g19O_sound : OSound Try.prog (g19O realA) := orc_sound fun f g hm args v hv => by
  simp only [List.mem_cons, List.not_mem_nil, or_false, Prod.mk.injEq] at hm
  rcases hm with ⟨rfl, rfl⟩ | ⟨rfl, rfl⟩ | ⟨rfl, rfl⟩
  · exact g49o_sound _ _ hv
  · exact g32o_sound _ _ hv
  · exact g50o_sound _ _ hv
theorem g19O_det : ODet (g19O realA) := orc_det _
def g19an : Ann := [(0, ([0], [])), (1, ([1], [1000])), (2, ([1, 3], [1000])), (3, ([1, 3, 4], [1000]))]
def g19res : List ResultVar := [.tmp 2]
def g19cut : List Nat := []
noncomputable def g19N {R : Type} (A : Ar) (kk : AV → Heap → Option R) (t : List Bool → St → Option R) (p : List Bool) (s : St) : Option R := nodeN A gtys (g19O A) g19an g19cut t (bodyOf Try.f19) (finD gtys g19res kk) p s
def g19 {R : Type} (A : Ar) (n : Nat) (kk : AV → Heap → Option R) (a0 a1 : List Nat) : Option R :=
  match g49ok A a0 with
  | true => match g49ok A a1 with
    | true => match g49r0 A a0 with
      | true => match g49r0 A a1 with
        | true => match g32ok A with
          | true => match g50ok A (g32r0 A) a0 a1 with
            | true => kk (bO (g50r0 A (g32r0 A) a0 a1)) [(1000, ⟨[.nums .u64 4 a0, .nums .u64 4 a1], 26, 1⟩)]
            | false => none
          | false => none
        | false => kk (bO false) [(1000, ⟨[.nums .u64 4 a0, .nums .u64 4 a1], 26, 1⟩)]
      | false => kk (bO false) [(1000, ⟨[.nums .u64 4 a0, .nums .u64 4 a1], 26, 1⟩)]
    | false => none
  | false => none
section
variable {R : Type} {A : Ar} {n : Nat} {kk : AV → Heap → Option R} {tb : Nat → List Bool → St → Option R} (st : Stp (g19N A kk) tb)
include st
theorem g19_go {a0 : List Nat} {a1 : List Nat} : Prs (fun k => funN A gtys (g19O A) g19an g19cut (bodyOf Try.f19) g19res [(.v (.agg [.nums .u64 4 a0, .nums .u64 4 a1]))] [] kk (tb k)) (g19 A n kk a0 a1) := by
  unfold g19
  exact pc (SxY05rpi _ (SxY05rpi _ (SxY05rpi _ (SxY05rpi _ (SxY05rpi _ (SxY05rpi _ (pf _) pn) pn) (pf _)) (pf _)) pn) pn) (by kernel_rfl)
end
def g19is (o : Option AV) : Bool := match o with
  | some (.v (.cell (.bool _))) => true
  | _ => false
def g19g0 (o : Option AV) : Bool := match o with
  | some (.v (.cell (.bool x))) => x
  | _ => false
theorem g19is_spec {o : Option AV} (h : g19is o = true) : o = some (.v (.cell (.bool (g19g0 o)))) := by
  unfold g19is at h
  split at h
  · rfl
  · cases h
def g19v (A : Ar) (a0 a1 : List Nat) : Option AV := g19 A (100000) (fun v _ => some v) a0 a1
def g19ok (A : Ar) (a0 a1 : List Nat) : Bool := g19is (g19v A a0 a1)
def g19r0 (A : Ar) (a0 a1 : List Nat) : Bool := g19g0 (g19v A a0 a1)
theorem g19ok_spec {A : Ar} {a0 a1} (h : g19ok A a0 a1 = true) : g19v A a0 a1 = some (.v (.cell (.bool (g19r0 A a0 a1)))) := g19is_spec h
def g19o (A : Ar) (args : List AV) : Option (Bool × AV) := match args with
  | [.v (.agg [.nums .u64 n0 a0, .nums .u64 n1 a1])] => some (Nat.beq n0 4 && (Nat.beq n1 4 && (g19ok A a0 a1)), .v (.cell (.bool (g19r0 A a0 a1))))
  | _ => none
theorem g19o_sound : ∀ args v, g19o realA args = some (true, v) → Fn1 Try.prog 19 args v := by
  intro args v h
  unfold g19o at h
  split at h
  · rename_i n0 a0 n1 a1
    simp only [Option.some.injEq, Prod.mk.injEq] at h
    obtain ⟨hc, h⟩ := h
    subst h
    · skip
      simp only [Bool.and_eq_true] at hc
      have en0 := beq_true hc.1
      subst en0
      replace hc := hc.2
      have en1 := beq_true hc.1
      subst en1
      replace hc := hc.2
      exact fn1_ofG mixed gtysOK g19O_sound g19O_det (an := g19an) (cut := g19cut) Try.func19 (c := bodyOf Try.f19) rfl (by kernel_rfl) Try.call19 (Nat.le_of_ble_eq_true rfl) (fun b => rfl) (fun _ => (show g19v realA a0 a1 = _ from g19ok_spec hc)) fun _ st => g19_go st
  · cases h
attribute [local irreducible] g19ok g19r0
def g13O (A : Ar) : Orc := orcOf [(19, g19o A), (34, g34o A), (35, g35o A)]
def g13an : Ann := [(0, ([0], [])), (1, ([1], [1000])), (2, ([], [])), (3, ([1], [1000])), (4, ([1, 4], [1000, 4003])), (5, ([4], [4003])), (6, ([4], [4003]))]
def g13res : List ResultVar := [.tmp 2, .tmp 3]
def g13cut : List Nat := [3]
noncomputable def g13N {R : Type} (A : Ar) (kk : AV → Heap → Option R) (t : List Bool → St → Option R) (p : List Bool) (s : St) : Option R := nodeN A gtys (g13O A) g13an g13cut t (bodyOf Try.f13) (finD gtys g13res kk) p s
def g13J3 {R : Type} (A : Ar) (n : Nat) (kk : AV → Heap → Option R)  (x0 x1 : List Nat) : Option R :=
  match g34ok A x1 with
  | true => match A.le ((g34r0 A x1).length) 9223372036854775807 with
    | true => match g35ok A x0 with
      | true => match g35r0 A x0 with
        | true => match Nat.blt 31 ((g34r0 A x1).length) with
          | true => match Nat.blt 31 ((g34r0 A x1).length) with
            | true => kk (.tup [(.cell (.str (((g34r0 A x1).set 31 (A.nb .or .u8 ((g34r0 A x1).getD 31 0) 128)).take ((g34r0 A x1).length)))), (.cell (.bool true))]) [(4003, ⟨[.nums .u8 ((g34r0 A x1).length) ((g34r0 A x1).set 31 (A.nb .or .u8 ((g34r0 A x1).getD 31 0) 128))], 5, 1⟩)]
            | false => none
          | false => none
        | false => kk (.tup [(.cell (.str ((g34r0 A x1).take ((g34r0 A x1).length)))), (.cell (.bool true))]) [(4003, ⟨[.nums .u8 ((g34r0 A x1).length) (g34r0 A x1)], 5, 1⟩)]
      | false => none
    | false => none
  | false => none
def g13 {R : Type} (A : Ar) (n : Nat) (kk : AV → Heap → Option R) (a0 a1 : List Nat) : Option R :=
  match g19ok A a0 a1 with
  | true => match !(g19r0 A a0 a1) with
    | true => kk (.tup [(.cell (.str [])), (.cell (.bool false))]) []
    | false => g13J3 A n kk  a0 a1
  | false => none
section
variable {R : Type} {A : Ar} {n : Nat} {kk : AV → Heap → Option R} {tb : Nat → List Bool → St → Option R} (st : Stp (g13N A kk) tb)
include st
end
def g13is (o : Option AV) : Bool := match o with
  | some (.tup [.cell (.str _), .cell (.bool _)]) => true
  | _ => false
def g13g0 (o : Option AV) : List Nat := match o with
  | some (.tup [.cell (.str x), .cell (.bool _)]) => x
  | _ => []
def g13g1 (o : Option AV) : Bool := match o with
  | some (.tup [.cell (.str _), .cell (.bool x)]) => x
  | _ => false
def g13v (A : Ar) (a0 a1 : List Nat) : Option AV := g13 A (100000) (fun v _ => some v) a0 a1
def g13ok (A : Ar) (a0 a1 : List Nat) : Bool := g13is (g13v A a0 a1)
def g13r0 (A : Ar) (a0 a1 : List Nat) : List Nat := g13g0 (g13v A a0 a1)
def g13r1 (A : Ar) (a0 a1 : List Nat) : Bool := g13g1 (g13v A a0 a1)
attribute [local irreducible] g13ok g13r0 g13r1
def g25O (A : Ar) : Orc := orcOf [(57, g57o A)]
theorem g25O_sound : OSound Try.prog (g25O realA) := orc_sound fun f g hm args v hv => by
  simp only [List.mem_cons, List.not_mem_nil, or_false, Prod.mk.injEq] at hm
  rcases hm with ⟨rfl, rfl⟩
  · exact g57o_sound _ _ hv
theorem g25O_det : ODet (g25O realA) := orc_det _
def g25an : Ann := [(0, ([], [])), (1, ([0], [1000]))]
def g25res : List ResultVar := [.cell 0 26]
def g25cut : List Nat := []
noncomputable def g25N {R : Type} (A : Ar) (kk : AV → Heap → Option R) (t : List Bool → St → Option R) (p : List Bool) (s : St) : Option R := nodeN A gtys (g25O A) g25an g25cut t (bodyOf Try.f25) (finD gtys g25res kk) p s
def g25 {R : Type} (A : Ar) (n : Nat) (kk : AV → Heap → Option R)  : Option R :=
  match g57ok A 1 with
  | true => kk (.v (.agg [.nums .u64 4 [0, 0, 0, 0], .nums .u64 4 (g57r0 A 1)])) [(1000, ⟨[.nums .u64 4 [0, 0, 0, 0], .nums .u64 4 (g57r0 A 1)], 26, 1⟩)]
  | false => none
section
variable {R : Type} {A : Ar} {n : Nat} {kk : AV → Heap → Option R} {tb : Nat → List Bool → St → Option R} (st : Stp (g25N A kk) tb)
include st
theorem g25_go  : Prs (fun k => funN A gtys (g25O A) g25an g25cut (bodyOf Try.f25) g25res [] [] kk (tb k)) (g25 A n kk ) := by
  unfold g25
  exact pc (SxY05rpi _ (pf _) pn) (by kernel_rfl)
end
def g25is (o : Option AV) : Bool := match o with
  | some (.v (.agg [.nums .u64 4 _, .nums .u64 4 _])) => true
  | _ => false
def g25g0 (o : Option AV) : List Nat := match o with
  | some (.v (.agg [.nums .u64 4 x, .nums .u64 4 _])) => x
  | _ => []
def g25g1 (o : Option AV) : List Nat := match o with
  | some (.v (.agg [.nums .u64 4 _, .nums .u64 4 x])) => x
  | _ => []
theorem g25is_spec {o : Option AV} (h : g25is o = true) : o = some (.v (.agg [.nums .u64 4 (g25g0 o), .nums .u64 4 (g25g1 o)])) := by
  unfold g25is at h
  split at h
  · rfl
  · cases h
def g25v (A : Ar)  : Option AV := g25 A (100000) (fun v _ => some v) 
def g25ok (A : Ar)  : Bool := g25is (g25v A )
def g25r0 (A : Ar)  : List Nat := g25g0 (g25v A )
def g25r1 (A : Ar)  : List Nat := g25g1 (g25v A )
theorem g25ok_spec {A : Ar} (h : g25ok A = true) : g25v A = some (.v (.agg [.nums .u64 4 (g25r0 A), .nums .u64 4 (g25r1 A)])) := g25is_spec h
def g25o (A : Ar) (args : List AV) : Option (Bool × AV) := match args with
  | [] => some (g25ok A , .v (.agg [.nums .u64 4 (g25r0 A), .nums .u64 4 (g25r1 A)]))
  | _ => none
theorem g25o_sound : ∀ args v, g25o realA args = some (true, v) → Fn1 Try.prog 25 args v := by
  intro args v h
  unfold g25o at h
  split at h
  · simp only [Option.some.injEq, Prod.mk.injEq] at h
    obtain ⟨hc, h⟩ := h
    subst h
    · skip
      exact fn1_ofG mixed gtysOK g25O_sound g25O_det (an := g25an) (cut := g25cut) Try.func25 (c := bodyOf Try.f25) rfl (by kernel_rfl) Try.call25 (Nat.le_of_ble_eq_true rfl) (fun b => rfl) (fun _ => (show g25v realA  = _ from g25ok_spec hc)) fun _ st => g25_go st
  · cases h
attribute [local irreducible] g25ok g25r0 g25r1
def g42O (A : Ar) : Orc := orcOf [(19, g19o A), (25, g25o A)]
theorem g42O_sound : OSound Try.prog (g42O realA) := orc_sound fun f g hm args v hv => by
  simp only [List.mem_cons, List.not_mem_nil, or_false, Prod.mk.injEq] at hm
  rcases hm with ⟨rfl, rfl⟩ | ⟨rfl, rfl⟩
  · exact g19o_sound _ _ hv
  · exact g25o_sound _ _ hv
theorem g42O_det : ODet (g42O realA) := orc_det _
def g42an : Ann := [(0, ([0], [])), (1, ([1, 2], [1000, 1001])), (2, ([1, 2], [1000, 1001])), (3, ([2], [1001]))]
def g42res : List ResultVar := [.cell 2 26]
def g42cut : List Nat := []
noncomputable def g42N {R : Type} (A : Ar) (kk : AV → Heap → Option R) (t : List Bool → St → Option R) (p : List Bool) (s : St) : Option R := nodeN A gtys (g42O A) g42an g42cut t (bodyOf Try.f42) (finD gtys g42res kk) p s
def g42 {R : Type} (A : Ar) (n : Nat) (kk : AV → Heap → Option R) (a0 a1 : List Nat) : Option R :=
  match g19ok A a0 a1 with
  | true => match g19r0 A a0 a1 with
    | true => kk (.v (.agg [.nums .u64 4 a0, .nums .u64 4 a1])) [(1000, ⟨[.nums .u64 4 a0, .nums .u64 4 a1], 26, 1⟩), (1001, ⟨[.nums .u64 4 a0, .nums .u64 4 a1], 26, 1⟩)]
    | false => match g25ok A with
      | true => kk (.v (.agg [.nums .u64 4 (g25r0 A), .nums .u64 4 (g25r1 A)])) [(1001, ⟨[.nums .u64 4 (g25r0 A), .nums .u64 4 (g25r1 A)], 26, 1⟩)]
      | false => none
  | false => none
section
variable {R : Type} {A : Ar} {n : Nat} {kk : AV → Heap → Option R} {tb : Nat → List Bool → St → Option R} (st : Stp (g42N A kk) tb)
include st
theorem g42_go {a0 : List Nat} {a1 : List Nat} : Prs (fun k => funN A gtys (g42O A) g42an g42cut (bodyOf Try.f42) g42res [(.v (.agg [.nums .u64 4 a0, .nums .u64 4 a1]))] [] kk (tb k)) (g42 A n kk a0 a1) := by
  unfold g42
  exact pc (SxY05rpi _ (SxY05rpi _ (pf _) (SxY05rpi _ (pf _) pn)) pn) (by kernel_rfl)
end
def g42is (o : Option AV) : Bool := match o with
  | some (.v (.agg [.nums .u64 4 _, .nums .u64 4 _])) => true
  | _ => false
def g42g0 (o : Option AV) : List Nat := match o with
  | some (.v (.agg [.nums .u64 4 x, .nums .u64 4 _])) => x
  | _ => []
def g42g1 (o : Option AV) : List Nat := match o with
  | some (.v (.agg [.nums .u64 4 _, .nums .u64 4 x])) => x
  | _ => []
theorem g42is_spec {o : Option AV} (h : g42is o = true) : o = some (.v (.agg [.nums .u64 4 (g42g0 o), .nums .u64 4 (g42g1 o)])) := by
  unfold g42is at h
  split at h
  · rfl
  · cases h
def g42v (A : Ar) (a0 a1 : List Nat) : Option AV := g42 A (100000) (fun v _ => some v) a0 a1
def g42ok (A : Ar) (a0 a1 : List Nat) : Bool := g42is (g42v A a0 a1)
def g42r0 (A : Ar) (a0 a1 : List Nat) : List Nat := g42g0 (g42v A a0 a1)
def g42r1 (A : Ar) (a0 a1 : List Nat) : List Nat := g42g1 (g42v A a0 a1)
theorem g42ok_spec {A : Ar} {a0 a1} (h : g42ok A a0 a1 = true) : g42v A a0 a1 = some (.v (.agg [.nums .u64 4 (g42r0 A a0 a1), .nums .u64 4 (g42r1 A a0 a1)])) := g42is_spec h
def g42o (A : Ar) (args : List AV) : Option (Bool × AV) := match args with
  | [.v (.agg [.nums .u64 n0 a0, .nums .u64 n1 a1])] => some (Nat.beq n0 4 && (Nat.beq n1 4 && (g42ok A a0 a1)), .v (.agg [.nums .u64 4 (g42r0 A a0 a1), .nums .u64 4 (g42r1 A a0 a1)]))
  | _ => none
theorem g42o_sound : ∀ args v, g42o realA args = some (true, v) → Fn1 Try.prog 42 args v := by
  intro args v h
  unfold g42o at h
  split at h
  · rename_i n0 a0 n1 a1
    simp only [Option.some.injEq, Prod.mk.injEq] at h
    obtain ⟨hc, h⟩ := h
    subst h
    · skip
      simp only [Bool.and_eq_true] at hc
      have en0 := beq_true hc.1
      subst en0
      replace hc := hc.2
      have en1 := beq_true hc.1
      subst en1
      replace hc := hc.2
      exact fn1_ofG mixed gtysOK g42O_sound g42O_det (an := g42an) (cut := g42cut) Try.func42 (c := bodyOf Try.f42) rfl (by kernel_rfl) Try.call42 (Nat.le_of_ble_eq_true rfl) (fun b => rfl) (fun _ => (show g42v realA a0 a1 = _ from g42ok_spec hc)) fun _ st => g42_go st
  · cases h
attribute [local irreducible] g42ok g42r0 g42r1
def g41O (A : Ar) : Orc := orcOf [(57, g57o A), (56, g56o A)]
theorem g41O_sound : OSound Try.prog (g41O realA) := orc_sound fun f g hm args v hv => by
  simp only [List.mem_cons, List.not_mem_nil, or_false, Prod.mk.injEq] at hm
  rcases hm with ⟨rfl, rfl⟩ | ⟨rfl, rfl⟩
  · exact g57o_sound _ _ hv
  · exact g56o_sound _ _ hv
theorem g41O_det : ODet (g41O realA) := orc_det _
def g41an : Ann := [(0, ([0], [])), (1, ([1, 2], [1000, 1001]))]
def g41res : List ResultVar := [.cell 2 59]
def g41cut : List Nat := []
noncomputable def g41N {R : Type} (A : Ar) (kk : AV → Heap → Option R) (t : List Bool → St → Option R) (p : List Bool) (s : St) : Option R := nodeN A gtys (g41O A) g41an g41cut t (bodyOf Try.f41) (finD gtys g41res kk) p s
def g41 {R : Type} (A : Ar) (n : Nat) (kk : AV → Heap → Option R) (a0 a1 : List Nat) : Option R :=
  match g57ok A 1 with
  | true => match g56ok A a0 a1 with
    | true => kk (.v (.agg [.nums .u64 4 a0, .nums .u64 4 a1, .nums .u64 4 (g57r0 A 1), .nums .u64 4 (g56r0 A a0 a1)])) [(1000, ⟨[.nums .u64 4 a0, .nums .u64 4 a1], 26, 1⟩), (1001, ⟨[.nums .u64 4 a0, .nums .u64 4 a1, .nums .u64 4 (g57r0 A 1), .nums .u64 4 (g56r0 A a0 a1)], 59, 1⟩)]
    | false => none
  | false => none
section
variable {R : Type} {A : Ar} {n : Nat} {kk : AV → Heap → Option R} {tb : Nat → List Bool → St → Option R} (st : Stp (g41N A kk) tb)
include st
theorem g41_go {a0 : List Nat} {a1 : List Nat} : Prs (fun k => funN A gtys (g41O A) g41an g41cut (bodyOf Try.f41) g41res [(.v (.agg [.nums .u64 4 a0, .nums .u64 4 a1]))] [] kk (tb k)) (g41 A n kk a0 a1) := by
  unfold g41
  exact pc (SxY05rpi _ (SxY05rpi _ (pf _) pn) pn) (by kernel_rfl)
end
def g41is (o : Option AV) : Bool := match o with
  | some (.v (.agg [.nums .u64 4 _, .nums .u64 4 _, .nums .u64 4 _, .nums .u64 4 _])) => true
  | _ => false
def g41g0 (o : Option AV) : List Nat := match o with
  | some (.v (.agg [.nums .u64 4 x, .nums .u64 4 _, .nums .u64 4 _, .nums .u64 4 _])) => x
  | _ => []
def g41g1 (o : Option AV) : List Nat := match o with
  | some (.v (.agg [.nums .u64 4 _, .nums .u64 4 x, .nums .u64 4 _, .nums .u64 4 _])) => x
  | _ => []
def g41g2 (o : Option AV) : List Nat := match o with
  | some (.v (.agg [.nums .u64 4 _, .nums .u64 4 _, .nums .u64 4 x, .nums .u64 4 _])) => x
  | _ => []
def g41g3 (o : Option AV) : List Nat := match o with
  | some (.v (.agg [.nums .u64 4 _, .nums .u64 4 _, .nums .u64 4 _, .nums .u64 4 x])) => x
  | _ => []
theorem g41is_spec {o : Option AV} (h : g41is o = true) : o = some (.v (.agg [.nums .u64 4 (g41g0 o), .nums .u64 4 (g41g1 o), .nums .u64 4 (g41g2 o), .nums .u64 4 (g41g3 o)])) := by
  unfold g41is at h
  split at h
  · rfl
  · cases h
def g41v (A : Ar) (a0 a1 : List Nat) : Option AV := g41 A (100000) (fun v _ => some v) a0 a1
def g41ok (A : Ar) (a0 a1 : List Nat) : Bool := g41is (g41v A a0 a1)
def g41r0 (A : Ar) (a0 a1 : List Nat) : List Nat := g41g0 (g41v A a0 a1)
def g41r1 (A : Ar) (a0 a1 : List Nat) : List Nat := g41g1 (g41v A a0 a1)
def g41r2 (A : Ar) (a0 a1 : List Nat) : List Nat := g41g2 (g41v A a0 a1)
def g41r3 (A : Ar) (a0 a1 : List Nat) : List Nat := g41g3 (g41v A a0 a1)
theorem g41ok_spec {A : Ar} {a0 a1} (h : g41ok A a0 a1 = true) : g41v A a0 a1 = some (.v (.agg [.nums .u64 4 (g41r0 A a0 a1), .nums .u64 4 (g41r1 A a0 a1), .nums .u64 4 (g41r2 A a0 a1), .nums .u64 4 (g41r3 A a0 a1)])) := g41is_spec h
def g41o (A : Ar) (args : List AV) : Option (Bool × AV) := match args with
  | [.v (.agg [.nums .u64 n0 a0, .nums .u64 n1 a1])] => some (Nat.beq n0 4 && (Nat.beq n1 4 && (g41ok A a0 a1)), .v (.agg [.nums .u64 4 (g41r0 A a0 a1), .nums .u64 4 (g41r1 A a0 a1), .nums .u64 4 (g41r2 A a0 a1), .nums .u64 4 (g41r3 A a0 a1)]))
  | _ => none
theorem g41o_sound : ∀ args v, g41o realA args = some (true, v) → Fn1 Try.prog 41 args v := by
  intro args v h
  unfold g41o at h
  split at h
  · rename_i n0 a0 n1 a1
    simp only [Option.some.injEq, Prod.mk.injEq] at h
    obtain ⟨hc, h⟩ := h
    subst h
    · skip
      simp only [Bool.and_eq_true] at hc
      have en0 := beq_true hc.1
      subst en0
      replace hc := hc.2
      have en1 := beq_true hc.1
      subst en1
      replace hc := hc.2
      exact fn1_ofG mixed gtysOK g41O_sound g41O_det (an := g41an) (cut := g41cut) Try.func41 (c := bodyOf Try.f41) rfl (by kernel_rfl) Try.call41 (Nat.le_of_ble_eq_true rfl) (fun b => rfl) (fun _ => (show g41v realA a0 a1 = _ from g41ok_spec hc)) fun _ st => g41_go st
  · cases h
attribute [local irreducible] g41ok g41r0 g41r1 g41r2 g41r3
def g40O (A : Ar) : Orc := orcOf [(56, g56o A), (67, g67o A), (68, g68o A)]
theorem g40O_sound : OSound Try.prog (g40O realA) := orc_sound fun f g hm args v hv => by
  simp only [List.mem_cons, List.not_mem_nil, or_false, Prod.mk.injEq] at hm
  rcases hm with ⟨rfl, rfl⟩ | ⟨rfl, rfl⟩ | ⟨rfl, rfl⟩
  · exact g56o_sound _ _ hv
  · exact g67o_sound _ _ hv
  · exact g68o_sound _ _ hv
theorem g40O_det : ODet (g40O realA) := orc_det _
def g40an : Ann := [(0, ([0, 1, 2], [])), (1, ([3, 4, 5, 6], [1000, 1001, 1002, 1003])), (2, ([3, 4, 5, 6, 7], [1000, 1001, 1002, 1003, 2005])), (3, ([3, 4, 5, 6, 7, 8], [1000, 1001, 1002, 1003, 2005, 3005])), (4, ([4, 5, 6, 7, 8, 9], [1001, 1002, 1003, 2005, 3005, 4007])), (5, ([4, 5, 6, 7, 8, 9, 10], [1001, 1002, 1003, 2005, 3005, 4007, 5005])), (6, ([6, 7, 8, 9, 10, 11], [1003, 2005, 3005, 4007, 5005, 6011])), (7, ([6, 9, 10, 11, 12], [1003, 4007, 5005, 6011, 7003])), (8, ([6, 9, 10, 11, 12, 13], [1003, 4007, 5005, 6011, 7003, 8003])), (9, ([6, 11, 12, 13, 14], [1003, 6011, 7003, 8003, 9003]))]
def g40res : List ResultVar := [.cell 6 59]
def g40cut : List Nat := []
noncomputable def g40N {R : Type} (A : Ar) (kk : AV → Heap → Option R) (t : List Bool → St → Option R) (p : List Bool) (s : St) : Option R := nodeN A gtys (g40O A) g40an g40cut t (bodyOf Try.f40) (finD gtys g40res kk) p s
def g40 {R : Type} (A : Ar) (n : Nat) (kk : AV → Heap → Option R) (a b0 : List Nat) (b1 b2 : List Nat) (b3 c0 : List Nat) (c1 c2 c3 : List Nat) : Option R :=
  match g56ok A b0 c0 with
  | true => match g56ok A b1 c1 with
    | true => match g56ok A b3 c3 with
      | true => match g56ok A a (g56r0 A b3 c3) with
        | true => match g56ok A b2 c2 with
          | true => match g56ok A b0 c1 with
            | true => match g56ok A c0 b1 with
              | true => match g67ok A (g56r0 A b0 c1) (g56r0 A c0 b1) with
                | true => match g67ok A (g56r0 A b1 c1) (g56r0 A b0 c0) with
                  | true => match g68ok A (g56r0 A b2 c2) (g56r0 A a (g56r0 A b3 c3)) with
                    | true => match g67ok A (g56r0 A b2 c2) (g56r0 A a (g56r0 A b3 c3)) with
                      | true => match g56ok A (g67r0 A (g56r0 A b0 c1) (g56r0 A c0 b1)) (g68r0 A (g56r0 A b2 c2) (g56r0 A a (g56r0 A b3 c3))) with
                        | true => match g56ok A (g67r0 A (g56r0 A b1 c1) (g56r0 A b0 c0)) (g67r0 A (g56r0 A b2 c2) (g56r0 A a (g56r0 A b3 c3))) with
                          | true => match g56ok A (g68r0 A (g56r0 A b2 c2) (g56r0 A a (g56r0 A b3 c3))) (g67r0 A (g56r0 A b2 c2) (g56r0 A a (g56r0 A b3 c3))) with
                            | true => match g56ok A (g67r0 A (g56r0 A b0 c1) (g56r0 A c0 b1)) (g67r0 A (g56r0 A b1 c1) (g56r0 A b0 c0)) with
                              | true => kk (.v (.agg [.nums .u64 4 (g56r0 A (g67r0 A (g56r0 A b0 c1) (g56r0 A c0 b1)) (g68r0 A (g56r0 A b2 c2) (g56r0 A a (g56r0 A b3 c3)))), .nums .u64 4 (g56r0 A (g67r0 A (g56r0 A b1 c1) (g56r0 A b0 c0)) (g67r0 A (g56r0 A b2 c2) (g56r0 A a (g56r0 A b3 c3)))), .nums .u64 4 (g56r0 A (g68r0 A (g56r0 A b2 c2) (g56r0 A a (g56r0 A b3 c3))) (g67r0 A (g56r0 A b2 c2) (g56r0 A a (g56r0 A b3 c3)))), .nums .u64 4 (g56r0 A (g67r0 A (g56r0 A b0 c1) (g56r0 A c0 b1)) (g67r0 A (g56r0 A b1 c1) (g56r0 A b0 c0)))])) [(1003, ⟨[.nums .u64 4 (g56r0 A (g67r0 A (g56r0 A b0 c1) (g56r0 A c0 b1)) (g68r0 A (g56r0 A b2 c2) (g56r0 A a (g56r0 A b3 c3)))), .nums .u64 4 (g56r0 A (g67r0 A (g56r0 A b1 c1) (g56r0 A b0 c0)) (g67r0 A (g56r0 A b2 c2) (g56r0 A a (g56r0 A b3 c3)))), .nums .u64 4 (g56r0 A (g68r0 A (g56r0 A b2 c2) (g56r0 A a (g56r0 A b3 c3))) (g67r0 A (g56r0 A b2 c2) (g56r0 A a (g56r0 A b3 c3)))), .nums .u64 4 (g56r0 A (g67r0 A (g56r0 A b0 c1) (g56r0 A c0 b1)) (g67r0 A (g56r0 A b1 c1) (g56r0 A b0 c0)))], 59, 1⟩), (6011, (bU 4 (g67r0 A (g56r0 A b0 c1) (g56r0 A c0 b1)) 24)), (7003, (bU 4 (g67r0 A (g56r0 A b1 c1) (g56r0 A b0 c0)) 24)), (8003, (bU 4 (g68r0 A (g56r0 A b2 c2) (g56r0 A a (g56r0 A b3 c3))) 24)), (9003, (bU 4 (g67r0 A (g56r0 A b2 c2) (g56r0 A a (g56r0 A b3 c3))) 24))]
                              | false => none
                            | false => none
                          | false => none
                        | false => none
                      | false => none
                    | false => none
                  | false => none
                | false => none
              | false => none
            | false => none
          | false => none
        | false => none
      | false => none
    | false => none
  | false => none
section
variable {R : Type} {A : Ar} {n : Nat} {kk : AV → Heap → Option R} {tb : Nat → List Bool → St → Option R} (st : Stp (g40N A kk) tb)
include st
theorem g40_go {a : List Nat} {b0 : List Nat} {b1 : List Nat} {b2 : List Nat} {b3 : List Nat} {c0 : List Nat} {c1 : List Nat} {c2 : List Nat} {c3 : List Nat} : Prs (fun k => funN A gtys (g40O A) g40an g40cut (bodyOf Try.f40) g40res [(aN .u64 4 a), (.v (.agg [.nums .u64 4 b0, .nums .u64 4 b1, .nums .u64 4 b2, .nums .u64 4 b3])), (.v (.agg [.nums .u64 4 c0, .nums .u64 4 c1, .nums .u64 4 c2, .nums .u64 4 c3]))] [] kk (tb k)) (g40 A n kk a b0 b1 b2 b3 c0 c1 c2 c3) := by
  unfold g40
  exact pc (SxY05rpi _ (SxY05rpi _ (SxY05rpi _ (SxY05rpi _ (SxY05rpi _ (SxY05rpi _ (SxY05rpi _ (SxY05rpi _ (SxY05rpi _ (SxY05rpi _ (SxY05rpi _ (SxY05rpi _ (SxY05rpi _ (SxY05rpi _ (SxY05rpi _ (pf _) pn) pn) pn) pn) pn) pn) pn) pn) pn) pn) pn) pn) pn) pn) pn) (by kernel_rfl)
end
def g40is (o : Option AV) : Bool := match o with
  | some (.v (.agg [.nums .u64 4 _, .nums .u64 4 _, .nums .u64 4 _, .nums .u64 4 _])) => true
  | _ => false
def g40g0 (o : Option AV) : List Nat := match o with
  | some (.v (.agg [.nums .u64 4 x, .nums .u64 4 _, .nums .u64 4 _, .nums .u64 4 _])) => x
  | _ => []
def g40g1 (o : Option AV) : List Nat := match o with
  | some (.v (.agg [.nums .u64 4 _, .nums .u64 4 x, .nums .u64 4 _, .nums .u64 4 _])) => x
  | _ => []
def g40g2 (o : Option AV) : List Nat := match o with
  | some (.v (.agg [.nums .u64 4 _, .nums .u64 4 _, .nums .u64 4 x, .nums .u64 4 _])) => x
  | _ => []
def g40g3 (o : Option AV) : List Nat := match o with
  | some (.v (.agg [.nums .u64 4 _, .nums .u64 4 _, .nums .u64 4 _, .nums .u64 4 x])) => x
  | _ => []
theorem g40is_spec {o : Option AV} (h : g40is o = true) : o = some (.v (.agg [.nums .u64 4 (g40g0 o), .nums .u64 4 (g40g1 o), .nums .u64 4 (g40g2 o), .nums .u64 4 (g40g3 o)])) := by
  unfold g40is at h
  split at h
  · rfl
  · cases h
def g40v (A : Ar) (a b0 : List Nat) (b1 b2 : List Nat) (b3 c0 : List Nat) (c1 c2 c3 : List Nat) : Option AV := g40 A (100000) (fun v _ => some v) a b0 b1 b2 b3 c0 c1 c2 c3
def g40ok (A : Ar) (a b0 : List Nat) (b1 b2 : List Nat) (b3 c0 : List Nat) (c1 c2 c3 : List Nat) : Bool := g40is (g40v A a b0 b1 b2 b3 c0 c1 c2 c3)
def g40r0 (A : Ar) (a b0 : List Nat) (b1 b2 : List Nat) (b3 c0 : List Nat) (c1 c2 c3 : List Nat) : List Nat := g40g0 (g40v A a b0 b1 b2 b3 c0 c1 c2 c3)
def g40r1 (A : Ar) (a b0 : List Nat) (b1 b2 : List Nat) (b3 c0 : List Nat) (c1 c2 c3 : List Nat) : List Nat := g40g1 (g40v A a b0 b1 b2 b3 c0 c1 c2 c3)
def g40r2 (A : Ar) (a b0 : List Nat) (b1 b2 : List Nat) (b3 c0 : List Nat) (c1 c2 c3 : List Nat) : List Nat := g40g2 (g40v A a b0 b1 b2 b3 c0 c1 c2 c3)
def g40r3 (A : Ar) (a b0 : List Nat) (b1 b2 : List Nat) (b3 c0 : List Nat) (c1 c2 c3 : List Nat) : List Nat := g40g3 (g40v A a b0 b1 b2 b3 c0 c1 c2 c3)
theorem g40ok_spec {A : Ar} {a b0 b1 b2 b3 c0 c1 c2 c3} (h : g40ok A a b0 b1 b2 b3 c0 c1 c2 c3 = true) : g40v A a b0 b1 b2 b3 c0 c1 c2 c3 = some (.v (.agg [.nums .u64 4 (g40r0 A a b0 b1 b2 b3 c0 c1 c2 c3), .nums .u64 4 (g40r1 A a b0 b1 b2 b3 c0 c1 c2 c3), .nums .u64 4 (g40r2 A a b0 b1 b2 b3 c0 c1 c2 c3), .nums .u64 4 (g40r3 A a b0 b1 b2 b3 c0 c1 c2 c3)])) := g40is_spec h
def g40o (A : Ar) (args : List AV) : Option (Bool × AV) := match args with
  | [.v (.agg [.nums .u64 n0 a]), .v (.agg [.nums .u64 n1 b0, .nums .u64 n2 b1, .nums .u64 n3 b2, .nums .u64 n4 b3]), .v (.agg [.nums .u64 n5 c0, .nums .u64 n6 c1, .nums .u64 n7 c2, .nums .u64 n8 c3])] => some (Nat.beq n0 4 && (Nat.beq n1 4 && (Nat.beq n2 4 && (Nat.beq n3 4 && (Nat.beq n4 4 && (Nat.beq n5 4 && (Nat.beq n6 4 && (Nat.beq n7 4 && (Nat.beq n8 4 && (g40ok A a b0 b1 b2 b3 c0 c1 c2 c3))))))))), .v (.agg [.nums .u64 4 (g40r0 A a b0 b1 b2 b3 c0 c1 c2 c3), .nums .u64 4 (g40r1 A a b0 b1 b2 b3 c0 c1 c2 c3), .nums .u64 4 (g40r2 A a b0 b1 b2 b3 c0 c1 c2 c3), .nums .u64 4 (g40r3 A a b0 b1 b2 b3 c0 c1 c2 c3)]))
  | _ => none
theorem g40o_sound : ∀ args v, g40o realA args = some (true, v) → Fn1 Try.prog 40 args v := by
  intro args v h
  unfold g40o at h
  split at h
  · rename_i n0 a n1 b0 n2 b1 n3 b2 n4 b3 n5 c0 n6 c1 n7 c2 n8 c3
    simp only [Option.some.injEq, Prod.mk.injEq] at h
    obtain ⟨hc, h⟩ := h
    subst h
    · skip
      simp only [Bool.and_eq_true] at hc
      have en0 := beq_true hc.1
      subst en0
      replace hc := hc.2
      have en1 := beq_true hc.1
      subst en1
      replace hc := hc.2
      have en2 := beq_true hc.1
      subst en2
      replace hc := hc.2
      have en3 := beq_true hc.1
      subst en3
      replace hc := hc.2
      have en4 := beq_true hc.1
      subst en4
      replace hc := hc.2
      have en5 := beq_true hc.1
      subst en5
      replace hc := hc.2
      have en6 := beq_true hc.1
      subst en6
      replace hc := hc.2
      have en7 := beq_true hc.1
      subst en7
      replace hc := hc.2
      have en8 := beq_true hc.1
      subst en8
      replace hc := hc.2
      exact fn1_ofG mixed gtysOK g40O_sound g40O_det (an := g40an) (cut := g40cut) Try.func40 (c := bodyOf Try.f40) rfl (by kernel_rfl) Try.call40 (Nat.le_of_ble_eq_true rfl) (fun b => rfl) (fun _ => (show g40v realA a b0 b1 b2 b3 c0 c1 c2 c3 = _ from g40ok_spec hc)) fun _ st => g40_go st
  · cases h
attribute [local irreducible] g40ok g40r0 g40r1 g40r2 g40r3
def g39O (A : Ar) : Orc := orcOf [(58, g58o A), (56, g56o A)]
theorem g39O_sound : OSound Try.prog (g39O realA) := orc_sound fun f g hm args v hv => by
  simp only [List.mem_cons, List.not_mem_nil, or_false, Prod.mk.injEq] at hm
  rcases hm with ⟨rfl, rfl⟩ | ⟨rfl, rfl⟩
  · exact g58o_sound _ _ hv
  · exact g56o_sound _ _ hv
theorem g39O_det : ODet (g39O realA) := orc_det _
def g39an : Ann := [(0, ([0], [])), (1, ([1, 2], [1000, 1001])), (2, ([1, 2, 3], [1000, 1001, 2003]))]
def g39res : List ResultVar := [.cell 2 26]
def g39cut : List Nat := []
noncomputable def g39N {R : Type} (A : Ar) (kk : AV → Heap → Option R) (t : List Bool → St → Option R) (p : List Bool) (s : St) : Option R := nodeN A gtys (g39O A) g39an g39cut t (bodyOf Try.f39) (finD gtys g39res kk) p s
def g39 {R : Type} (A : Ar) (n : Nat) (kk : AV → Heap → Option R) (a0 a1 : List Nat) (a2 a3 : List Nat) : Option R :=
  match g58ok A a2 with
  | true => match g56ok A a0 (g58r0 A a2) with
    | true => match g56ok A a1 (g58r0 A a2) with
      | true => kk (.v (.agg [.nums .u64 4 (g56r0 A a0 (g58r0 A a2)), .nums .u64 4 (g56r0 A a1 (g58r0 A a2))])) [(1000, ⟨[.nums .u64 4 a0, .nums .u64 4 a1, .nums .u64 4 a2, .nums .u64 4 a3], 59, 1⟩), (1001, ⟨[.nums .u64 4 (g56r0 A a0 (g58r0 A a2)), .nums .u64 4 (g56r0 A a1 (g58r0 A a2))], 26, 1⟩), (2003, (bU 4 (g58r0 A a2) 24))]
      | false => none
    | false => none
  | false => none
section
variable {R : Type} {A : Ar} {n : Nat} {kk : AV → Heap → Option R} {tb : Nat → List Bool → St → Option R} (st : Stp (g39N A kk) tb)
include st
theorem g39_go {a0 : List Nat} {a1 : List Nat} {a2 : List Nat} {a3 : List Nat} : Prs (fun k => funN A gtys (g39O A) g39an g39cut (bodyOf Try.f39) g39res [(.v (.agg [.nums .u64 4 a0, .nums .u64 4 a1, .nums .u64 4 a2, .nums .u64 4 a3]))] [] kk (tb k)) (g39 A n kk a0 a1 a2 a3) := by
  unfold g39
  exact pc (SxY05rpi _ (SxY05rpi _ (SxY05rpi _ (pf _) pn) pn) pn) (by kernel_rfl)
end
def g39is (o : Option AV) : Bool := match o with
  | some (.v (.agg [.nums .u64 4 _, .nums .u64 4 _])) => true
  | _ => false
def g39g0 (o : Option AV) : List Nat := match o with
  | some (.v (.agg [.nums .u64 4 x, .nums .u64 4 _])) => x
  | _ => []
def g39g1 (o : Option AV) : List Nat := match o with
  | some (.v (.agg [.nums .u64 4 _, .nums .u64 4 x])) => x
  | _ => []
theorem g39is_spec {o : Option AV} (h : g39is o = true) : o = some (.v (.agg [.nums .u64 4 (g39g0 o), .nums .u64 4 (g39g1 o)])) := by
  unfold g39is at h
  split at h
  · rfl
  · cases h
def g39v (A : Ar) (a0 a1 : List Nat) (a2 a3 : List Nat) : Option AV := g39 A (100000) (fun v _ => some v) a0 a1 a2 a3
def g39ok (A : Ar) (a0 a1 : List Nat) (a2 a3 : List Nat) : Bool := g39is (g39v A a0 a1 a2 a3)
def g39r0 (A : Ar) (a0 a1 : List Nat) (a2 a3 : List Nat) : List Nat := g39g0 (g39v A a0 a1 a2 a3)
def g39r1 (A : Ar) (a0 a1 : List Nat) (a2 a3 : List Nat) : List Nat := g39g1 (g39v A a0 a1 a2 a3)
theorem g39ok_spec {A : Ar} {a0 a1 a2 a3} (h : g39ok A a0 a1 a2 a3 = true) : g39v A a0 a1 a2 a3 = some (.v (.agg [.nums .u64 4 (g39r0 A a0 a1 a2 a3), .nums .u64 4 (g39r1 A a0 a1 a2 a3)])) := g39is_spec h
def g39o (A : Ar) (args : List AV) : Option (Bool × AV) := match args with
  | [.v (.agg [.nums .u64 n0 a0, .nums .u64 n1 a1, .nums .u64 n2 a2, .nums .u64 n3 a3])] => some (Nat.beq n0 4 && (Nat.beq n1 4 && (Nat.beq n2 4 && (Nat.beq n3 4 && (g39ok A a0 a1 a2 a3)))), .v (.agg [.nums .u64 4 (g39r0 A a0 a1 a2 a3), .nums .u64 4 (g39r1 A a0 a1 a2 a3)]))
  | _ => none
theorem g39o_sound : ∀ args v, g39o realA args = some (true, v) → Fn1 Try.prog 39 args v := by
  intro args v h
  unfold g39o at h
  split at h
  · rename_i n0 a0 n1 a1 n2 a2 n3 a3
    simp only [Option.some.injEq, Prod.mk.injEq] at h
    obtain ⟨hc, h⟩ := h
    subst h
    · skip
      simp only [Bool.and_eq_true] at hc
      have en0 := beq_true hc.1
      subst en0
      replace hc := hc.2
      have en1 := beq_true hc.1
      subst en1
      replace hc := hc.2
      have en2 := beq_true hc.1
      subst en2
      replace hc := hc.2
      have en3 := beq_true hc.1
      subst en3
      replace hc := hc.2
      exact fn1_ofG mixed gtysOK g39O_sound g39O_det (an := g39an) (cut := g39cut) Try.func39 (c := bodyOf Try.f39) rfl (by kernel_rfl) Try.call39 (Nat.le_of_ble_eq_true rfl) (fun b => rfl) (fun _ => (show g39v realA a0 a1 a2 a3 = _ from g39ok_spec hc)) fun _ st => g39_go st
  · cases h
attribute [local irreducible] g39ok g39r0 g39r1
def g15O (A : Ar) : Orc := orcOf [(32, g32o A), (42, g42o A), (41, g41o A), (40, g40o A), (39, g39o A)]
def g15an : Ann := [(0, ([0, 1], [])), (1, ([2, 3, 4], [1000, 1001, 1002]))]
def g15res : List ResultVar := [.cell 4 26]
def g15cut : List Nat := []
abbrev g15t4 (A : Ar) (a0 a1 : List Nat) (b0 b1 : List Nat) : List Nat := g40r0 A (g32r0 A) (g41r0 A (g42r0 A a0 a1) (g42r1 A a0 a1)) (g41r1 A (g42r0 A a0 a1) (g42r1 A a0 a1)) (g41r2 A (g42r0 A a0 a1) (g42r1 A a0 a1)) (g41r3 A (g42r0 A a0 a1) (g42r1 A a0 a1)) (g41r0 A (g42r0 A b0 b1) (g42r1 A b0 b1)) (g41r1 A (g42r0 A b0 b1) (g42r1 A b0 b1)) (g41r2 A (g42r0 A b0 b1) (g42r1 A b0 b1)) (g41r3 A (g42r0 A b0 b1) (g42r1 A b0 b1))
abbrev g15t5 (A : Ar) (a0 a1 : List Nat) (b0 b1 : List Nat) : List Nat := g40r1 A (g32r0 A) (g41r0 A (g42r0 A a0 a1) (g42r1 A a0 a1)) (g41r1 A (g42r0 A a0 a1) (g42r1 A a0 a1)) (g41r2 A (g42r0 A a0 a1) (g42r1 A a0 a1)) (g41r3 A (g42r0 A a0 a1) (g42r1 A a0 a1)) (g41r0 A (g42r0 A b0 b1) (g42r1 A b0 b1)) (g41r1 A (g42r0 A b0 b1) (g42r1 A b0 b1)) (g41r2 A (g42r0 A b0 b1) (g42r1 A b0 b1)) (g41r3 A (g42r0 A b0 b1) (g42r1 A b0 b1))
abbrev g15t6 (A : Ar) (a0 a1 : List Nat) (b0 b1 : List Nat) : List Nat := g40r2 A (g32r0 A) (g41r0 A (g42r0 A a0 a1) (g42r1 A a0 a1)) (g41r1 A (g42r0 A a0 a1) (g42r1 A a0 a1)) (g41r2 A (g42r0 A a0 a1) (g42r1 A a0 a1)) (g41r3 A (g42r0 A a0 a1) (g42r1 A a0 a1)) (g41r0 A (g42r0 A b0 b1) (g42r1 A b0 b1)) (g41r1 A (g42r0 A b0 b1) (g42r1 A b0 b1)) (g41r2 A (g42r0 A b0 b1) (g42r1 A b0 b1)) (g41r3 A (g42r0 A b0 b1) (g42r1 A b0 b1))
abbrev g15t7 (A : Ar) (a0 a1 : List Nat) (b0 b1 : List Nat) : List Nat := g40r3 A (g32r0 A) (g41r0 A (g42r0 A a0 a1) (g42r1 A a0 a1)) (g41r1 A (g42r0 A a0 a1) (g42r1 A a0 a1)) (g41r2 A (g42r0 A a0 a1) (g42r1 A a0 a1)) (g41r3 A (g42r0 A a0 a1) (g42r1 A a0 a1)) (g41r0 A (g42r0 A b0 b1) (g42r1 A b0 b1)) (g41r1 A (g42r0 A b0 b1) (g42r1 A b0 b1)) (g41r2 A (g42r0 A b0 b1) (g42r1 A b0 b1)) (g41r3 A (g42r0 A b0 b1) (g42r1 A b0 b1))
noncomputable def g15N {R : Type} (A : Ar) (kk : AV → Heap → Option R) (t : List Bool → St → Option R) (p : List Bool) (s : St) : Option R := nodeN A gtys (g15O A) g15an g15cut t (bodyOf Try.f15) (finD gtys g15res kk) p s
def g15 {R : Type} (A : Ar) (n : Nat) (kk : AV → Heap → Option R) (a0 a1 : List Nat) (b0 b1 : List Nat) : Option R :=
  match g32ok A with
  | true => match g42ok A a0 a1 with
    | true => match g41ok A (g42r0 A a0 a1) (g42r1 A a0 a1) with
      | true => match g42ok A b0 b1 with
        | true => match g41ok A (g42r0 A b0 b1) (g42r1 A b0 b1) with
          | true => match g40ok A (g32r0 A) (g41r0 A (g42r0 A a0 a1) (g42r1 A a0 a1)) (g41r1 A (g42r0 A a0 a1) (g42r1 A a0 a1)) (g41r2 A (g42r0 A a0 a1) (g42r1 A a0 a1)) (g41r3 A (g42r0 A a0 a1) (g42r1 A a0 a1)) (g41r0 A (g42r0 A b0 b1) (g42r1 A b0 b1)) (g41r1 A (g42r0 A b0 b1) (g42r1 A b0 b1)) (g41r2 A (g42r0 A b0 b1) (g42r1 A b0 b1)) (g41r3 A (g42r0 A b0 b1) (g42r1 A b0 b1)) with
            | true => match g39ok A (g15t4 A a0 a1 b0 b1) (g15t5 A a0 a1 b0 b1) (g15t6 A a0 a1 b0 b1) (g15t7 A a0 a1 b0 b1) with
              | true => kk (.v (.agg [.nums .u64 4 (g39r0 A (g15t4 A a0 a1 b0 b1) (g15t5 A a0 a1 b0 b1) (g15t6 A a0 a1 b0 b1) (g15t7 A a0 a1 b0 b1)), .nums .u64 4 (g39r1 A (g15t4 A a0 a1 b0 b1) (g15t5 A a0 a1 b0 b1) (g15t6 A a0 a1 b0 b1) (g15t7 A a0 a1 b0 b1))])) [(1000, ⟨[.nums .u64 4 a0, .nums .u64 4 a1], 26, 1⟩), (1001, ⟨[.nums .u64 4 b0, .nums .u64 4 b1], 26, 1⟩), (1002, ⟨[.nums .u64 4 (g39r0 A (g15t4 A a0 a1 b0 b1) (g15t5 A a0 a1 b0 b1) (g15t6 A a0 a1 b0 b1) (g15t7 A a0 a1 b0 b1)), .nums .u64 4 (g39r1 A (g15t4 A a0 a1 b0 b1) (g15t5 A a0 a1 b0 b1) (g15t6 A a0 a1 b0 b1) (g15t7 A a0 a1 b0 b1))], 26, 1⟩)]
              | false => none
            | false => none
          | false => none
        | false => none
      | false => none
    | false => none
  | false => none
section
variable {R : Type} {A : Ar} {n : Nat} {kk : AV → Heap → Option R} {tb : Nat → List Bool → St → Option R} (st : Stp (g15N A kk) tb)
include st
end
def g15is (o : Option AV) : Bool := match o with
  | some (.v (.agg [.nums .u64 4 _, .nums .u64 4 _])) => true
  | _ => false
def g15g0 (o : Option AV) : List Nat := match o with
  | some (.v (.agg [.nums .u64 4 x, .nums .u64 4 _])) => x
  | _ => []
def g15g1 (o : Option AV) : List Nat := match o with
  | some (.v (.agg [.nums .u64 4 _, .nums .u64 4 x])) => x
  | _ => []
def g15v (A : Ar) (a0 a1 : List Nat) (b0 b1 : List Nat) : Option AV := g15 A (100000) (fun v _ => some v) a0 a1 b0 b1
def g15ok (A : Ar) (a0 a1 : List Nat) (b0 b1 : List Nat) : Bool := g15is (g15v A a0 a1 b0 b1)
def g15r0 (A : Ar) (a0 a1 : List Nat) (b0 b1 : List Nat) : List Nat := g15g0 (g15v A a0 a1 b0 b1)
def g15r1 (A : Ar) (a0 a1 : List Nat) (b0 b1 : List Nat) : List Nat := g15g1 (g15v A a0 a1 b0 b1)
attribute [local irreducible] g15ok g15r0 g15r1
def g17O (A : Ar) : Orc := orcOf [(42, g42o A), (44, g44o A)]
def g17an : Ann := [(0, ([0], [])), (1, ([1, 2], [1000, 1001])), (2, ([2, 3], [1001, 2002]))]
def g17res : List ResultVar := [.cell 2 26]
def g17cut : List Nat := []
noncomputable def g17N {R : Type} (A : Ar) (kk : AV → Heap → Option R) (t : List Bool → St → Option R) (p : List Bool) (s : St) : Option R := nodeN A gtys (g17O A) g17an g17cut t (bodyOf Try.f17) (finD gtys g17res kk) p s
def g17 {R : Type} (A : Ar) (n : Nat) (kk : AV → Heap → Option R) (a0 a1 : List Nat) : Option R :=
  match g42ok A a0 a1 with
  | true => match g44ok A (g42r0 A a0 a1) with
    | true => kk (.v (.agg [.nums .u64 4 (g44r0 A (g42r0 A a0 a1)), .nums .u64 4 (g42r1 A a0 a1)])) [(1001, ⟨[.nums .u64 4 (g44r0 A (g42r0 A a0 a1)), .nums .u64 4 (g42r1 A a0 a1)], 26, 1⟩), (2002, ⟨[.nums .u64 4 (g42r0 A a0 a1), .nums .u64 4 (g42r1 A a0 a1)], 26, 1⟩)]
    | false => none
  | false => none
section
variable {R : Type} {A : Ar} {n : Nat} {kk : AV → Heap → Option R} {tb : Nat → List Bool → St → Option R} (st : Stp (g17N A kk) tb)
include st
end
def g17is (o : Option AV) : Bool := match o with
  | some (.v (.agg [.nums .u64 4 _, .nums .u64 4 _])) => true
  | _ => false
def g17g0 (o : Option AV) : List Nat := match o with
  | some (.v (.agg [.nums .u64 4 x, .nums .u64 4 _])) => x
  | _ => []
def g17g1 (o : Option AV) : List Nat := match o with
  | some (.v (.agg [.nums .u64 4 _, .nums .u64 4 x])) => x
  | _ => []
def g17v (A : Ar) (a0 a1 : List Nat) : Option AV := g17 A (100000) (fun v _ => some v) a0 a1
def g17ok (A : Ar) (a0 a1 : List Nat) : Bool := g17is (g17v A a0 a1)
def g17r0 (A : Ar) (a0 a1 : List Nat) : List Nat := g17g0 (g17v A a0 a1)
def g17r1 (A : Ar) (a0 a1 : List Nat) : List Nat := g17g1 (g17v A a0 a1)
attribute [local irreducible] g17ok g17r0 g17r1
def g21O (A : Ar) : Orc := orcOf [(32, g32o A), (42, g42o A), (41, g41o A), (25, g25o A), (40, g40o A), (53, g53o A), (39, g39o A)]
theorem g21O_sound : OSound Try.prog (g21O realA) := orc_sound fun f g hm args v hv => by
  simp only [List.mem_cons, List.not_mem_nil, or_false, Prod.mk.injEq] at hm
  rcases hm with ⟨rfl, rfl⟩ | ⟨rfl, rfl⟩ | ⟨rfl, rfl⟩ | ⟨rfl, rfl⟩ | ⟨rfl, rfl⟩ | ⟨rfl, rfl⟩ | ⟨rfl, rfl⟩
  · exact g32o_sound _ _ hv
  · exact g42o_sound _ _ hv
  · exact g41o_sound _ _ hv
  · exact g25o_sound _ _ hv
  · exact g40o_sound _ _ hv
  · exact g53o_sound _ _ hv
  · exact g39o_sound _ _ hv
theorem g21O_det : ODet (g21O realA) := orc_det _
def g21an : Ann := [(0, ([0, 1], [])), (1, ([0, 3, 4], [1000, 1001])), (2, ([0, 3, 4, 5], [1000, 1001, 2001])), (3, ([0, 4, 5, 6], [1001, 2001, 3003])), (4, ([0, 4, 5, 6, 7], [1001, 2001, 3003, 4002])), (5, ([0, 4, 5, 6, 7, 8], [1001, 2001, 3003, 4002])), (6, ([0, 4, 5, 6, 7, 8], [1001, 2001, 3003, 4002])), (7, ([0, 4, 5, 6, 7, 8], [1001, 2001, 3003, 4002])), (8, ([0, 4, 5, 6, 7, 8], [1001, 2001, 3003, 4002])), (9, ([0, 4, 5, 6, 7, 8], [1001, 2001, 3003, 4002])), (10, ([4, 7], [1001, 4002]))]
def g21res : List ResultVar := [.cell 4 26]
def g21cut : List Nat := [7]
abbrev g21t0 (A : Ar) (x4 x5 : List Nat) (x6 x7 : List Nat) (x8 x9 : List Nat) (x10 x11 x12 : List Nat) : List Nat := g40r0 A x4 (g40r0 A x4 x9 x10 x11 x12 x9 x10 x11 x12) (g40r1 A x4 x9 x10 x11 x12 x9 x10 x11 x12) (g40r2 A x4 x9 x10 x11 x12 x9 x10 x11 x12) (g40r3 A x4 x9 x10 x11 x12 x9 x10 x11 x12) x5 x6 x7 x8
abbrev g21t1 (A : Ar) (x4 x5 : List Nat) (x6 x7 : List Nat) (x8 x9 : List Nat) (x10 x11 x12 : List Nat) : List Nat := g40r1 A x4 (g40r0 A x4 x9 x10 x11 x12 x9 x10 x11 x12) (g40r1 A x4 x9 x10 x11 x12 x9 x10 x11 x12) (g40r2 A x4 x9 x10 x11 x12 x9 x10 x11 x12) (g40r3 A x4 x9 x10 x11 x12 x9 x10 x11 x12) x5 x6 x7 x8
abbrev g21t2 (A : Ar) (x4 x5 : List Nat) (x6 x7 : List Nat) (x8 x9 : List Nat) (x10 x11 x12 : List Nat) : List Nat := g40r2 A x4 (g40r0 A x4 x9 x10 x11 x12 x9 x10 x11 x12) (g40r1 A x4 x9 x10 x11 x12 x9 x10 x11 x12) (g40r2 A x4 x9 x10 x11 x12 x9 x10 x11 x12) (g40r3 A x4 x9 x10 x11 x12 x9 x10 x11 x12) x5 x6 x7 x8
abbrev g21t3 (A : Ar) (x4 x5 : List Nat) (x6 x7 : List Nat) (x8 x9 : List Nat) (x10 x11 x12 : List Nat) : List Nat := g40r3 A x4 (g40r0 A x4 x9 x10 x11 x12 x9 x10 x11 x12) (g40r1 A x4 x9 x10 x11 x12 x9 x10 x11 x12) (g40r2 A x4 x9 x10 x11 x12 x9 x10 x11 x12) (g40r3 A x4 x9 x10 x11 x12 x9 x10 x11 x12) x5 x6 x7 x8
noncomputable def g21N {R : Type} (A : Ar) (kk : AV → Heap → Option R) (t : List Bool → St → Option R) (p : List Bool) (s : St) : Option R := nodeN A gtys (g21O A) g21an g21cut t (bodyOf Try.f21) (finD gtys g21res kk) p s
def g21J7s (x0 : List Nat) (x1 : Int) (x2 x3 : List Nat) (x4 x5 : List Nat) (x6 x7 : List Nat) (x8 x9 : List Nat) (x10 x11 x12 : List Nat) : St := ⟨[(0, (tS x0)), (4, (pT 1001 0)), (5, (pT 2001 0)), (6, (pT 3003 0)), (7, (pT 4002 0)), (8, (i6 x1))], [(1001, ⟨[.nums .u64 4 x2, .nums .u64 4 x3], 26, 1⟩), (2001, (bU 4 x4 24)), (3003, ⟨[.nums .u64 4 x5, .nums .u64 4 x6, .nums .u64 4 x7, .nums .u64 4 x8], 59, 1⟩), (4002, ⟨[.nums .u64 4 x9, .nums .u64 4 x10, .nums .u64 4 x11, .nums .u64 4 x12], 59, 1⟩)]⟩
def g21J7 {R : Type} (A : Ar) (n : Nat) (kk : AV → Heap → Option R) (lg21L5 : List Nat → Int → List Nat → List Nat → List Nat → List Nat → List Nat → List Nat → List Nat → List Nat → List Nat → List Nat → List Nat → Option R) (x0 : List Nat) (x1 : Int) (x2 x3 : List Nat) (x4 x5 : List Nat) (x6 x7 : List Nat) (x8 x9 : List Nat) (x10 x11 x12 : List Nat) : Option R :=
  match g40ok A x4 x9 x10 x11 x12 x9 x10 x11 x12 with
  | true => match g53ok A x0 x1 with
    | true => match A.ic .eql (g53r0 A x0 x1) 1 with
      | true => match g40ok A x4 (g40r0 A x4 x9 x10 x11 x12 x9 x10 x11 x12) (g40r1 A x4 x9 x10 x11 x12 x9 x10 x11 x12) (g40r2 A x4 x9 x10 x11 x12 x9 x10 x11 x12) (g40r3 A x4 x9 x10 x11 x12 x9 x10 x11 x12) x5 x6 x7 x8 with
        | true => lg21L5 x0 (A.ib .sub .i64 x1 1) x2 x3 x4 x5 x6 x7 x8 (g21t0 A x4 x5 x6 x7 x8 x9 x10 x11 x12) (g21t1 A x4 x5 x6 x7 x8 x9 x10 x11 x12) (g21t2 A x4 x5 x6 x7 x8 x9 x10 x11 x12) (g21t3 A x4 x5 x6 x7 x8 x9 x10 x11 x12)
        | false => none
      | false => lg21L5 x0 (A.ib .sub .i64 x1 1) x2 x3 x4 x5 x6 x7 x8 (g40r0 A x4 x9 x10 x11 x12 x9 x10 x11 x12) (g40r1 A x4 x9 x10 x11 x12 x9 x10 x11 x12) (g40r2 A x4 x9 x10 x11 x12 x9 x10 x11 x12) (g40r3 A x4 x9 x10 x11 x12 x9 x10 x11 x12)
    | false => none
  | false => none
def g21L5s (x0 : List Nat) (x1 : Int) (x2 x3 : List Nat) (x4 x5 : List Nat) (x6 x7 : List Nat) (x8 x9 : List Nat) (x10 x11 x12 : List Nat) : St := ⟨[(0, (tS x0)), (4, (pT 1001 0)), (5, (pT 2001 0)), (6, (pT 3003 0)), (7, (pT 4002 0)), (8, (i6 x1))], [(1001, ⟨[.nums .u64 4 x2, .nums .u64 4 x3], 26, 1⟩), (2001, (bU 4 x4 24)), (3003, ⟨[.nums .u64 4 x5, .nums .u64 4 x6, .nums .u64 4 x7, .nums .u64 4 x8], 59, 1⟩), (4002, ⟨[.nums .u64 4 x9, .nums .u64 4 x10, .nums .u64 4 x11, .nums .u64 4 x12], 59, 1⟩)]⟩
def g21L5 {R : Type} (A : Ar) (n : Nat) (kk : AV → Heap → Option R)  : Nat → List Nat → Int → List Nat → List Nat → List Nat → List Nat → List Nat → List Nat → List Nat → List Nat → List Nat → List Nat → List Nat → Option R
  | 0, _, _, _, _, _, _, _, _, _, _, _, _, _ => none
  | m + 1, x0, x1, x2, x3, x4, x5, x6, x7, x8, x9, x10, x11, x12 => match A.ic .geq x1 0 with
  | true => g21J7 A n kk (g21L5 A n kk  m) x0 x1 x2 x3 x4 x5 x6 x7 x8 x9 x10 x11 x12
  | false => match g39ok A x9 x10 x11 x12 with
    | true => kk (.v (.agg [.nums .u64 4 (g39r0 A x9 x10 x11 x12), .nums .u64 4 (g39r1 A x9 x10 x11 x12)])) [(1001, ⟨[.nums .u64 4 (g39r0 A x9 x10 x11 x12), .nums .u64 4 (g39r1 A x9 x10 x11 x12)], 26, 1⟩), (4002, ⟨[.nums .u64 4 x9, .nums .u64 4 x10, .nums .u64 4 x11, .nums .u64 4 x12], 59, 1⟩)]
    | false => none
def g21 {R : Type} (A : Ar) (n : Nat) (kk : AV → Heap → Option R) (a b0 b1 : List Nat) : Option R :=
  match g32ok A with
  | true => match g42ok A b0 b1 with
    | true => match g41ok A (g42r0 A b0 b1) (g42r1 A b0 b1) with
      | true => match g25ok A with
        | true => match g41ok A (g25r0 A) (g25r1 A) with
          | true => g21L5 A n kk  n a (A.ib .sub .i64 (A.ib .mul .i64 8 (A.mn (A.ofN a.length) 32)) 1) [0, 0, 0, 0] [0, 0, 0, 0] (g32r0 A) (g41r0 A (g42r0 A b0 b1) (g42r1 A b0 b1)) (g41r1 A (g42r0 A b0 b1) (g42r1 A b0 b1)) (g41r2 A (g42r0 A b0 b1) (g42r1 A b0 b1)) (g41r3 A (g42r0 A b0 b1) (g42r1 A b0 b1)) (g41r0 A (g25r0 A) (g25r1 A)) (g41r1 A (g25r0 A) (g25r1 A)) (g41r2 A (g25r0 A) (g25r1 A)) (g41r3 A (g25r0 A) (g25r1 A))
          | false => none
        | false => none
      | false => none
    | false => none
  | false => none
section
variable {R : Type} {A : Ar} {n : Nat} {kk : AV → Heap → Option R} {tb : Nat → List Bool → St → Option R} (st : Stp (g21N A kk) tb)
include st
theorem g21J7_go {lg21L5 : List Nat → Int → List Nat → List Nat → List Nat → List Nat → List Nat → List Nat → List Nat → List Nat → List Nat → List Nat → List Nat → Option R} (hg21L5 : ∀ (x0 : List Nat) (x1 : Int) (x2 x3 : List Nat) (x4 x5 : List Nat) (x6 x7 : List Nat) (x8 x9 : List Nat) (x10 x11 x12 : List Nat), Prs (fun k => tb k (pth 500) (g21L5s x0 x1 x2 x3 x4 x5 x6 x7 x8 x9 x10 x11 x12)) (lg21L5 x0 x1 x2 x3 x4 x5 x6 x7 x8 x9 x10 x11 x12)) {x0 : List Nat} {x1 : Int} {x2 : List Nat} {x3 : List Nat} {x4 : List Nat} {x5 : List Nat} {x6 : List Nat} {x7 : List Nat} {x8 : List Nat} {x9 : List Nat} {x10 : List Nat} {x11 : List Nat} {x12 : List Nat} : Prs (fun k => tb k (pth 1001) (g21J7s x0 x1 x2 x3 x4 x5 x6 x7 x8 x9 x10 x11 x12)) (g21J7 A n kk lg21L5 x0 x1 x2 x3 x4 x5 x6 x7 x8 x9 x10 x11 x12) := by
  unfold g21J7
  exact st.g (pc (SxY05rpi _ (SxY05rpi _ (SxY05rpi _ (SxY05rpi _ (hg21L5 _ _ _ _ _ _ _ _ _ _ _ _ _) pn) (hg21L5 _ _ _ _ _ _ _ _ _ _ _ _ _)) pn) pn) (by kernel_rfl))
theorem g21L5_go (m : Nat) : ∀ (x0 : List Nat) (x1 : Int) (x2 x3 : List Nat) (x4 x5 : List Nat) (x6 x7 : List Nat) (x8 x9 : List Nat) (x10 x11 x12 : List Nat), Prs (fun k => tb k (pth 500) (g21L5s x0 x1 x2 x3 x4 x5 x6 x7 x8 x9 x10 x11 x12)) (g21L5 A n kk m x0 x1 x2 x3 x4 x5 x6 x7 x8 x9 x10 x11 x12) := by
  induction m with
  | zero => intro x0 x1 x2 x3 x4 x5 x6 x7 x8 x9 x10 x11 x12; exact pn0
  | succ m ih =>
    intro x0 x1 x2 x3 x4 x5 x6 x7 x8 x9 x10 x11 x12; rw [g21L5]
    exact st.g (pc (SxY05rpi _ (g21J7_go st ih) (SxY05rpi _ (pf _) pn)) (by kernel_rfl))
theorem g21_go {a : List Nat} {b0 : List Nat} {b1 : List Nat} : Prs (fun k => funN A gtys (g21O A) g21an g21cut (bodyOf Try.f21) g21res [(tS a), (.v (.agg [.nums .u64 4 b0, .nums .u64 4 b1]))] [] kk (tb k)) (g21 A n kk a b0 b1) := by
  unfold g21
  exact pc (SxY05rpi _ (SxY05rpi _ (SxY05rpi _ (SxY05rpi _ (SxY05rpi _ (g21L5_go st n _ _ _ _ _ _ _ _ _ _ _ _ _) pn) pn) pn) pn) pn) (by kernel_rfl)
end
def g21is (o : Option AV) : Bool := match o with
  | some (.v (.agg [.nums .u64 4 _, .nums .u64 4 _])) => true
  | _ => false
def g21g0 (o : Option AV) : List Nat := match o with
  | some (.v (.agg [.nums .u64 4 x, .nums .u64 4 _])) => x
  | _ => []
def g21g1 (o : Option AV) : List Nat := match o with
  | some (.v (.agg [.nums .u64 4 _, .nums .u64 4 x])) => x
  | _ => []
theorem g21is_spec {o : Option AV} (h : g21is o = true) : o = some (.v (.agg [.nums .u64 4 (g21g0 o), .nums .u64 4 (g21g1 o)])) := by
  unfold g21is at h
  split at h
  · rfl
  · cases h
def g21v (A : Ar) (a b0 b1 : List Nat) : Option AV := g21 A (100000) (fun v _ => some v) a b0 b1
def g21ok (A : Ar) (a b0 b1 : List Nat) : Bool := g21is (g21v A a b0 b1)
def g21r0 (A : Ar) (a b0 b1 : List Nat) : List Nat := g21g0 (g21v A a b0 b1)
def g21r1 (A : Ar) (a b0 b1 : List Nat) : List Nat := g21g1 (g21v A a b0 b1)
theorem g21ok_spec {A : Ar} {a b0 b1} (h : g21ok A a b0 b1 = true) : g21v A a b0 b1 = some (.v (.agg [.nums .u64 4 (g21r0 A a b0 b1), .nums .u64 4 (g21r1 A a b0 b1)])) := g21is_spec h
def g21o (A : Ar) (args : List AV) : Option (Bool × AV) := match args with
  | [.v (.cell (.str a)), .v (.agg [.nums .u64 n0 b0, .nums .u64 n1 b1])] => some (Nat.beq n0 4 && (Nat.beq n1 4 && (g21ok A a b0 b1)), .v (.agg [.nums .u64 4 (g21r0 A a b0 b1), .nums .u64 4 (g21r1 A a b0 b1)]))
  | _ => none
theorem g21o_sound : ∀ args v, g21o realA args = some (true, v) → Fn1 Try.prog 21 args v := by
  intro args v h
  unfold g21o at h
  split at h
  · rename_i a n0 b0 n1 b1
    simp only [Option.some.injEq, Prod.mk.injEq] at h
    obtain ⟨hc, h⟩ := h
    subst h
    · skip
      simp only [Bool.and_eq_true] at hc
      have en0 := beq_true hc.1
      subst en0
      replace hc := hc.2
      have en1 := beq_true hc.1
      subst en1
      replace hc := hc.2
      exact fn1_ofG mixed gtysOK g21O_sound g21O_det (an := g21an) (cut := g21cut) Try.func21 (c := bodyOf Try.f21) rfl (by kernel_rfl) Try.call21 (Nat.le_of_ble_eq_true rfl) (fun b => rfl) (fun _ => (show g21v realA a b0 b1 = _ from g21ok_spec hc)) fun _ st => g21_go st
  · cases h
attribute [local irreducible] g21ok g21r0 g21r1
def g59O (A : Ar) : Orc := orcOf [(56, g56o A), (57, g57o A), (68, g68o A), (32, g32o A), (67, g67o A), (77, g77o A)]
theorem g59O_sound : OSound Try.prog (g59O realA) := orc_sound fun f g hm args v hv => by
  simp only [List.mem_cons, List.not_mem_nil, or_false, Prod.mk.injEq] at hm
  rcases hm with ⟨rfl, rfl⟩ | ⟨rfl, rfl⟩ | ⟨rfl, rfl⟩ | ⟨rfl, rfl⟩ | ⟨rfl, rfl⟩ | ⟨rfl, rfl⟩
  · exact g56o_sound _ _ hv
  · exact g57o_sound _ _ hv
  · exact g68o_sound _ _ hv
  · exact g32o_sound _ _ hv
  · exact g67o_sound _ _ hv
  · exact g77o_sound _ _ hv
theorem g59O_det : ODet (g59O realA) := orc_det _
def g59an : Ann := [(0, ([0], [])), (1, ([1, 2], [1000, 1001])), (2, ([2, 4], [1001, 2003])), (3, ([2, 4, 5], [1001, 2003, 3001]))]
def g59res : List ResultVar := [.cell 2 24, .tmp 3]
def g59cut : List Nat := []
noncomputable def g59N {R : Type} (A : Ar) (kk : AV → Heap → Option R) (t : List Bool → St → Option R) (p : List Bool) (s : St) : Option R := nodeN A gtys (g59O A) g59an g59cut t (bodyOf Try.f59) (finD gtys g59res kk) p s
def g59 {R : Type} (A : Ar) (n : Nat) (kk : AV → Heap → Option R) (a : List Nat) : Option R :=
  match g56ok A a a with
  | true => match g57ok A 1 with
    | true => match g68ok A (g56r0 A a a) (g57r0 A 1) with
      | true => match g32ok A with
        | true => match g56ok A (g32r0 A) (g56r0 A a a) with
          | true => match g67ok A (g56r0 A (g32r0 A) (g56r0 A a a)) (g57r0 A 1) with
            | true => match g77ok A (g68r0 A (g56r0 A a a) (g57r0 A 1)) (g67r0 A (g56r0 A (g32r0 A) (g56r0 A a a)) (g57r0 A 1)) with
              | true => kk (.tup [(.agg [.nums .u64 4 (g77r0 A (g68r0 A (g56r0 A a a) (g57r0 A 1)) (g67r0 A (g56r0 A (g32r0 A) (g56r0 A a a)) (g57r0 A 1)))]), (.cell (.bool (g77r1 A (g68r0 A (g56r0 A a a) (g57r0 A 1)) (g67r0 A (g56r0 A (g32r0 A) (g56r0 A a a)) (g57r0 A 1)))))]) [(1001, (bU 4 (g77r0 A (g68r0 A (g56r0 A a a) (g57r0 A 1)) (g67r0 A (g56r0 A (g32r0 A) (g56r0 A a a)) (g57r0 A 1))) 24)), (2003, (bU 4 (g56r0 A a a) 24)), (3001, (bU 4 (g57r0 A 1) 24))]
              | false => none
            | false => none
          | false => none
        | false => none
      | false => none
    | false => none
  | false => none
section
variable {R : Type} {A : Ar} {n : Nat} {kk : AV → Heap → Option R} {tb : Nat → List Bool → St → Option R} (st : Stp (g59N A kk) tb)
include st
theorem g59_go {a : List Nat} : Prs (fun k => funN A gtys (g59O A) g59an g59cut (bodyOf Try.f59) g59res [(aN .u64 4 a)] [] kk (tb k)) (g59 A n kk a) := by
  unfold g59
  exact pc (SxY05rpi _ (SxY05rpi _ (SxY05rpi _ (SxY05rpi _ (SxY05rpi _ (SxY05rpi _ (SxY05rpi _ (pf _) pn) pn) pn) pn) pn) pn) pn) (by kernel_rfl)
end
def g59is (o : Option AV) : Bool := match o with
  | some (.tup [.agg [.nums .u64 4 _], .cell (.bool _)]) => true
  | _ => false
def g59g0 (o : Option AV) : List Nat := match o with
  | some (.tup [.agg [.nums .u64 4 x], .cell (.bool _)]) => x
  | _ => []
def g59g1 (o : Option AV) : Bool := match o with
  | some (.tup [.agg [.nums .u64 4 _], .cell (.bool x)]) => x
  | _ => false
theorem g59is_spec {o : Option AV} (h : g59is o = true) : o = some (.tup [.agg [.nums .u64 4 (g59g0 o)], .cell (.bool (g59g1 o))]) := by
  unfold g59is at h
  split at h
  · rfl
  · cases h
def g59v (A : Ar) (a : List Nat) : Option AV := g59 A (100000) (fun v _ => some v) a
def g59ok (A : Ar) (a : List Nat) : Bool := g59is (g59v A a)
def g59r0 (A : Ar) (a : List Nat) : List Nat := g59g0 (g59v A a)
def g59r1 (A : Ar) (a : List Nat) : Bool := g59g1 (g59v A a)
theorem g59ok_spec {A : Ar} {a} (h : g59ok A a = true) : g59v A a = some (.tup [.agg [.nums .u64 4 (g59r0 A a)], .cell (.bool (g59r1 A a))]) := g59is_spec h
def g59o (A : Ar) (args : List AV) : Option (Bool × AV) := match args with
  | [.v (.agg [.nums .u64 n0 a])] => some (Nat.beq n0 4 && (g59ok A a), .tup [.agg [.nums .u64 4 (g59r0 A a)], .cell (.bool (g59r1 A a))])
  | _ => none
theorem g59o_sound : ∀ args v, g59o realA args = some (true, v) → Fn1 Try.prog 59 args v := by
  intro args v h
  unfold g59o at h
  split at h
  · rename_i n0 a
    simp only [Option.some.injEq, Prod.mk.injEq] at h
    obtain ⟨hc, h⟩ := h
    subst h
    · skip
      simp only [Bool.and_eq_true] at hc
      have en0 := beq_true hc.1
      subst en0
      replace hc := hc.2
      exact fn1_ofG mixed gtysOK g59O_sound g59O_det (an := g59an) (cut := g59cut) Try.func59 (c := bodyOf Try.f59) rfl (by kernel_rfl) Try.call59 (Nat.le_of_ble_eq_true rfl) (fun b => rfl) (fun _ => (show g59v realA a = _ from g59ok_spec hc)) fun _ st => g59_go st
  · cases h
attribute [local irreducible] g59ok g59r0 g59r1
def g23O (A : Ar) : Orc := orcOf [(57, g57o A), (58, g58o A), (56, g56o A), (59, g59o A)]
theorem g23O_sound : OSound Try.prog (g23O realA) := orc_sound fun f g hm args v hv => by
  simp only [List.mem_cons, List.not_mem_nil, or_false, Prod.mk.injEq] at hm
  rcases hm with ⟨rfl, rfl⟩ | ⟨rfl, rfl⟩ | ⟨rfl, rfl⟩ | ⟨rfl, rfl⟩
  · exact g57o_sound _ _ hv
  · exact g58o_sound _ _ hv
  · exact g56o_sound _ _ hv
  · exact g59o_sound _ _ hv
theorem g23O_det : ODet (g23O realA) := orc_det _
def g23an : Ann := [(0, ([], [])), (1, ([0], [1000])), (2, ([0, 1], [1000, 2004])), (3, ([0, 1, 2], [1000, 2004, 3005]))]
def g23res : List ResultVar := [.cell 0 26]
def g23cut : List Nat := []
noncomputable def g23N {R : Type} (A : Ar) (kk : AV → Heap → Option R) (t : List Bool → St → Option R) (p : List Bool) (s : St) : Option R := nodeN A gtys (g23O A) g23an g23cut t (bodyOf Try.f23) (finD gtys g23res kk) p s
def g23 {R : Type} (A : Ar) (n : Nat) (kk : AV → Heap → Option R)  : Option R :=
  match g57ok A 4 with
  | true => match g57ok A 5 with
    | true => match g58ok A (g57r0 A 5) with
      | true => match g56ok A (g57r0 A 4) (g58r0 A (g57r0 A 5)) with
        | true => match g59ok A (g56r0 A (g57r0 A 4) (g58r0 A (g57r0 A 5))) with
          | true => kk (.v (.agg [.nums .u64 4 (g59r0 A (g56r0 A (g57r0 A 4) (g58r0 A (g57r0 A 5)))), .nums .u64 4 (g56r0 A (g57r0 A 4) (g58r0 A (g57r0 A 5)))])) [(1000, ⟨[.nums .u64 4 (g59r0 A (g56r0 A (g57r0 A 4) (g58r0 A (g57r0 A 5)))), .nums .u64 4 (g56r0 A (g57r0 A 4) (g58r0 A (g57r0 A 5)))], 26, 1⟩), (2004, (bU 4 (g56r0 A (g57r0 A 4) (g58r0 A (g57r0 A 5))) 24)), (3005, (bU 4 (g59r0 A (g56r0 A (g57r0 A 4) (g58r0 A (g57r0 A 5)))) 24))]
          | false => none
        | false => none
      | false => none
    | false => none
  | false => none
section
variable {R : Type} {A : Ar} {n : Nat} {kk : AV → Heap → Option R} {tb : Nat → List Bool → St → Option R} (st : Stp (g23N A kk) tb)
include st
theorem g23_go  : Prs (fun k => funN A gtys (g23O A) g23an g23cut (bodyOf Try.f23) g23res [] [] kk (tb k)) (g23 A n kk ) := by
  unfold g23
  exact pc (SxY05rpi _ (SxY05rpi _ (SxY05rpi _ (SxY05rpi _ (SxY05rpi _ (pf _) pn) pn) pn) pn) pn) (by kernel_rfl)
end
def g23is (o : Option AV) : Bool := match o with
  | some (.v (.agg [.nums .u64 4 _, .nums .u64 4 _])) => true
  | _ => false
def g23g0 (o : Option AV) : List Nat := match o with
  | some (.v (.agg [.nums .u64 4 x, .nums .u64 4 _])) => x
  | _ => []
def g23g1 (o : Option AV) : List Nat := match o with
  | some (.v (.agg [.nums .u64 4 _, .nums .u64 4 x])) => x
  | _ => []
theorem g23is_spec {o : Option AV} (h : g23is o = true) : o = some (.v (.agg [.nums .u64 4 (g23g0 o), .nums .u64 4 (g23g1 o)])) := by
  unfold g23is at h
  split at h
  · rfl
  · cases h
def g23v (A : Ar)  : Option AV := g23 A (100000) (fun v _ => some v) 
def g23ok (A : Ar)  : Bool := g23is (g23v A )
def g23r0 (A : Ar)  : List Nat := g23g0 (g23v A )
def g23r1 (A : Ar)  : List Nat := g23g1 (g23v A )
theorem g23ok_spec {A : Ar} (h : g23ok A = true) : g23v A = some (.v (.agg [.nums .u64 4 (g23r0 A), .nums .u64 4 (g23r1 A)])) := g23is_spec h
def g23o (A : Ar) (args : List AV) : Option (Bool × AV) := match args with
  | [] => some (g23ok A , .v (.agg [.nums .u64 4 (g23r0 A), .nums .u64 4 (g23r1 A)]))
  | _ => none
theorem g23o_sound : ∀ args v, g23o realA args = some (true, v) → Fn1 Try.prog 23 args v := by
  intro args v h
  unfold g23o at h
  split at h
  · simp only [Option.some.injEq, Prod.mk.injEq] at h
    obtain ⟨hc, h⟩ := h
    subst h
    · skip
      exact fn1_ofG mixed gtysOK g23O_sound g23O_det (an := g23an) (cut := g23cut) Try.func23 (c := bodyOf Try.f23) rfl (by kernel_rfl) Try.call23 (Nat.le_of_ble_eq_true rfl) (fun b => rfl) (fun _ => (show g23v realA  = _ from g23ok_spec hc)) fun _ st => g23_go st
  · cases h
attribute [local irreducible] g23ok g23r0 g23r1
def g28O (A : Ar) : Orc := orcOf [(61, g61o A), (59, g59o A), (44, g44o A)]
def g28an : Ann := [(0, ([0], [])), (1, ([0, 2], [1000])), (2, ([2], [1000])), (3, ([0, 2], [1000])), (4, ([2, 4], [1000, 4001])), (5, ([2, 4, 5], [1000, 4001])), (6, ([2, 4, 5], [1000, 4001])), (7, ([2, 5, 6, 7], [1000, 7006])), (8, ([2], [1000])), (9, ([2, 5, 6], [1000, 7006])), (10, ([2, 5, 6, 8, 9], [1000, 7006, 10005])), (11, ([2], [1000])), (12, ([2, 5, 6, 8], [1000, 7006, 10005])), (13, ([2, 6, 8], [1000, 7006, 10005])), (14, ([2, 6, 8], [1000, 7006, 10005]))]
def g28res : List ResultVar := [.cell 2 26, .tmp 3]
def g28cut : List Nat := [3, 9, 12, 14]
noncomputable def g28N {R : Type} (A : Ar) (kk : AV → Heap → Option R) (t : List Bool → St → Option R) (p : List Bool) (s : St) : Option R := nodeN A gtys (g28O A) g28an g28cut t (bodyOf Try.f28) (finD gtys g28res kk) p s
def g28J14 {R : Type} (A : Ar) (n : Nat) (kk : AV → Heap → Option R)  (x0 x1 : List Nat) (x2 x3 : List Nat) : Option R :=
  kk (.tup [(.agg [.nums .u64 4 x3, .nums .u64 4 x2]), (.cell (.bool true))]) [(1000, ⟨[.nums .u64 4 x3, .nums .u64 4 x2], 26, 1⟩), (7006, (bU 4 x2 24)), (10005, (bU 4 x3 24))]
def g28J12 {R : Type} (A : Ar) (n : Nat) (kk : AV → Heap → Option R)  (x0 : Bool) (x1 x2 : List Nat) (x3 x4 : List Nat) : Option R :=
  match x0 with
  | true => match g44ok A x4 with
    | true => g28J14 A n kk  x1 x2 x3 (g44r0 A x4)
    | false => none
  | false => g28J14 A n kk  x1 x2 x3 x4
def g28J9 {R : Type} (A : Ar) (n : Nat) (kk : AV → Heap → Option R)  (x0 : Bool) (x1 x2 x3 : List Nat) : Option R :=
  match g59ok A x3 with
  | true => match !(g59r1 A x3) with
    | true => kk (.tup [(.agg [.nums .u64 4 [0, 0, 0, 0], .nums .u64 4 [0, 0, 0, 0]]), (.cell (.bool false))]) [(1000, ⟨[.nums .u64 4 [0, 0, 0, 0], .nums .u64 4 [0, 0, 0, 0]], 26, 1⟩)]
    | false => match x0 with
      | true => match (A.lq (g59r0 A x3) [0, 0, 0, 0]) && true with
        | true => kk (.tup [(.agg [.nums .u64 4 [0, 0, 0, 0], .nums .u64 4 [0, 0, 0, 0]]), (.cell (.bool false))]) [(1000, ⟨[.nums .u64 4 [0, 0, 0, 0], .nums .u64 4 [0, 0, 0, 0]], 26, 1⟩)]
        | false => g28J12 A n kk  x0 x1 x2 x3 (g59r0 A x3)
      | false => g28J12 A n kk  x0 x1 x2 x3 (g59r0 A x3)
  | false => none
def g28J3 {R : Type} (A : Ar) (n : Nat) (kk : AV → Heap → Option R)  (x0 x1 x2 : List Nat) : Option R :=
  match A.le x0.length 9223372036854775807 with
  | true => match Nat.blt 31 x0.length with
    | true => match Nat.blt 31 x0.length with
      | true => match Nat.blt 31 x0.length with
        | true => match g61ok A ((x0.set 31 (A.nb .rem .u8 (x0.getD 31 0) 128)).take x0.length) with
          | true => match !(g61r1 A ((x0.set 31 (A.nb .rem .u8 (x0.getD 31 0) 128)).take x0.length)) with
            | true => kk (.tup [(.agg [.nums .u64 4 [0, 0, 0, 0], .nums .u64 4 [0, 0, 0, 0]]), (.cell (.bool false))]) [(1000, ⟨[.nums .u64 4 [0, 0, 0, 0], .nums .u64 4 [0, 0, 0, 0]], 26, 1⟩)]
            | false => g28J9 A n kk  (A.nc .geq (x0.getD 31 0) 128) x1 x2 (g61r0 A ((x0.set 31 (A.nb .rem .u8 (x0.getD 31 0) 128)).take x0.length))
          | false => none
        | false => none
      | false => none
    | false => none
  | false => none
def g28 {R : Type} (A : Ar) (n : Nat) (kk : AV → Heap → Option R) (a : List Nat) : Option R :=
  match A.ic .neq (A.ofN a.length) 32 with
  | true => kk (.tup [(.agg [.nums .u64 4 [0, 0, 0, 0], .nums .u64 4 [0, 0, 0, 0]]), (.cell (.bool false))]) [(1000, ⟨[.nums .u64 4 [0, 0, 0, 0], .nums .u64 4 [0, 0, 0, 0]], 26, 1⟩)]
  | false => g28J3 A n kk  a [0, 0, 0, 0] [0, 0, 0, 0]
section
variable {R : Type} {A : Ar} {n : Nat} {kk : AV → Heap → Option R} {tb : Nat → List Bool → St → Option R} (st : Stp (g28N A kk) tb)
include st
end
def g28is (o : Option AV) : Bool := match o with
  | some (.tup [.agg [.nums .u64 4 _, .nums .u64 4 _], .cell (.bool _)]) => true
  | _ => false
def g28g0 (o : Option AV) : List Nat := match o with
  | some (.tup [.agg [.nums .u64 4 x, .nums .u64 4 _], .cell (.bool _)]) => x
  | _ => []
def g28g1 (o : Option AV) : List Nat := match o with
  | some (.tup [.agg [.nums .u64 4 _, .nums .u64 4 x], .cell (.bool _)]) => x
  | _ => []
def g28g2 (o : Option AV) : Bool := match o with
  | some (.tup [.agg [.nums .u64 4 _, .nums .u64 4 _], .cell (.bool x)]) => x
  | _ => false
def g28v (A : Ar) (a : List Nat) : Option AV := g28 A (100000) (fun v _ => some v) a
def g28ok (A : Ar) (a : List Nat) : Bool := g28is (g28v A a)
def g28r0 (A : Ar) (a : List Nat) : List Nat := g28g0 (g28v A a)
def g28r1 (A : Ar) (a : List Nat) : List Nat := g28g1 (g28v A a)
def g28r2 (A : Ar) (a : List Nat) : Bool := g28g2 (g28v A a)
attribute [local irreducible] g28ok g28r0 g28r1 g28r2
end Go.Sx
