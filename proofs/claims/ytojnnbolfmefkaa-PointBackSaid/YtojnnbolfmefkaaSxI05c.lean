import Derived.Test.YtojnnbolfmefkaaSxY05a
import Derived.Test.YtojnnbolfmefkaaSxY05q
import Derived.Test.YtojnnbolfmefkaaSxX05N03o
namespace Go.Sx
set_option linter.unusedSectionVars false
open Go.Proofs
set_option linter.unusedVariables false
set_option maxRecDepth 100000
theorem SxY05rpi {R : Type} (c : Bool) {f1 f2 : Nat → Option R} {a1 a2 : Option R} (h1 : Prs f1 a1) (h2 : Prs f2 a2) : Prs (fun k => match c with | true => f1 k | false => f2 k) (match c with | true => a1 | false => a2) := by cases c <;> assumption
attribute [local irreducible] g56ok g56r0 g57ok g57r0 g58ok g58r0 g67ok g67r0 g44ok g44r0 g68ok g68r0 g49ok g49r0 g35ok g35r0 g77ok g77r0 g77r1 g34ok g34r0 g61ok g61r0 g61r1 g53ok g53r0
def g32O (A : Ar) : Orc := orcOf [(57, g57o A), (44, g44o A), (58, g58o A), (56, g56o A)]
theorem g32O_sound : OSound Try.prog (g32O realA) := orc_sound fun f g hm args v hv => by
  simp only [List.mem_cons, List.not_mem_nil, or_false, Prod.mk.injEq] at hm
  rcases hm with ⟨rfl, rfl⟩ | ⟨rfl, rfl⟩ | ⟨rfl, rfl⟩ | ⟨rfl, rfl⟩
  · exact g57o_sound _ _ hv
  · exact g44o_sound _ _ hv
  · exact g58o_sound _ _ hv
  · exact g56o_sound _ _ hv
theorem g32O_det : ODet (g32O realA) := orc_det _
def g32an : Ann := [(0, ([], [])), (1, ([0], [1000]))]
def g32res : List ResultVar := [.cell 0 24]
def g32cut : List Nat := []
noncomputable def g32N {R : Type} (A : Ar) (kk : AV → Heap → Option R) (t : List Bool → St → Option R) (p : List Bool) (s : St) : Option R := nodeN A gtys (g32O A) g32an g32cut t (bodyOf Try.f32) (finD gtys g32res kk) p s
def g32 {R : Type} (A : Ar) (n : Nat) (kk : AV → Heap → Option R)  : Option R :=
  match g57ok A 121665 with
  | true => match g44ok A (g57r0 A 121665) with
    | true => match g57ok A 121666 with
      | true => match g58ok A (g57r0 A 121666) with
        | true => match g56ok A (g44r0 A (g57r0 A 121665)) (g58r0 A (g57r0 A 121666)) with
          | true => kk (aN .u64 4 (g56r0 A (g44r0 A (g57r0 A 121665)) (g58r0 A (g57r0 A 121666)))) [(1000, (bU 4 (g56r0 A (g44r0 A (g57r0 A 121665)) (g58r0 A (g57r0 A 121666))) 24))]
          | false => none
        | false => none
      | false => none
    | false => none
  | false => none
section
variable {R : Type} {A : Ar} {n : Nat} {kk : AV → Heap → Option R} {tb : Nat → List Bool → St → Option R} (st : Stp (g32N A kk) tb)
include st
theorem g32_go  : Prs (fun k => funN A gtys (g32O A) g32an g32cut (bodyOf Try.f32) g32res [] [] kk (tb k)) (g32 A n kk ) := by
  unfold g32
  exact pc (SxY05rpi _ (SxY05rpi _ (SxY05rpi _ (SxY05rpi _ (SxY05rpi _ (pf _) pn) pn) pn) pn) pn) (by kernel_rfl)
end
def g32is (o : Option AV) : Bool := match o with
  | some (aN .u64 4 _) => true
  | _ => false
def g32g0 (o : Option AV) : List Nat := match o with
  | some (aN .u64 4 x) => x
  | _ => []
theorem g32is_spec {o : Option AV} (h : g32is o = true) : o = some (aN .u64 4 (g32g0 o)) := by
  unfold g32is at h
  split at h
  · rfl
  · cases h
def g32v (A : Ar)  : Option AV := g32 A (100000) (fun v _ => some v) 
def g32ok (A : Ar)  : Bool := g32is (g32v A )
def g32r0 (A : Ar)  : List Nat := g32g0 (g32v A )
theorem g32ok_spec {A : Ar} (h : g32ok A = true) : g32v A = some (aN .u64 4 (g32r0 A)) := g32is_spec h
def g32o (A : Ar) (args : List AV) : Option (Bool × AV) := match args with
  | [] => some (g32ok A , .v (.agg [.nums .u64 4 (g32r0 A)]))
  | _ => none
theorem g32o_sound : ∀ args v, g32o realA args = some (true, v) → Fn1 Try.prog 32 args v := by
  intro args v h
  unfold g32o at h
  split at h
  · simp only [Option.some.injEq, Prod.mk.injEq] at h
    obtain ⟨hc, h⟩ := h
    subst h
    · skip
      exact fn1_ofG mixed gtysOK g32O_sound g32O_det (an := g32an) (cut := g32cut) Try.func32 (c := bodyOf Try.f32) rfl (by kernel_rfl) Try.call32 (Nat.le_of_ble_eq_true rfl) (fun b => rfl) (fun _ => (show g32v realA  = _ from g32ok_spec hc)) fun _ st => g32_go st
  · cases h
attribute [local irreducible] g32ok g32r0
def g50O (A : Ar) : Orc := orcOf [(56, g56o A), (68, g68o A), (57, g57o A), (67, g67o A)]
def g50an : Ann := [(0, ([0, 1], [])), (1, ([2, 3], [1000, 1001])), (2, ([2, 3, 5], [1000, 1001, 2005])), (3, ([2, 5, 6], [1000, 2005, 3005]))]
def g50res : List ResultVar := [.tmp 4]
def g50cut : List Nat := []
noncomputable def g50N {R : Type} (A : Ar) (kk : AV → Heap → Option R) (t : List Bool → St → Option R) (p : List Bool) (s : St) : Option R := nodeN A gtys (g50O A) g50an g50cut t (bodyOf Try.f50) (finD gtys g50res kk) p s
def g50 {R : Type} (A : Ar) (n : Nat) (kk : AV → Heap → Option R) (a b0 b1 : List Nat) : Option R :=
  match g56ok A b0 b0 with
  | true => match g56ok A b1 b1 with
    | true => match g68ok A (g56r0 A b1 b1) (g56r0 A b0 b0) with
      | true => match g57ok A 1 with
        | true => match g56ok A (g56r0 A b0 b0) (g56r0 A b1 b1) with
          | true => match g56ok A a (g56r0 A (g56r0 A b0 b0) (g56r0 A b1 b1)) with
            | true => match g67ok A (g57r0 A 1) (g56r0 A a (g56r0 A (g56r0 A b0 b0) (g56r0 A b1 b1))) with
              | true => kk (bO ((A.lq (g68r0 A (g56r0 A b1 b1) (g56r0 A b0 b0)) (g67r0 A (g57r0 A 1) (g56r0 A a (g56r0 A (g56r0 A b0 b0) (g56r0 A b1 b1))))) && true)) [(1000, (bU 4 a 24)), (2005, (bU 4 (g56r0 A b0 b0) 24)), (3005, (bU 4 (g56r0 A b1 b1) 24))]
              | false => none
            | false => none
          | false => none
        | false => none
      | false => none
    | false => none
  | false => none
section
variable {R : Type} {A : Ar} {n : Nat} {kk : AV → Heap → Option R} {tb : Nat → List Bool → St → Option R} (st : Stp (g50N A kk) tb)
include st
end
def g50is (o : Option AV) : Bool := match o with
  | some (.v (.cell (.bool _))) => true
  | _ => false
def g50g0 (o : Option AV) : Bool := match o with
  | some (.v (.cell (.bool x))) => x
  | _ => false
def g50v (A : Ar) (a b0 b1 : List Nat) : Option AV := g50 A (100000) (fun v _ => some v) a b0 b1
def g50ok (A : Ar) (a b0 b1 : List Nat) : Bool := g50is (g50v A a b0 b1)
def g50r0 (A : Ar) (a b0 b1 : List Nat) : Bool := g50g0 (g50v A a b0 b1)
def g50o (A : Ar) (args : List AV) : Option (Bool × AV) := match args with
  | [.v (.agg [.nums .u64 n0 a]), .v (.agg [.nums .u64 n1 b0, .nums .u64 n2 b1])] => some (Nat.beq n0 4 && (Nat.beq n1 4 && (Nat.beq n2 4 && (g50ok A a b0 b1))), .v (.cell (.bool (g50r0 A a b0 b1))))
  | _ => none
attribute [local irreducible] g50ok g50r0
def g19O (A : Ar) : Orc := orcOf [(49, g49o A), (32, g32o A), (50, g50o A)]
def g19an : Ann := [(0, ([0], [])), (1, ([1], [1000])), (2, ([1, 3], [1000])), (3, ([1, 3, 4], [1000]))]
def g19res : List ResultVar := [.tmp 2]
def g19cut : List Nat := []
noncomputable def g19N {R : Type} (A : Ar) (kk : AV → Heap → Option R) (t : List Bool → St → Option R) (p : List Bool) (s : St) : Option R := nodeN A gtys (g19O A) g19an g19cut t (bodyOf Try.f19) (finD gtys g19res kk) p s
def g19 {R : Type} (A : Ar) (n : Nat) (kk : AV → Heap → Option R) (a0 a1 : List Nat) : Option R :=
  match g49ok A a0 with
  | true => match g49ok A a1 with
    | true => match g49r0 A a0 with
      | true => match g49r0 A a1 with
        | true => match g32ok A with
          | true => match g50ok A (g32r0 A) a0 a1 with
            | true => kk (bO (g50r0 A (g32r0 A) a0 a1)) [(1000, ⟨[.nums .u64 4 a0, .nums .u64 4 a1], 26, 1⟩)]
            | false => none
          | false => none
        | false => kk (bO false) [(1000, ⟨[.nums .u64 4 a0, .nums .u64 4 a1], 26, 1⟩)]
      | false => kk (bO false) [(1000, ⟨[.nums .u64 4 a0, .nums .u64 4 a1], 26, 1⟩)]
    | false => none
  | false => none
section
variable {R : Type} {A : Ar} {n : Nat} {kk : AV → Heap → Option R} {tb : Nat → List Bool → St → Option R} (st : Stp (g19N A kk) tb)
include st
end
def g19is (o : Option AV) : Bool := match o with
  | some (.v (.cell (.bool _))) => true
  | _ => false
def g19g0 (o : Option AV) : Bool := match o with
  | some (.v (.cell (.bool x))) => x
  | _ => false
def g19v (A : Ar) (a0 a1 : List Nat) : Option AV := g19 A (100000) (fun v _ => some v) a0 a1
def g19ok (A : Ar) (a0 a1 : List Nat) : Bool := g19is (g19v A a0 a1)
def g19r0 (A : Ar) (a0 a1 : List Nat) : Bool := g19g0 (g19v A a0 a1)
def g19o (A : Ar) (args : List AV) : Option (Bool × AV) := match args with
  | [.v (.agg [.nums .u64 n0 a0, .nums .u64 n1 a1])] => some (Nat.beq n0 4 && (Nat.beq n1 4 && (g19ok A a0 a1)), .v (.cell (.bool (g19r0 A a0 a1))))
  | _ => none
attribute [local irreducible] g19ok g19r0
def g13O (A : Ar) : Orc := orcOf [(19, g19o A), (34, g34o A), (35, g35o A)]
def g13an : Ann := [(0, ([0], [])), (1, ([1], [1000])), (2, ([], [])), (3, ([1], [1000])), (4, ([1, 4], [1000, 4003])), (5, ([4], [4003])), (6, ([4], [4003]))]
def g13res : List ResultVar := [.tmp 2, .tmp 3]
def g13cut : List Nat := [3]
noncomputable def g13N {R : Type} (A : Ar) (kk : AV → Heap → Option R) (t : List Bool → St → Option R) (p : List Bool) (s : St) : Option R := nodeN A gtys (g13O A) g13an g13cut t (bodyOf Try.f13) (finD gtys g13res kk) p s
def g13J3 {R : Type} (A : Ar) (n : Nat) (kk : AV → Heap → Option R)  (x0 x1 : List Nat) : Option R :=
  match g34ok A x1 with
  | true => match A.le ((g34r0 A x1).length) 9223372036854775807 with
    | true => match g35ok A x0 with
      | true => match g35r0 A x0 with
        | true => match Nat.blt 31 ((g34r0 A x1).length) with
          | true => match Nat.blt 31 ((g34r0 A x1).length) with
            | true => kk (.tup [(.cell (.str (((g34r0 A x1).set 31 (A.nb .or .u8 ((g34r0 A x1).getD 31 0) 128)).take ((g34r0 A x1).length)))), (.cell (.bool true))]) [(4003, ⟨[.nums .u8 ((g34r0 A x1).length) ((g34r0 A x1).set 31 (A.nb .or .u8 ((g34r0 A x1).getD 31 0) 128))], 5, 1⟩)]
            | false => none
          | false => none
        | false => kk (.tup [(.cell (.str ((g34r0 A x1).take ((g34r0 A x1).length)))), (.cell (.bool true))]) [(4003, ⟨[.nums .u8 ((g34r0 A x1).length) (g34r0 A x1)], 5, 1⟩)]
      | false => none
    | false => none
  | false => none
def g13 {R : Type} (A : Ar) (n : Nat) (kk : AV → Heap → Option R) (a0 a1 : List Nat) : Option R :=
  match g19ok A a0 a1 with
  | true => match !(g19r0 A a0 a1) with
    | true => kk (.tup [(.cell (.str [])), (.cell (.bool false))]) []
    | false => g13J3 A n kk  a0 a1
  | false => none
section
variable {R : Type} {A : Ar} {n : Nat} {kk : AV → Heap → Option R} {tb : Nat → List Bool → St → Option R} (st : Stp (g13N A kk) tb)
include st
end
def g13is (o : Option AV) : Bool := match o with
  | some (.tup [.cell (.str _), .cell (.bool _)]) => true
  | _ => false
def g13g0 (o : Option AV) : List Nat := match o with
  | some (.tup [.cell (.str x), .cell (.bool _)]) => x
  | _ => []
def g13g1 (o : Option AV) : Bool := match o with
  | some (.tup [.cell (.str _), .cell (.bool x)]) => x
  | _ => false
def g13v (A : Ar) (a0 a1 : List Nat) : Option AV := g13 A (100000) (fun v _ => some v) a0 a1
def g13ok (A : Ar) (a0 a1 : List Nat) : Bool := g13is (g13v A a0 a1)
def g13r0 (A : Ar) (a0 a1 : List Nat) : List Nat := g13g0 (g13v A a0 a1)
def g13r1 (A : Ar) (a0 a1 : List Nat) : Bool := g13g1 (g13v A a0 a1)
attribute [local irreducible] g13ok g13r0 g13r1
def g25O (A : Ar) : Orc := orcOf [(57, g57o A)]
def g25an : Ann := [(0, ([], [])), (1, ([0], [1000]))]
def g25res : List ResultVar := [.cell 0 26]
def g25cut : List Nat := []
noncomputable def g25N {R : Type} (A : Ar) (kk : AV → Heap → Option R) (t : List Bool → St → Option R) (p : List Bool) (s : St) : Option R := nodeN A gtys (g25O A) g25an g25cut t (bodyOf Try.f25) (finD gtys g25res kk) p s
def g25 {R : Type} (A : Ar) (n : Nat) (kk : AV → Heap → Option R)  : Option R :=
  match g57ok A 1 with
  | true => kk (.v (.agg [.nums .u64 4 [0, 0, 0, 0], .nums .u64 4 (g57r0 A 1)])) [(1000, ⟨[.nums .u64 4 [0, 0, 0, 0], .nums .u64 4 (g57r0 A 1)], 26, 1⟩)]
  | false => none
section
variable {R : Type} {A : Ar} {n : Nat} {kk : AV → Heap → Option R} {tb : Nat → List Bool → St → Option R} (st : Stp (g25N A kk) tb)
include st
end
def g25is (o : Option AV) : Bool := match o with
  | some (.v (.agg [.nums .u64 4 _, .nums .u64 4 _])) => true
  | _ => false
def g25g0 (o : Option AV) : List Nat := match o with
  | some (.v (.agg [.nums .u64 4 x, .nums .u64 4 _])) => x
  | _ => []
def g25g1 (o : Option AV) : List Nat := match o with
  | some (.v (.agg [.nums .u64 4 _, .nums .u64 4 x])) => x
  | _ => []
def g25v (A : Ar)  : Option AV := g25 A (100000) (fun v _ => some v) 
def g25ok (A : Ar)  : Bool := g25is (g25v A )
def g25r0 (A : Ar)  : List Nat := g25g0 (g25v A )
def g25r1 (A : Ar)  : List Nat := g25g1 (g25v A )
def g25o (A : Ar) (args : List AV) : Option (Bool × AV) := match args with
  | [] => some (g25ok A , .v (.agg [.nums .u64 4 (g25r0 A), .nums .u64 4 (g25r1 A)]))
  | _ => none
attribute [local irreducible] g25ok g25r0 g25r1
def g42O (A : Ar) : Orc := orcOf [(19, g19o A), (25, g25o A)]
def g42an : Ann := [(0, ([0], [])), (1, ([1, 2], [1000, 1001])), (2, ([1, 2], [1000, 1001])), (3, ([2], [1001]))]
def g42res : List ResultVar := [.cell 2 26]
def g42cut : List Nat := []
noncomputable def g42N {R : Type} (A : Ar) (kk : AV → Heap → Option R) (t : List Bool → St → Option R) (p : List Bool) (s : St) : Option R := nodeN A gtys (g42O A) g42an g42cut t (bodyOf Try.f42) (finD gtys g42res kk) p s
def g42 {R : Type} (A : Ar) (n : Nat) (kk : AV → Heap → Option R) (a0 a1 : List Nat) : Option R :=
  match g19ok A a0 a1 with
  | true => match g19r0 A a0 a1 with
    | true => kk (.v (.agg [.nums .u64 4 a0, .nums .u64 4 a1])) [(1000, ⟨[.nums .u64 4 a0, .nums .u64 4 a1], 26, 1⟩), (1001, ⟨[.nums .u64 4 a0, .nums .u64 4 a1], 26, 1⟩)]
    | false => match g25ok A with
      | true => kk (.v (.agg [.nums .u64 4 (g25r0 A), .nums .u64 4 (g25r1 A)])) [(1001, ⟨[.nums .u64 4 (g25r0 A), .nums .u64 4 (g25r1 A)], 26, 1⟩)]
      | false => none
  | false => none
section
variable {R : Type} {A : Ar} {n : Nat} {kk : AV → Heap → Option R} {tb : Nat → List Bool → St → Option R} (st : Stp (g42N A kk) tb)
include st
end
def g42is (o : Option AV) : Bool := match o with
  | some (.v (.agg [.nums .u64 4 _, .nums .u64 4 _])) => true
  | _ => false
def g42g0 (o : Option AV) : List Nat := match o with
  | some (.v (.agg [.nums .u64 4 x, .nums .u64 4 _])) => x
  | _ => []
def g42g1 (o : Option AV) : List Nat := match o with
  | some (.v (.agg [.nums .u64 4 _, .nums .u64 4 x])) => x
  | _ => []
def g42v (A : Ar) (a0 a1 : List Nat) : Option AV := g42 A (100000) (fun v _ => some v) a0 a1
def g42ok (A : Ar) (a0 a1 : List Nat) : Bool := g42is (g42v A a0 a1)
def g42r0 (A : Ar) (a0 a1 : List Nat) : List Nat := g42g0 (g42v A a0 a1)
def g42r1 (A : Ar) (a0 a1 : List Nat) : List Nat := g42g1 (g42v A a0 a1)
def g42o (A : Ar) (args : List AV) : Option (Bool × AV) := match args with
  | [.v (.agg [.nums .u64 n0 a0, .nums .u64 n1 a1])] => some (Nat.beq n0 4 && (Nat.beq n1 4 && (g42ok A a0 a1)), .v (.agg [.nums .u64 4 (g42r0 A a0 a1), .nums .u64 4 (g42r1 A a0 a1)]))
  | _ => none
attribute [local irreducible] g42ok g42r0 g42r1
def g41O (A : Ar) : Orc := orcOf [(57, g57o A), (56, g56o A)]
def g41an : Ann := [(0, ([0], [])), (1, ([1, 2], [1000, 1001]))]
def g41res : List ResultVar := [.cell 2 59]
def g41cut : List Nat := []
noncomputable def g41N {R : Type} (A : Ar) (kk : AV → Heap → Option R) (t : List Bool → St → Option R) (p : List Bool) (s : St) : Option R := nodeN A gtys (g41O A) g41an g41cut t (bodyOf Try.f41) (finD gtys g41res kk) p s
def g41 {R : Type} (A : Ar) (n : Nat) (kk : AV → Heap → Option R) (a0 a1 : List Nat) : Option R :=
  match g57ok A 1 with
  | true => match g56ok A a0 a1 with
    | true => kk (.v (.agg [.nums .u64 4 a0, .nums .u64 4 a1, .nums .u64 4 (g57r0 A 1), .nums .u64 4 (g56r0 A a0 a1)])) [(1000, ⟨[.nums .u64 4 a0, .nums .u64 4 a1], 26, 1⟩), (1001, ⟨[.nums .u64 4 a0, .nums .u64 4 a1, .nums .u64 4 (g57r0 A 1), .nums .u64 4 (g56r0 A a0 a1)], 59, 1⟩)]
    | false => none
  | false => none
section
variable {R : Type} {A : Ar} {n : Nat} {kk : AV → Heap → Option R} {tb : Nat → List Bool → St → Option R} (st : Stp (g41N A kk) tb)
include st
end
def g41is (o : Option AV) : Bool := match o with
  | some (.v (.agg [.nums .u64 4 _, .nums .u64 4 _, .nums .u64 4 _, .nums .u64 4 _])) => true
  | _ => false
def g41g0 (o : Option AV) : List Nat := match o with
  | some (.v (.agg [.nums .u64 4 x, .nums .u64 4 _, .nums .u64 4 _, .nums .u64 4 _])) => x
  | _ => []
def g41g1 (o : Option AV) : List Nat := match o with
  | some (.v (.agg [.nums .u64 4 _, .nums .u64 4 x, .nums .u64 4 _, .nums .u64 4 _])) => x
  | _ => []
def g41g2 (o : Option AV) : List Nat := match o with
  | some (.v (.agg [.nums .u64 4 _, .nums .u64 4 _, .nums .u64 4 x, .nums .u64 4 _])) => x
  | _ => []
def g41g3 (o : Option AV) : List Nat := match o with
  | some (.v (.agg [.nums .u64 4 _, .nums .u64 4 _, .nums .u64 4 _, .nums .u64 4 x])) => x
  | _ => []
def g41v (A : Ar) (a0 a1 : List Nat) : Option AV := g41 A (100000) (fun v _ => some v) a0 a1
def g41ok (A : Ar) (a0 a1 : List Nat) : Bool := g41is (g41v A a0 a1)
def g41r0 (A : Ar) (a0 a1 : List Nat) : List Nat := g41g0 (g41v A a0 a1)
def g41r1 (A : Ar) (a0 a1 : List Nat) : List Nat := g41g1 (g41v A a0 a1)
def g41r2 (A : Ar) (a0 a1 : List Nat) : List Nat := g41g2 (g41v A a0 a1)
def g41r3 (A : Ar) (a0 a1 : List Nat) : List Nat := g41g3 (g41v A a0 a1)
def g41o (A : Ar) (args : List AV) : Option (Bool × AV) := match args with
  | [.v (.agg [.nums .u64 n0 a0, .nums .u64 n1 a1])] => some (Nat.beq n0 4 && (Nat.beq n1 4 && (g41ok A a0 a1)), .v (.agg [.nums .u64 4 (g41r0 A a0 a1), .nums .u64 4 (g41r1 A a0 a1), .nums .u64 4 (g41r2 A a0 a1), .nums .u64 4 (g41r3 A a0 a1)]))
  | _ => none
attribute [local irreducible] g41ok g41r0 g41r1 g41r2 g41r3
def g40O (A : Ar) : Orc := orcOf [(56, g56o A), (67, g67o A), (68, g68o A)]
def g40an : Ann := [(0, ([0, 1, 2], [])), (1, ([3, 4, 5, 6], [1000, 1001, 1002, 1003])), (2, ([3, 4, 5, 6, 7], [1000, 1001, 1002, 1003, 2005])), (3, ([3, 4, 5, 6, 7, 8], [1000, 1001, 1002, 1003, 2005, 3005])), (4, ([4, 5, 6, 7, 8, 9], [1001, 1002, 1003, 2005, 3005, 4007])), (5, ([4, 5, 6, 7, 8, 9, 10], [1001, 1002, 1003, 2005, 3005, 4007, 5005])), (6, ([6, 7, 8, 9, 10, 11], [1003, 2005, 3005, 4007, 5005, 6011])), (7, ([6, 9, 10, 11, 12], [1003, 4007, 5005, 6011, 7003])), (8, ([6, 9, 10, 11, 12, 13], [1003, 4007, 5005, 6011, 7003, 8003])), (9, ([6, 11, 12, 13, 14], [1003, 6011, 7003, 8003, 9003]))]
def g40res : List ResultVar := [.cell 6 59]
def g40cut : List Nat := []
noncomputable def g40N {R : Type} (A : Ar) (kk : AV → Heap → Option R) (t : List Bool → St → Option R) (p : List Bool) (s : St) : Option R := nodeN A gtys (g40O A) g40an g40cut t (bodyOf Try.f40) (finD gtys g40res kk) p s
def g40 {R : Type} (A : Ar) (n : Nat) (kk : AV → Heap → Option R) (a b0 : List Nat) (b1 b2 : List Nat) (b3 c0 : List Nat) (c1 c2 c3 : List Nat) : Option R :=
  match g56ok A b0 c0 with
  | true => match g56ok A b1 c1 with
    | true => match g56ok A b3 c3 with
      | true => match g56ok A a (g56r0 A b3 c3) with
        | true => match g56ok A b2 c2 with
          | true => match g56ok A b0 c1 with
            | true => match g56ok A c0 b1 with
              | true => match g67ok A (g56r0 A b0 c1) (g56r0 A c0 b1) with
                | true => match g67ok A (g56r0 A b1 c1) (g56r0 A b0 c0) with
                  | true => match g68ok A (g56r0 A b2 c2) (g56r0 A a (g56r0 A b3 c3)) with
                    | true => match g67ok A (g56r0 A b2 c2) (g56r0 A a (g56r0 A b3 c3)) with
                      | true => match g56ok A (g67r0 A (g56r0 A b0 c1) (g56r0 A c0 b1)) (g68r0 A (g56r0 A b2 c2) (g56r0 A a (g56r0 A b3 c3))) with
                        | true => match g56ok A (g67r0 A (g56r0 A b1 c1) (g56r0 A b0 c0)) (g67r0 A (g56r0 A b2 c2) (g56r0 A a (g56r0 A b3 c3))) with
                          | true => match g56ok A (g68r0 A (g56r0 A b2 c2) (g56r0 A a (g56r0 A b3 c3))) (g67r0 A (g56r0 A b2 c2) (g56r0 A a (g56r0 A b3 c3))) with
                            | true => match g56ok A (g67r0 A (g56r0 A b0 c1) (g56r0 A c0 b1)) (g67r0 A (g56r0 A b1 c1) (g56r0 A b0 c0)) with
                              | true => kk (.v (.agg [.nums .u64 4 (g56r0 A (g67r0 A (g56r0 A b0 c1) (g56r0 A c0 b1)) (g68r0 A (g56r0 A b2 c2) (g56r0 A a (g56r0 A b3 c3)))), .nums .u64 4 (g56r0 A (g67r0 A (g56r0 A b1 c1) (g56r0 A b0 c0)) (g67r0 A (g56r0 A b2 c2) (g56r0 A a (g56r0 A b3 c3)))), .nums .u64 4 (g56r0 A (g68r0 A (g56r0 A b2 c2) (g56r0 A a (g56r0 A b3 c3))) (g67r0 A (g56r0 A b2 c2) (g56r0 A a (g56r0 A b3 c3)))), .nums .u64 4 (g56r0 A (g67r0 A (g56r0 A b0 c1) (g56r0 A c0 b1)) (g67r0 A (g56r0 A b1 c1) (g56r0 A b0 c0)))])) [(1003, ⟨[.nums .u64 4 (g56r0 A (g67r0 A (g56r0 A b0 c1) (g56r0 A c0 b1)) (g68r0 A (g56r0 A b2 c2) (g56r0 A a (g56r0 A b3 c3)))), .nums .u64 4 (g56r0 A (g67r0 A (g56r0 A b1 c1) (g56r0 A b0 c0)) (g67r0 A (g56r0 A b2 c2) (g56r0 A a (g56r0 A b3 c3)))), .nums .u64 4 (g56r0 A (g68r0 A (g56r0 A b2 c2) (g56r0 A a (g56r0 A b3 c3))) (g67r0 A (g56r0 A b2 c2) (g56r0 A a (g56r0 A b3 c3)))), .nums .u64 4 (g56r0 A (g67r0 A (g56r0 A b0 c1) (g56r0 A c0 b1)) (g67r0 A (g56r0 A b1 c1) (g56r0 A b0 c0)))], 59, 1⟩), (6011, (bU 4 (g67r0 A (g56r0 A b0 c1) (g56r0 A c0 b1)) 24)), (7003, (bU 4 (g67r0 A (g56r0 A b1 c1) (g56r0 A b0 c0)) 24)), (8003, (bU 4 (g68r0 A (g56r0 A b2 c2) (g56r0 A a (g56r0 A b3 c3))) 24)), (9003, (bU 4 (g67r0 A (g56r0 A b2 c2) (g56r0 A a (g56r0 A b3 c3))) 24))]
                              | false => none
                            | false => none
                          | false => none
                        | false => none
                      | false => none
                    | false => none
                  | false => none
                | false => none
              | false => none
            | false => none
          | false => none
        | false => none
      | false => none
    | false => none
  | false => none
section
variable {R : Type} {A : Ar} {n : Nat} {kk : AV → Heap → Option R} {tb : Nat → List Bool → St → Option R} (st : Stp (g40N A kk) tb)
include st
end
def g40is (o : Option AV) : Bool := match o with
  | some (.v (.agg [.nums .u64 4 _, .nums .u64 4 _, .nums .u64 4 _, .nums .u64 4 _])) => true
  | _ => false
def g40g0 (o : Option AV) : List Nat := match o with
  | some (.v (.agg [.nums .u64 4 x, .nums .u64 4 _, .nums .u64 4 _, .nums .u64 4 _])) => x
  | _ => []
def g40g1 (o : Option AV) : List Nat := match o with
  | some (.v (.agg [.nums .u64 4 _, .nums .u64 4 x, .nums .u64 4 _, .nums .u64 4 _])) => x
  | _ => []
def g40g2 (o : Option AV) : List Nat := match o with
  | some (.v (.agg [.nums .u64 4 _, .nums .u64 4 _, .nums .u64 4 x, .nums .u64 4 _])) => x
  | _ => []
def g40g3 (o : Option AV) : List Nat := match o with
  | some (.v (.agg [.nums .u64 4 _, .nums .u64 4 _, .nums .u64 4 _, .nums .u64 4 x])) => x
  | _ => []
def g40v (A : Ar) (a b0 : List Nat) (b1 b2 : List Nat) (b3 c0 : List Nat) (c1 c2 c3 : List Nat) : Option AV := g40 A (100000) (fun v _ => some v) a b0 b1 b2 b3 c0 c1 c2 c3
def g40ok (A : Ar) (a b0 : List Nat) (b1 b2 : List Nat) (b3 c0 : List Nat) (c1 c2 c3 : List Nat) : Bool := g40is (g40v A a b0 b1 b2 b3 c0 c1 c2 c3)
def g40r0 (A : Ar) (a b0 : List Nat) (b1 b2 : List Nat) (b3 c0 : List Nat) (c1 c2 c3 : List Nat) : List Nat := g40g0 (g40v A a b0 b1 b2 b3 c0 c1 c2 c3)
def g40r1 (A : Ar) (a b0 : List Nat) (b1 b2 : List Nat) (b3 c0 : List Nat) (c1 c2 c3 : List Nat) : List Nat := g40g1 (g40v A a b0 b1 b2 b3 c0 c1 c2 c3)
def g40r2 (A : Ar) (a b0 : List Nat) (b1 b2 : List Nat) (b3 c0 : List Nat) (c1 c2 c3 : List Nat) : List Nat := g40g2 (g40v A a b0 b1 b2 b3 c0 c1 c2 c3)
def g40r3 (A : Ar) (a b0 : List Nat) (b1 b2 : List Nat) (b3 c0 : List Nat) (c1 c2 c3 : List Nat) : List Nat := g40g3 (g40v A a b0 b1 b2 b3 c0 c1 c2 c3)
def g40o (A : Ar) (args : List AV) : Option (Bool × AV) := match args with
  | [.v (.agg [.nums .u64 n0 a]), .v (.agg [.nums .u64 n1 b0, .nums .u64 n2 b1, .nums .u64 n3 b2, .nums .u64 n4 b3]), .v (.agg [.nums .u64 n5 c0, .nums .u64 n6 c1, .nums .u64 n7 c2, .nums .u64 n8 c3])] => some (Nat.beq n0 4 && (Nat.beq n1 4 && (Nat.beq n2 4 && (Nat.beq n3 4 && (Nat.beq n4 4 && (Nat.beq n5 4 && (Nat.beq n6 4 && (Nat.beq n7 4 && (Nat.beq n8 4 && (g40ok A a b0 b1 b2 b3 c0 c1 c2 c3))))))))), .v (.agg [.nums .u64 4 (g40r0 A a b0 b1 b2 b3 c0 c1 c2 c3), .nums .u64 4 (g40r1 A a b0 b1 b2 b3 c0 c1 c2 c3), .nums .u64 4 (g40r2 A a b0 b1 b2 b3 c0 c1 c2 c3), .nums .u64 4 (g40r3 A a b0 b1 b2 b3 c0 c1 c2 c3)]))
  | _ => none
attribute [local irreducible] g40ok g40r0 g40r1 g40r2 g40r3
def g39O (A : Ar) : Orc := orcOf [(58, g58o A), (56, g56o A)]
def g39an : Ann := [(0, ([0], [])), (1, ([1, 2], [1000, 1001])), (2, ([1, 2, 3], [1000, 1001, 2003]))]
def g39res : List ResultVar := [.cell 2 26]
def g39cut : List Nat := []
noncomputable def g39N {R : Type} (A : Ar) (kk : AV → Heap → Option R) (t : List Bool → St → Option R) (p : List Bool) (s : St) : Option R := nodeN A gtys (g39O A) g39an g39cut t (bodyOf Try.f39) (finD gtys g39res kk) p s
def g39 {R : Type} (A : Ar) (n : Nat) (kk : AV → Heap → Option R) (a0 a1 : List Nat) (a2 a3 : List Nat) : Option R :=
  match g58ok A a2 with
  | true => match g56ok A a0 (g58r0 A a2) with
    | true => match g56ok A a1 (g58r0 A a2) with
      | true => kk (.v (.agg [.nums .u64 4 (g56r0 A a0 (g58r0 A a2)), .nums .u64 4 (g56r0 A a1 (g58r0 A a2))])) [(1000, ⟨[.nums .u64 4 a0, .nums .u64 4 a1, .nums .u64 4 a2, .nums .u64 4 a3], 59, 1⟩), (1001, ⟨[.nums .u64 4 (g56r0 A a0 (g58r0 A a2)), .nums .u64 4 (g56r0 A a1 (g58r0 A a2))], 26, 1⟩), (2003, (bU 4 (g58r0 A a2) 24))]
      | false => none
    | false => none
  | false => none
section
variable {R : Type} {A : Ar} {n : Nat} {kk : AV → Heap → Option R} {tb : Nat → List Bool → St → Option R} (st : Stp (g39N A kk) tb)
include st
end
def g39is (o : Option AV) : Bool := match o with
  | some (.v (.agg [.nums .u64 4 _, .nums .u64 4 _])) => true
  | _ => false
def g39g0 (o : Option AV) : List Nat := match o with
  | some (.v (.agg [.nums .u64 4 x, .nums .u64 4 _])) => x
  | _ => []
def g39g1 (o : Option AV) : List Nat := match o with
  | some (.v (.agg [.nums .u64 4 _, .nums .u64 4 x])) => x
  | _ => []
def g39v (A : Ar) (a0 a1 : List Nat) (a2 a3 : List Nat) : Option AV := g39 A (100000) (fun v _ => some v) a0 a1 a2 a3
def g39ok (A : Ar) (a0 a1 : List Nat) (a2 a3 : List Nat) : Bool := g39is (g39v A a0 a1 a2 a3)
def g39r0 (A : Ar) (a0 a1 : List Nat) (a2 a3 : List Nat) : List Nat := g39g0 (g39v A a0 a1 a2 a3)
def g39r1 (A : Ar) (a0 a1 : List Nat) (a2 a3 : List Nat) : List Nat := g39g1 (g39v A a0 a1 a2 a3)
def g39o (A : Ar) (args : List AV) : Option (Bool × AV) := match args with
  | [.v (.agg [.nums .u64 n0 a0, .nums .u64 n1 a1, .nums .u64 n2 a2, .nums .u64 n3 a3])] => some (Nat.beq n0 4 && (Nat.beq n1 4 && (Nat.beq n2 4 && (Nat.beq n3 4 && (g39ok A a0 a1 a2 a3)))), .v (.agg [.nums .u64 4 (g39r0 A a0 a1 a2 a3), .nums .u64 4 (g39r1 A a0 a1 a2 a3)]))
  | _ => none
attribute [local irreducible] g39ok g39r0 g39r1
def g15O (A : Ar) : Orc := orcOf [(32, g32o A), (42, g42o A), (41, g41o A), (40, g40o A), (39, g39o A)]
def g15an : Ann := [(0, ([0, 1], [])), (1, ([2, 3, 4], [1000, 1001, 1002]))]
def g15res : List ResultVar := [.cell 4 26]
def g15cut : List Nat := []
abbrev g15t4 (A : Ar) (a0 a1 : List Nat) (b0 b1 : List Nat) : List Nat := g40r0 A (g32r0 A) (g41r0 A (g42r0 A a0 a1) (g42r1 A a0 a1)) (g41r1 A (g42r0 A a0 a1) (g42r1 A a0 a1)) (g41r2 A (g42r0 A a0 a1) (g42r1 A a0 a1)) (g41r3 A (g42r0 A a0 a1) (g42r1 A a0 a1)) (g41r0 A (g42r0 A b0 b1) (g42r1 A b0 b1)) (g41r1 A (g42r0 A b0 b1) (g42r1 A b0 b1)) (g41r2 A (g42r0 A b0 b1) (g42r1 A b0 b1)) (g41r3 A (g42r0 A b0 b1) (g42r1 A b0 b1))
abbrev g15t5 (A : Ar) (a0 a1 : List Nat) (b0 b1 : List Nat) : List Nat := g40r1 A (g32r0 A) (g41r0 A (g42r0 A a0 a1) (g42r1 A a0 a1)) (g41r1 A (g42r0 A a0 a1) (g42r1 A a0 a1)) (g41r2 A (g42r0 A a0 a1) (g42r1 A a0 a1)) (g41r3 A (g42r0 A a0 a1) (g42r1 A a0 a1)) (g41r0 A (g42r0 A b0 b1) (g42r1 A b0 b1)) (g41r1 A (g42r0 A b0 b1) (g42r1 A b0 b1)) (g41r2 A (g42r0 A b0 b1) (g42r1 A b0 b1)) (g41r3 A (g42r0 A b0 b1) (g42r1 A b0 b1))
abbrev g15t6 (A : Ar) (a0 a1 : List Nat) (b0 b1 : List Nat) : List Nat := g40r2 A (g32r0 A) (g41r0 A (g42r0 A a0 a1) (g42r1 A a0 a1)) (g41r1 A (g42r0 A a0 a1) (g42r1 A a0 a1)) (g41r2 A (g42r0 A a0 a1) (g42r1 A a0 a1)) (g41r3 A (g42r0 A a0 a1) (g42r1 A a0 a1)) (g41r0 A (g42r0 A b0 b1) (g42r1 A b0 b1)) (g41r1 A (g42r0 A b0 b1) (g42r1 A b0 b1)) (g41r2 A (g42r0 A b0 b1) (g42r1 A b0 b1)) (g41r3 A (g42r0 A b0 b1) (g42r1 A b0 b1))
abbrev g15t7 (A : Ar) (a0 a1 : List Nat) (b0 b1 : List Nat) : List Nat := g40r3 A (g32r0 A) (g41r0 A (g42r0 A a0 a1) (g42r1 A a0 a1)) (g41r1 A (g42r0 A a0 a1) (g42r1 A a0 a1)) (g41r2 A (g42r0 A a0 a1) (g42r1 A a0 a1)) (g41r3 A (g42r0 A a0 a1) (g42r1 A a0 a1)) (g41r0 A (g42r0 A b0 b1) (g42r1 A b0 b1)) (g41r1 A (g42r0 A b0 b1) (g42r1 A b0 b1)) (g41r2 A (g42r0 A b0 b1) (g42r1 A b0 b1)) (g41r3 A (g42r0 A b0 b1) (g42r1 A b0 b1))
noncomputable def g15N {R : Type} (A : Ar) (kk : AV → Heap → Option R) (t : List Bool → St → Option R) (p : List Bool) (s : St) : Option R := nodeN A gtys (g15O A) g15an g15cut t (bodyOf Try.f15) (finD gtys g15res kk) p s
def g15 {R : Type} (A : Ar) (n : Nat) (kk : AV → Heap → Option R) (a0 a1 : List Nat) (b0 b1 : List Nat) : Option R :=
  match g32ok A with
  | true => match g42ok A a0 a1 with
    | true => match g41ok A (g42r0 A a0 a1) (g42r1 A a0 a1) with
      | true => match g42ok A b0 b1 with
        | true => match g41ok A (g42r0 A b0 b1) (g42r1 A b0 b1) with
          | true => match g40ok A (g32r0 A) (g41r0 A (g42r0 A a0 a1) (g42r1 A a0 a1)) (g41r1 A (g42r0 A a0 a1) (g42r1 A a0 a1)) (g41r2 A (g42r0 A a0 a1) (g42r1 A a0 a1)) (g41r3 A (g42r0 A a0 a1) (g42r1 A a0 a1)) (g41r0 A (g42r0 A b0 b1) (g42r1 A b0 b1)) (g41r1 A (g42r0 A b0 b1) (g42r1 A b0 b1)) (g41r2 A (g42r0 A b0 b1) (g42r1 A b0 b1)) (g41r3 A (g42r0 A b0 b1) (g42r1 A b0 b1)) with
            | true => match g39ok A (g15t4 A a0 a1 b0 b1) (g15t5 A a0 a1 b0 b1) (g15t6 A a0 a1 b0 b1) (g15t7 A a0 a1 b0 b1) with
              | true => kk (.v (.agg [.nums .u64 4 (g39r0 A (g15t4 A a0 a1 b0 b1) (g15t5 A a0 a1 b0 b1) (g15t6 A a0 a1 b0 b1) (g15t7 A a0 a1 b0 b1)), .nums .u64 4 (g39r1 A (g15t4 A a0 a1 b0 b1) (g15t5 A a0 a1 b0 b1) (g15t6 A a0 a1 b0 b1) (g15t7 A a0 a1 b0 b1))])) [(1000, ⟨[.nums .u64 4 a0, .nums .u64 4 a1], 26, 1⟩), (1001, ⟨[.nums .u64 4 b0, .nums .u64 4 b1], 26, 1⟩), (1002, ⟨[.nums .u64 4 (g39r0 A (g15t4 A a0 a1 b0 b1) (g15t5 A a0 a1 b0 b1) (g15t6 A a0 a1 b0 b1) (g15t7 A a0 a1 b0 b1)), .nums .u64 4 (g39r1 A (g15t4 A a0 a1 b0 b1) (g15t5 A a0 a1 b0 b1) (g15t6 A a0 a1 b0 b1) (g15t7 A a0 a1 b0 b1))], 26, 1⟩)]
              | false => none
            | false => none
          | false => none
        | false => none
      | false => none
    | false => none
  | false => none
section
variable {R : Type} {A : Ar} {n : Nat} {kk : AV → Heap → Option R} {tb : Nat → List Bool → St → Option R} (st : Stp (g15N A kk) tb)
include st
end
def g15is (o : Option AV) : Bool := match o with
  | some (.v (.agg [.nums .u64 4 _, .nums .u64 4 _])) => true
  | _ => false
def g15g0 (o : Option AV) : List Nat := match o with
  | some (.v (.agg [.nums .u64 4 x, .nums .u64 4 _])) => x
  | _ => []
def g15g1 (o : Option AV) : List Nat := match o with
  | some (.v (.agg [.nums .u64 4 _, .nums .u64 4 x])) => x
  | _ => []
def g15v (A : Ar) (a0 a1 : List Nat) (b0 b1 : List Nat) : Option AV := g15 A (100000) (fun v _ => some v) a0 a1 b0 b1
def g15ok (A : Ar) (a0 a1 : List Nat) (b0 b1 : List Nat) : Bool := g15is (g15v A a0 a1 b0 b1)
def g15r0 (A : Ar) (a0 a1 : List Nat) (b0 b1 : List Nat) : List Nat := g15g0 (g15v A a0 a1 b0 b1)
def g15r1 (A : Ar) (a0 a1 : List Nat) (b0 b1 : List Nat) : List Nat := g15g1 (g15v A a0 a1 b0 b1)
attribute [local irreducible] g15ok g15r0 g15r1
def g17O (A : Ar) : Orc := orcOf [(42, g42o A), (44, g44o A)]
def g17an : Ann := [(0, ([0], [])), (1, ([1, 2], [1000, 1001])), (2, ([2, 3], [1001, 2002]))]
def g17res : List ResultVar := [.cell 2 26]
def g17cut : List Nat := []
noncomputable def g17N {R : Type} (A : Ar) (kk : AV → Heap → Option R) (t : List Bool → St → Option R) (p : List Bool) (s : St) : Option R := nodeN A gtys (g17O A) g17an g17cut t (bodyOf Try.f17) (finD gtys g17res kk) p s
def g17 {R : Type} (A : Ar) (n : Nat) (kk : AV → Heap → Option R) (a0 a1 : List Nat) : Option R :=
  match g42ok A a0 a1 with
  | true => match g44ok A (g42r0 A a0 a1) with
    | true => kk (.v (.agg [.nums .u64 4 (g44r0 A (g42r0 A a0 a1)), .nums .u64 4 (g42r1 A a0 a1)])) [(1001, ⟨[.nums .u64 4 (g44r0 A (g42r0 A a0 a1)), .nums .u64 4 (g42r1 A a0 a1)], 26, 1⟩), (2002, ⟨[.nums .u64 4 (g42r0 A a0 a1), .nums .u64 4 (g42r1 A a0 a1)], 26, 1⟩)]
    | false => none
  | false => none
section
variable {R : Type} {A : Ar} {n : Nat} {kk : AV → Heap → Option R} {tb : Nat → List Bool → St → Option R} (st : Stp (g17N A kk) tb)
include st
end
def g17is (o : Option AV) : Bool := match o with
  | some (.v (.agg [.nums .u64 4 _, .nums .u64 4 _])) => true
  | _ => false
def g17g0 (o : Option AV) : List Nat := match o with
  | some (.v (.agg [.nums .u64 4 x, .nums .u64 4 _])) => x
  | _ => []
def g17g1 (o : Option AV) : List Nat := match o with
  | some (.v (.agg [.nums .u64 4 _, .nums .u64 4 x])) => x
  | _ => []
def g17v (A : Ar) (a0 a1 : List Nat) : Option AV := g17 A (100000) (fun v _ => some v) a0 a1
def g17ok (A : Ar) (a0 a1 : List Nat) : Bool := g17is (g17v A a0 a1)
def g17r0 (A : Ar) (a0 a1 : List Nat) : List Nat := g17g0 (g17v A a0 a1)
def g17r1 (A : Ar) (a0 a1 : List Nat) : List Nat := g17g1 (g17v A a0 a1)
attribute [local irreducible] g17ok g17r0 g17r1
def g21O (A : Ar) : Orc := orcOf [(32, g32o A), (42, g42o A), (41, g41o A), (25, g25o A), (40, g40o A), (53, g53o A), (39, g39o A)]
def g21an : Ann := [(0, ([0, 1], [])), (1, ([0, 3, 4], [1000, 1001])), (2, ([0, 3, 4, 5], [1000, 1001, 2001])), (3, ([0, 4, 5, 6], [1001, 2001, 3003])), (4, ([0, 4, 5, 6, 7], [1001, 2001, 3003, 4002])), (5, ([0, 4, 5, 6, 7, 8], [1001, 2001, 3003, 4002])), (6, ([0, 4, 5, 6, 7, 8], [1001, 2001, 3003, 4002])), (7, ([0, 4, 5, 6, 7, 8], [1001, 2001, 3003, 4002])), (8, ([0, 4, 5, 6, 7, 8], [1001, 2001, 3003, 4002])), (9, ([0, 4, 5, 6, 7, 8], [1001, 2001, 3003, 4002])), (10, ([4, 7], [1001, 4002]))]
def g21res : List ResultVar := [.cell 4 26]
def g21cut : List Nat := [7]
abbrev g21t0 (A : Ar) (x4 x5 : List Nat) (x6 x7 : List Nat) (x8 x9 : List Nat) (x10 x11 x12 : List Nat) : List Nat := g40r0 A x4 (g40r0 A x4 x9 x10 x11 x12 x9 x10 x11 x12) (g40r1 A x4 x9 x10 x11 x12 x9 x10 x11 x12) (g40r2 A x4 x9 x10 x11 x12 x9 x10 x11 x12) (g40r3 A x4 x9 x10 x11 x12 x9 x10 x11 x12) x5 x6 x7 x8
abbrev g21t1 (A : Ar) (x4 x5 : List Nat) (x6 x7 : List Nat) (x8 x9 : List Nat) (x10 x11 x12 : List Nat) : List Nat := g40r1 A x4 (g40r0 A x4 x9 x10 x11 x12 x9 x10 x11 x12) (g40r1 A x4 x9 x10 x11 x12 x9 x10 x11 x12) (g40r2 A x4 x9 x10 x11 x12 x9 x10 x11 x12) (g40r3 A x4 x9 x10 x11 x12 x9 x10 x11 x12) x5 x6 x7 x8
abbrev g21t2 (A : Ar) (x4 x5 : List Nat) (x6 x7 : List Nat) (x8 x9 : List Nat) (x10 x11 x12 : List Nat) : List Nat := g40r2 A x4 (g40r0 A x4 x9 x10 x11 x12 x9 x10 x11 x12) (g40r1 A x4 x9 x10 x11 x12 x9 x10 x11 x12) (g40r2 A x4 x9 x10 x11 x12 x9 x10 x11 x12) (g40r3 A x4 x9 x10 x11 x12 x9 x10 x11 x12) x5 x6 x7 x8
abbrev g21t3 (A : Ar) (x4 x5 : List Nat) (x6 x7 : List Nat) (x8 x9 : List Nat) (x10 x11 x12 : List Nat) : List Nat := g40r3 A x4 (g40r0 A x4 x9 x10 x11 x12 x9 x10 x11 x12) (g40r1 A x4 x9 x10 x11 x12 x9 x10 x11 x12) (g40r2 A x4 x9 x10 x11 x12 x9 x10 x11 x12) (g40r3 A x4 x9 x10 x11 x12 x9 x10 x11 x12) x5 x6 x7 x8
noncomputable def g21N {R : Type} (A : Ar) (kk : AV → Heap → Option R) (t : List Bool → St → Option R) (p : List Bool) (s : St) : Option R := nodeN A gtys (g21O A) g21an g21cut t (bodyOf Try.f21) (finD gtys g21res kk) p s
def g21J7 {R : Type} (A : Ar) (n : Nat) (kk : AV → Heap → Option R) (lg21L5 : List Nat → Int → List Nat → List Nat → List Nat → List Nat → List Nat → List Nat → List Nat → List Nat → List Nat → List Nat → List Nat → Option R) (x0 : List Nat) (x1 : Int) (x2 x3 : List Nat) (x4 x5 : List Nat) (x6 x7 : List Nat) (x8 x9 : List Nat) (x10 x11 x12 : List Nat) : Option R :=
  match g40ok A x4 x9 x10 x11 x12 x9 x10 x11 x12 with
  | true => match g53ok A x0 x1 with
    | true => match A.ic .eql (g53r0 A x0 x1) 1 with
      | true => match g40ok A x4 (g40r0 A x4 x9 x10 x11 x12 x9 x10 x11 x12) (g40r1 A x4 x9 x10 x11 x12 x9 x10 x11 x12) (g40r2 A x4 x9 x10 x11 x12 x9 x10 x11 x12) (g40r3 A x4 x9 x10 x11 x12 x9 x10 x11 x12) x5 x6 x7 x8 with
        | true => lg21L5 x0 (A.ib .sub .i64 x1 1) x2 x3 x4 x5 x6 x7 x8 (g21t0 A x4 x5 x6 x7 x8 x9 x10 x11 x12) (g21t1 A x4 x5 x6 x7 x8 x9 x10 x11 x12) (g21t2 A x4 x5 x6 x7 x8 x9 x10 x11 x12) (g21t3 A x4 x5 x6 x7 x8 x9 x10 x11 x12)
        | false => none
      | false => lg21L5 x0 (A.ib .sub .i64 x1 1) x2 x3 x4 x5 x6 x7 x8 (g40r0 A x4 x9 x10 x11 x12 x9 x10 x11 x12) (g40r1 A x4 x9 x10 x11 x12 x9 x10 x11 x12) (g40r2 A x4 x9 x10 x11 x12 x9 x10 x11 x12) (g40r3 A x4 x9 x10 x11 x12 x9 x10 x11 x12)
    | false => none
  | false => none
def g21L5 {R : Type} (A : Ar) (n : Nat) (kk : AV → Heap → Option R)  : Nat → List Nat → Int → List Nat → List Nat → List Nat → List Nat → List Nat → List Nat → List Nat → List Nat → List Nat → List Nat → List Nat → Option R
  | 0, _, _, _, _, _, _, _, _, _, _, _, _, _ => none
  | m + 1, x0, x1, x2, x3, x4, x5, x6, x7, x8, x9, x10, x11, x12 => match A.ic .geq x1 0 with
  | true => g21J7 A n kk (g21L5 A n kk  m) x0 x1 x2 x3 x4 x5 x6 x7 x8 x9 x10 x11 x12
  | false => match g39ok A x9 x10 x11 x12 with
    | true => kk (.v (.agg [.nums .u64 4 (g39r0 A x9 x10 x11 x12), .nums .u64 4 (g39r1 A x9 x10 x11 x12)])) [(1001, ⟨[.nums .u64 4 (g39r0 A x9 x10 x11 x12), .nums .u64 4 (g39r1 A x9 x10 x11 x12)], 26, 1⟩), (4002, ⟨[.nums .u64 4 x9, .nums .u64 4 x10, .nums .u64 4 x11, .nums .u64 4 x12], 59, 1⟩)]
    | false => none
def g21 {R : Type} (A : Ar) (n : Nat) (kk : AV → Heap → Option R) (a b0 b1 : List Nat) : Option R :=
  match g32ok A with
  | true => match g42ok A b0 b1 with
    | true => match g41ok A (g42r0 A b0 b1) (g42r1 A b0 b1) with
      | true => match g25ok A with
        | true => match g41ok A (g25r0 A) (g25r1 A) with
          | true => g21L5 A n kk  n a (A.ib .sub .i64 (A.ib .mul .i64 8 (A.mn (A.ofN a.length) 32)) 1) [0, 0, 0, 0] [0, 0, 0, 0] (g32r0 A) (g41r0 A (g42r0 A b0 b1) (g42r1 A b0 b1)) (g41r1 A (g42r0 A b0 b1) (g42r1 A b0 b1)) (g41r2 A (g42r0 A b0 b1) (g42r1 A b0 b1)) (g41r3 A (g42r0 A b0 b1) (g42r1 A b0 b1)) (g41r0 A (g25r0 A) (g25r1 A)) (g41r1 A (g25r0 A) (g25r1 A)) (g41r2 A (g25r0 A) (g25r1 A)) (g41r3 A (g25r0 A) (g25r1 A))
          | false => none
        | false => none
      | false => none
    | false => none
  | false => none
section
variable {R : Type} {A : Ar} {n : Nat} {kk : AV → Heap → Option R} {tb : Nat → List Bool → St → Option R} (st : Stp (g21N A kk) tb)
include st
end
def g21is (o : Option AV) : Bool := match o with
  | some (.v (.agg [.nums .u64 4 _, .nums .u64 4 _])) => true
  | _ => false
def g21g0 (o : Option AV) : List Nat := match o with
  | some (.v (.agg [.nums .u64 4 x, .nums .u64 4 _])) => x
  | _ => []
def g21g1 (o : Option AV) : List Nat := match o with
  | some (.v (.agg [.nums .u64 4 _, .nums .u64 4 x])) => x
  | _ => []
def g21v (A : Ar) (a b0 b1 : List Nat) : Option AV := g21 A (100000) (fun v _ => some v) a b0 b1
def g21ok (A : Ar) (a b0 b1 : List Nat) : Bool := g21is (g21v A a b0 b1)
def g21r0 (A : Ar) (a b0 b1 : List Nat) : List Nat := g21g0 (g21v A a b0 b1)
def g21r1 (A : Ar) (a b0 b1 : List Nat) : List Nat := g21g1 (g21v A a b0 b1)
def g21o (A : Ar) (args : List AV) : Option (Bool × AV) := match args with
  | [.v (.cell (.str a)), .v (.agg [.nums .u64 n0 b0, .nums .u64 n1 b1])] => some (Nat.beq n0 4 && (Nat.beq n1 4 && (g21ok A a b0 b1)), .v (.agg [.nums .u64 4 (g21r0 A a b0 b1), .nums .u64 4 (g21r1 A a b0 b1)]))
  | _ => none
attribute [local irreducible] g21ok g21r0 g21r1
def g59O (A : Ar) : Orc := orcOf [(56, g56o A), (57, g57o A), (68, g68o A), (32, g32o A), (67, g67o A), (77, g77o A)]
def g59an : Ann := [(0, ([0], [])), (1, ([1, 2], [1000, 1001])), (2, ([2, 4], [1001, 2003])), (3, ([2, 4, 5], [1001, 2003, 3001]))]
def g59res : List ResultVar := [.cell 2 24, .tmp 3]
def g59cut : List Nat := []
noncomputable def g59N {R : Type} (A : Ar) (kk : AV → Heap → Option R) (t : List Bool → St → Option R) (p : List Bool) (s : St) : Option R := nodeN A gtys (g59O A) g59an g59cut t (bodyOf Try.f59) (finD gtys g59res kk) p s
def g59 {R : Type} (A : Ar) (n : Nat) (kk : AV → Heap → Option R) (a : List Nat) : Option R :=
  match g56ok A a a with
  | true => match g57ok A 1 with
    | true => match g68ok A (g56r0 A a a) (g57r0 A 1) with
      | true => match g32ok A with
        | true => match g56ok A (g32r0 A) (g56r0 A a a) with
          | true => match g67ok A (g56r0 A (g32r0 A) (g56r0 A a a)) (g57r0 A 1) with
            | true => match g77ok A (g68r0 A (g56r0 A a a) (g57r0 A 1)) (g67r0 A (g56r0 A (g32r0 A) (g56r0 A a a)) (g57r0 A 1)) with
              | true => kk (.tup [(.agg [.nums .u64 4 (g77r0 A (g68r0 A (g56r0 A a a) (g57r0 A 1)) (g67r0 A (g56r0 A (g32r0 A) (g56r0 A a a)) (g57r0 A 1)))]), (.cell (.bool (g77r1 A (g68r0 A (g56r0 A a a) (g57r0 A 1)) (g67r0 A (g56r0 A (g32r0 A) (g56r0 A a a)) (g57r0 A 1)))))]) [(1001, (bU 4 (g77r0 A (g68r0 A (g56r0 A a a) (g57r0 A 1)) (g67r0 A (g56r0 A (g32r0 A) (g56r0 A a a)) (g57r0 A 1))) 24)), (2003, (bU 4 (g56r0 A a a) 24)), (3001, (bU 4 (g57r0 A 1) 24))]
              | false => none
            | false => none
          | false => none
        | false => none
      | false => none
    | false => none
  | false => none
section
variable {R : Type} {A : Ar} {n : Nat} {kk : AV → Heap → Option R} {tb : Nat → List Bool → St → Option R} (st : Stp (g59N A kk) tb)
include st
end
def g59is (o : Option AV) : Bool := match o with
  | some (.tup [.agg [.nums .u64 4 _], .cell (.bool _)]) => true
  | _ => false
def g59g0 (o : Option AV) : List Nat := match o with
  | some (.tup [.agg [.nums .u64 4 x], .cell (.bool _)]) => x
  | _ => []
def g59g1 (o : Option AV) : Bool := match o with
  | some (.tup [.agg [.nums .u64 4 _], .cell (.bool x)]) => x
  | _ => false
def g59v (A : Ar) (a : List Nat) : Option AV := g59 A (100000) (fun v _ => some v) a
def g59ok (A : Ar) (a : List Nat) : Bool := g59is (g59v A a)
def g59r0 (A : Ar) (a : List Nat) : List Nat := g59g0 (g59v A a)
def g59r1 (A : Ar) (a : List Nat) : Bool := g59g1 (g59v A a)
def g59o (A : Ar) (args : List AV) : Option (Bool × AV) := match args with
  | [.v (.agg [.nums .u64 n0 a])] => some (Nat.beq n0 4 && (g59ok A a), .tup [.agg [.nums .u64 4 (g59r0 A a)], .cell (.bool (g59r1 A a))])
  | _ => none
attribute [local irreducible] g59ok g59r0 g59r1
def g23O (A : Ar) : Orc := orcOf [(57, g57o A), (58, g58o A), (56, g56o A), (59, g59o A)]
def g23an : Ann := [(0, ([], [])), (1, ([0], [1000])), (2, ([0, 1], [1000, 2004])), (3, ([0, 1, 2], [1000, 2004, 3005]))]
def g23res : List ResultVar := [.cell 0 26]
def g23cut : List Nat := []
noncomputable def g23N {R : Type} (A : Ar) (kk : AV → Heap → Option R) (t : List Bool → St → Option R) (p : List Bool) (s : St) : Option R := nodeN A gtys (g23O A) g23an g23cut t (bodyOf Try.f23) (finD gtys g23res kk) p s
def g23 {R : Type} (A : Ar) (n : Nat) (kk : AV → Heap → Option R)  : Option R :=
  match g57ok A 4 with
  | true => match g57ok A 5 with
    | true => match g58ok A (g57r0 A 5) with
      | true => match g56ok A (g57r0 A 4) (g58r0 A (g57r0 A 5)) with
        | true => match g59ok A (g56r0 A (g57r0 A 4) (g58r0 A (g57r0 A 5))) with
          | true => kk (.v (.agg [.nums .u64 4 (g59r0 A (g56r0 A (g57r0 A 4) (g58r0 A (g57r0 A 5)))), .nums .u64 4 (g56r0 A (g57r0 A 4) (g58r0 A (g57r0 A 5)))])) [(1000, ⟨[.nums .u64 4 (g59r0 A (g56r0 A (g57r0 A 4) (g58r0 A (g57r0 A 5)))), .nums .u64 4 (g56r0 A (g57r0 A 4) (g58r0 A (g57r0 A 5)))], 26, 1⟩), (2004, (bU 4 (g56r0 A (g57r0 A 4) (g58r0 A (g57r0 A 5))) 24)), (3005, (bU 4 (g59r0 A (g56r0 A (g57r0 A 4) (g58r0 A (g57r0 A 5)))) 24))]
          | false => none
        | false => none
      | false => none
    | false => none
  | false => none
section
variable {R : Type} {A : Ar} {n : Nat} {kk : AV → Heap → Option R} {tb : Nat → List Bool → St → Option R} (st : Stp (g23N A kk) tb)
include st
end
def g23is (o : Option AV) : Bool := match o with
  | some (.v (.agg [.nums .u64 4 _, .nums .u64 4 _])) => true
  | _ => false
def g23g0 (o : Option AV) : List Nat := match o with
  | some (.v (.agg [.nums .u64 4 x, .nums .u64 4 _])) => x
  | _ => []
def g23g1 (o : Option AV) : List Nat := match o with
  | some (.v (.agg [.nums .u64 4 _, .nums .u64 4 x])) => x
  | _ => []
def g23v (A : Ar)  : Option AV := g23 A (100000) (fun v _ => some v) 
def g23ok (A : Ar)  : Bool := g23is (g23v A )
def g23r0 (A : Ar)  : List Nat := g23g0 (g23v A )
def g23r1 (A : Ar)  : List Nat := g23g1 (g23v A )
def g23o (A : Ar) (args : List AV) : Option (Bool × AV) := match args with
  | [] => some (g23ok A , .v (.agg [.nums .u64 4 (g23r0 A), .nums .u64 4 (g23r1 A)]))
  | _ => none
attribute [local irreducible] g23ok g23r0 g23r1
def g28O (A : Ar) : Orc := orcOf [(61, g61o A), (59, g59o A), (44, g44o A)]
def g28an : Ann := [(0, ([0], [])), (1, ([0, 2], [1000])), (2, ([2], [1000])), (3, ([0, 2], [1000])), (4, ([2, 4], [1000, 4001])), (5, ([2, 4, 5], [1000, 4001])), (6, ([2, 4, 5], [1000, 4001])), (7, ([2, 5, 6, 7], [1000, 7006])), (8, ([2], [1000])), (9, ([2, 5, 6], [1000, 7006])), (10, ([2, 5, 6, 8, 9], [1000, 7006, 10005])), (11, ([2], [1000])), (12, ([2, 5, 6, 8], [1000, 7006, 10005])), (13, ([2, 6, 8], [1000, 7006, 10005])), (14, ([2, 6, 8], [1000, 7006, 10005]))]
def g28res : List ResultVar := [.cell 2 26, .tmp 3]
def g28cut : List Nat := [3, 9, 12, 14]
noncomputable def g28N {R : Type} (A : Ar) (kk : AV → Heap → Option R) (t : List Bool → St → Option R) (p : List Bool) (s : St) : Option R := nodeN A gtys (g28O A) g28an g28cut t (bodyOf Try.f28) (finD gtys g28res kk) p s
def g28J14 {R : Type} (A : Ar) (n : Nat) (kk : AV → Heap → Option R)  (x0 x1 : List Nat) (x2 x3 : List Nat) : Option R :=
  kk (.tup [(.agg [.nums .u64 4 x3, .nums .u64 4 x2]), (.cell (.bool true))]) [(1000, ⟨[.nums .u64 4 x3, .nums .u64 4 x2], 26, 1⟩), (7006, (bU 4 x2 24)), (10005, (bU 4 x3 24))]
def g28J12 {R : Type} (A : Ar) (n : Nat) (kk : AV → Heap → Option R)  (x0 : Bool) (x1 x2 : List Nat) (x3 x4 : List Nat) : Option R :=
  match x0 with
  | true => match g44ok A x4 with
    | true => g28J14 A n kk  x1 x2 x3 (g44r0 A x4)
    | false => none
  | false => g28J14 A n kk  x1 x2 x3 x4
def g28J9 {R : Type} (A : Ar) (n : Nat) (kk : AV → Heap → Option R)  (x0 : Bool) (x1 x2 x3 : List Nat) : Option R :=
  match g59ok A x3 with
  | true => match !(g59r1 A x3) with
    | true => kk (.tup [(.agg [.nums .u64 4 [0, 0, 0, 0], .nums .u64 4 [0, 0, 0, 0]]), (.cell (.bool false))]) [(1000, ⟨[.nums .u64 4 [0, 0, 0, 0], .nums .u64 4 [0, 0, 0, 0]], 26, 1⟩)]
    | false => match x0 with
      | true => match (A.lq (g59r0 A x3) [0, 0, 0, 0]) && true with
        | true => kk (.tup [(.agg [.nums .u64 4 [0, 0, 0, 0], .nums .u64 4 [0, 0, 0, 0]]), (.cell (.bool false))]) [(1000, ⟨[.nums .u64 4 [0, 0, 0, 0], .nums .u64 4 [0, 0, 0, 0]], 26, 1⟩)]
        | false => g28J12 A n kk  x0 x1 x2 x3 (g59r0 A x3)
      | false => g28J12 A n kk  x0 x1 x2 x3 (g59r0 A x3)
  | false => none
def g28J3 {R : Type} (A : Ar) (n : Nat) (kk : AV → Heap → Option R)  (x0 x1 x2 : List Nat) : Option R :=
  match A.le x0.length 9223372036854775807 with
  | true => match Nat.blt 31 x0.length with
    | true => match Nat.blt 31 x0.length with
      | true => match Nat.blt 31 x0.length with
        | true => match g61ok A ((x0.set 31 (A.nb .rem .u8 (x0.getD 31 0) 128)).take x0.length) with
          | true => match !(g61r1 A ((x0.set 31 (A.nb .rem .u8 (x0.getD 31 0) 128)).take x0.length)) with
            | true => kk (.tup [(.agg [.nums .u64 4 [0, 0, 0, 0], .nums .u64 4 [0, 0, 0, 0]]), (.cell (.bool false))]) [(1000, ⟨[.nums .u64 4 [0, 0, 0, 0], .nums .u64 4 [0, 0, 0, 0]], 26, 1⟩)]
            | false => g28J9 A n kk  (A.nc .geq (x0.getD 31 0) 128) x1 x2 (g61r0 A ((x0.set 31 (A.nb .rem .u8 (x0.getD 31 0) 128)).take x0.length))
          | false => none
        | false => none
      | false => none
    | false => none
  | false => none
def g28 {R : Type} (A : Ar) (n : Nat) (kk : AV → Heap → Option R) (a : List Nat) : Option R :=
  match A.ic .neq (A.ofN a.length) 32 with
  | true => kk (.tup [(.agg [.nums .u64 4 [0, 0, 0, 0], .nums .u64 4 [0, 0, 0, 0]]), (.cell (.bool false))]) [(1000, ⟨[.nums .u64 4 [0, 0, 0, 0], .nums .u64 4 [0, 0, 0, 0]], 26, 1⟩)]
  | false => g28J3 A n kk  a [0, 0, 0, 0] [0, 0, 0, 0]
section
variable {R : Type} {A : Ar} {n : Nat} {kk : AV → Heap → Option R} {tb : Nat → List Bool → St → Option R} (st : Stp (g28N A kk) tb)
include st
end
def g28is (o : Option AV) : Bool := match o with
  | some (.tup [.agg [.nums .u64 4 _, .nums .u64 4 _], .cell (.bool _)]) => true
  | _ => false
def g28g0 (o : Option AV) : List Nat := match o with
  | some (.tup [.agg [.nums .u64 4 x, .nums .u64 4 _], .cell (.bool _)]) => x
  | _ => []
def g28g1 (o : Option AV) : List Nat := match o with
  | some (.tup [.agg [.nums .u64 4 _, .nums .u64 4 x], .cell (.bool _)]) => x
  | _ => []
def g28g2 (o : Option AV) : Bool := match o with
  | some (.tup [.agg [.nums .u64 4 _, .nums .u64 4 _], .cell (.bool x)]) => x
  | _ => false
def g28v (A : Ar) (a : List Nat) : Option AV := g28 A (100000) (fun v _ => some v) a
def g28ok (A : Ar) (a : List Nat) : Bool := g28is (g28v A a)
def g28r0 (A : Ar) (a : List Nat) : List Nat := g28g0 (g28v A a)
def g28r1 (A : Ar) (a : List Nat) : List Nat := g28g1 (g28v A a)
def g28r2 (A : Ar) (a : List Nat) : Bool := g28g2 (g28v A a)
attribute [local irreducible] g28ok g28r0 g28r1 g28r2
end Go.Sx
namespace Go.Sx
set_option linter.unusedSectionVars false
open Go.Proofs
set_option linter.unusedVariables false
set_option maxRecDepth 100000
theorem SxY05epi {R : Type} (c : Bool) {f1 f2 : Nat → Option R} {a1 a2 : Option R} (h1 : Prs f1 a1) (h2 : Prs f2 a2) : Prs (fun k => match c with | true => f1 k | false => f2 k) (match c with | true => a1 | false => a2) := by cases c <;> assumption
attribute [local irreducible] g31ok g31r0 g18ok g18r0 g12ok g12r0 g12r1 g24ok g24r0 g24r1 g14ok g14r0 g14r1 g22ok g22r0 g22r1 g30ok g30r0 g32ok g32r0 g21ok g21r0 g21r1 g23ok g23r0 g23r1
def g10O (A : Ar) : Orc := orcOf [(22, g22o A), (12, g12o A), (18, g18o A), (30, g30o A), (24, g24o A), (14, g14o A), (31, g31o A), (32, g32o A)]
theorem g10O_sound : OSound Try.prog (g10O realA) := orc_sound fun f g hm args v hv => by
  simp only [List.mem_cons, List.not_mem_nil, or_false, Prod.mk.injEq] at hm
  rcases hm with ⟨rfl, rfl⟩ | ⟨rfl, rfl⟩ | ⟨rfl, rfl⟩ | ⟨rfl, rfl⟩ | ⟨rfl, rfl⟩ | ⟨rfl, rfl⟩ | ⟨rfl, rfl⟩ | ⟨rfl, rfl⟩
  · exact g22o_sound _ _ hv
  · exact g12o_sound _ _ hv
  · exact g18o_sound _ _ hv
  · exact g30o_sound _ _ hv
  · exact g24o_sound _ _ hv
  · exact g14o_sound _ _ hv
  · exact g31o_sound _ _ hv
  · exact g32o_sound _ _ hv
theorem g10O_det : ODet (g10O realA) := orc_det _
def g10an : Ann := [(0, ([], [])), (1, ([], [])), (2, ([1], [2001])), (3, ([1, 2, 3], [2001]))]
def g10res : List ResultVar := [.tmp 0]
def g10cut : List Nat := []
noncomputable def g10N {R : Type} (A : Ar) (kk : AV → Heap → Option R) (t : List Bool → St → Option R) (p : List Bool) (s : St) : Option R := nodeN A gtys (g10O A) g10an g10cut t (bodyOf Try.f10) (finD gtys g10res kk) p s
def g10 {R : Type} (A : Ar) (n : Nat) (kk : AV → Heap → Option R)  : Option R :=
  match g22ok A with
  | true => match g12ok A (g22r0 A) (g22r1 A) with
    | true => match g18ok A (g22r0 A) (g22r1 A) with
      | true => match g18r0 A (g22r0 A) (g22r1 A) with
        | true => match g12r1 A (g22r0 A) (g22r1 A) with
          | true => match g30ok A with
            | true => match A.le ([88].length + (g30r0 A).length) 9223372036854775807 with
              | true => match A.sc .eql (g12r0 A (g22r0 A) (g22r1 A)) ([88] ++ (g30r0 A)) with
                | true => match g24ok A with
                  | true => match g14ok A (g22r0 A) (g22r1 A) (g24r0 A) (g24r1 A) with
                    | true => match (A.lq (g14r0 A (g22r0 A) (g22r1 A) (g24r0 A) (g24r1 A)) (g22r0 A)) && ((A.lq (g14r1 A (g22r0 A) (g22r1 A) (g24r0 A) (g24r1 A)) (g22r1 A)) && true) with
                      | true => match g31ok A with
                        | true => match g32ok A with
                          | true => kk (bO ((A.lq (g31r0 A) (g32r0 A)) && true)) [(2001, ⟨[.nums .u64 4 (g22r0 A), .nums .u64 4 (g22r1 A)], 26, 1⟩)]
                          | false => none
                        | false => none
                      | false => kk (bO false) [(2001, ⟨[.nums .u64 4 (g22r0 A), .nums .u64 4 (g22r1 A)], 26, 1⟩)]
                    | false => none
                  | false => none
                | false => kk (bO false) [(2001, ⟨[.nums .u64 4 (g22r0 A), .nums .u64 4 (g22r1 A)], 26, 1⟩)]
              | false => none
            | false => none
          | false => kk (bO false) [(2001, ⟨[.nums .u64 4 (g22r0 A), .nums .u64 4 (g22r1 A)], 26, 1⟩)]
        | false => kk (bO false) [(2001, ⟨[.nums .u64 4 (g22r0 A), .nums .u64 4 (g22r1 A)], 26, 1⟩)]
      | false => none
    | false => none
  | false => none
section
variable {R : Type} {A : Ar} {n : Nat} {kk : AV → Heap → Option R} {tb : Nat → List Bool → St → Option R} (st : Stp (g10N A kk) tb)
include st
theorem g10_go  : Prs (fun k => funN A gtys (g10O A) g10an g10cut (bodyOf Try.f10) g10res [] [] kk (tb k)) (g10 A n kk ) := by
  unfold g10
  exact pc (SxY05epi _ (SxY05epi _ (SxY05epi _ (SxY05epi _ (SxY05epi _ (SxY05epi _ (SxY05epi _ (SxY05epi _ (SxY05epi _ (SxY05epi _ (SxY05epi _ (SxY05epi _ (SxY05epi _ (pf _) pn) pn) (pf _)) pn) pn) (pf _)) pn) pn) (pf _)) (pf _)) pn) pn) pn) (by kernel_rfl)
end
def g10is (o : Option AV) : Bool := match o with
  | some (.v (.cell (.bool _))) => true
  | _ => false
def g10g0 (o : Option AV) : Bool := match o with
  | some (.v (.cell (.bool x))) => x
  | _ => false
theorem g10is_spec {o : Option AV} (h : g10is o = true) : o = some (.v (.cell (.bool (g10g0 o)))) := by
  unfold g10is at h
  split at h
  · rfl
  · cases h
def g10v (A : Ar)  : Option AV := g10 A (100000) (fun v _ => some v) 
def g10ok (A : Ar)  : Bool := g10is (g10v A )
def g10r0 (A : Ar)  : Bool := g10g0 (g10v A )
theorem g10ok_spec {A : Ar} (h : g10ok A = true) : g10v A = some (.v (.cell (.bool (g10r0 A)))) := g10is_spec h
def g10o (A : Ar) (args : List AV) : Option (Bool × AV) := match args with
  | [] => some (g10ok A , .v (.cell (.bool (g10r0 A))))
  | _ => none
theorem g10o_sound : ∀ args v, g10o realA args = some (true, v) → Fn1 Try.prog 10 args v := by
  intro args v h
  unfold g10o at h
  split at h
  · simp only [Option.some.injEq, Prod.mk.injEq] at h
    obtain ⟨hc, h⟩ := h
    subst h
    · skip
      exact fn1_ofG mixed gtysOK g10O_sound g10O_det (an := g10an) (cut := g10cut) Try.func10 (c := bodyOf Try.f10) rfl (by kernel_rfl) Try.call10 (Nat.le_of_ble_eq_true rfl) (fun b => rfl) (fun _ => (show g10v realA  = _ from g10ok_spec hc)) fun _ st => g10_go st
  · cases h
attribute [local irreducible] g10ok g10r0
def g11O (A : Ar) : Orc := orcOf [(23, g23o A), (21, g21o A)]
def g11an : Ann := [(0, ([0, 1, 2], [])), (1, ([0, 2, 4, 6], [1000, 1001])), (2, ([4, 6], [1000, 1001])), (3, ([0, 6], [1001]))]
def g11res : List ResultVar := [.cell 6 26]
def g11cut : List Nat := [3]
noncomputable def g11N {R : Type} (A : Ar) (kk : AV → Heap → Option R) (t : List Bool → St → Option R) (p : List Bool) (s : St) : Option R := nodeN A gtys (g11O A) g11an g11cut t (bodyOf Try.f11) (finD gtys g11res kk) p s
def g11J3 {R : Type} (A : Ar) (n : Nat) (kk : AV → Heap → Option R)  (x0 x1 x2 : List Nat) : Option R :=
  match A.neg (A.mn (A.ofN x0.length) 8) with
  | true => none
  | false => match A.le (A.toN (A.mn (A.ofN x0.length) 8)) x0.length with
    | true => match g23ok A with
      | true => match g21ok A ((x0.take (A.toN (A.mn (A.ofN x0.length) 8))).drop 0) (g23r0 A) (g23r1 A) with
        | true => kk (.v (.agg [.nums .u64 4 (g21r0 A ((x0.take (A.toN (A.mn (A.ofN x0.length) 8))).drop 0) (g23r0 A) (g23r1 A)), .nums .u64 4 (g21r1 A ((x0.take (A.toN (A.mn (A.ofN x0.length) 8))).drop 0) (g23r0 A) (g23r1 A))])) [(1001, ⟨[.nums .u64 4 (g21r0 A ((x0.take (A.toN (A.mn (A.ofN x0.length) 8))).drop 0) (g23r0 A) (g23r1 A)), .nums .u64 4 (g21r1 A ((x0.take (A.toN (A.mn (A.ofN x0.length) 8))).drop 0) (g23r0 A) (g23r1 A))], 26, 1⟩)]
        | false => none
      | false => none
    | false => none
def g11 {R : Type} (A : Ar) (n : Nat) (kk : AV → Heap → Option R) (a b0 b1 : List Nat) (c : Bool) : Option R :=
  match c with
  | true => kk (.v (.agg [.nums .u64 4 b0, .nums .u64 4 b1])) [(1000, ⟨[.nums .u64 4 b0, .nums .u64 4 b1], 26, 1⟩), (1001, ⟨[.nums .u64 4 b0, .nums .u64 4 b1], 26, 1⟩)]
  | false => g11J3 A n kk  a [0, 0, 0, 0] [0, 0, 0, 0]
section
variable {R : Type} {A : Ar} {n : Nat} {kk : AV → Heap → Option R} {tb : Nat → List Bool → St → Option R} (st : Stp (g11N A kk) tb)
include st
end
def g11is (o : Option AV) : Bool := match o with
  | some (.v (.agg [.nums .u64 4 _, .nums .u64 4 _])) => true
  | _ => false
def g11g0 (o : Option AV) : List Nat := match o with
  | some (.v (.agg [.nums .u64 4 x, .nums .u64 4 _])) => x
  | _ => []
def g11g1 (o : Option AV) : List Nat := match o with
  | some (.v (.agg [.nums .u64 4 _, .nums .u64 4 x])) => x
  | _ => []
def g11v (A : Ar) (a b0 b1 : List Nat) (c : Bool) : Option AV := g11 A (100000) (fun v _ => some v) a b0 b1 c
def g11ok (A : Ar) (a b0 b1 : List Nat) (c : Bool) : Bool := g11is (g11v A a b0 b1 c)
def g11r0 (A : Ar) (a b0 b1 : List Nat) (c : Bool) : List Nat := g11g0 (g11v A a b0 b1 c)
def g11r1 (A : Ar) (a b0 b1 : List Nat) (c : Bool) : List Nat := g11g1 (g11v A a b0 b1 c)
attribute [local irreducible] g11ok g11r0 g11r1
end Go.Sx
namespace Go.Sx
set_option linter.unusedSectionVars false
def PI : Int := 57896044618658097711785492504343953926634992332820282019728792003956564819949
theorem PI_PP : (PP : Int) = PI := by decide
theorem PI_pos : 0 < PI := by decide
def fi (x : Int) : List Nat := fe (x % PI).toNat
theorem toN_lt (x : Int) : (x % PI).toNat < PP := by
  have h1 := Int.emod_lt_of_pos x PI_pos
  have h2 := Int.emod_nonneg x (show PI ≠ 0 by decide)
  have := PI_PP
  omega
theorem fi_congr {x y : Int} (h : x % PI = y % PI) : fi x = fi y := by unfold fi; rw [h]
theorem fi_W4 (x : Int) : W4 (fi x) := fe_W4 _
theorem num_fi (x : Int) : num (fi x) = (x % PI).toNat := num_fe (Nat.lt_trans (toN_lt x) (by decide))
theorem fi_inj {x y : Int} : fi x = fi y ↔ x % PI = y % PI := by
  constructor
  · intro h
    have h2 : num (fi x) = num (fi y) := by rw [h]
    rw [num_fi, num_fi] at h2
    have a := Int.emod_nonneg x (show PI ≠ 0 by decide)
    have b := Int.emod_nonneg y (show PI ≠ 0 by decide)
    omega
  · exact fi_congr
theorem castN (x : Int) : (((x % PI).toNat : Nat) : Int) = x % PI := Int.toNat_of_nonneg (Int.emod_nonneg x (show PI ≠ 0 by decide))
theorem fm_fi {n : Nat} {x : Int} (h : (n : Int) % PI = x % PI) : fm n = fi x := by
  unfold fm fi
  congr 1
  have e : ((n % PP : Nat) : Int) = x % PI := by rw [← h, ← PI_PP]; exact Int.natCast_emod n PP
  omega
theorem fe_fi {n : Nat} (h : n < PP) : fe n = fi n := by
  have : fe n = fm n := by unfold fm; rw [Nat.mod_eq_of_lt h]
  rw [this]; exact fm_fi rfl
theorem raw_fi {a : List Nat} (h : W4 a) (hl : num a < PP) : a = fi (num a) := by rw [← fe_fi hl]; exact (fe_num h).symm
theorem fi0 : fi 0 = [0, 0, 0, 0] := by decide
theorem fmulI (x y : Int) : g46ok realA (fi x) (fi y) = true ∧ g46r0 realA (fi x) (fi y) = fi (x * y) := by
  obtain ⟨h1, h2⟩ := mulOk (fi_W4 x) (fi_W4 y)
  refine ⟨h1, h2.trans (fm_fi ?_)⟩
  rw [num_fi, num_fi, Int.natCast_mul, castN, castN, ← Int.mul_emod]
theorem addI' (x y : Int) : g66ok realA (fi x) (fi y) = true ∧ g66r0 realA (fi x) (fi y) = fi (x + y) := by
  obtain ⟨h1, h2⟩ := addOk (fi_W4 x) (fi_W4 y)
  refine ⟨h1, h2.trans (fm_fi ?_)⟩
  rw [num_fi, num_fi, Int.natCast_add, castN, castN, ← Int.add_emod]
theorem natM {a b : Nat} (h : a % PP = b % PP) : (a : Int) % PI = (b : Int) % PI := by
  rw [← PI_PP]
  exact_mod_cast congrArg (Nat.cast (R := Int)) h
theorem cancelI {a b c : Int} (h : (a + b) % PI = c % PI) : a % PI = (c - b) % PI := by
  have : ((a + b) - b) % PI = (c - b) % PI := by rw [Int.sub_emod, h, ← Int.sub_emod]
  rwa [Int.add_sub_cancel] at this
theorem subI' (x y : Int) : g47ok realA (fi x) (fi y) = true ∧ g47r0 realA (fi x) (fi y) = fi (x - y) := by
  obtain ⟨z, h1, h2, h3⟩ := subOk (fi_W4 x) (fi_W4 y)
  refine ⟨h1, h2.trans (fm_fi ?_)⟩
  have := natM h3
  rw [Int.natCast_add, num_fi, num_fi, castN, castN, Int.emod_emod] at this
  have := cancelI this
  rw [this, Int.sub_emod, Int.emod_emod, ← Int.sub_emod]
theorem negI' (x : Int) : g43ok realA (fi x) = true ∧ g43r0 realA (fi x) = fi (-x) := by
  obtain ⟨z, h1, h2, h3⟩ := negOk (fi_W4 x)
  refine ⟨h1, h2.trans (fm_fi ?_)⟩
  have := natM (h3.trans (Nat.zero_mod PP).symm)
  rw [Int.natCast_add, num_fi, castN] at this
  have := cancelI this
  rw [this, Int.sub_emod, Int.emod_emod, ← Int.sub_emod, show ((0 : Nat) : Int) - x = -x by omega]
theorem smallI {n : Nat} (h : n < 18446744073709551616) : g48ok realA n = true ∧ g48r0 realA n = fi n := by
  obtain ⟨h1, h2⟩ := smallOk h
  exact ⟨h1, h2.trans (fe_fi (Nat.lt_trans h (by decide)))⟩
theorem rightI {a : List Nat} (h : W4 a) : g45ok realA a = true ∧ g45r0 realA a = decide (num a < PP) := rightOk h
theorem lqI (x y : Int) : realA.lq (fi x) (fi y) = decide (x % PI = y % PI) := by
  rw [lqE]
  exact decide_eq_decide.2 fi_inj
theorem oddI (x : Int) : g29ok realA (fi x) = true ∧ g29r0 realA (fi x) = decide (x % PI % 2 = 1) := by
  obtain ⟨h1, h2⟩ := oddOk (fi_W4 x)
  refine ⟨h1, h2.trans ?_⟩
  rw [num_fi, Nat.mod_eq_of_lt (toN_lt x)]
  have := castN x
  exact decide_eq_decide.2 (by omega)
def iv (x : Int) : Int := (pw (x % PI).toNat PT : Nat)
theorem PT_lt : PT < 2 ^ 256 := by decide
theorem iv_spec (x : Int) : iv x % PI = (((x % PI).toNat ^ PT : Nat) : Int) % PI := by
  unfold iv
  rw [pw_spec _ _ PT_lt, ← PI_PP]
  rw [Int.natCast_emod, Int.emod_emod]
theorem powI (x : Int) {e : List Nat} (he : W4 e) {k : Nat} (hk : num e = k) : g73ok realA (fi x) e = true ∧ g73r0 realA (fi x) e = fm ((x % PI).toNat ^ k) := by
  obtain ⟨h1, h2⟩ := powOk (fi_W4 x) he
  exact ⟨h1, by rw [h2, num_fi, hk]⟩
theorem g54Shape (A : Ar) (n : Nat) (a e r : List Nat) (he : (((([0, 0, 0, 0] : List Nat).set 0 18446744073709551595).set 1 18446744073709551615).set 2 18446744073709551615).set 3 9223372036854775807 = e) (h1 : g73ok A a e = true) (h2 : g73r0 A a e = r) : g54 A n (fun v _ => some v) a = some (.v (.agg [.nums .u64 4 r])) := by
  unfold g54
  rw [he, h1, h2]
theorem g54of {A : Ar} {a r : List Nat} (e : g54v A a = some (.v (.agg [.nums .u64 4 r]))) : g54ok A a = true ∧ g54r0 A a = r := ⟨by unfold g54ok; rw [e]; rfl, by unfold g54r0; rw [e]; rfl⟩
theorem invI (x : Int) : g54ok realA (fi x) = true ∧ g54r0 realA (fi x) = fi (iv x) := by
  obtain ⟨h1, h2⟩ := powI x WPT2 (k := PT) (by decide)
  have := g54of (g54Shape realA 100000 (fi x) _ _ rfl h1 h2)
  refine ⟨this.1, this.2.trans (fm_fi (iv_spec x).symm)⟩
theorem rootI (u v : Int) : g74ok realA (fi u) (fi v) = true ∧ g74r0 realA (fi u) (fi v) = fi (rootN (u % PI).toNat (v % PI).toNat).1 ∧ g74r1 realA (fi u) (fi v) = (rootN (u % PI).toNat (v % PI).toNat).2 := by
  obtain ⟨h1, h2, h3⟩ := rootOk (toN_lt u) (toN_lt v)
  refine ⟨h1, h2.trans (fe_fi ?_), h3⟩
  cases h : (rootN (u % PI).toNat (v % PI).toNat).2 with
  | true => exact (rootN_true (toN_lt u) h).2.1
  | false => rw [rootN_false h]; exact PP_pos
theorem rmulI (x y : Int) : g56ok realA (fi x) (fi y) = true ∧ g56r0 realA (fi x) (fi y) = fi (x * y) := by
  obtain ⟨h1, h2⟩ := refMul (fi_W4 x) (fi_W4 y)
  refine ⟨h1, h2.trans (fm_fi ?_)⟩
  rw [num_fi, num_fi, Int.natCast_mul, castN, castN, ← Int.mul_emod]
theorem raddI (x y : Int) : g67ok realA (fi x) (fi y) = true ∧ g67r0 realA (fi x) (fi y) = fi (x + y) := by
  obtain ⟨h1, h2⟩ := refAdd (fi_W4 x) (fi_W4 y)
  refine ⟨h1, h2.trans (fm_fi ?_)⟩
  rw [num_fi, num_fi, Int.natCast_add, castN, castN, ← Int.add_emod]
theorem rsubI (x y : Int) : g68ok realA (fi x) (fi y) = true ∧ g68r0 realA (fi x) (fi y) = fi (x - y) := by
  obtain ⟨z, h1, h2, h3⟩ := refSub (fi_W4 x) (fi_W4 y)
  refine ⟨h1, h2.trans (fm_fi ?_)⟩
  have := natM h3
  rw [Int.natCast_add, num_fi, num_fi, castN, castN, Int.emod_emod] at this
  have := cancelI this
  rw [this, Int.sub_emod, Int.emod_emod, ← Int.sub_emod]
theorem rnegI (x : Int) : g44ok realA (fi x) = true ∧ g44r0 realA (fi x) = fi (-x) := by
  obtain ⟨z, h1, h2, h3⟩ := refNeg (fi_W4 x)
  refine ⟨h1, h2.trans (fm_fi ?_)⟩
  have := natM (h3.trans (Nat.zero_mod PP).symm)
  rw [Int.natCast_add, num_fi, castN] at this
  have := cancelI this
  rw [this, Int.sub_emod, Int.emod_emod, ← Int.sub_emod, show ((0 : Nat) : Int) - x = -x by omega]
theorem rsmallI {n : Nat} (h : n < 18446744073709551616) : g57ok realA n = true ∧ g57r0 realA n = fi n := by
  obtain ⟨h1, h2⟩ := small2 h
  exact ⟨h1, h2.trans (fe_fi (Nat.lt_trans h (by decide)))⟩
theorem roddI (x : Int) : g35ok realA (fi x) = true ∧ g35r0 realA (fi x) = decide (x % PI % 2 = 1) := by
  obtain ⟨h1, h2⟩ := refOdd (fi_W4 x)
  refine ⟨h1, h2.trans ?_⟩
  rw [num_fi, Nat.mod_eq_of_lt (toN_lt x)]
  have := castN x
  exact decide_eq_decide.2 (by omega)
theorem rinvI (x : Int) : g58ok realA (fi x) = true ∧ g58r0 realA (fi x) = fi (iv x) := by
  have hr : Rep (fi x) (x % PI).toNat := ⟨fi_W4 x, by rw [num_fi, Nat.mod_eq_of_lt (toN_lt x)], toN_lt x⟩
  obtain ⟨h1, h2⟩ := invR2 hr
  refine ⟨h1, h2.trans ?_⟩
  rw [fe_fi (Nat.mod_lt _ PP_pos)]
  refine fi_congr ?_
  rw [iv_spec, ← PI_PP, Int.natCast_emod, Int.emod_emod]
theorem rrootI (u v : Int) : g77ok realA (fi u) (fi v) = true ∧ g77r0 realA (fi u) (fi v) = fi (rootN (u % PI).toNat (v % PI).toNat).1 ∧ g77r1 realA (fi u) (fi v) = (rootN (u % PI).toNat (v % PI).toNat).2 := by
  have hr : ∀ x, Rep (fi x) (x % PI).toNat := fun x => ⟨fi_W4 x, by rw [num_fi, Nat.mod_eq_of_lt (toN_lt x)], toN_lt x⟩
  obtain ⟨h1, h2, h3⟩ := refRoot2 (hr u) (hr v)
  rw [refN_eq (toN_lt u)] at h2 h3
  refine ⟨h1, h2.trans (fe_fi ?_), h3⟩
  cases h : (rootN (u % PI).toNat (v % PI).toNat).2 with
  | true => exact (rootN_true (toN_lt u) h).2.1
  | false => rw [rootN_false h]; exact PP_pos
theorem rrightI {a : List Nat} (h : W4 a) : g49ok realA a = true ∧ g49r0 realA a = decide (num a < PP) := refRight h
theorem ivMul {x : Int} (h : ¬ x % PI = 0) : (x * iv x) % PI = 1 := by
  have h1 : (x % PI).toNat % PP ≠ 0 := by
    rw [Nat.mod_eq_of_lt (toN_lt x)]
    have := castN x
    omega
  have h2 := inv_mul h1
  have h3 : (((x % PI).toNat * ((x % PI).toNat ^ PT % PP) % PP : Nat) : Int) = 1 := by rw [h2]; rfl
  rw [Int.natCast_emod, Int.natCast_mul, Int.natCast_emod, PI_PP, castN] at h3
  rw [Int.mul_emod, iv_spec, ← h3, Int.mul_emod (x % PI), Int.emod_emod, Int.emod_emod]
structure FOK (A : Ar) : Prop where
  mul : ∀ x y : Int, g46ok A (fi x) (fi y) = true ∧ g46r0 A (fi x) (fi y) = fi (x * y)
  add : ∀ x y : Int, g66ok A (fi x) (fi y) = true ∧ g66r0 A (fi x) (fi y) = fi (x + y)
  sub : ∀ x y : Int, g47ok A (fi x) (fi y) = true ∧ g47r0 A (fi x) (fi y) = fi (x - y)
  neg : ∀ x : Int, g43ok A (fi x) = true ∧ g43r0 A (fi x) = fi (-x)
  small : ∀ n : Nat, n < 18446744073709551616 → g48ok A n = true ∧ g48r0 A n = fi n
  right : ∀ a, W4 a → g45ok A a = true ∧ g45r0 A a = decide (num a < PP)
  odd : ∀ x : Int, g29ok A (fi x) = true ∧ g29r0 A (fi x) = decide (x % PI % 2 = 1)
  inv : ∀ x : Int, g54ok A (fi x) = true ∧ g54r0 A (fi x) = fi (iv x)
  root : ∀ u v : Int, g74ok A (fi u) (fi v) = true ∧ g74r0 A (fi u) (fi v) = fi (rootN (u % PI).toNat (v % PI).toNat).1 ∧ g74r1 A (fi u) (fi v) = (rootN (u % PI).toNat (v % PI).toNat).2
  lq : ∀ x y : Int, A.lq (fi x) (fi y) = decide (x % PI = y % PI)
  rmul : ∀ x y : Int, g56ok A (fi x) (fi y) = true ∧ g56r0 A (fi x) (fi y) = fi (x * y)
  radd : ∀ x y : Int, g67ok A (fi x) (fi y) = true ∧ g67r0 A (fi x) (fi y) = fi (x + y)
  rsub : ∀ x y : Int, g68ok A (fi x) (fi y) = true ∧ g68r0 A (fi x) (fi y) = fi (x - y)
  rneg : ∀ x : Int, g44ok A (fi x) = true ∧ g44r0 A (fi x) = fi (-x)
  rsmall : ∀ n : Nat, n < 18446744073709551616 → g57ok A n = true ∧ g57r0 A n = fi n
  rright : ∀ a, W4 a → g49ok A a = true ∧ g49r0 A a = decide (num a < PP)
  rodd : ∀ x : Int, g35ok A (fi x) = true ∧ g35r0 A (fi x) = decide (x % PI % 2 = 1)
  rinv : ∀ x : Int, g58ok A (fi x) = true ∧ g58r0 A (fi x) = fi (iv x)
  rroot : ∀ u v : Int, g77ok A (fi u) (fi v) = true ∧ g77r0 A (fi u) (fi v) = fi (rootN (u % PI).toNat (v % PI).toNat).1 ∧ g77r1 A (fi u) (fi v) = (rootN (u % PI).toNat (v % PI).toNat).2
  bytes : ∀ a, W4 a → g33ok A a = true ∧ g33r0 A a = le32 (num a % PP)
  rbytes : ∀ a, W4 a → g34ok A a = true ∧ g34r0 A a = le32 (num a % PP)
theorem fok : FOK realA where
  mul := fmulI
  add := addI'
  sub := subI'
  neg := negI'
  small := fun _ => smallI
  right := fun _ => rightI
  odd := oddI
  inv := invI
  root := rootI
  lq := lqI
  rmul := rmulI
  radd := raddI
  rsub := rsubI
  rneg := rnegI
  rsmall := fun _ => rsmallI
  rright := fun _ => rrightI
  rodd := roddI
  rinv := rinvI
  rroot := rrootI
  bytes := fun _ => bytesOk
  rbytes := fun _ => refBytes
end Go.Sx
namespace Go.Sx
set_option linter.unusedSectionVars false
theorem g31of {A : Ar} {x : List Nat} (e : g31v A = some (.v (.agg [.nums .u64 4 x]))) : g31ok A = true ∧ g31r0 A = x := ⟨by unfold g31ok; rw [e]; rfl, by unfold g31r0; rw [e]; rfl⟩
theorem g32of {A : Ar} {x : List Nat} (e : g32v A = some (.v (.agg [.nums .u64 4 x]))) : g32ok A = true ∧ g32r0 A = x := ⟨by unfold g32ok; rw [e]; rfl, by unfold g32r0; rw [e]; rfl⟩
theorem g24of {A : Ar} {x : List Nat} {y : List Nat} (e : g24v A = some (.v (.agg [.nums .u64 4 x, .nums .u64 4 y]))) : g24ok A = true ∧ g24r0 A = x ∧ g24r1 A = y := ⟨by unfold g24ok; rw [e]; rfl, by unfold g24r0; rw [e]; rfl, by unfold g24r1; rw [e]; rfl⟩
theorem g25of {A : Ar} {x : List Nat} {y : List Nat} (e : g25v A = some (.v (.agg [.nums .u64 4 x, .nums .u64 4 y]))) : g25ok A = true ∧ g25r0 A = x ∧ g25r1 A = y := ⟨by unfold g25ok; rw [e]; rfl, by unfold g25r0; rw [e]; rfl, by unfold g25r1; rw [e]; rfl⟩
theorem g22of {A : Ar} {x : List Nat} {y : List Nat} (e : g22v A = some (.v (.agg [.nums .u64 4 x, .nums .u64 4 y]))) : g22ok A = true ∧ g22r0 A = x ∧ g22r1 A = y := ⟨by unfold g22ok; rw [e]; rfl, by unfold g22r0; rw [e]; rfl, by unfold g22r1; rw [e]; rfl⟩
theorem g23of {A : Ar} {x : List Nat} {y : List Nat} (e : g23v A = some (.v (.agg [.nums .u64 4 x, .nums .u64 4 y]))) : g23ok A = true ∧ g23r0 A = x ∧ g23r1 A = y := ⟨by unfold g23ok; rw [e]; rfl, by unfold g23r0; rw [e]; rfl, by unfold g23r1; rw [e]; rfl⟩
theorem g16of {A : Ar} {a b : List Nat} {x : List Nat} {y : List Nat} (e : g16v A a b = some (.v (.agg [.nums .u64 4 x, .nums .u64 4 y]))) : g16ok A a b = true ∧ g16r0 A a b = x ∧ g16r1 A a b = y := ⟨by unfold g16ok; rw [e]; rfl, by unfold g16r0; rw [e]; rfl, by unfold g16r1; rw [e]; rfl⟩
theorem g14of {A : Ar} {a b c d : List Nat} {x : List Nat} {y : List Nat} (e : g14v A a b c d = some (.v (.agg [.nums .u64 4 x, .nums .u64 4 y]))) : g14ok A a b c d = true ∧ g14r0 A a b c d = x ∧ g14r1 A a b c d = y := ⟨by unfold g14ok; rw [e]; rfl, by unfold g14r0; rw [e]; rfl, by unfold g14r1; rw [e]; rfl⟩
theorem g38of {A : Ar} {a b c d z : List Nat} {x : List Nat} {y : List Nat} (e : g38v A a b c d z = some (.v (.agg [.nums .u64 4 x, .nums .u64 4 y]))) : g38ok A a b c d z = true ∧ g38r0 A a b c d z = x ∧ g38r1 A a b c d z = y := ⟨by unfold g38ok; rw [e]; rfl, by unfold g38r0; rw [e]; rfl, by unfold g38r1; rw [e]; rfl⟩
theorem g36of {A : Ar} {a b : List Nat} {x : List Nat} {y : List Nat} {u : List Nat} {v : List Nat} {w : List Nat} (e : g36v A a b = some (.v (.agg [.nums .u64 4 x, .nums .u64 4 y, .nums .u64 4 u, .nums .u64 4 v, .nums .u64 4 w]))) : g36ok A a b = true ∧ g36r0 A a b = x ∧ g36r1 A a b = y ∧ g36r2 A a b = u ∧ g36r3 A a b = v ∧ g36r4 A a b = w := ⟨by unfold g36ok; rw [e]; rfl, by unfold g36r0; rw [e]; rfl, by unfold g36r1; rw [e]; rfl, by unfold g36r2; rw [e]; rfl, by unfold g36r3; rw [e]; rfl, by unfold g36r4; rw [e]; rfl⟩
theorem g37of {A : Ar} {a b c d z a2 b2 c2 d2 z2 : List Nat} {x : List Nat} {y : List Nat} {u : List Nat} {v : List Nat} {w : List Nat} (e : g37v A a b c d z a2 b2 c2 d2 z2 = some (.v (.agg [.nums .u64 4 x, .nums .u64 4 y, .nums .u64 4 u, .nums .u64 4 v, .nums .u64 4 w]))) : g37ok A a b c d z a2 b2 c2 d2 z2 = true ∧ g37r0 A a b c d z a2 b2 c2 d2 z2 = x ∧ g37r1 A a b c d z a2 b2 c2 d2 z2 = y ∧ g37r2 A a b c d z a2 b2 c2 d2 z2 = u ∧ g37r3 A a b c d z a2 b2 c2 d2 z2 = v ∧ g37r4 A a b c d z a2 b2 c2 d2 z2 = w := ⟨by unfold g37ok; rw [e]; rfl, by unfold g37r0; rw [e]; rfl, by unfold g37r1; rw [e]; rfl, by unfold g37r2; rw [e]; rfl, by unfold g37r3; rw [e]; rfl, by unfold g37r4; rw [e]; rfl⟩
theorem g18of {A : Ar} {a b : List Nat} {t : Bool} (e : g18v A a b = some (.v (.cell (.bool t)))) : g18ok A a b = true ∧ g18r0 A a b = t := ⟨by unfold g18ok; rw [e]; rfl, by unfold g18r0; rw [e]; rfl⟩
theorem g55of {A : Ar} {a : List Nat} {x : List Nat} {t : Bool} (e : g55v A a = some (.tup [.agg [.nums .u64 4 x], .cell (.bool t)])) : g55ok A a = true ∧ g55r0 A a = x ∧ g55r1 A a = t := ⟨by unfold g55ok; rw [e]; rfl, by unfold g55r0; rw [e]; rfl, by unfold g55r1; rw [e]; rfl⟩
theorem g59of {A : Ar} {a : List Nat} {x : List Nat} {t : Bool} (e : g59v A a = some (.tup [.agg [.nums .u64 4 x], .cell (.bool t)])) : g59ok A a = true ∧ g59r0 A a = x ∧ g59r1 A a = t := ⟨by unfold g59ok; rw [e]; rfl, by unfold g59r0; rw [e]; rfl, by unfold g59r1; rw [e]; rfl⟩
theorem g12of {A : Ar} {a b : List Nat} {x : List Nat} {t : Bool} (e : g12v A a b = some (.tup [.cell (.str x), .cell (.bool t)])) : g12ok A a b = true ∧ g12r0 A a b = x ∧ g12r1 A a b = t := ⟨by unfold g12ok; rw [e]; rfl, by unfold g12r0; rw [e]; rfl, by unfold g12r1; rw [e]; rfl⟩
theorem g30of {A : Ar} {x : List Nat} (e : g30v A = some (.v (.cell (.str x)))) : g30ok A = true ∧ g30r0 A = x := ⟨by unfold g30ok; rw [e]; rfl, by unfold g30r0; rw [e]; rfl⟩

def dI : Int := -(121665 : Nat) * iv (121666 : Nat)
def onZ (x y : Int) : Bool := decide ((y * y - x * x - dI * (x * x * (y * y))) % PI = 1 % PI)
def onW (a b : List Nat) : Bool := decide (num a < PP) && (decide (num b < PP) && onZ (num a) (num b))
def ptX (a b : List Nat) : Int := if onW a b = true then num a else 0
def ptY (a b : List Nat) : Int := if onW a b = true then num b else 1
def sideN (y : Int) : Nat × Bool := rootN ((y * y - 1) % PI).toNat ((1 + y * y * dI) % PI).toNat
section
variable {A : Ar} (h : FOK A)
include h
theorem dP : g31ok A = true ∧ g31r0 A = fi dI := by
  refine g31of ?_
  unfold g31v g31
  simp only [h.small 121665 (by decide), h.small 121666 (by decide), h.neg, h.inv, h.mul]
  rfl
theorem dR : g32ok A = true ∧ g32r0 A = fi dI := by
  refine g32of ?_
  unfold g32v g32
  simp only [h.rsmall 121665 (by decide), h.rsmall 121666 (by decide), h.rneg, h.rinv, h.rmul]
  rfl
theorem zeroP : g24ok A = true ∧ g24r0 A = fi 0 ∧ g24r1 A = fi 1 := by
  refine g24of ?_
  unfold g24v g24
  simp only [h.small 1 (by decide)]
  rw [fi0]; rfl
theorem zeroR : g25ok A = true ∧ g25r0 A = fi 0 ∧ g25r1 A = fi 1 := by
  refine g25of ?_
  unfold g25v g25
  simp only [h.rsmall 1 (by decide)]
  rw [fi0]; rfl
theorem onP {a b : List Nat} (ha : W4 a) (hb : W4 b) : g18ok A a b = true ∧ g18r0 A a b = onW a b := by
  refine g18of ?_
  unfold g18v g18
  obtain ⟨r1, r2⟩ := h.right a ha
  obtain ⟨s1, s2⟩ := h.right b hb
  simp only [r1, r2, s1, s2]
  unfold onW
  by_cases e1 : num a < PP
  · by_cases e2 : num b < PP
    · simp only [decide_eq_true e1, decide_eq_true e2, Bool.not_true, Bool.true_and]
      unfold g18J3
      rw [raw_fi ha e1, raw_fi hb e2]
      simp only [h.mul, h.sub, h.small 1 (by decide), dP h, h.lq, Bool.and_true]
      rw [← raw_fi ha e1, ← raw_fi hb e2]
      rfl
    · simp only [decide_eq_true e1, decide_eq_false e2, Bool.not_true, Bool.not_false, Bool.true_and, Bool.false_and]
  · simp only [decide_eq_false e1, Bool.not_false, Bool.false_and]
theorem pt_fi {a b : List Nat} (ha : W4 a) (hb : W4 b) (ho : onW a b = true) : a = fi (ptX a b) ∧ b = fi (ptY a b) := by
  unfold ptX ptY
  rw [if_pos ho, if_pos ho]
  unfold onW at ho
  simp only [Bool.and_eq_true, decide_eq_true_eq] at ho
  exact ⟨raw_fi ha ho.1, raw_fi hb ho.2.1⟩
theorem pt_not {a b : List Nat} (ho : onW a b = false) : ptX a b = 0 ∧ ptY a b = 1 := by
  unfold ptX ptY
  rw [if_neg (by rw [ho]; simp), if_neg (by rw [ho]; simp)]
  exact ⟨rfl, rfl⟩
theorem openP {a b : List Nat} (ha : W4 a) (hb : W4 b) : g36ok A a b = true ∧ g36r0 A a b = fi (ptX a b) ∧ g36r1 A a b = fi (ptY a b) ∧ g36r2 A a b = fi 1 ∧ g36r3 A a b = fi (ptX a b * ptY a b) ∧ g36r4 A a b = fi (dI + dI) := by
  refine g36of ?_
  unfold g36v g36
  simp only [onP h ha hb]
  cases ho : onW a b with
  | true =>
    obtain ⟨e1, e2⟩ := pt_fi h ha hb ho
    simp only [Bool.not_true]
    unfold g36J3
    rw [show g46ok A a b = true from by rw [e1, e2]; exact (h.mul _ _).1, show g46r0 A a b = fi (ptX a b * ptY a b) from by
      have := (h.mul (ptX a b) (ptY a b)).2
      rw [← e1, ← e2] at this
      exact this]
    simp only [dP h, h.small 1 (by decide), h.add]
    rw [← e1, ← e2]
    rfl
  | false =>
    obtain ⟨e1, e2⟩ := pt_not h ho
    rw [e1, e2]
    simp only [Bool.not_false, zeroP h]
    unfold g36J3
    simp only [h.mul, dP h, h.small 1 (by decide), h.add]
    rfl
theorem closeP (x y z t d : Int) : g38ok A (fi x) (fi y) (fi z) (fi t) (fi d) = true ∧ g38r0 A (fi x) (fi y) (fi z) (fi t) (fi d) = fi (x * iv z) ∧ g38r1 A (fi x) (fi y) (fi z) (fi t) (fi d) = fi (y * iv z) := by
  refine g38of ?_
  unfold g38v g38
  simp only [h.inv, h.mul]
theorem addP (x y z t d x2 y2 z2 t2 d2 : Int) : g37ok A (fi x) (fi y) (fi z) (fi t) (fi d) (fi x2) (fi y2) (fi z2) (fi t2) (fi d2) = true ∧
    g37r0 A (fi x) (fi y) (fi z) (fi t) (fi d) (fi x2) (fi y2) (fi z2) (fi t2) (fi d2) = fi (((y + x) * (y2 + x2) - (y - x) * (y2 - x2)) * (z * z2 + z * z2 - t * d * t2)) ∧
    g37r1 A (fi x) (fi y) (fi z) (fi t) (fi d) (fi x2) (fi y2) (fi z2) (fi t2) (fi d2) = fi ((z * z2 + z * z2 + t * d * t2) * ((y + x) * (y2 + x2) + (y - x) * (y2 - x2))) ∧
    g37r2 A (fi x) (fi y) (fi z) (fi t) (fi d) (fi x2) (fi y2) (fi z2) (fi t2) (fi d2) = fi ((z * z2 + z * z2 - t * d * t2) * (z * z2 + z * z2 + t * d * t2)) ∧
    g37r3 A (fi x) (fi y) (fi z) (fi t) (fi d) (fi x2) (fi y2) (fi z2) (fi t2) (fi d2) = fi (((y + x) * (y2 + x2) - (y - x) * (y2 - x2)) * ((y + x) * (y2 + x2) + (y - x) * (y2 - x2))) ∧
    g37r4 A (fi x) (fi y) (fi z) (fi t) (fi d) (fi x2) (fi y2) (fi z2) (fi t2) (fi d2) = fi d := by
  refine g37of ?_
  unfold g37v g37
  simp only [h.mul, h.add, h.sub, g37t0, g37t1, g37t2, g37t3]
theorem sideP (y : Int) : g55ok A (fi y) = true ∧ g55r0 A (fi y) = fi (sideN y).1 ∧ g55r1 A (fi y) = (sideN y).2 := by
  refine g55of ?_
  unfold g55v g55
  simp only [h.mul, h.sub, h.add, h.small 1 (by decide), dP h, h.root]
  rfl
theorem sideR (y : Int) : g59ok A (fi y) = true ∧ g59r0 A (fi y) = fi (sideN y).1 ∧ g59r1 A (fi y) = (sideN y).2 := by
  refine g59of ?_
  unfold g59v g59
  simp only [h.rmul, h.rsub, h.radd, h.rsmall 1 (by decide), dR h, h.rroot]
  unfold sideN
  rw [show dI * (y * y) + ((1 : Nat) : Int) = 1 + y * y * dI from by rw [Int.mul_comm dI, Int.add_comm]; rfl]
  rfl
end
end Go.Sx
namespace Go.Sx
set_option linter.unusedSectionVars false
theorem iv_mul (x y : Int) : iv (x * y) % PI = (iv x * iv y) % PI := by
  have e : iv x * iv y % PI = ((((x % PI).toNat * (y % PI).toNat) ^ PT : Nat) : Int) % PI := by
    rw [Int.mul_emod, iv_spec x, iv_spec y, ← Int.mul_emod, ← Int.natCast_mul, ← Nat.mul_pow]
  rw [e, iv_spec, ← PI_PP, ← Int.natCast_emod, ← Int.natCast_emod]
  have h : (((x * y % (PP : Int)).toNat : Nat) : Int) % PP = (((x % (PP : Int)).toNat * (y % (PP : Int)).toNat : Nat) : Int) % PP := by
    rw [PI_PP, castN, Int.natCast_mul, castN, castN, Int.emod_emod, ← Int.mul_emod]
  have h' : (x * y % (PP : Int)).toNat % PP = (x % (PP : Int)).toNat * (y % (PP : Int)).toNat % PP := by exact_mod_cast h
  exact congrArg Int.ofNat (pmod h' PT)
theorem iv4 : (4 * iv 4) % PI = 1 := by decide +kernel
theorem fmulM {a b c d : Int} (h1 : a % PI = c % PI) (h2 : b % PI = d % PI) : a * b % PI = c * d % PI := by rw [Int.mul_emod, h1, h2, ← Int.mul_emod]
theorem quot4 (x z : Int) : (4 * x * iv (4 * z)) % PI = (x * iv z) % PI := by
  have e1 : (4 * x * iv (4 * z)) % PI = (4 * x * (iv 4 * iv z)) % PI := fmulM rfl (iv_mul 4 z)
  have e2 : ((4 * iv 4) * (x * iv z)) % PI = (1 * (x * iv z)) % PI := fmulM (iv4.trans (by decide)) rfl
  rw [e1, show 4 * x * (iv 4 * iv z) = (4 * iv 4) * (x * iv z) by grind, e2, Int.one_mul]
def nX (x y x2 y2 : Int) : Int := (x * y2 + x2 * y) * (1 * 1 - dI * (x * y * (x2 * y2)))
def nY (x y x2 y2 : Int) : Int := (y * y2 + x * x2) * (1 * 1 + dI * (x * y * (x2 * y2)))
def nZ (x y x2 y2 : Int) : Int := (1 * 1 - dI * (x * y * (x2 * y2))) * (1 * 1 + dI * (x * y * (x2 * y2)))
section
variable {A : Ar} (h : FOK A)
include h
theorem AddP {a b c d : List Nat} (ha : W4 a) (hb : W4 b) (hc : W4 c) (hd : W4 d) : g14ok A a b c d = true ∧
    g14r0 A a b c d = fi (nX (ptX a b) (ptY a b) (ptX c d) (ptY c d) * iv (nZ (ptX a b) (ptY a b) (ptX c d) (ptY c d))) ∧
    g14r1 A a b c d = fi (nY (ptX a b) (ptY a b) (ptX c d) (ptY c d) * iv (nZ (ptX a b) (ptY a b) (ptX c d) (ptY c d))) := by
  refine g14of ?_
  unfold g14v g14
  simp only [g14t0, g14t1, g14t2, g14t3, g14t4, g14t5, g14t6, g14t7, g14t8, g14t9, openP h ha hb, openP h hc hd, addP h, closeP h]
  generalize ptX a b = x
  generalize ptY a b = y
  generalize ptX c d = x2
  generalize ptY c d = y2
  have ez : (1 * 1 + 1 * 1 - x * y * (dI + dI) * (x2 * y2)) * (1 * 1 + 1 * 1 + x * y * (dI + dI) * (x2 * y2)) = 4 * nZ x y x2 y2 := by unfold nZ; grind
  have ex : ((y + x) * (y2 + x2) - (y - x) * (y2 - x2)) * (1 * 1 + 1 * 1 - x * y * (dI + dI) * (x2 * y2)) = 4 * nX x y x2 y2 := by unfold nX; grind
  have ey : (1 * 1 + 1 * 1 + x * y * (dI + dI) * (x2 * y2)) * ((y + x) * (y2 + x2) + (y - x) * (y2 - x2)) = 4 * nY x y x2 y2 := by unfold nY; grind
  rw [ez, ex, ey, fi_congr (quot4 _ _), fi_congr (quot4 _ _)]
theorem NegP {a b : List Nat} (ha : W4 a) (hb : W4 b) : g16ok A a b = true ∧ g16r0 A a b = fi (-ptX a b) ∧ g16r1 A a b = fi (ptY a b) := by
  refine g16of ?_
  unfold g16v g16
  simp only [onP h ha hb]
  cases ho : onW a b with
  | true =>
    obtain ⟨e1, e2⟩ := pt_fi h ha hb ho
    simp only [Bool.not_true]
    unfold g16J3
    rw [show g43ok A a = true from by rw [e1]; exact (h.neg _).1, show g43r0 A a = fi (-ptX a b) from by
      have := (h.neg (ptX a b)).2
      rwa [← e1] at this]
    rw [← e2]
  | false =>
    obtain ⟨e1, e2⟩ := pt_not h ho
    rw [e1, e2]
    simp only [Bool.not_false, zeroP h]
    rfl
end
theorem le32_len (n : Nat) : (le32 n).length = 32 := by unfold le32; simp
def encB (a b : List Nat) : List Nat := if num a % PP % 2 = 1 then (le32 (num b % PP)).set 31 (realA.nb .or .u8 ((le32 (num b % PP)).getD 31 0) 128) else le32 (num b % PP)
theorem le64 (n : Nat) (h : n = 32) : realA.le n 9223372036854775807 = true := decide_eq_true (by omega)
theorem EncP {a b : List Nat} (ha : W4 a) (hb : W4 b) : g12ok realA a b = true ∧ g12r0 realA a b = (if onW a b = true then encB a b else []) ∧ g12r1 realA a b = onW a b := by
  refine g12of ?_
  unfold g12v g12
  simp only [onP fok ha hb]
  cases ho : onW a b with
  | true =>
    obtain ⟨e1, e2⟩ := pt_fi fok ha hb ho
    simp only [Bool.not_true]
    unfold g12J3
    have hl := le32_len (num b % PP)
    obtain ⟨o1, o2⟩ := oddOk ha
    simp only [bytesOk hb, o1, o2, le64 _ hl]
    simp only [if_true]
    unfold encB
    by_cases hodd : num a % PP % 2 = 1
    · have hb31 : Nat.blt 31 (le32 (num b % PP)).length = true := by rw [hl]; rfl
      simp only [decide_eq_true hodd, hb31, if_pos hodd]
      rw [List.take_of_length_le (by rw [List.length_set]; exact Nat.le_refl _)]
    · simp only [decide_eq_false hodd, if_neg hodd]
      rw [List.take_of_length_le (Nat.le_refl _)]
  | false =>
    simp only [Bool.not_false]
    rfl
def BX : Nat := 15112221349535400772501151409588531511454012693041857206046113283949847762202
def BY : Nat := 46316835694926478169428394003475163141307993866256225615783033603165251855960
theorem byE : ((4 : Nat) * iv (5 : Nat)) % PI = BY := by decide +kernel
theorem sideB : sideN BY = (BX, true) := by decide +kernel
theorem sideN_congr {x y : Int} (h : x % PI = y % PI) : sideN x = sideN y := by
  unfold sideN
  have e : (x * x) % PI = (y * y) % PI := fmulM h h
  rw [show (x * x - 1) % PI = (y * y - 1) % PI from by rw [Int.sub_emod, e, ← Int.sub_emod]]
  rw [show (1 + x * x * dI) % PI = (1 + y * y * dI) % PI from by rw [Int.add_emod, fmulM e rfl, ← Int.add_emod]]
theorem sideB2 : sideN ((4 : Nat) * iv (5 : Nat)) = (BX, true) := (sideN_congr (byE.trans (show (BY : Int) = (BY : Int) % PI by decide))).trans sideB
theorem fiBY : fi ((4 : Nat) * iv (5 : Nat)) = fi BY := fi_congr (byE.trans (show (BY : Int) = (BY : Int) % PI by decide))
section
variable {A : Ar} (h : FOK A)
include h
theorem baseP : g22ok A = true ∧ g22r0 A = fi BX ∧ g22r1 A = fi BY := by
  refine g22of ?_
  unfold g22v g22
  simp only [h.small 4 (by decide), h.small 5 (by decide), h.inv, h.mul, sideP h, sideB2, fiBY, sideB]
theorem baseR : g23ok A = true ∧ g23r0 A = fi BX ∧ g23r1 A = fi BY := by
  refine g23of ?_
  unfold g23v g23
  simp only [h.rsmall 4 (by decide), h.rsmall 5 (by decide), h.rinv, h.rmul, sideR h, sideB2, fiBY, sideB]
end
theorem onB : onW (fi BX) (fi BY) = true := by decide +kernel
theorem onZero : onW (fi 0) (fi 1) = true := by decide +kernel
theorem ptB : ptX (fi BX) (fi BY) = BX ∧ ptY (fi BX) (fi BY) = BY := by
  unfold ptX ptY
  rw [if_pos onB, if_pos onB]
  exact ⟨by decide +kernel, by decide +kernel⟩
theorem ptO : ptX (fi 0) (fi 1) = 0 ∧ ptY (fi 0) (fi 1) = 1 := by
  unfold ptX ptY
  rw [if_pos onZero, if_pos onZero]
  exact ⟨by decide +kernel, by decide +kernel⟩
theorem encBB : encB (fi BX) (fi BY) = [88] ++ List.replicate 31 102 := by decide +kernel
theorem addB0 : (nX BX BY 0 1 * iv (nZ BX BY 0 1)) % PI = BX ∧ (nY BX BY 0 1 * iv (nZ BX BY 0 1)) % PI = BY := by decide +kernel
theorem six : g30v realA = some (.v (.cell (.str (List.replicate 31 102)))) := by kernel_rfl
end Go.Sx
