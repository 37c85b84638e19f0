import Derived.Test.YtojnnbolfmefkaaSxY05a
namespace Go.Sx
set_option linter.unusedSectionVars false
open Go.Proofs
set_option linter.unusedVariables false
set_option maxRecDepth 100000
theorem SxY05qpi {R : Type} (c : Bool) {f1 f2 : Nat → Option R} {a1 a2 : Option R} (h1 : Prs f1 a1) (h2 : Prs f2 a2) : Prs (fun k => match c with | true => f1 k | false => f2 k) (match c with | true => a1 | false => a2) := by cases c <;> assumption
attribute [local irreducible] g46ok g46r0 g47ok g47r0 g66ok g66r0 g43ok g43r0 g45ok g45r0 g48ok g48r0 g54ok g54r0 g29ok g29r0 g74ok g74r0 g74r1 g33ok g33r0 g60ok g60r0 g60r1 g51ok g51r0
def g31O (A : Ar) : Orc := orcOf [(48, g48o A), (43, g43o A), (54, g54o A), (46, g46o A)]
theorem g31O_sound : OSound Try.prog (g31O realA) := orc_sound fun f g hm args v hv => by
  simp only [List.mem_cons, List.not_mem_nil, or_false, Prod.mk.injEq] at hm
  rcases hm with ⟨rfl, rfl⟩ | ⟨rfl, rfl⟩ | ⟨rfl, rfl⟩ | ⟨rfl, rfl⟩
  · exact g48o_sound _ _ hv
  · exact g43o_sound _ _ hv
  · exact g54o_sound _ _ hv
  · exact g46o_sound _ _ hv
theorem g31O_det : ODet (g31O realA) := orc_det _
def g31an : Ann := [(0, ([], [])), (1, ([0], [1000]))]
def g31res : List ResultVar := [.cell 0 24]
def g31cut : List Nat := []
noncomputable def g31N {R : Type} (A : Ar) (kk : AV → Heap → Option R) (t : List Bool → St → Option R) (p : List Bool) (s : St) : Option R := nodeN A gtys (g31O A) g31an g31cut t (bodyOf Try.f31) (finD gtys g31res kk) p s
def g31 {R : Type} (A : Ar) (n : Nat) (kk : AV → Heap → Option R)  : Option R :=
  match g48ok A 121665 with
  | true => match g43ok A (g48r0 A 121665) with
    | true => match g48ok A 121666 with
      | true => match g54ok A (g48r0 A 121666) with
        | true => match g46ok A (g43r0 A (g48r0 A 121665)) (g54r0 A (g48r0 A 121666)) with
          | true => kk (aN .u64 4 (g46r0 A (g43r0 A (g48r0 A 121665)) (g54r0 A (g48r0 A 121666)))) [(1000, (bU 4 (g46r0 A (g43r0 A (g48r0 A 121665)) (g54r0 A (g48r0 A 121666))) 24))]
          | false => none
        | false => none
      | false => none
    | false => none
  | false => none
section
variable {R : Type} {A : Ar} {n : Nat} {kk : AV → Heap → Option R} {tb : Nat → List Bool → St → Option R} (st : Stp (g31N A kk) tb)
include st
theorem g31_go  : Prs (fun k => funN A gtys (g31O A) g31an g31cut (bodyOf Try.f31) g31res [] [] kk (tb k)) (g31 A n kk ) := by
  unfold g31
  exact pc (SxY05qpi _ (SxY05qpi _ (SxY05qpi _ (SxY05qpi _ (SxY05qpi _ (pf _) pn) pn) pn) pn) pn) (by kernel_rfl)
end
def g31is (o : Option AV) : Bool := match o with
  | some (aN .u64 4 _) => true
  | _ => false
def g31g0 (o : Option AV) : List Nat := match o with
  | some (aN .u64 4 x) => x
  | _ => []
theorem g31is_spec {o : Option AV} (h : g31is o = true) : o = some (aN .u64 4 (g31g0 o)) := by
  unfold g31is at h
  split at h
  · rfl
  · cases h
def g31v (A : Ar)  : Option AV := g31 A (100000) (fun v _ => some v) 
def g31ok (A : Ar)  : Bool := g31is (g31v A )
def g31r0 (A : Ar)  : List Nat := g31g0 (g31v A )
theorem g31ok_spec {A : Ar} (h : g31ok A = true) : g31v A = some (aN .u64 4 (g31r0 A)) := g31is_spec h
def g31o (A : Ar) (args : List AV) : Option (Bool × AV) := match args with
  | [] => some (g31ok A , .v (.agg [.nums .u64 4 (g31r0 A)]))
  | _ => none
theorem g31o_sound : ∀ args v, g31o realA args = some (true, v) → Fn1 Try.prog 31 args v := by
  intro args v h
  unfold g31o at h
  split at h
  · simp only [Option.some.injEq, Prod.mk.injEq] at h
    obtain ⟨hc, h⟩ := h
    subst h
    · skip
      exact fn1_ofG mixed gtysOK g31O_sound g31O_det (an := g31an) (cut := g31cut) Try.func31 (c := bodyOf Try.f31) rfl (by kernel_rfl) Try.call31 (Nat.le_of_ble_eq_true rfl) (fun b => rfl) (fun _ => (show g31v realA  = _ from g31ok_spec hc)) fun _ st => g31_go st
  · cases h
attribute [local irreducible] g31ok g31r0
def g18O (A : Ar) : Orc := orcOf [(45, g45o A), (46, g46o A), (47, g47o A), (31, g31o A), (48, g48o A)]
theorem g18O_sound : OSound Try.prog (g18O realA) := orc_sound fun f g hm args v hv => by
  simp only [List.mem_cons, List.not_mem_nil, or_false, Prod.mk.injEq] at hm
  rcases hm with ⟨rfl, rfl⟩ | ⟨rfl, rfl⟩ | ⟨rfl, rfl⟩ | ⟨rfl, rfl⟩ | ⟨rfl, rfl⟩
  · exact g45o_sound _ _ hv
  · exact g46o_sound _ _ hv
  · exact g47o_sound _ _ hv
  · exact g31o_sound _ _ hv
  · exact g48o_sound _ _ hv
theorem g18O_det : ODet (g18O realA) := orc_det _
def g18an : Ann := [(0, ([0], [])), (1, ([1], [1000])), (2, ([], [])), (3, ([1], [1000])), (4, ([3, 4], [4010, 4011]))]
def g18res : List ResultVar := [.tmp 2]
def g18cut : List Nat := [3]
noncomputable def g18N {R : Type} (A : Ar) (kk : AV → Heap → Option R) (t : List Bool → St → Option R) (p : List Bool) (s : St) : Option R := nodeN A gtys (g18O A) g18an g18cut t (bodyOf Try.f18) (finD gtys g18res kk) p s
def g18J3s (x0 x1 : List Nat) : St := ⟨[(1, (pT 1000 0))], [(1000, ⟨[.nums .u64 4 x0, .nums .u64 4 x1], 26, 1⟩)]⟩
def g18J3 {R : Type} (A : Ar) (n : Nat) (kk : AV → Heap → Option R)  (x0 x1 : List Nat) : Option R :=
  match g46ok A x0 x0 with
  | true => match g46ok A x1 x1 with
    | true => match g47ok A (g46r0 A x1 x1) (g46r0 A x0 x0) with
      | true => match g31ok A with
        | true => match g46ok A (g46r0 A x0 x0) (g46r0 A x1 x1) with
          | true => match g46ok A (g31r0 A) (g46r0 A (g46r0 A x0 x0) (g46r0 A x1 x1)) with
            | true => match g47ok A (g47r0 A (g46r0 A x1 x1) (g46r0 A x0 x0)) (g46r0 A (g31r0 A) (g46r0 A (g46r0 A x0 x0) (g46r0 A x1 x1))) with
              | true => match g48ok A 1 with
                | true => kk (bO ((A.lq (g47r0 A (g47r0 A (g46r0 A x1 x1) (g46r0 A x0 x0)) (g46r0 A (g31r0 A) (g46r0 A (g46r0 A x0 x0) (g46r0 A x1 x1)))) (g48r0 A 1)) && true)) [(4010, (bU 4 (g46r0 A x0 x0) 24)), (4011, (bU 4 (g46r0 A x1 x1) 24))]
                | false => none
              | false => none
            | false => none
          | false => none
        | false => none
      | false => none
    | false => none
  | false => none
def g18 {R : Type} (A : Ar) (n : Nat) (kk : AV → Heap → Option R) (a0 a1 : List Nat) : Option R :=
  match g45ok A a0 with
  | true => match !(g45r0 A a0) with
    | true => kk (bO false) []
    | false => match g45ok A a1 with
      | true => match !(g45r0 A a1) with
        | true => kk (bO false) []
        | false => g18J3 A n kk  a0 a1
      | false => none
  | false => none
section
variable {R : Type} {A : Ar} {n : Nat} {kk : AV → Heap → Option R} {tb : Nat → List Bool → St → Option R} (st : Stp (g18N A kk) tb)
include st
theorem g18J3_go {x0 : List Nat} {x1 : List Nat} : Prs (fun k => tb k (pth 7) (g18J3s x0 x1)) (g18J3 A n kk x0 x1) := by
  unfold g18J3
  exact st.g (pc (SxY05qpi _ (SxY05qpi _ (SxY05qpi _ (SxY05qpi _ (SxY05qpi _ (SxY05qpi _ (SxY05qpi _ (SxY05qpi _ (pf _) pn) pn) pn) pn) pn) pn) pn) pn) (by kernel_rfl))
theorem g18_go {a0 : List Nat} {a1 : List Nat} : Prs (fun k => funN A gtys (g18O A) g18an g18cut (bodyOf Try.f18) g18res [(.v (.agg [.nums .u64 4 a0, .nums .u64 4 a1]))] [] kk (tb k)) (g18 A n kk a0 a1) := by
  unfold g18
  exact pc (SxY05qpi _ (SxY05qpi _ (pf _) (SxY05qpi _ (SxY05qpi _ (pf _) (g18J3_go st)) pn)) pn) (by kernel_rfl)
end
def g18is (o : Option AV) : Bool := match o with
  | some (.v (.cell (.bool _))) => true
  | _ => false
def g18g0 (o : Option AV) : Bool := match o with
  | some (.v (.cell (.bool x))) => x
  | _ => false
theorem g18is_spec {o : Option AV} (h : g18is o = true) : o = some (.v (.cell (.bool (g18g0 o)))) := by
  unfold g18is at h
  split at h
  · rfl
  · cases h
def g18v (A : Ar) (a0 a1 : List Nat) : Option AV := g18 A (100000) (fun v _ => some v) a0 a1
def g18ok (A : Ar) (a0 a1 : List Nat) : Bool := g18is (g18v A a0 a1)
def g18r0 (A : Ar) (a0 a1 : List Nat) : Bool := g18g0 (g18v A a0 a1)
theorem g18ok_spec {A : Ar} {a0 a1} (h : g18ok A a0 a1 = true) : g18v A a0 a1 = some (.v (.cell (.bool (g18r0 A a0 a1)))) := g18is_spec h
def g18o (A : Ar) (args : List AV) : Option (Bool × AV) := match args with
  | [.v (.agg [.nums .u64 n0 a0, .nums .u64 n1 a1])] => some (Nat.beq n0 4 && (Nat.beq n1 4 && (g18ok A a0 a1)), .v (.cell (.bool (g18r0 A a0 a1))))
  | _ => none
theorem g18o_sound : ∀ args v, g18o realA args = some (true, v) → Fn1 Try.prog 18 args v := by
  intro args v h
  unfold g18o at h
  split at h
  · rename_i n0 a0 n1 a1
    simp only [Option.some.injEq, Prod.mk.injEq] at h
    obtain ⟨hc, h⟩ := h
    subst h
    · skip
      simp only [Bool.and_eq_true] at hc
      have en0 := beq_true hc.1
      subst en0
      replace hc := hc.2
      have en1 := beq_true hc.1
      subst en1
      replace hc := hc.2
      exact fn1_ofG mixed gtysOK g18O_sound g18O_det (an := g18an) (cut := g18cut) Try.func18 (c := bodyOf Try.f18) rfl (by kernel_rfl) Try.call18 (Nat.le_of_ble_eq_true rfl) (fun b => rfl) (fun _ => (show g18v realA a0 a1 = _ from g18ok_spec hc)) fun _ st => g18_go st
  · cases h
attribute [local irreducible] g18ok g18r0
def g12O (A : Ar) : Orc := orcOf [(18, g18o A), (33, g33o A), (29, g29o A)]
theorem g12O_sound : OSound Try.prog (g12O realA) := orc_sound fun f g hm args v hv => by
  simp only [List.mem_cons, List.not_mem_nil, or_false, Prod.mk.injEq] at hm
  rcases hm with ⟨rfl, rfl⟩ | ⟨rfl, rfl⟩ | ⟨rfl, rfl⟩
  · exact g18o_sound _ _ hv
  · exact g33o_sound _ _ hv
  · exact g29o_sound _ _ hv
theorem g12O_det : ODet (g12O realA) := orc_det _
def g12an : Ann := [(0, ([0], [])), (1, ([1], [1000])), (2, ([], [])), (3, ([1], [1000])), (4, ([1, 4], [1000, 4003])), (5, ([4], [4003])), (6, ([4], [4003]))]
def g12res : List ResultVar := [.tmp 2, .tmp 3]
def g12cut : List Nat := [3]
noncomputable def g12N {R : Type} (A : Ar) (kk : AV → Heap → Option R) (t : List Bool → St → Option R) (p : List Bool) (s : St) : Option R := nodeN A gtys (g12O A) g12an g12cut t (bodyOf Try.f12) (finD gtys g12res kk) p s
def g12J3s (x0 x1 : List Nat) : St := ⟨[(1, (pT 1000 0))], [(1000, ⟨[.nums .u64 4 x0, .nums .u64 4 x1], 26, 1⟩)]⟩
def g12J3 {R : Type} (A : Ar) (n : Nat) (kk : AV → Heap → Option R)  (x0 x1 : List Nat) : Option R :=
  match g33ok A x1 with
  | true => match A.le ((g33r0 A x1).length) 9223372036854775807 with
    | true => match g29ok A x0 with
      | true => match g29r0 A x0 with
        | true => match Nat.blt 31 ((g33r0 A x1).length) with
          | true => match Nat.blt 31 ((g33r0 A x1).length) with
            | true => kk (.tup [(.cell (.str (((g33r0 A x1).set 31 (A.nb .or .u8 ((g33r0 A x1).getD 31 0) 128)).take ((g33r0 A x1).length)))), (.cell (.bool true))]) [(4003, ⟨[.nums .u8 ((g33r0 A x1).length) ((g33r0 A x1).set 31 (A.nb .or .u8 ((g33r0 A x1).getD 31 0) 128))], 5, 1⟩)]
            | false => none
          | false => none
        | false => kk (.tup [(.cell (.str ((g33r0 A x1).take ((g33r0 A x1).length)))), (.cell (.bool true))]) [(4003, ⟨[.nums .u8 ((g33r0 A x1).length) (g33r0 A x1)], 5, 1⟩)]
      | false => none
    | false => none
  | false => none
def g12 {R : Type} (A : Ar) (n : Nat) (kk : AV → Heap → Option R) (a0 a1 : List Nat) : Option R :=
  match g18ok A a0 a1 with
  | true => match !(g18r0 A a0 a1) with
    | true => kk (.tup [(.cell (.str [])), (.cell (.bool false))]) []
    | false => g12J3 A n kk  a0 a1
  | false => none
section
variable {R : Type} {A : Ar} {n : Nat} {kk : AV → Heap → Option R} {tb : Nat → List Bool → St → Option R} (st : Stp (g12N A kk) tb)
include st
theorem g12J3_go {x0 : List Nat} {x1 : List Nat} : Prs (fun k => tb k (pth 7) (g12J3s x0 x1)) (g12J3 A n kk x0 x1) := by
  unfold g12J3
  exact st.g (pc (SxY05qpi _ (SxY05qpi _ (SxY05qpi _ (SxY05qpi _ (SxY05qpi _ (SxY05qpi _ (pf _) pn) pn) (pf _)) pn) pn) pn) (by kernel_rfl))
theorem g12_go {a0 : List Nat} {a1 : List Nat} : Prs (fun k => funN A gtys (g12O A) g12an g12cut (bodyOf Try.f12) g12res [(.v (.agg [.nums .u64 4 a0, .nums .u64 4 a1]))] [] kk (tb k)) (g12 A n kk a0 a1) := by
  unfold g12
  exact pc (SxY05qpi _ (SxY05qpi _ (pf _) (g12J3_go st)) pn) (by kernel_rfl)
end
def g12is (o : Option AV) : Bool := match o with
  | some (.tup [.cell (.str _), .cell (.bool _)]) => true
  | _ => false
def g12g0 (o : Option AV) : List Nat := match o with
  | some (.tup [.cell (.str x), .cell (.bool _)]) => x
  | _ => []
def g12g1 (o : Option AV) : Bool := match o with
  | some (.tup [.cell (.str _), .cell (.bool x)]) => x
  | _ => false
theorem g12is_spec {o : Option AV} (h : g12is o = true) : o = some (.tup [.cell (.str (g12g0 o)), .cell (.bool (g12g1 o))]) := by
  unfold g12is at h
  split at h
  · rfl
  · cases h
def g12v (A : Ar) (a0 a1 : List Nat) : Option AV := g12 A (100000) (fun v _ => some v) a0 a1
def g12ok (A : Ar) (a0 a1 : List Nat) : Bool := g12is (g12v A a0 a1)
def g12r0 (A : Ar) (a0 a1 : List Nat) : List Nat := g12g0 (g12v A a0 a1)
def g12r1 (A : Ar) (a0 a1 : List Nat) : Bool := g12g1 (g12v A a0 a1)
theorem g12ok_spec {A : Ar} {a0 a1} (h : g12ok A a0 a1 = true) : g12v A a0 a1 = some (.tup [.cell (.str (g12r0 A a0 a1)), .cell (.bool (g12r1 A a0 a1))]) := g12is_spec h
def g12o (A : Ar) (args : List AV) : Option (Bool × AV) := match args with
  | [.v (.agg [.nums .u64 n0 a0, .nums .u64 n1 a1])] => some (Nat.beq n0 4 && (Nat.beq n1 4 && (g12ok A a0 a1)), .tup [.cell (.str (g12r0 A a0 a1)), .cell (.bool (g12r1 A a0 a1))])
  | _ => none
theorem g12o_sound : ∀ args v, g12o realA args = some (true, v) → Fn1 Try.prog 12 args v := by
  intro args v h
  unfold g12o at h
  split at h
  · rename_i n0 a0 n1 a1
    simp only [Option.some.injEq, Prod.mk.injEq] at h
    obtain ⟨hc, h⟩ := h
    subst h
    · skip
      simp only [Bool.and_eq_true] at hc
      have en0 := beq_true hc.1
      subst en0
      replace hc := hc.2
      have en1 := beq_true hc.1
      subst en1
      replace hc := hc.2
      exact fn1_ofG mixed gtysOK g12O_sound g12O_det (an := g12an) (cut := g12cut) Try.func12 (c := bodyOf Try.f12) rfl (by kernel_rfl) Try.call12 (Nat.le_of_ble_eq_true rfl) (fun b => rfl) (fun _ => (show g12v realA a0 a1 = _ from g12ok_spec hc)) fun _ st => g12_go st
  · cases h
attribute [local irreducible] g12ok g12r0 g12r1
def g24O (A : Ar) : Orc := orcOf [(48, g48o A)]
theorem g24O_sound : OSound Try.prog (g24O realA) := orc_sound fun f g hm args v hv => by
  simp only [List.mem_cons, List.not_mem_nil, or_false, Prod.mk.injEq] at hm
  rcases hm with ⟨rfl, rfl⟩
  · exact g48o_sound _ _ hv
theorem g24O_det : ODet (g24O realA) := orc_det _
def g24an : Ann := [(0, ([], [])), (1, ([0], [1000]))]
def g24res : List ResultVar := [.cell 0 26]
def g24cut : List Nat := []
noncomputable def g24N {R : Type} (A : Ar) (kk : AV → Heap → Option R) (t : List Bool → St → Option R) (p : List Bool) (s : St) : Option R := nodeN A gtys (g24O A) g24an g24cut t (bodyOf Try.f24) (finD gtys g24res kk) p s
def g24 {R : Type} (A : Ar) (n : Nat) (kk : AV → Heap → Option R)  : Option R :=
  match g48ok A 1 with
  | true => kk (.v (.agg [.nums .u64 4 [0, 0, 0, 0], .nums .u64 4 (g48r0 A 1)])) [(1000, ⟨[.nums .u64 4 [0, 0, 0, 0], .nums .u64 4 (g48r0 A 1)], 26, 1⟩)]
  | false => none
section
variable {R : Type} {A : Ar} {n : Nat} {kk : AV → Heap → Option R} {tb : Nat → List Bool → St → Option R} (st : Stp (g24N A kk) tb)
include st
theorem g24_go  : Prs (fun k => funN A gtys (g24O A) g24an g24cut (bodyOf Try.f24) g24res [] [] kk (tb k)) (g24 A n kk ) := by
  unfold g24
  exact pc (SxY05qpi _ (pf _) pn) (by kernel_rfl)
end
def g24is (o : Option AV) : Bool := match o with
  | some (.v (.agg [.nums .u64 4 _, .nums .u64 4 _])) => true
  | _ => false
def g24g0 (o : Option AV) : List Nat := match o with
  | some (.v (.agg [.nums .u64 4 x, .nums .u64 4 _])) => x
  | _ => []
def g24g1 (o : Option AV) : List Nat := match o with
  | some (.v (.agg [.nums .u64 4 _, .nums .u64 4 x])) => x
  | _ => []
theorem g24is_spec {o : Option AV} (h : g24is o = true) : o = some (.v (.agg [.nums .u64 4 (g24g0 o), .nums .u64 4 (g24g1 o)])) := by
  unfold g24is at h
  split at h
  · rfl
  · cases h
def g24v (A : Ar)  : Option AV := g24 A (100000) (fun v _ => some v) 
def g24ok (A : Ar)  : Bool := g24is (g24v A )
def g24r0 (A : Ar)  : List Nat := g24g0 (g24v A )
def g24r1 (A : Ar)  : List Nat := g24g1 (g24v A )
theorem g24ok_spec {A : Ar} (h : g24ok A = true) : g24v A = some (.v (.agg [.nums .u64 4 (g24r0 A), .nums .u64 4 (g24r1 A)])) := g24is_spec h
def g24o (A : Ar) (args : List AV) : Option (Bool × AV) := match args with
  | [] => some (g24ok A , .v (.agg [.nums .u64 4 (g24r0 A), .nums .u64 4 (g24r1 A)]))
  | _ => none
theorem g24o_sound : ∀ args v, g24o realA args = some (true, v) → Fn1 Try.prog 24 args v := by
  intro args v h
  unfold g24o at h
  split at h
  · simp only [Option.some.injEq, Prod.mk.injEq] at h
    obtain ⟨hc, h⟩ := h
    subst h
    · skip
      exact fn1_ofG mixed gtysOK g24O_sound g24O_det (an := g24an) (cut := g24cut) Try.func24 (c := bodyOf Try.f24) rfl (by kernel_rfl) Try.call24 (Nat.le_of_ble_eq_true rfl) (fun b => rfl) (fun _ => (show g24v realA  = _ from g24ok_spec hc)) fun _ st => g24_go st
  · cases h
attribute [local irreducible] g24ok g24r0 g24r1
def g36O (A : Ar) : Orc := orcOf [(18, g18o A), (24, g24o A), (31, g31o A), (48, g48o A), (46, g46o A), (66, g66o A)]
theorem g36O_sound : OSound Try.prog (g36O realA) := orc_sound fun f g hm args v hv => by
  simp only [List.mem_cons, List.not_mem_nil, or_false, Prod.mk.injEq] at hm
  rcases hm with ⟨rfl, rfl⟩ | ⟨rfl, rfl⟩ | ⟨rfl, rfl⟩ | ⟨rfl, rfl⟩ | ⟨rfl, rfl⟩ | ⟨rfl, rfl⟩
  · exact g18o_sound _ _ hv
  · exact g24o_sound _ _ hv
  · exact g31o_sound _ _ hv
  · exact g48o_sound _ _ hv
  · exact g46o_sound _ _ hv
  · exact g66o_sound _ _ hv
theorem g36O_det : ODet (g36O realA) := orc_det _
def g36an : Ann := [(0, ([0], [])), (1, ([1, 2], [1000, 1001])), (2, ([1, 2], [1000, 1001])), (3, ([1, 2], [1000, 1001])), (4, ([1, 2, 3], [1000, 1001, 4001]))]
def g36res : List ResultVar := [.cell 2 54]
def g36cut : List Nat := [3]
noncomputable def g36N {R : Type} (A : Ar) (kk : AV → Heap → Option R) (t : List Bool → St → Option R) (p : List Bool) (s : St) : Option R := nodeN A gtys (g36O A) g36an g36cut t (bodyOf Try.f36) (finD gtys g36res kk) p s
def g36J3s (x0 x1 : List Nat) (x2 x3 : List Nat) (x4 x5 x6 : List Nat) : St := ⟨[(1, (pT 1000 0)), (2, (pT 1001 0))], [(1000, ⟨[.nums .u64 4 x0, .nums .u64 4 x1], 26, 1⟩), (1001, ⟨[.nums .u64 4 x2, .nums .u64 4 x3, .nums .u64 4 x4, .nums .u64 4 x5, .nums .u64 4 x6], 54, 1⟩)]⟩
def g36J3 {R : Type} (A : Ar) (n : Nat) (kk : AV → Heap → Option R)  (x0 x1 : List Nat) (x2 x3 : List Nat) (x4 x5 x6 : List Nat) : Option R :=
  match g31ok A with
  | true => match g48ok A 1 with
    | true => match g46ok A x0 x1 with
      | true => match g66ok A (g31r0 A) (g31r0 A) with
        | true => kk (.v (.agg [.nums .u64 4 x0, .nums .u64 4 x1, .nums .u64 4 (g48r0 A 1), .nums .u64 4 (g46r0 A x0 x1), .nums .u64 4 (g66r0 A (g31r0 A) (g31r0 A))])) [(1000, ⟨[.nums .u64 4 x0, .nums .u64 4 x1], 26, 1⟩), (1001, ⟨[.nums .u64 4 x0, .nums .u64 4 x1, .nums .u64 4 (g48r0 A 1), .nums .u64 4 (g46r0 A x0 x1), .nums .u64 4 (g66r0 A (g31r0 A) (g31r0 A))], 54, 1⟩), (4001, (bU 4 (g31r0 A) 24))]
        | false => none
      | false => none
    | false => none
  | false => none
def g36 {R : Type} (A : Ar) (n : Nat) (kk : AV → Heap → Option R) (a0 a1 : List Nat) : Option R :=
  match g18ok A a0 a1 with
  | true => match !(g18r0 A a0 a1) with
    | true => match g24ok A with
      | true => g36J3 A n kk  (g24r0 A) (g24r1 A) [0, 0, 0, 0] [0, 0, 0, 0] [0, 0, 0, 0] [0, 0, 0, 0] [0, 0, 0, 0]
      | false => none
    | false => g36J3 A n kk  a0 a1 [0, 0, 0, 0] [0, 0, 0, 0] [0, 0, 0, 0] [0, 0, 0, 0] [0, 0, 0, 0]
  | false => none
section
variable {R : Type} {A : Ar} {n : Nat} {kk : AV → Heap → Option R} {tb : Nat → List Bool → St → Option R} (st : Stp (g36N A kk) tb)
include st
theorem g36J3_go {x0 : List Nat} {x1 : List Nat} {x2 : List Nat} {x3 : List Nat} {x4 : List Nat} {x5 : List Nat} {x6 : List Nat} : Prs (fun k => tb k (pth 7) (g36J3s x0 x1 x2 x3 x4 x5 x6)) (g36J3 A n kk x0 x1 x2 x3 x4 x5 x6) := by
  unfold g36J3
  exact st.g (pc (SxY05qpi _ (SxY05qpi _ (SxY05qpi _ (SxY05qpi _ (pf _) pn) pn) pn) pn) (by kernel_rfl))
theorem g36_go {a0 : List Nat} {a1 : List Nat} : Prs (fun k => funN A gtys (g36O A) g36an g36cut (bodyOf Try.f36) g36res [(.v (.agg [.nums .u64 4 a0, .nums .u64 4 a1]))] [] kk (tb k)) (g36 A n kk a0 a1) := by
  unfold g36
  exact pc (SxY05qpi _ (SxY05qpi _ (SxY05qpi _ (g36J3_go st) pn) (g36J3_go st)) pn) (by kernel_rfl)
end
def g36is (o : Option AV) : Bool := match o with
  | some (.v (.agg [.nums .u64 4 _, .nums .u64 4 _, .nums .u64 4 _, .nums .u64 4 _, .nums .u64 4 _])) => true
  | _ => false
def g36g0 (o : Option AV) : List Nat := match o with
  | some (.v (.agg [.nums .u64 4 x, .nums .u64 4 _, .nums .u64 4 _, .nums .u64 4 _, .nums .u64 4 _])) => x
  | _ => []
def g36g1 (o : Option AV) : List Nat := match o with
  | some (.v (.agg [.nums .u64 4 _, .nums .u64 4 x, .nums .u64 4 _, .nums .u64 4 _, .nums .u64 4 _])) => x
  | _ => []
def g36g2 (o : Option AV) : List Nat := match o with
  | some (.v (.agg [.nums .u64 4 _, .nums .u64 4 _, .nums .u64 4 x, .nums .u64 4 _, .nums .u64 4 _])) => x
  | _ => []
def g36g3 (o : Option AV) : List Nat := match o with
  | some (.v (.agg [.nums .u64 4 _, .nums .u64 4 _, .nums .u64 4 _, .nums .u64 4 x, .nums .u64 4 _])) => x
  | _ => []
def g36g4 (o : Option AV) : List Nat := match o with
  | some (.v (.agg [.nums .u64 4 _, .nums .u64 4 _, .nums .u64 4 _, .nums .u64 4 _, .nums .u64 4 x])) => x
  | _ => []
theorem g36is_spec {o : Option AV} (h : g36is o = true) : o = some (.v (.agg [.nums .u64 4 (g36g0 o), .nums .u64 4 (g36g1 o), .nums .u64 4 (g36g2 o), .nums .u64 4 (g36g3 o), .nums .u64 4 (g36g4 o)])) := by
  unfold g36is at h
  split at h
  · rfl
  · cases h
def g36v (A : Ar) (a0 a1 : List Nat) : Option AV := g36 A (100000) (fun v _ => some v) a0 a1
def g36ok (A : Ar) (a0 a1 : List Nat) : Bool := g36is (g36v A a0 a1)
def g36r0 (A : Ar) (a0 a1 : List Nat) : List Nat := g36g0 (g36v A a0 a1)
def g36r1 (A : Ar) (a0 a1 : List Nat) : List Nat := g36g1 (g36v A a0 a1)
def g36r2 (A : Ar) (a0 a1 : List Nat) : List Nat := g36g2 (g36v A a0 a1)
def g36r3 (A : Ar) (a0 a1 : List Nat) : List Nat := g36g3 (g36v A a0 a1)
def g36r4 (A : Ar) (a0 a1 : List Nat) : List Nat := g36g4 (g36v A a0 a1)
theorem g36ok_spec {A : Ar} {a0 a1} (h : g36ok A a0 a1 = true) : g36v A a0 a1 = some (.v (.agg [.nums .u64 4 (g36r0 A a0 a1), .nums .u64 4 (g36r1 A a0 a1), .nums .u64 4 (g36r2 A a0 a1), .nums .u64 4 (g36r3 A a0 a1), .nums .u64 4 (g36r4 A a0 a1)])) := g36is_spec h
def g36o (A : Ar) (args : List AV) : Option (Bool × AV) := match args with
  | [.v (.agg [.nums .u64 n0 a0, .nums .u64 n1 a1])] => some (Nat.beq n0 4 && (Nat.beq n1 4 && (g36ok A a0 a1)), .v (.agg [.nums .u64 4 (g36r0 A a0 a1), .nums .u64 4 (g36r1 A a0 a1), .nums .u64 4 (g36r2 A a0 a1), .nums .u64 4 (g36r3 A a0 a1), .nums .u64 4 (g36r4 A a0 a1)]))
  | _ => none
theorem g36o_sound : ∀ args v, g36o realA args = some (true, v) → Fn1 Try.prog 36 args v := by
  intro args v h
  unfold g36o at h
  split at h
  · rename_i n0 a0 n1 a1
    simp only [Option.some.injEq, Prod.mk.injEq] at h
    obtain ⟨hc, h⟩ := h
    subst h
    · skip
      simp only [Bool.and_eq_true] at hc
      have en0 := beq_true hc.1
      subst en0
      replace hc := hc.2
      have en1 := beq_true hc.1
      subst en1
      replace hc := hc.2
      exact fn1_ofG mixed gtysOK g36O_sound g36O_det (an := g36an) (cut := g36cut) Try.func36 (c := bodyOf Try.f36) rfl (by kernel_rfl) Try.call36 (Nat.le_of_ble_eq_true rfl) (fun b => rfl) (fun _ => (show g36v realA a0 a1 = _ from g36ok_spec hc)) fun _ st => g36_go st
  · cases h
attribute [local irreducible] g36ok g36r0 g36r1 g36r2 g36r3 g36r4
def g37O (A : Ar) : Orc := orcOf [(47, g47o A), (46, g46o A), (66, g66o A)]
theorem g37O_sound : OSound Try.prog (g37O realA) := orc_sound fun f g hm args v hv => by
  simp only [List.mem_cons, List.not_mem_nil, or_false, Prod.mk.injEq] at hm
  rcases hm with ⟨rfl, rfl⟩ | ⟨rfl, rfl⟩ | ⟨rfl, rfl⟩
  · exact g47o_sound _ _ hv
  · exact g46o_sound _ _ hv
  · exact g66o_sound _ _ hv
theorem g37O_det : ODet (g37O realA) := orc_det _
def g37an : Ann := [(0, ([0, 1], [])), (1, ([2, 3, 4], [1000, 1001, 1002])), (2, ([2, 3, 4, 5], [1000, 1001, 1002, 2011])), (3, ([2, 3, 4, 5, 6], [1000, 1001, 1002, 2011, 3011])), (4, ([2, 3, 4, 5, 6, 7], [1000, 1001, 1002, 2011, 3011, 4008])), (5, ([2, 4, 5, 6, 7, 8], [1000, 1002, 2011, 3011, 4008, 5005])), (6, ([2, 4, 5, 6, 7, 8], [1000, 1002, 2011, 3011, 4008, 5005])), (7, ([2, 4, 9, 10, 11, 12], [1000, 1002, 7012, 7013, 7014, 7015]))]
def g37res : List ResultVar := [.cell 4 54]
def g37cut : List Nat := []
abbrev g37t0 (A : Ar) (a0 a1 : List Nat) (a2 a3 : List Nat) (a4 b0 : List Nat) (b1 b2 b3 : List Nat) : List Nat := g46r0 A (g47r0 A (g46r0 A (g66r0 A a1 a0) (g66r0 A b1 b0)) (g46r0 A (g47r0 A a1 a0) (g47r0 A b1 b0))) (g47r0 A (g66r0 A (g46r0 A a2 b2) (g46r0 A a2 b2)) (g46r0 A (g46r0 A a3 a4) b3))
abbrev g37t1 (A : Ar) (a0 a1 : List Nat) (a2 a3 : List Nat) (a4 b0 : List Nat) (b1 b2 b3 : List Nat) : List Nat := g46r0 A (g66r0 A (g66r0 A (g46r0 A a2 b2) (g46r0 A a2 b2)) (g46r0 A (g46r0 A a3 a4) b3)) (g66r0 A (g46r0 A (g66r0 A a1 a0) (g66r0 A b1 b0)) (g46r0 A (g47r0 A a1 a0) (g47r0 A b1 b0)))
abbrev g37t2 (A : Ar) (a2 a3 : List Nat) (a4 b2 b3 : List Nat) : List Nat := g46r0 A (g47r0 A (g66r0 A (g46r0 A a2 b2) (g46r0 A a2 b2)) (g46r0 A (g46r0 A a3 a4) b3)) (g66r0 A (g66r0 A (g46r0 A a2 b2) (g46r0 A a2 b2)) (g46r0 A (g46r0 A a3 a4) b3))
abbrev g37t3 (A : Ar) (a0 a1 : List Nat) (b0 b1 : List Nat) : List Nat := g46r0 A (g47r0 A (g46r0 A (g66r0 A a1 a0) (g66r0 A b1 b0)) (g46r0 A (g47r0 A a1 a0) (g47r0 A b1 b0))) (g66r0 A (g46r0 A (g66r0 A a1 a0) (g66r0 A b1 b0)) (g46r0 A (g47r0 A a1 a0) (g47r0 A b1 b0)))
noncomputable def g37N {R : Type} (A : Ar) (kk : AV → Heap → Option R) (t : List Bool → St → Option R) (p : List Bool) (s : St) : Option R := nodeN A gtys (g37O A) g37an g37cut t (bodyOf Try.f37) (finD gtys g37res kk) p s
def g37 {R : Type} (A : Ar) (n : Nat) (kk : AV → Heap → Option R) (a0 a1 : List Nat) (a2 a3 : List Nat) (a4 b0 : List Nat) (b1 b2 : List Nat) (b3 b4 : List Nat) : Option R :=
  match g47ok A a1 a0 with
  | true => match g47ok A b1 b0 with
    | true => match g46ok A (g47r0 A a1 a0) (g47r0 A b1 b0) with
      | true => match g66ok A a1 a0 with
        | true => match g66ok A b1 b0 with
          | true => match g46ok A (g66r0 A a1 a0) (g66r0 A b1 b0) with
            | true => match g46ok A a3 a4 with
              | true => match g46ok A (g46r0 A a3 a4) b3 with
                | true => match g46ok A a2 b2 with
                  | true => match g66ok A (g46r0 A a2 b2) (g46r0 A a2 b2) with
                    | true => match g47ok A (g46r0 A (g66r0 A a1 a0) (g66r0 A b1 b0)) (g46r0 A (g47r0 A a1 a0) (g47r0 A b1 b0)) with
                      | true => match g47ok A (g66r0 A (g46r0 A a2 b2) (g46r0 A a2 b2)) (g46r0 A (g46r0 A a3 a4) b3) with
                        | true => match g66ok A (g66r0 A (g46r0 A a2 b2) (g46r0 A a2 b2)) (g46r0 A (g46r0 A a3 a4) b3) with
                          | true => match g66ok A (g46r0 A (g66r0 A a1 a0) (g66r0 A b1 b0)) (g46r0 A (g47r0 A a1 a0) (g47r0 A b1 b0)) with
                            | true => match g46ok A (g47r0 A (g46r0 A (g66r0 A a1 a0) (g66r0 A b1 b0)) (g46r0 A (g47r0 A a1 a0) (g47r0 A b1 b0))) (g47r0 A (g66r0 A (g46r0 A a2 b2) (g46r0 A a2 b2)) (g46r0 A (g46r0 A a3 a4) b3)) with
                              | true => match g46ok A (g66r0 A (g66r0 A (g46r0 A a2 b2) (g46r0 A a2 b2)) (g46r0 A (g46r0 A a3 a4) b3)) (g66r0 A (g46r0 A (g66r0 A a1 a0) (g66r0 A b1 b0)) (g46r0 A (g47r0 A a1 a0) (g47r0 A b1 b0))) with
                                | true => match g46ok A (g47r0 A (g66r0 A (g46r0 A a2 b2) (g46r0 A a2 b2)) (g46r0 A (g46r0 A a3 a4) b3)) (g66r0 A (g66r0 A (g46r0 A a2 b2) (g46r0 A a2 b2)) (g46r0 A (g46r0 A a3 a4) b3)) with
                                  | true => match g46ok A (g47r0 A (g46r0 A (g66r0 A a1 a0) (g66r0 A b1 b0)) (g46r0 A (g47r0 A a1 a0) (g47r0 A b1 b0))) (g66r0 A (g46r0 A (g66r0 A a1 a0) (g66r0 A b1 b0)) (g46r0 A (g47r0 A a1 a0) (g47r0 A b1 b0))) with
                                    | true => kk (.v (.agg [.nums .u64 4 (g37t0 A a0 a1 a2 a3 a4 b0 b1 b2 b3), .nums .u64 4 (g37t1 A a0 a1 a2 a3 a4 b0 b1 b2 b3), .nums .u64 4 (g37t2 A a2 a3 a4 b2 b3), .nums .u64 4 (g37t3 A a0 a1 b0 b1), .nums .u64 4 a4])) [(1000, ⟨[.nums .u64 4 a0, .nums .u64 4 a1, .nums .u64 4 a2, .nums .u64 4 a3, .nums .u64 4 a4], 54, 1⟩), (1002, ⟨[.nums .u64 4 (g37t0 A a0 a1 a2 a3 a4 b0 b1 b2 b3), .nums .u64 4 (g37t1 A a0 a1 a2 a3 a4 b0 b1 b2 b3), .nums .u64 4 (g37t2 A a2 a3 a4 b2 b3), .nums .u64 4 (g37t3 A a0 a1 b0 b1), .nums .u64 4 a4], 54, 1⟩), (7012, (bU 4 (g47r0 A (g46r0 A (g66r0 A a1 a0) (g66r0 A b1 b0)) (g46r0 A (g47r0 A a1 a0) (g47r0 A b1 b0))) 24)), (7013, (bU 4 (g47r0 A (g66r0 A (g46r0 A a2 b2) (g46r0 A a2 b2)) (g46r0 A (g46r0 A a3 a4) b3)) 24)), (7014, (bU 4 (g66r0 A (g66r0 A (g46r0 A a2 b2) (g46r0 A a2 b2)) (g46r0 A (g46r0 A a3 a4) b3)) 24)), (7015, (bU 4 (g66r0 A (g46r0 A (g66r0 A a1 a0) (g66r0 A b1 b0)) (g46r0 A (g47r0 A a1 a0) (g47r0 A b1 b0))) 24))]
                                    | false => none
                                  | false => none
                                | false => none
                              | false => none
                            | false => none
                          | false => none
                        | false => none
                      | false => none
                    | false => none
                  | false => none
                | false => none
              | false => none
            | false => none
          | false => none
        | false => none
      | false => none
    | false => none
  | false => none
section
variable {R : Type} {A : Ar} {n : Nat} {kk : AV → Heap → Option R} {tb : Nat → List Bool → St → Option R} (st : Stp (g37N A kk) tb)
include st
theorem g37_go {a0 : List Nat} {a1 : List Nat} {a2 : List Nat} {a3 : List Nat} {a4 : List Nat} {b0 : List Nat} {b1 : List Nat} {b2 : List Nat} {b3 : List Nat} {b4 : List Nat} : Prs (fun k => funN A gtys (g37O A) g37an g37cut (bodyOf Try.f37) g37res [(.v (.agg [.nums .u64 4 a0, .nums .u64 4 a1, .nums .u64 4 a2, .nums .u64 4 a3, .nums .u64 4 a4])), (.v (.agg [.nums .u64 4 b0, .nums .u64 4 b1, .nums .u64 4 b2, .nums .u64 4 b3, .nums .u64 4 b4]))] [] kk (tb k)) (g37 A n kk a0 a1 a2 a3 a4 b0 b1 b2 b3 b4) := by
  unfold g37
  exact pc (SxY05qpi _ (SxY05qpi _ (SxY05qpi _ (SxY05qpi _ (SxY05qpi _ (SxY05qpi _ (SxY05qpi _ (SxY05qpi _ (SxY05qpi _ (SxY05qpi _ (SxY05qpi _ (SxY05qpi _ (SxY05qpi _ (SxY05qpi _ (SxY05qpi _ (SxY05qpi _ (SxY05qpi _ (SxY05qpi _ (pf _) pn) pn) pn) pn) pn) pn) pn) pn) pn) pn) pn) pn) pn) pn) pn) pn) pn) pn) (by kernel_rfl)
end
def g37is (o : Option AV) : Bool := match o with
  | some (.v (.agg [.nums .u64 4 _, .nums .u64 4 _, .nums .u64 4 _, .nums .u64 4 _, .nums .u64 4 _])) => true
  | _ => false
def g37g0 (o : Option AV) : List Nat := match o with
  | some (.v (.agg [.nums .u64 4 x, .nums .u64 4 _, .nums .u64 4 _, .nums .u64 4 _, .nums .u64 4 _])) => x
  | _ => []
def g37g1 (o : Option AV) : List Nat := match o with
  | some (.v (.agg [.nums .u64 4 _, .nums .u64 4 x, .nums .u64 4 _, .nums .u64 4 _, .nums .u64 4 _])) => x
  | _ => []
def g37g2 (o : Option AV) : List Nat := match o with
  | some (.v (.agg [.nums .u64 4 _, .nums .u64 4 _, .nums .u64 4 x, .nums .u64 4 _, .nums .u64 4 _])) => x
  | _ => []
def g37g3 (o : Option AV) : List Nat := match o with
  | some (.v (.agg [.nums .u64 4 _, .nums .u64 4 _, .nums .u64 4 _, .nums .u64 4 x, .nums .u64 4 _])) => x
  | _ => []
def g37g4 (o : Option AV) : List Nat := match o with
  | some (.v (.agg [.nums .u64 4 _, .nums .u64 4 _, .nums .u64 4 _, .nums .u64 4 _, .nums .u64 4 x])) => x
  | _ => []
theorem g37is_spec {o : Option AV} (h : g37is o = true) : o = some (.v (.agg [.nums .u64 4 (g37g0 o), .nums .u64 4 (g37g1 o), .nums .u64 4 (g37g2 o), .nums .u64 4 (g37g3 o), .nums .u64 4 (g37g4 o)])) := by
  unfold g37is at h
  split at h
  · rfl
  · cases h
def g37v (A : Ar) (a0 a1 : List Nat) (a2 a3 : List Nat) (a4 b0 : List Nat) (b1 b2 : List Nat) (b3 b4 : List Nat) : Option AV := g37 A (100000) (fun v _ => some v) a0 a1 a2 a3 a4 b0 b1 b2 b3 b4
def g37ok (A : Ar) (a0 a1 : List Nat) (a2 a3 : List Nat) (a4 b0 : List Nat) (b1 b2 : List Nat) (b3 b4 : List Nat) : Bool := g37is (g37v A a0 a1 a2 a3 a4 b0 b1 b2 b3 b4)
def g37r0 (A : Ar) (a0 a1 : List Nat) (a2 a3 : List Nat) (a4 b0 : List Nat) (b1 b2 : List Nat) (b3 b4 : List Nat) : List Nat := g37g0 (g37v A a0 a1 a2 a3 a4 b0 b1 b2 b3 b4)
def g37r1 (A : Ar) (a0 a1 : List Nat) (a2 a3 : List Nat) (a4 b0 : List Nat) (b1 b2 : List Nat) (b3 b4 : List Nat) : List Nat := g37g1 (g37v A a0 a1 a2 a3 a4 b0 b1 b2 b3 b4)
def g37r2 (A : Ar) (a0 a1 : List Nat) (a2 a3 : List Nat) (a4 b0 : List Nat) (b1 b2 : List Nat) (b3 b4 : List Nat) : List Nat := g37g2 (g37v A a0 a1 a2 a3 a4 b0 b1 b2 b3 b4)
def g37r3 (A : Ar) (a0 a1 : List Nat) (a2 a3 : List Nat) (a4 b0 : List Nat) (b1 b2 : List Nat) (b3 b4 : List Nat) : List Nat := g37g3 (g37v A a0 a1 a2 a3 a4 b0 b1 b2 b3 b4)
def g37r4 (A : Ar) (a0 a1 : List Nat) (a2 a3 : List Nat) (a4 b0 : List Nat) (b1 b2 : List Nat) (b3 b4 : List Nat) : List Nat := g37g4 (g37v A a0 a1 a2 a3 a4 b0 b1 b2 b3 b4)
theorem g37ok_spec {A : Ar} {a0 a1 a2 a3 a4 b0 b1 b2 b3 b4} (h : g37ok A a0 a1 a2 a3 a4 b0 b1 b2 b3 b4 = true) : g37v A a0 a1 a2 a3 a4 b0 b1 b2 b3 b4 = some (.v (.agg [.nums .u64 4 (g37r0 A a0 a1 a2 a3 a4 b0 b1 b2 b3 b4), .nums .u64 4 (g37r1 A a0 a1 a2 a3 a4 b0 b1 b2 b3 b4), .nums .u64 4 (g37r2 A a0 a1 a2 a3 a4 b0 b1 b2 b3 b4), .nums .u64 4 (g37r3 A a0 a1 a2 a3 a4 b0 b1 b2 b3 b4), .nums .u64 4 (g37r4 A a0 a1 a2 a3 a4 b0 b1 b2 b3 b4)])) := g37is_spec h
def g37o (A : Ar) (args : List AV) : Option (Bool × AV) := match args with
  | [.v (.agg [.nums .u64 n0 a0, .nums .u64 n1 a1, .nums .u64 n2 a2, .nums .u64 n3 a3, .nums .u64 n4 a4]), .v (.agg [.nums .u64 n5 b0, .nums .u64 n6 b1, .nums .u64 n7 b2, .nums .u64 n8 b3, .nums .u64 n9 b4])] => some (Nat.beq n0 4 && (Nat.beq n1 4 && (Nat.beq n2 4 && (Nat.beq n3 4 && (Nat.beq n4 4 && (Nat.beq n5 4 && (Nat.beq n6 4 && (Nat.beq n7 4 && (Nat.beq n8 4 && (Nat.beq n9 4 && (g37ok A a0 a1 a2 a3 a4 b0 b1 b2 b3 b4)))))))))), .v (.agg [.nums .u64 4 (g37r0 A a0 a1 a2 a3 a4 b0 b1 b2 b3 b4), .nums .u64 4 (g37r1 A a0 a1 a2 a3 a4 b0 b1 b2 b3 b4), .nums .u64 4 (g37r2 A a0 a1 a2 a3 a4 b0 b1 b2 b3 b4), .nums .u64 4 (g37r3 A a0 a1 a2 a3 a4 b0 b1 b2 b3 b4), .nums .u64 4 (g37r4 A a0 a1 a2 a3 a4 b0 b1 b2 b3 b4)]))
  | _ => none
theorem g37o_sound : ∀ args v, g37o realA args = some (true, v) → Fn1 Try.prog 37 args v := by
  intro args v h
  unfold g37o at h
  split at h
  · rename_i n0 a0 n1 a1 n2 a2 n3 a3 n4 a4 n5 b0 n6 b1 n7 b2 n8 b3 n9 b4
    simp only [Option.some.injEq, Prod.mk.injEq] at h
    obtain ⟨hc, h⟩ := h
    subst h
    · skip
      simp only [Bool.and_eq_true] at hc
      have en0 := beq_true hc.1
      subst en0
      replace hc := hc.2
      have en1 := beq_true hc.1
      subst en1
      replace hc := hc.2
      have en2 := beq_true hc.1
      subst en2
      replace hc := hc.2
      have en3 := beq_true hc.1
      subst en3
      replace hc := hc.2
      have en4 := beq_true hc.1
      subst en4
      replace hc := hc.2
      have en5 := beq_true hc.1
      subst en5
      replace hc := hc.2
      have en6 := beq_true hc.1
      subst en6
      replace hc := hc.2
      have en7 := beq_true hc.1
      subst en7
      replace hc := hc.2
      have en8 := beq_true hc.1
      subst en8
      replace hc := hc.2
      have en9 := beq_true hc.1
      subst en9
      replace hc := hc.2
      exact fn1_ofG mixed gtysOK g37O_sound g37O_det (an := g37an) (cut := g37cut) Try.func37 (c := bodyOf Try.f37) rfl (by kernel_rfl) Try.call37 (Nat.le_of_ble_eq_true rfl) (fun b => rfl) (fun _ => (show g37v realA a0 a1 a2 a3 a4 b0 b1 b2 b3 b4 = _ from g37ok_spec hc)) fun _ st => g37_go st
  · cases h
attribute [local irreducible] g37ok g37r0 g37r1 g37r2 g37r3 g37r4
def g38O (A : Ar) : Orc := orcOf [(54, g54o A), (46, g46o A)]
theorem g38O_sound : OSound Try.prog (g38O realA) := orc_sound fun f g hm args v hv => by
  simp only [List.mem_cons, List.not_mem_nil, or_false, Prod.mk.injEq] at hm
  rcases hm with ⟨rfl, rfl⟩ | ⟨rfl, rfl⟩
  · exact g54o_sound _ _ hv
  · exact g46o_sound _ _ hv
theorem g38O_det : ODet (g38O realA) := orc_det _
def g38an : Ann := [(0, ([0], [])), (1, ([1, 2], [1000, 1001])), (2, ([1, 2, 3], [1000, 1001, 2003]))]
def g38res : List ResultVar := [.cell 2 26]
def g38cut : List Nat := []
noncomputable def g38N {R : Type} (A : Ar) (kk : AV → Heap → Option R) (t : List Bool → St → Option R) (p : List Bool) (s : St) : Option R := nodeN A gtys (g38O A) g38an g38cut t (bodyOf Try.f38) (finD gtys g38res kk) p s
def g38 {R : Type} (A : Ar) (n : Nat) (kk : AV → Heap → Option R) (a0 a1 : List Nat) (a2 a3 a4 : List Nat) : Option R :=
  match g54ok A a2 with
  | true => match g46ok A a0 (g54r0 A a2) with
    | true => match g46ok A a1 (g54r0 A a2) with
      | true => kk (.v (.agg [.nums .u64 4 (g46r0 A a0 (g54r0 A a2)), .nums .u64 4 (g46r0 A a1 (g54r0 A a2))])) [(1000, ⟨[.nums .u64 4 a0, .nums .u64 4 a1, .nums .u64 4 a2, .nums .u64 4 a3, .nums .u64 4 a4], 54, 1⟩), (1001, ⟨[.nums .u64 4 (g46r0 A a0 (g54r0 A a2)), .nums .u64 4 (g46r0 A a1 (g54r0 A a2))], 26, 1⟩), (2003, (bU 4 (g54r0 A a2) 24))]
      | false => none
    | false => none
  | false => none
section
variable {R : Type} {A : Ar} {n : Nat} {kk : AV → Heap → Option R} {tb : Nat → List Bool → St → Option R} (st : Stp (g38N A kk) tb)
include st
theorem g38_go {a0 : List Nat} {a1 : List Nat} {a2 : List Nat} {a3 : List Nat} {a4 : List Nat} : Prs (fun k => funN A gtys (g38O A) g38an g38cut (bodyOf Try.f38) g38res [(.v (.agg [.nums .u64 4 a0, .nums .u64 4 a1, .nums .u64 4 a2, .nums .u64 4 a3, .nums .u64 4 a4]))] [] kk (tb k)) (g38 A n kk a0 a1 a2 a3 a4) := by
  unfold g38
  exact pc (SxY05qpi _ (SxY05qpi _ (SxY05qpi _ (pf _) pn) pn) pn) (by kernel_rfl)
end
def g38is (o : Option AV) : Bool := match o with
  | some (.v (.agg [.nums .u64 4 _, .nums .u64 4 _])) => true
  | _ => false
def g38g0 (o : Option AV) : List Nat := match o with
  | some (.v (.agg [.nums .u64 4 x, .nums .u64 4 _])) => x
  | _ => []
def g38g1 (o : Option AV) : List Nat := match o with
  | some (.v (.agg [.nums .u64 4 _, .nums .u64 4 x])) => x
  | _ => []
theorem g38is_spec {o : Option AV} (h : g38is o = true) : o = some (.v (.agg [.nums .u64 4 (g38g0 o), .nums .u64 4 (g38g1 o)])) := by
  unfold g38is at h
  split at h
  · rfl
  · cases h
def g38v (A : Ar) (a0 a1 : List Nat) (a2 a3 a4 : List Nat) : Option AV := g38 A (100000) (fun v _ => some v) a0 a1 a2 a3 a4
def g38ok (A : Ar) (a0 a1 : List Nat) (a2 a3 a4 : List Nat) : Bool := g38is (g38v A a0 a1 a2 a3 a4)
def g38r0 (A : Ar) (a0 a1 : List Nat) (a2 a3 a4 : List Nat) : List Nat := g38g0 (g38v A a0 a1 a2 a3 a4)
def g38r1 (A : Ar) (a0 a1 : List Nat) (a2 a3 a4 : List Nat) : List Nat := g38g1 (g38v A a0 a1 a2 a3 a4)
theorem g38ok_spec {A : Ar} {a0 a1 a2 a3 a4} (h : g38ok A a0 a1 a2 a3 a4 = true) : g38v A a0 a1 a2 a3 a4 = some (.v (.agg [.nums .u64 4 (g38r0 A a0 a1 a2 a3 a4), .nums .u64 4 (g38r1 A a0 a1 a2 a3 a4)])) := g38is_spec h
def g38o (A : Ar) (args : List AV) : Option (Bool × AV) := match args with
  | [.v (.agg [.nums .u64 n0 a0, .nums .u64 n1 a1, .nums .u64 n2 a2, .nums .u64 n3 a3, .nums .u64 n4 a4])] => some (Nat.beq n0 4 && (Nat.beq n1 4 && (Nat.beq n2 4 && (Nat.beq n3 4 && (Nat.beq n4 4 && (g38ok A a0 a1 a2 a3 a4))))), .v (.agg [.nums .u64 4 (g38r0 A a0 a1 a2 a3 a4), .nums .u64 4 (g38r1 A a0 a1 a2 a3 a4)]))
  | _ => none
theorem g38o_sound : ∀ args v, g38o realA args = some (true, v) → Fn1 Try.prog 38 args v := by
  intro args v h
  unfold g38o at h
  split at h
  · rename_i n0 a0 n1 a1 n2 a2 n3 a3 n4 a4
    simp only [Option.some.injEq, Prod.mk.injEq] at h
    obtain ⟨hc, h⟩ := h
    subst h
    · skip
      simp only [Bool.and_eq_true] at hc
      have en0 := beq_true hc.1
      subst en0
      replace hc := hc.2
      have en1 := beq_true hc.1
      subst en1
      replace hc := hc.2
      have en2 := beq_true hc.1
      subst en2
      replace hc := hc.2
      have en3 := beq_true hc.1
      subst en3
      replace hc := hc.2
      have en4 := beq_true hc.1
      subst en4
      replace hc := hc.2
      exact fn1_ofG mixed gtysOK g38O_sound g38O_det (an := g38an) (cut := g38cut) Try.func38 (c := bodyOf Try.f38) rfl (by kernel_rfl) Try.call38 (Nat.le_of_ble_eq_true rfl) (fun b => rfl) (fun _ => (show g38v realA a0 a1 a2 a3 a4 = _ from g38ok_spec hc)) fun _ st => g38_go st
  · cases h
attribute [local irreducible] g38ok g38r0 g38r1
def g14O (A : Ar) : Orc := orcOf [(36, g36o A), (37, g37o A), (38, g38o A)]
theorem g14O_sound : OSound Try.prog (g14O realA) := orc_sound fun f g hm args v hv => by
  simp only [List.mem_cons, List.not_mem_nil, or_false, Prod.mk.injEq] at hm
  rcases hm with ⟨rfl, rfl⟩ | ⟨rfl, rfl⟩ | ⟨rfl, rfl⟩
  · exact g36o_sound _ _ hv
  · exact g37o_sound _ _ hv
  · exact g38o_sound _ _ hv
theorem g14O_det : ODet (g14O realA) := orc_det _
def g14an : Ann := [(0, ([0, 1], [])), (1, ([2, 3, 4], [1000, 1001, 1002]))]
def g14res : List ResultVar := [.cell 4 26]
def g14cut : List Nat := []
abbrev g14t0 (A : Ar) (x0 x1 : List Nat) (x2 x3 : List Nat) : List Nat := g37r0 A (g36r0 A x0 x1) (g36r1 A x0 x1) (g36r2 A x0 x1) (g36r3 A x0 x1) (g36r4 A x0 x1) (g36r0 A x2 x3) (g36r1 A x2 x3) (g36r2 A x2 x3) (g36r3 A x2 x3) (g36r4 A x2 x3)
abbrev g14t1 (A : Ar) (x0 x1 : List Nat) (x2 x3 : List Nat) : List Nat := g37r1 A (g36r0 A x0 x1) (g36r1 A x0 x1) (g36r2 A x0 x1) (g36r3 A x0 x1) (g36r4 A x0 x1) (g36r0 A x2 x3) (g36r1 A x2 x3) (g36r2 A x2 x3) (g36r3 A x2 x3) (g36r4 A x2 x3)
abbrev g14t2 (A : Ar) (x0 x1 : List Nat) (x2 x3 : List Nat) : List Nat := g37r2 A (g36r0 A x0 x1) (g36r1 A x0 x1) (g36r2 A x0 x1) (g36r3 A x0 x1) (g36r4 A x0 x1) (g36r0 A x2 x3) (g36r1 A x2 x3) (g36r2 A x2 x3) (g36r3 A x2 x3) (g36r4 A x2 x3)
abbrev g14t3 (A : Ar) (x0 x1 : List Nat) (x2 x3 : List Nat) : List Nat := g37r3 A (g36r0 A x0 x1) (g36r1 A x0 x1) (g36r2 A x0 x1) (g36r3 A x0 x1) (g36r4 A x0 x1) (g36r0 A x2 x3) (g36r1 A x2 x3) (g36r2 A x2 x3) (g36r3 A x2 x3) (g36r4 A x2 x3)
abbrev g14t4 (A : Ar) (x0 x1 : List Nat) (x2 x3 : List Nat) : List Nat := g37r4 A (g36r0 A x0 x1) (g36r1 A x0 x1) (g36r2 A x0 x1) (g36r3 A x0 x1) (g36r4 A x0 x1) (g36r0 A x2 x3) (g36r1 A x2 x3) (g36r2 A x2 x3) (g36r3 A x2 x3) (g36r4 A x2 x3)
abbrev g14t5 (A : Ar) (a0 a1 : List Nat) (b0 b1 : List Nat) : List Nat := g37r0 A (g36r0 A a0 a1) (g36r1 A a0 a1) (g36r2 A a0 a1) (g36r3 A a0 a1) (g36r4 A a0 a1) (g36r0 A b0 b1) (g36r1 A b0 b1) (g36r2 A b0 b1) (g36r3 A b0 b1) (g36r4 A b0 b1)
abbrev g14t6 (A : Ar) (a0 a1 : List Nat) (b0 b1 : List Nat) : List Nat := g37r1 A (g36r0 A a0 a1) (g36r1 A a0 a1) (g36r2 A a0 a1) (g36r3 A a0 a1) (g36r4 A a0 a1) (g36r0 A b0 b1) (g36r1 A b0 b1) (g36r2 A b0 b1) (g36r3 A b0 b1) (g36r4 A b0 b1)
abbrev g14t7 (A : Ar) (a0 a1 : List Nat) (b0 b1 : List Nat) : List Nat := g37r2 A (g36r0 A a0 a1) (g36r1 A a0 a1) (g36r2 A a0 a1) (g36r3 A a0 a1) (g36r4 A a0 a1) (g36r0 A b0 b1) (g36r1 A b0 b1) (g36r2 A b0 b1) (g36r3 A b0 b1) (g36r4 A b0 b1)
abbrev g14t8 (A : Ar) (a0 a1 : List Nat) (b0 b1 : List Nat) : List Nat := g37r3 A (g36r0 A a0 a1) (g36r1 A a0 a1) (g36r2 A a0 a1) (g36r3 A a0 a1) (g36r4 A a0 a1) (g36r0 A b0 b1) (g36r1 A b0 b1) (g36r2 A b0 b1) (g36r3 A b0 b1) (g36r4 A b0 b1)
abbrev g14t9 (A : Ar) (a0 a1 : List Nat) (b0 b1 : List Nat) : List Nat := g37r4 A (g36r0 A a0 a1) (g36r1 A a0 a1) (g36r2 A a0 a1) (g36r3 A a0 a1) (g36r4 A a0 a1) (g36r0 A b0 b1) (g36r1 A b0 b1) (g36r2 A b0 b1) (g36r3 A b0 b1) (g36r4 A b0 b1)
noncomputable def g14N {R : Type} (A : Ar) (kk : AV → Heap → Option R) (t : List Bool → St → Option R) (p : List Bool) (s : St) : Option R := nodeN A gtys (g14O A) g14an g14cut t (bodyOf Try.f14) (finD gtys g14res kk) p s
def g14 {R : Type} (A : Ar) (n : Nat) (kk : AV → Heap → Option R) (a0 a1 : List Nat) (b0 b1 : List Nat) : Option R :=
  match g36ok A a0 a1 with
  | true => match g36ok A b0 b1 with
    | true => match g37ok A (g36r0 A a0 a1) (g36r1 A a0 a1) (g36r2 A a0 a1) (g36r3 A a0 a1) (g36r4 A a0 a1) (g36r0 A b0 b1) (g36r1 A b0 b1) (g36r2 A b0 b1) (g36r3 A b0 b1) (g36r4 A b0 b1) with
      | true => match g38ok A (g14t5 A a0 a1 b0 b1) (g14t6 A a0 a1 b0 b1) (g14t7 A a0 a1 b0 b1) (g14t8 A a0 a1 b0 b1) (g14t9 A a0 a1 b0 b1) with
        | true => kk (.v (.agg [.nums .u64 4 (g38r0 A (g14t5 A a0 a1 b0 b1) (g14t6 A a0 a1 b0 b1) (g14t7 A a0 a1 b0 b1) (g14t8 A a0 a1 b0 b1) (g14t9 A a0 a1 b0 b1)), .nums .u64 4 (g38r1 A (g14t5 A a0 a1 b0 b1) (g14t6 A a0 a1 b0 b1) (g14t7 A a0 a1 b0 b1) (g14t8 A a0 a1 b0 b1) (g14t9 A a0 a1 b0 b1))])) [(1000, ⟨[.nums .u64 4 a0, .nums .u64 4 a1], 26, 1⟩), (1001, ⟨[.nums .u64 4 b0, .nums .u64 4 b1], 26, 1⟩), (1002, ⟨[.nums .u64 4 (g38r0 A (g14t5 A a0 a1 b0 b1) (g14t6 A a0 a1 b0 b1) (g14t7 A a0 a1 b0 b1) (g14t8 A a0 a1 b0 b1) (g14t9 A a0 a1 b0 b1)), .nums .u64 4 (g38r1 A (g14t5 A a0 a1 b0 b1) (g14t6 A a0 a1 b0 b1) (g14t7 A a0 a1 b0 b1) (g14t8 A a0 a1 b0 b1) (g14t9 A a0 a1 b0 b1))], 26, 1⟩)]
        | false => none
      | false => none
    | false => none
  | false => none
section
variable {R : Type} {A : Ar} {n : Nat} {kk : AV → Heap → Option R} {tb : Nat → List Bool → St → Option R} (st : Stp (g14N A kk) tb)
include st
theorem g14_go {a0 : List Nat} {a1 : List Nat} {b0 : List Nat} {b1 : List Nat} : Prs (fun k => funN A gtys (g14O A) g14an g14cut (bodyOf Try.f14) g14res [(.v (.agg [.nums .u64 4 a0, .nums .u64 4 a1])), (.v (.agg [.nums .u64 4 b0, .nums .u64 4 b1]))] [] kk (tb k)) (g14 A n kk a0 a1 b0 b1) := by
  unfold g14
  exact pc (SxY05qpi _ (SxY05qpi _ (SxY05qpi _ (SxY05qpi _ (pf _) pn) pn) pn) pn) (by kernel_rfl)
end
def g14is (o : Option AV) : Bool := match o with
  | some (.v (.agg [.nums .u64 4 _, .nums .u64 4 _])) => true
  | _ => false
def g14g0 (o : Option AV) : List Nat := match o with
  | some (.v (.agg [.nums .u64 4 x, .nums .u64 4 _])) => x
  | _ => []
def g14g1 (o : Option AV) : List Nat := match o with
  | some (.v (.agg [.nums .u64 4 _, .nums .u64 4 x])) => x
  | _ => []
theorem g14is_spec {o : Option AV} (h : g14is o = true) : o = some (.v (.agg [.nums .u64 4 (g14g0 o), .nums .u64 4 (g14g1 o)])) := by
  unfold g14is at h
  split at h
  · rfl
  · cases h
def g14v (A : Ar) (a0 a1 : List Nat) (b0 b1 : List Nat) : Option AV := g14 A (100000) (fun v _ => some v) a0 a1 b0 b1
def g14ok (A : Ar) (a0 a1 : List Nat) (b0 b1 : List Nat) : Bool := g14is (g14v A a0 a1 b0 b1)
def g14r0 (A : Ar) (a0 a1 : List Nat) (b0 b1 : List Nat) : List Nat := g14g0 (g14v A a0 a1 b0 b1)
def g14r1 (A : Ar) (a0 a1 : List Nat) (b0 b1 : List Nat) : List Nat := g14g1 (g14v A a0 a1 b0 b1)
theorem g14ok_spec {A : Ar} {a0 a1 b0 b1} (h : g14ok A a0 a1 b0 b1 = true) : g14v A a0 a1 b0 b1 = some (.v (.agg [.nums .u64 4 (g14r0 A a0 a1 b0 b1), .nums .u64 4 (g14r1 A a0 a1 b0 b1)])) := g14is_spec h
def g14o (A : Ar) (args : List AV) : Option (Bool × AV) := match args with
  | [.v (.agg [.nums .u64 n0 a0, .nums .u64 n1 a1]), .v (.agg [.nums .u64 n2 b0, .nums .u64 n3 b1])] => some (Nat.beq n0 4 && (Nat.beq n1 4 && (Nat.beq n2 4 && (Nat.beq n3 4 && (g14ok A a0 a1 b0 b1)))), .v (.agg [.nums .u64 4 (g14r0 A a0 a1 b0 b1), .nums .u64 4 (g14r1 A a0 a1 b0 b1)]))
  | _ => none
theorem g14o_sound : ∀ args v, g14o realA args = some (true, v) → Fn1 Try.prog 14 args v := by
  intro args v h
  unfold g14o at h
  split at h
  · rename_i n0 a0 n1 a1 n2 b0 n3 b1
    simp only [Option.some.injEq, Prod.mk.injEq] at h
    obtain ⟨hc, h⟩ := h
    subst h
    · skip
      simp only [Bool.and_eq_true] at hc
      have en0 := beq_true hc.1
      subst en0
      replace hc := hc.2
      have en1 := beq_true hc.1
      subst en1
      replace hc := hc.2
      have en2 := beq_true hc.1
      subst en2
      replace hc := hc.2
      have en3 := beq_true hc.1
      subst en3
      replace hc := hc.2
      exact fn1_ofG mixed gtysOK g14O_sound g14O_det (an := g14an) (cut := g14cut) Try.func14 (c := bodyOf Try.f14) rfl (by kernel_rfl) Try.call14 (Nat.le_of_ble_eq_true rfl) (fun b => rfl) (fun _ => (show g14v realA a0 a1 b0 b1 = _ from g14ok_spec hc)) fun _ st => g14_go st
  · cases h
attribute [local irreducible] g14ok g14r0 g14r1
def g16O (A : Ar) : Orc := orcOf [(18, g18o A), (24, g24o A), (43, g43o A)]
theorem g16O_sound : OSound Try.prog (g16O realA) := orc_sound fun f g hm args v hv => by
  simp only [List.mem_cons, List.not_mem_nil, or_false, Prod.mk.injEq] at hm
  rcases hm with ⟨rfl, rfl⟩ | ⟨rfl, rfl⟩ | ⟨rfl, rfl⟩
  · exact g18o_sound _ _ hv
  · exact g24o_sound _ _ hv
  · exact g43o_sound _ _ hv
theorem g16O_det : ODet (g16O realA) := orc_det _
def g16an : Ann := [(0, ([0], [])), (1, ([1, 2], [1000, 1001])), (2, ([2], [1001])), (3, ([1, 2], [1000, 1001]))]
def g16res : List ResultVar := [.cell 2 26]
def g16cut : List Nat := [3]
noncomputable def g16N {R : Type} (A : Ar) (kk : AV → Heap → Option R) (t : List Bool → St → Option R) (p : List Bool) (s : St) : Option R := nodeN A gtys (g16O A) g16an g16cut t (bodyOf Try.f16) (finD gtys g16res kk) p s
def g16J3s (x0 x1 : List Nat) (x2 x3 : List Nat) : St := ⟨[(1, (pT 1000 0)), (2, (pT 1001 0))], [(1000, ⟨[.nums .u64 4 x0, .nums .u64 4 x1], 26, 1⟩), (1001, ⟨[.nums .u64 4 x2, .nums .u64 4 x3], 26, 1⟩)]⟩
def g16J3 {R : Type} (A : Ar) (n : Nat) (kk : AV → Heap → Option R)  (x0 x1 : List Nat) (x2 x3 : List Nat) : Option R :=
  match g43ok A x0 with
  | true => kk (.v (.agg [.nums .u64 4 (g43r0 A x0), .nums .u64 4 x1])) [(1000, ⟨[.nums .u64 4 x0, .nums .u64 4 x1], 26, 1⟩), (1001, ⟨[.nums .u64 4 (g43r0 A x0), .nums .u64 4 x1], 26, 1⟩)]
  | false => none
def g16 {R : Type} (A : Ar) (n : Nat) (kk : AV → Heap → Option R) (a0 a1 : List Nat) : Option R :=
  match g18ok A a0 a1 with
  | true => match !(g18r0 A a0 a1) with
    | true => match g24ok A with
      | true => kk (.v (.agg [.nums .u64 4 (g24r0 A), .nums .u64 4 (g24r1 A)])) [(1001, ⟨[.nums .u64 4 (g24r0 A), .nums .u64 4 (g24r1 A)], 26, 1⟩)]
      | false => none
    | false => g16J3 A n kk  a0 a1 [0, 0, 0, 0] [0, 0, 0, 0]
  | false => none
section
variable {R : Type} {A : Ar} {n : Nat} {kk : AV → Heap → Option R} {tb : Nat → List Bool → St → Option R} (st : Stp (g16N A kk) tb)
include st
theorem g16J3_go {x0 : List Nat} {x1 : List Nat} {x2 : List Nat} {x3 : List Nat} : Prs (fun k => tb k (pth 7) (g16J3s x0 x1 x2 x3)) (g16J3 A n kk x0 x1 x2 x3) := by
  unfold g16J3
  exact st.g (pc (SxY05qpi _ (pf _) pn) (by kernel_rfl))
theorem g16_go {a0 : List Nat} {a1 : List Nat} : Prs (fun k => funN A gtys (g16O A) g16an g16cut (bodyOf Try.f16) g16res [(.v (.agg [.nums .u64 4 a0, .nums .u64 4 a1]))] [] kk (tb k)) (g16 A n kk a0 a1) := by
  unfold g16
  exact pc (SxY05qpi _ (SxY05qpi _ (SxY05qpi _ (pf _) pn) (g16J3_go st)) pn) (by kernel_rfl)
end
def g16is (o : Option AV) : Bool := match o with
  | some (.v (.agg [.nums .u64 4 _, .nums .u64 4 _])) => true
  | _ => false
def g16g0 (o : Option AV) : List Nat := match o with
  | some (.v (.agg [.nums .u64 4 x, .nums .u64 4 _])) => x
  | _ => []
def g16g1 (o : Option AV) : List Nat := match o with
  | some (.v (.agg [.nums .u64 4 _, .nums .u64 4 x])) => x
  | _ => []
theorem g16is_spec {o : Option AV} (h : g16is o = true) : o = some (.v (.agg [.nums .u64 4 (g16g0 o), .nums .u64 4 (g16g1 o)])) := by
  unfold g16is at h
  split at h
  · rfl
  · cases h
def g16v (A : Ar) (a0 a1 : List Nat) : Option AV := g16 A (100000) (fun v _ => some v) a0 a1
def g16ok (A : Ar) (a0 a1 : List Nat) : Bool := g16is (g16v A a0 a1)
def g16r0 (A : Ar) (a0 a1 : List Nat) : List Nat := g16g0 (g16v A a0 a1)
def g16r1 (A : Ar) (a0 a1 : List Nat) : List Nat := g16g1 (g16v A a0 a1)
theorem g16ok_spec {A : Ar} {a0 a1} (h : g16ok A a0 a1 = true) : g16v A a0 a1 = some (.v (.agg [.nums .u64 4 (g16r0 A a0 a1), .nums .u64 4 (g16r1 A a0 a1)])) := g16is_spec h
def g16o (A : Ar) (args : List AV) : Option (Bool × AV) := match args with
  | [.v (.agg [.nums .u64 n0 a0, .nums .u64 n1 a1])] => some (Nat.beq n0 4 && (Nat.beq n1 4 && (g16ok A a0 a1)), .v (.agg [.nums .u64 4 (g16r0 A a0 a1), .nums .u64 4 (g16r1 A a0 a1)]))
  | _ => none
theorem g16o_sound : ∀ args v, g16o realA args = some (true, v) → Fn1 Try.prog 16 args v := by
  intro args v h
  unfold g16o at h
  split at h
  · rename_i n0 a0 n1 a1
    simp only [Option.some.injEq, Prod.mk.injEq] at h
    obtain ⟨hc, h⟩ := h
    subst h
    · skip
      simp only [Bool.and_eq_true] at hc
      have en0 := beq_true hc.1
      subst en0
      replace hc := hc.2
      have en1 := beq_true hc.1
      subst en1
      replace hc := hc.2
      exact fn1_ofG mixed gtysOK g16O_sound g16O_det (an := g16an) (cut := g16cut) Try.func16 (c := bodyOf Try.f16) rfl (by kernel_rfl) Try.call16 (Nat.le_of_ble_eq_true rfl) (fun b => rfl) (fun _ => (show g16v realA a0 a1 = _ from g16ok_spec hc)) fun _ st => g16_go st
  · cases h
attribute [local irreducible] g16ok g16r0 g16r1
def g52O (A : Ar) : Orc := orcOf [(46, g46o A), (66, g66o A), (47, g47o A), (43, g43o A)]
theorem g52O_sound : OSound Try.prog (g52O realA) := orc_sound fun f g hm args v hv => by
  simp only [List.mem_cons, List.not_mem_nil, or_false, Prod.mk.injEq] at hm
  rcases hm with ⟨rfl, rfl⟩ | ⟨rfl, rfl⟩ | ⟨rfl, rfl⟩ | ⟨rfl, rfl⟩
  · exact g46o_sound _ _ hv
  · exact g66o_sound _ _ hv
  · exact g47o_sound _ _ hv
  · exact g43o_sound _ _ hv
theorem g52O_det : ODet (g52O realA) := orc_det _
def g52an : Ann := [(0, ([0], [])), (1, ([1, 2], [1000, 1001])), (2, ([1, 2, 3, 4, 5], [1000, 1001, 2015, 2016, 2017])), (3, ([1, 2, 3, 4, 5], [1000, 1001, 2015, 2016, 2017])), (4, ([1, 2, 3, 4, 5, 6], [1000, 1001, 2015, 2016, 2017, 4005])), (5, ([1, 2, 3, 4, 5, 7], [1000, 1001, 2015, 2016, 2017, 5007])), (6, ([1, 2, 3, 4, 5, 7, 8], [1000, 1001, 2015, 2016, 2017, 5007, 6003])), (7, ([1, 2, 7, 8, 9, 10], [1000, 1001, 5007, 6003, 7007, 7008]))]
def g52res : List ResultVar := [.cell 2 54]
def g52cut : List Nat := []
abbrev g52t0 (A : Ar) (a0 a1 a2 : List Nat) : List Nat := g46r0 A (g47r0 A (g47r0 A (g46r0 A (g66r0 A a0 a1) (g66r0 A a0 a1)) (g46r0 A a0 a0)) (g46r0 A a1 a1)) (g47r0 A (g47r0 A (g46r0 A a1 a1) (g46r0 A a0 a0)) (g66r0 A (g46r0 A a2 a2) (g46r0 A a2 a2)))
abbrev g52t1 (A : Ar) (a0 a1 : List Nat) : List Nat := g46r0 A (g47r0 A (g47r0 A (g46r0 A (g66r0 A a0 a1) (g66r0 A a0 a1)) (g46r0 A a0 a0)) (g46r0 A a1 a1)) (g43r0 A (g66r0 A (g46r0 A a0 a0) (g46r0 A a1 a1)))
noncomputable def g52N {R : Type} (A : Ar) (kk : AV → Heap → Option R) (t : List Bool → St → Option R) (p : List Bool) (s : St) : Option R := nodeN A gtys (g52O A) g52an g52cut t (bodyOf Try.f52) (finD gtys g52res kk) p s
def g52 {R : Type} (A : Ar) (n : Nat) (kk : AV → Heap → Option R) (a0 a1 : List Nat) (a2 a3 a4 : List Nat) : Option R :=
  match g46ok A a0 a0 with
  | true => match g46ok A a1 a1 with
    | true => match g46ok A a2 a2 with
      | true => match g66ok A (g46r0 A a2 a2) (g46r0 A a2 a2) with
        | true => match g66ok A a0 a1 with
          | true => match g46ok A (g66r0 A a0 a1) (g66r0 A a0 a1) with
            | true => match g47ok A (g46r0 A (g66r0 A a0 a1) (g66r0 A a0 a1)) (g46r0 A a0 a0) with
              | true => match g47ok A (g47r0 A (g46r0 A (g66r0 A a0 a1) (g66r0 A a0 a1)) (g46r0 A a0 a0)) (g46r0 A a1 a1) with
                | true => match g47ok A (g46r0 A a1 a1) (g46r0 A a0 a0) with
                  | true => match g47ok A (g47r0 A (g46r0 A a1 a1) (g46r0 A a0 a0)) (g66r0 A (g46r0 A a2 a2) (g46r0 A a2 a2)) with
                    | true => match g66ok A (g46r0 A a0 a0) (g46r0 A a1 a1) with
                      | true => match g43ok A (g66r0 A (g46r0 A a0 a0) (g46r0 A a1 a1)) with
                        | true => match g46ok A (g47r0 A (g47r0 A (g46r0 A (g66r0 A a0 a1) (g66r0 A a0 a1)) (g46r0 A a0 a0)) (g46r0 A a1 a1)) (g47r0 A (g47r0 A (g46r0 A a1 a1) (g46r0 A a0 a0)) (g66r0 A (g46r0 A a2 a2) (g46r0 A a2 a2))) with
                          | true => match g46ok A (g47r0 A (g46r0 A a1 a1) (g46r0 A a0 a0)) (g43r0 A (g66r0 A (g46r0 A a0 a0) (g46r0 A a1 a1))) with
                            | true => match g46ok A (g47r0 A (g47r0 A (g46r0 A a1 a1) (g46r0 A a0 a0)) (g66r0 A (g46r0 A a2 a2) (g46r0 A a2 a2))) (g47r0 A (g46r0 A a1 a1) (g46r0 A a0 a0)) with
                              | true => match g46ok A (g47r0 A (g47r0 A (g46r0 A (g66r0 A a0 a1) (g66r0 A a0 a1)) (g46r0 A a0 a0)) (g46r0 A a1 a1)) (g43r0 A (g66r0 A (g46r0 A a0 a0) (g46r0 A a1 a1))) with
                                | true => kk (.v (.agg [.nums .u64 4 (g52t0 A a0 a1 a2), .nums .u64 4 (g46r0 A (g47r0 A (g46r0 A a1 a1) (g46r0 A a0 a0)) (g43r0 A (g66r0 A (g46r0 A a0 a0) (g46r0 A a1 a1)))), .nums .u64 4 (g46r0 A (g47r0 A (g47r0 A (g46r0 A a1 a1) (g46r0 A a0 a0)) (g66r0 A (g46r0 A a2 a2) (g46r0 A a2 a2))) (g47r0 A (g46r0 A a1 a1) (g46r0 A a0 a0))), .nums .u64 4 (g52t1 A a0 a1), .nums .u64 4 a4])) [(1000, ⟨[.nums .u64 4 a0, .nums .u64 4 a1, .nums .u64 4 a2, .nums .u64 4 a3, .nums .u64 4 a4], 54, 1⟩), (1001, ⟨[.nums .u64 4 (g52t0 A a0 a1 a2), .nums .u64 4 (g46r0 A (g47r0 A (g46r0 A a1 a1) (g46r0 A a0 a0)) (g43r0 A (g66r0 A (g46r0 A a0 a0) (g46r0 A a1 a1)))), .nums .u64 4 (g46r0 A (g47r0 A (g47r0 A (g46r0 A a1 a1) (g46r0 A a0 a0)) (g66r0 A (g46r0 A a2 a2) (g46r0 A a2 a2))) (g47r0 A (g46r0 A a1 a1) (g46r0 A a0 a0))), .nums .u64 4 (g52t1 A a0 a1), .nums .u64 4 a4], 54, 1⟩), (5007, (bU 4 (g47r0 A (g47r0 A (g46r0 A (g66r0 A a0 a1) (g66r0 A a0 a1)) (g46r0 A a0 a0)) (g46r0 A a1 a1)) 24)), (6003, (bU 4 (g47r0 A (g46r0 A a1 a1) (g46r0 A a0 a0)) 24)), (7007, (bU 4 (g47r0 A (g47r0 A (g46r0 A a1 a1) (g46r0 A a0 a0)) (g66r0 A (g46r0 A a2 a2) (g46r0 A a2 a2))) 24)), (7008, (bU 4 (g43r0 A (g66r0 A (g46r0 A a0 a0) (g46r0 A a1 a1))) 24))]
                                | false => none
                              | false => none
                            | false => none
                          | false => none
                        | false => none
                      | false => none
                    | false => none
                  | false => none
                | false => none
              | false => none
            | false => none
          | false => none
        | false => none
      | false => none
    | false => none
  | false => none
section
variable {R : Type} {A : Ar} {n : Nat} {kk : AV → Heap → Option R} {tb : Nat → List Bool → St → Option R} (st : Stp (g52N A kk) tb)
include st
theorem g52_go {a0 : List Nat} {a1 : List Nat} {a2 : List Nat} {a3 : List Nat} {a4 : List Nat} : Prs (fun k => funN A gtys (g52O A) g52an g52cut (bodyOf Try.f52) g52res [(.v (.agg [.nums .u64 4 a0, .nums .u64 4 a1, .nums .u64 4 a2, .nums .u64 4 a3, .nums .u64 4 a4]))] [] kk (tb k)) (g52 A n kk a0 a1 a2 a3 a4) := by
  unfold g52
  exact pc (SxY05qpi _ (SxY05qpi _ (SxY05qpi _ (SxY05qpi _ (SxY05qpi _ (SxY05qpi _ (SxY05qpi _ (SxY05qpi _ (SxY05qpi _ (SxY05qpi _ (SxY05qpi _ (SxY05qpi _ (SxY05qpi _ (SxY05qpi _ (SxY05qpi _ (SxY05qpi _ (pf _) pn) pn) pn) pn) pn) pn) pn) pn) pn) pn) pn) pn) pn) pn) pn) pn) (by kernel_rfl)
end
def g52is (o : Option AV) : Bool := match o with
  | some (.v (.agg [.nums .u64 4 _, .nums .u64 4 _, .nums .u64 4 _, .nums .u64 4 _, .nums .u64 4 _])) => true
  | _ => false
def g52g0 (o : Option AV) : List Nat := match o with
  | some (.v (.agg [.nums .u64 4 x, .nums .u64 4 _, .nums .u64 4 _, .nums .u64 4 _, .nums .u64 4 _])) => x
  | _ => []
def g52g1 (o : Option AV) : List Nat := match o with
  | some (.v (.agg [.nums .u64 4 _, .nums .u64 4 x, .nums .u64 4 _, .nums .u64 4 _, .nums .u64 4 _])) => x
  | _ => []
def g52g2 (o : Option AV) : List Nat := match o with
  | some (.v (.agg [.nums .u64 4 _, .nums .u64 4 _, .nums .u64 4 x, .nums .u64 4 _, .nums .u64 4 _])) => x
  | _ => []
def g52g3 (o : Option AV) : List Nat := match o with
  | some (.v (.agg [.nums .u64 4 _, .nums .u64 4 _, .nums .u64 4 _, .nums .u64 4 x, .nums .u64 4 _])) => x
  | _ => []
def g52g4 (o : Option AV) : List Nat := match o with
  | some (.v (.agg [.nums .u64 4 _, .nums .u64 4 _, .nums .u64 4 _, .nums .u64 4 _, .nums .u64 4 x])) => x
  | _ => []
theorem g52is_spec {o : Option AV} (h : g52is o = true) : o = some (.v (.agg [.nums .u64 4 (g52g0 o), .nums .u64 4 (g52g1 o), .nums .u64 4 (g52g2 o), .nums .u64 4 (g52g3 o), .nums .u64 4 (g52g4 o)])) := by
  unfold g52is at h
  split at h
  · rfl
  · cases h
def g52v (A : Ar) (a0 a1 : List Nat) (a2 a3 a4 : List Nat) : Option AV := g52 A (100000) (fun v _ => some v) a0 a1 a2 a3 a4
def g52ok (A : Ar) (a0 a1 : List Nat) (a2 a3 a4 : List Nat) : Bool := g52is (g52v A a0 a1 a2 a3 a4)
def g52r0 (A : Ar) (a0 a1 : List Nat) (a2 a3 a4 : List Nat) : List Nat := g52g0 (g52v A a0 a1 a2 a3 a4)
def g52r1 (A : Ar) (a0 a1 : List Nat) (a2 a3 a4 : List Nat) : List Nat := g52g1 (g52v A a0 a1 a2 a3 a4)
def g52r2 (A : Ar) (a0 a1 : List Nat) (a2 a3 a4 : List Nat) : List Nat := g52g2 (g52v A a0 a1 a2 a3 a4)
def g52r3 (A : Ar) (a0 a1 : List Nat) (a2 a3 a4 : List Nat) : List Nat := g52g3 (g52v A a0 a1 a2 a3 a4)
def g52r4 (A : Ar) (a0 a1 : List Nat) (a2 a3 a4 : List Nat) : List Nat := g52g4 (g52v A a0 a1 a2 a3 a4)
theorem g52ok_spec {A : Ar} {a0 a1 a2 a3 a4} (h : g52ok A a0 a1 a2 a3 a4 = true) : g52v A a0 a1 a2 a3 a4 = some (.v (.agg [.nums .u64 4 (g52r0 A a0 a1 a2 a3 a4), .nums .u64 4 (g52r1 A a0 a1 a2 a3 a4), .nums .u64 4 (g52r2 A a0 a1 a2 a3 a4), .nums .u64 4 (g52r3 A a0 a1 a2 a3 a4), .nums .u64 4 (g52r4 A a0 a1 a2 a3 a4)])) := g52is_spec h
def g52o (A : Ar) (args : List AV) : Option (Bool × AV) := match args with
  | [.v (.agg [.nums .u64 n0 a0, .nums .u64 n1 a1, .nums .u64 n2 a2, .nums .u64 n3 a3, .nums .u64 n4 a4])] => some (Nat.beq n0 4 && (Nat.beq n1 4 && (Nat.beq n2 4 && (Nat.beq n3 4 && (Nat.beq n4 4 && (g52ok A a0 a1 a2 a3 a4))))), .v (.agg [.nums .u64 4 (g52r0 A a0 a1 a2 a3 a4), .nums .u64 4 (g52r1 A a0 a1 a2 a3 a4), .nums .u64 4 (g52r2 A a0 a1 a2 a3 a4), .nums .u64 4 (g52r3 A a0 a1 a2 a3 a4), .nums .u64 4 (g52r4 A a0 a1 a2 a3 a4)]))
  | _ => none
theorem g52o_sound : ∀ args v, g52o realA args = some (true, v) → Fn1 Try.prog 52 args v := by
  intro args v h
  unfold g52o at h
  split at h
  · rename_i n0 a0 n1 a1 n2 a2 n3 a3 n4 a4
    simp only [Option.some.injEq, Prod.mk.injEq] at h
    obtain ⟨hc, h⟩ := h
    subst h
    · skip
      simp only [Bool.and_eq_true] at hc
      have en0 := beq_true hc.1
      subst en0
      replace hc := hc.2
      have en1 := beq_true hc.1
      subst en1
      replace hc := hc.2
      have en2 := beq_true hc.1
      subst en2
      replace hc := hc.2
      have en3 := beq_true hc.1
      subst en3
      replace hc := hc.2
      have en4 := beq_true hc.1
      subst en4
      replace hc := hc.2
      exact fn1_ofG mixed gtysOK g52O_sound g52O_det (an := g52an) (cut := g52cut) Try.func52 (c := bodyOf Try.f52) rfl (by kernel_rfl) Try.call52 (Nat.le_of_ble_eq_true rfl) (fun b => rfl) (fun _ => (show g52v realA a0 a1 a2 a3 a4 = _ from g52ok_spec hc)) fun _ st => g52_go st
  · cases h
attribute [local irreducible] g52ok g52r0 g52r1 g52r2 g52r3 g52r4
def g20O (A : Ar) : Orc := orcOf [(36, g36o A), (24, g24o A), (37, g37o A), (51, g51o A), (52, g52o A), (38, g38o A)]
theorem g20O_sound : OSound Try.prog (g20O realA) := orc_sound fun f g hm args v hv => by
  simp only [List.mem_cons, List.not_mem_nil, or_false, Prod.mk.injEq] at hm
  rcases hm with ⟨rfl, rfl⟩ | ⟨rfl, rfl⟩ | ⟨rfl, rfl⟩ | ⟨rfl, rfl⟩ | ⟨rfl, rfl⟩ | ⟨rfl, rfl⟩
  · exact g36o_sound _ _ hv
  · exact g24o_sound _ _ hv
  · exact g37o_sound _ _ hv
  · exact g51o_sound _ _ hv
  · exact g52o_sound _ _ hv
  · exact g38o_sound _ _ hv
theorem g20O_det : ODet (g20O realA) := orc_det _
def g20an : Ann := [(0, ([0, 1], [])), (1, ([0, 3, 4], [1000, 1001])), (2, ([0, 4, 5, 6], [1001, 2004, 2005])), (3, ([0, 4, 5, 6, 16, 17], [1001, 2004, 2005])), (4, ([0, 4, 5, 6, 16, 17], [1001, 2004, 2005])), (5, ([0, 4, 5, 6, 7, 16, 17], [1001, 2004, 2005])), (6, ([0, 4, 5, 6, 7, 8, 16, 17], [1001, 2004, 2005])), (7, ([0, 4, 5, 6, 8, 16, 17], [1001, 2004, 2005])), (8, ([0, 4, 5, 6, 16, 17], [1001, 2004, 2005])), (9, ([0, 4, 5, 6, 16, 17], [1001, 2004, 2005])), (10, ([4, 6], [1001, 2005]))]
def g20res : List ResultVar := [.cell 4 26]
def g20cut : List Nat := [4]
noncomputable def g20N {R : Type} (A : Ar) (kk : AV → Heap → Option R) (t : List Bool → St → Option R) (p : List Bool) (s : St) : Option R := nodeN A gtys (g20O A) g20an g20cut t (bodyOf Try.f20) (finD gtys g20res kk) p s
def g20J4s (x0 : List Nat) (x1 x2 : Int) (x3 x4 : List Nat) (x5 x6 : List Nat) (x7 x8 : List Nat) (x9 x10 : List Nat) (x11 x12 : List Nat) (x13 x14 : List Nat) : St := ⟨[(0, (tS x0)), (4, (pT 1001 0)), (5, (pT 2004 0)), (6, (pT 2005 0)), (16, (i6 x1)), (17, (i6 x2))], [(1001, ⟨[.nums .u64 4 x3, .nums .u64 4 x4], 26, 1⟩), (2004, ⟨[.nums .u64 4 x5, .nums .u64 4 x6, .nums .u64 4 x7, .nums .u64 4 x8, .nums .u64 4 x9], 54, 1⟩), (2005, ⟨[.nums .u64 4 x10, .nums .u64 4 x11, .nums .u64 4 x12, .nums .u64 4 x13, .nums .u64 4 x14], 54, 1⟩)]⟩
def g20J4 {R : Type} (A : Ar) (n : Nat) (kk : AV → Heap → Option R) (lg20L3 : List Nat → Int → Int → List Nat → List Nat → List Nat → List Nat → List Nat → List Nat → List Nat → List Nat → List Nat → List Nat → List Nat → List Nat → Option R) (x0 : List Nat) (x1 x2 : Int) (x3 x4 : List Nat) (x5 x6 : List Nat) (x7 x8 : List Nat) (x9 x10 : List Nat) (x11 x12 : List Nat) (x13 x14 : List Nat) : Option R :=
  match g51ok A x0 x2 with
  | true => match A.ic .neq (g51r0 A x0 x2) 0 with
    | true => match g37ok A x10 x11 x12 x13 x14 x5 x6 x7 x8 x9 with
      | true => match g52ok A x5 x6 x7 x8 x9 with
        | true => lg20L3 x0 x1 (A.ib .add .i64 x2 1) x3 x4 (g52r0 A x5 x6 x7 x8 x9) (g52r1 A x5 x6 x7 x8 x9) (g52r2 A x5 x6 x7 x8 x9) (g52r3 A x5 x6 x7 x8 x9) (g52r4 A x5 x6 x7 x8 x9) (g37r0 A x10 x11 x12 x13 x14 x5 x6 x7 x8 x9) (g37r1 A x10 x11 x12 x13 x14 x5 x6 x7 x8 x9) (g37r2 A x10 x11 x12 x13 x14 x5 x6 x7 x8 x9) (g37r3 A x10 x11 x12 x13 x14 x5 x6 x7 x8 x9) (g37r4 A x10 x11 x12 x13 x14 x5 x6 x7 x8 x9)
        | false => none
      | false => none
    | false => match g52ok A x5 x6 x7 x8 x9 with
      | true => lg20L3 x0 x1 (A.ib .add .i64 x2 1) x3 x4 (g52r0 A x5 x6 x7 x8 x9) (g52r1 A x5 x6 x7 x8 x9) (g52r2 A x5 x6 x7 x8 x9) (g52r3 A x5 x6 x7 x8 x9) (g52r4 A x5 x6 x7 x8 x9) x10 x11 x12 x13 x14
      | false => none
  | false => none
def g20L3s (x0 : List Nat) (x1 x2 : Int) (x3 x4 : List Nat) (x5 x6 : List Nat) (x7 x8 : List Nat) (x9 x10 : List Nat) (x11 x12 : List Nat) (x13 x14 : List Nat) : St := ⟨[(0, (tS x0)), (4, (pT 1001 0)), (5, (pT 2004 0)), (6, (pT 2005 0)), (16, (i6 x1)), (17, (i6 x2))], [(1001, ⟨[.nums .u64 4 x3, .nums .u64 4 x4], 26, 1⟩), (2004, ⟨[.nums .u64 4 x5, .nums .u64 4 x6, .nums .u64 4 x7, .nums .u64 4 x8, .nums .u64 4 x9], 54, 1⟩), (2005, ⟨[.nums .u64 4 x10, .nums .u64 4 x11, .nums .u64 4 x12, .nums .u64 4 x13, .nums .u64 4 x14], 54, 1⟩)]⟩
def g20L3 {R : Type} (A : Ar) (n : Nat) (kk : AV → Heap → Option R)  : Nat → List Nat → Int → Int → List Nat → List Nat → List Nat → List Nat → List Nat → List Nat → List Nat → List Nat → List Nat → List Nat → List Nat → List Nat → Option R
  | 0, _, _, _, _, _, _, _, _, _, _, _, _, _, _, _ => none
  | m + 1, x0, x1, x2, x3, x4, x5, x6, x7, x8, x9, x10, x11, x12, x13, x14 => match A.ic .lss x2 x1 with
  | true => g20J4 A n kk (g20L3 A n kk  m) x0 x1 x2 x3 x4 x5 x6 x7 x8 x9 x10 x11 x12 x13 x14
  | false => match g38ok A x10 x11 x12 x13 x14 with
    | true => kk (.v (.agg [.nums .u64 4 (g38r0 A x10 x11 x12 x13 x14), .nums .u64 4 (g38r1 A x10 x11 x12 x13 x14)])) [(1001, ⟨[.nums .u64 4 (g38r0 A x10 x11 x12 x13 x14), .nums .u64 4 (g38r1 A x10 x11 x12 x13 x14)], 26, 1⟩), (2005, ⟨[.nums .u64 4 x10, .nums .u64 4 x11, .nums .u64 4 x12, .nums .u64 4 x13, .nums .u64 4 x14], 54, 1⟩)]
    | false => none
def g20 {R : Type} (A : Ar) (n : Nat) (kk : AV → Heap → Option R) (a b0 b1 : List Nat) : Option R :=
  match g36ok A b0 b1 with
  | true => match g24ok A with
    | true => match g36ok A (g24r0 A) (g24r1 A) with
      | true => g20L3 A n kk  n a (A.ib .mul .i64 8 (A.mn (A.ofN a.length) 32)) 0 [0, 0, 0, 0] [0, 0, 0, 0] (g36r0 A b0 b1) (g36r1 A b0 b1) (g36r2 A b0 b1) (g36r3 A b0 b1) (g36r4 A b0 b1) (g36r0 A (g24r0 A) (g24r1 A)) (g36r1 A (g24r0 A) (g24r1 A)) (g36r2 A (g24r0 A) (g24r1 A)) (g36r3 A (g24r0 A) (g24r1 A)) (g36r4 A (g24r0 A) (g24r1 A))
      | false => none
    | false => none
  | false => none
section
variable {R : Type} {A : Ar} {n : Nat} {kk : AV → Heap → Option R} {tb : Nat → List Bool → St → Option R} (st : Stp (g20N A kk) tb)
include st
theorem g20J4_go {lg20L3 : List Nat → Int → Int → List Nat → List Nat → List Nat → List Nat → List Nat → List Nat → List Nat → List Nat → List Nat → List Nat → List Nat → List Nat → Option R} (hg20L3 : ∀ (x0 : List Nat) (x1 x2 : Int) (x3 x4 : List Nat) (x5 x6 : List Nat) (x7 x8 : List Nat) (x9 x10 : List Nat) (x11 x12 : List Nat) (x13 x14 : List Nat), Prs (fun k => tb k (pth 116) (g20L3s x0 x1 x2 x3 x4 x5 x6 x7 x8 x9 x10 x11 x12 x13 x14)) (lg20L3 x0 x1 x2 x3 x4 x5 x6 x7 x8 x9 x10 x11 x12 x13 x14)) {x0 : List Nat} {x1 : Int} {x2 : Int} {x3 : List Nat} {x4 : List Nat} {x5 : List Nat} {x6 : List Nat} {x7 : List Nat} {x8 : List Nat} {x9 : List Nat} {x10 : List Nat} {x11 : List Nat} {x12 : List Nat} {x13 : List Nat} {x14 : List Nat} : Prs (fun k => tb k (pth 467) (g20J4s x0 x1 x2 x3 x4 x5 x6 x7 x8 x9 x10 x11 x12 x13 x14)) (g20J4 A n kk lg20L3 x0 x1 x2 x3 x4 x5 x6 x7 x8 x9 x10 x11 x12 x13 x14) := by
  unfold g20J4
  exact st.g (pc (SxY05qpi _ (SxY05qpi _ (SxY05qpi _ (SxY05qpi _ (hg20L3 _ _ _ _ _ _ _ _ _ _ _ _ _ _ _) pn) pn) (SxY05qpi _ (hg20L3 _ _ _ _ _ _ _ _ _ _ _ _ _ _ _) pn)) pn) (by kernel_rfl))
theorem g20L3_go (m : Nat) : ∀ (x0 : List Nat) (x1 x2 : Int) (x3 x4 : List Nat) (x5 x6 : List Nat) (x7 x8 : List Nat) (x9 x10 : List Nat) (x11 x12 : List Nat) (x13 x14 : List Nat), Prs (fun k => tb k (pth 116) (g20L3s x0 x1 x2 x3 x4 x5 x6 x7 x8 x9 x10 x11 x12 x13 x14)) (g20L3 A n kk m x0 x1 x2 x3 x4 x5 x6 x7 x8 x9 x10 x11 x12 x13 x14) := by
  induction m with
  | zero => intro x0 x1 x2 x3 x4 x5 x6 x7 x8 x9 x10 x11 x12 x13 x14; exact pn0
  | succ m ih =>
    intro x0 x1 x2 x3 x4 x5 x6 x7 x8 x9 x10 x11 x12 x13 x14; rw [g20L3]
    exact st.g (pc (SxY05qpi _ (g20J4_go st ih) (SxY05qpi _ (pf _) pn)) (by kernel_rfl))
theorem g20_go {a : List Nat} {b0 : List Nat} {b1 : List Nat} : Prs (fun k => funN A gtys (g20O A) g20an g20cut (bodyOf Try.f20) g20res [(tS a), (.v (.agg [.nums .u64 4 b0, .nums .u64 4 b1]))] [] kk (tb k)) (g20 A n kk a b0 b1) := by
  unfold g20
  exact pc (SxY05qpi _ (SxY05qpi _ (SxY05qpi _ (g20L3_go st n _ _ _ _ _ _ _ _ _ _ _ _ _ _ _) pn) pn) pn) (by kernel_rfl)
end
def g20is (o : Option AV) : Bool := match o with
  | some (.v (.agg [.nums .u64 4 _, .nums .u64 4 _])) => true
  | _ => false
def g20g0 (o : Option AV) : List Nat := match o with
  | some (.v (.agg [.nums .u64 4 x, .nums .u64 4 _])) => x
  | _ => []
def g20g1 (o : Option AV) : List Nat := match o with
  | some (.v (.agg [.nums .u64 4 _, .nums .u64 4 x])) => x
  | _ => []
theorem g20is_spec {o : Option AV} (h : g20is o = true) : o = some (.v (.agg [.nums .u64 4 (g20g0 o), .nums .u64 4 (g20g1 o)])) := by
  unfold g20is at h
  split at h
  · rfl
  · cases h
def g20v (A : Ar) (a b0 b1 : List Nat) : Option AV := g20 A (100000) (fun v _ => some v) a b0 b1
def g20ok (A : Ar) (a b0 b1 : List Nat) : Bool := g20is (g20v A a b0 b1)
def g20r0 (A : Ar) (a b0 b1 : List Nat) : List Nat := g20g0 (g20v A a b0 b1)
def g20r1 (A : Ar) (a b0 b1 : List Nat) : List Nat := g20g1 (g20v A a b0 b1)
theorem g20ok_spec {A : Ar} {a b0 b1} (h : g20ok A a b0 b1 = true) : g20v A a b0 b1 = some (.v (.agg [.nums .u64 4 (g20r0 A a b0 b1), .nums .u64 4 (g20r1 A a b0 b1)])) := g20is_spec h
def g20o (A : Ar) (args : List AV) : Option (Bool × AV) := match args with
  | [.v (.cell (.str a)), .v (.agg [.nums .u64 n0 b0, .nums .u64 n1 b1])] => some (Nat.beq n0 4 && (Nat.beq n1 4 && (g20ok A a b0 b1)), .v (.agg [.nums .u64 4 (g20r0 A a b0 b1), .nums .u64 4 (g20r1 A a b0 b1)]))
  | _ => none
theorem g20o_sound : ∀ args v, g20o realA args = some (true, v) → Fn1 Try.prog 20 args v := by
  intro args v h
  unfold g20o at h
  split at h
  · rename_i a n0 b0 n1 b1
    simp only [Option.some.injEq, Prod.mk.injEq] at h
    obtain ⟨hc, h⟩ := h
    subst h
    · skip
      simp only [Bool.and_eq_true] at hc
      have en0 := beq_true hc.1
      subst en0
      replace hc := hc.2
      have en1 := beq_true hc.1
      subst en1
      replace hc := hc.2
      exact fn1_ofG mixed gtysOK g20O_sound g20O_det (an := g20an) (cut := g20cut) Try.func20 (c := bodyOf Try.f20) rfl (by kernel_rfl) Try.call20 (Nat.le_of_ble_eq_true rfl) (fun b => rfl) (fun _ => (show g20v realA a b0 b1 = _ from g20ok_spec hc)) fun _ st => g20_go st
  · cases h
attribute [local irreducible] g20ok g20r0 g20r1
def g55O (A : Ar) : Orc := orcOf [(46, g46o A), (48, g48o A), (47, g47o A), (31, g31o A), (66, g66o A), (74, g74o A)]
theorem g55O_sound : OSound Try.prog (g55O realA) := orc_sound fun f g hm args v hv => by
  simp only [List.mem_cons, List.not_mem_nil, or_false, Prod.mk.injEq] at hm
  rcases hm with ⟨rfl, rfl⟩ | ⟨rfl, rfl⟩ | ⟨rfl, rfl⟩ | ⟨rfl, rfl⟩ | ⟨rfl, rfl⟩ | ⟨rfl, rfl⟩
  · exact g46o_sound _ _ hv
  · exact g48o_sound _ _ hv
  · exact g47o_sound _ _ hv
  · exact g31o_sound _ _ hv
  · exact g66o_sound _ _ hv
  · exact g74o_sound _ _ hv
theorem g55O_det : ODet (g55O realA) := orc_det _
def g55an : Ann := [(0, ([0], [])), (1, ([1, 2], [1000, 1001])), (2, ([2, 4], [1001, 2003]))]
def g55res : List ResultVar := [.cell 2 24, .tmp 3]
def g55cut : List Nat := []
noncomputable def g55N {R : Type} (A : Ar) (kk : AV → Heap → Option R) (t : List Bool → St → Option R) (p : List Bool) (s : St) : Option R := nodeN A gtys (g55O A) g55an g55cut t (bodyOf Try.f55) (finD gtys g55res kk) p s
def g55 {R : Type} (A : Ar) (n : Nat) (kk : AV → Heap → Option R) (a : List Nat) : Option R :=
  match g46ok A a a with
  | true => match g48ok A 1 with
    | true => match g47ok A (g46r0 A a a) (g48r0 A 1) with
      | true => match g48ok A 1 with
        | true => match g31ok A with
          | true => match g46ok A (g46r0 A a a) (g31r0 A) with
            | true => match g66ok A (g48r0 A 1) (g46r0 A (g46r0 A a a) (g31r0 A)) with
              | true => match g74ok A (g47r0 A (g46r0 A a a) (g48r0 A 1)) (g66r0 A (g48r0 A 1) (g46r0 A (g46r0 A a a) (g31r0 A))) with
                | true => kk (.tup [(.agg [.nums .u64 4 (g74r0 A (g47r0 A (g46r0 A a a) (g48r0 A 1)) (g66r0 A (g48r0 A 1) (g46r0 A (g46r0 A a a) (g31r0 A))))]), (.cell (.bool (g74r1 A (g47r0 A (g46r0 A a a) (g48r0 A 1)) (g66r0 A (g48r0 A 1) (g46r0 A (g46r0 A a a) (g31r0 A))))))]) [(1001, (bU 4 (g74r0 A (g47r0 A (g46r0 A a a) (g48r0 A 1)) (g66r0 A (g48r0 A 1) (g46r0 A (g46r0 A a a) (g31r0 A)))) 24)), (2003, (bU 4 (g46r0 A a a) 24))]
                | false => none
              | false => none
            | false => none
          | false => none
        | false => none
      | false => none
    | false => none
  | false => none
section
variable {R : Type} {A : Ar} {n : Nat} {kk : AV → Heap → Option R} {tb : Nat → List Bool → St → Option R} (st : Stp (g55N A kk) tb)
include st
theorem g55_go {a : List Nat} : Prs (fun k => funN A gtys (g55O A) g55an g55cut (bodyOf Try.f55) g55res [(aN .u64 4 a)] [] kk (tb k)) (g55 A n kk a) := by
  unfold g55
  exact pc (SxY05qpi _ (SxY05qpi _ (SxY05qpi _ (SxY05qpi _ (SxY05qpi _ (SxY05qpi _ (SxY05qpi _ (SxY05qpi _ (pf _) pn) pn) pn) pn) pn) pn) pn) pn) (by kernel_rfl)
end
def g55is (o : Option AV) : Bool := match o with
  | some (.tup [.agg [.nums .u64 4 _], .cell (.bool _)]) => true
  | _ => false
def g55g0 (o : Option AV) : List Nat := match o with
  | some (.tup [.agg [.nums .u64 4 x], .cell (.bool _)]) => x
  | _ => []
def g55g1 (o : Option AV) : Bool := match o with
  | some (.tup [.agg [.nums .u64 4 _], .cell (.bool x)]) => x
  | _ => false
theorem g55is_spec {o : Option AV} (h : g55is o = true) : o = some (.tup [.agg [.nums .u64 4 (g55g0 o)], .cell (.bool (g55g1 o))]) := by
  unfold g55is at h
  split at h
  · rfl
  · cases h
def g55v (A : Ar) (a : List Nat) : Option AV := g55 A (100000) (fun v _ => some v) a
def g55ok (A : Ar) (a : List Nat) : Bool := g55is (g55v A a)
def g55r0 (A : Ar) (a : List Nat) : List Nat := g55g0 (g55v A a)
def g55r1 (A : Ar) (a : List Nat) : Bool := g55g1 (g55v A a)
theorem g55ok_spec {A : Ar} {a} (h : g55ok A a = true) : g55v A a = some (.tup [.agg [.nums .u64 4 (g55r0 A a)], .cell (.bool (g55r1 A a))]) := g55is_spec h
def g55o (A : Ar) (args : List AV) : Option (Bool × AV) := match args with
  | [.v (.agg [.nums .u64 n0 a])] => some (Nat.beq n0 4 && (g55ok A a), .tup [.agg [.nums .u64 4 (g55r0 A a)], .cell (.bool (g55r1 A a))])
  | _ => none
theorem g55o_sound : ∀ args v, g55o realA args = some (true, v) → Fn1 Try.prog 55 args v := by
  intro args v h
  unfold g55o at h
  split at h
  · rename_i n0 a
    simp only [Option.some.injEq, Prod.mk.injEq] at h
    obtain ⟨hc, h⟩ := h
    subst h
    · skip
      simp only [Bool.and_eq_true] at hc
      have en0 := beq_true hc.1
      subst en0
      replace hc := hc.2
      exact fn1_ofG mixed gtysOK g55O_sound g55O_det (an := g55an) (cut := g55cut) Try.func55 (c := bodyOf Try.f55) rfl (by kernel_rfl) Try.call55 (Nat.le_of_ble_eq_true rfl) (fun b => rfl) (fun _ => (show g55v realA a = _ from g55ok_spec hc)) fun _ st => g55_go st
  · cases h
attribute [local irreducible] g55ok g55r0 g55r1
def g22O (A : Ar) : Orc := orcOf [(48, g48o A), (54, g54o A), (46, g46o A), (55, g55o A)]
theorem g22O_sound : OSound Try.prog (g22O realA) := orc_sound fun f g hm args v hv => by
  simp only [List.mem_cons, List.not_mem_nil, or_false, Prod.mk.injEq] at hm
  rcases hm with ⟨rfl, rfl⟩ | ⟨rfl, rfl⟩ | ⟨rfl, rfl⟩ | ⟨rfl, rfl⟩
  · exact g48o_sound _ _ hv
  · exact g54o_sound _ _ hv
  · exact g46o_sound _ _ hv
  · exact g55o_sound _ _ hv
theorem g22O_det : ODet (g22O realA) := orc_det _
def g22an : Ann := [(0, ([], [])), (1, ([0], [1000])), (2, ([0, 1], [1000, 2004])), (3, ([0, 1, 2], [1000, 2004, 3005]))]
def g22res : List ResultVar := [.cell 0 26]
def g22cut : List Nat := []
noncomputable def g22N {R : Type} (A : Ar) (kk : AV → Heap → Option R) (t : List Bool → St → Option R) (p : List Bool) (s : St) : Option R := nodeN A gtys (g22O A) g22an g22cut t (bodyOf Try.f22) (finD gtys g22res kk) p s
def g22 {R : Type} (A : Ar) (n : Nat) (kk : AV → Heap → Option R)  : Option R :=
  match g48ok A 4 with
  | true => match g48ok A 5 with
    | true => match g54ok A (g48r0 A 5) with
      | true => match g46ok A (g48r0 A 4) (g54r0 A (g48r0 A 5)) with
        | true => match g55ok A (g46r0 A (g48r0 A 4) (g54r0 A (g48r0 A 5))) with
          | true => kk (.v (.agg [.nums .u64 4 (g55r0 A (g46r0 A (g48r0 A 4) (g54r0 A (g48r0 A 5)))), .nums .u64 4 (g46r0 A (g48r0 A 4) (g54r0 A (g48r0 A 5)))])) [(1000, ⟨[.nums .u64 4 (g55r0 A (g46r0 A (g48r0 A 4) (g54r0 A (g48r0 A 5)))), .nums .u64 4 (g46r0 A (g48r0 A 4) (g54r0 A (g48r0 A 5)))], 26, 1⟩), (2004, (bU 4 (g46r0 A (g48r0 A 4) (g54r0 A (g48r0 A 5))) 24)), (3005, (bU 4 (g55r0 A (g46r0 A (g48r0 A 4) (g54r0 A (g48r0 A 5)))) 24))]
          | false => none
        | false => none
      | false => none
    | false => none
  | false => none
section
variable {R : Type} {A : Ar} {n : Nat} {kk : AV → Heap → Option R} {tb : Nat → List Bool → St → Option R} (st : Stp (g22N A kk) tb)
include st
theorem g22_go  : Prs (fun k => funN A gtys (g22O A) g22an g22cut (bodyOf Try.f22) g22res [] [] kk (tb k)) (g22 A n kk ) := by
  unfold g22
  exact pc (SxY05qpi _ (SxY05qpi _ (SxY05qpi _ (SxY05qpi _ (SxY05qpi _ (pf _) pn) pn) pn) pn) pn) (by kernel_rfl)
end
def g22is (o : Option AV) : Bool := match o with
  | some (.v (.agg [.nums .u64 4 _, .nums .u64 4 _])) => true
  | _ => false
def g22g0 (o : Option AV) : List Nat := match o with
  | some (.v (.agg [.nums .u64 4 x, .nums .u64 4 _])) => x
  | _ => []
def g22g1 (o : Option AV) : List Nat := match o with
  | some (.v (.agg [.nums .u64 4 _, .nums .u64 4 x])) => x
  | _ => []
theorem g22is_spec {o : Option AV} (h : g22is o = true) : o = some (.v (.agg [.nums .u64 4 (g22g0 o), .nums .u64 4 (g22g1 o)])) := by
  unfold g22is at h
  split at h
  · rfl
  · cases h
def g22v (A : Ar)  : Option AV := g22 A (100000) (fun v _ => some v) 
def g22ok (A : Ar)  : Bool := g22is (g22v A )
def g22r0 (A : Ar)  : List Nat := g22g0 (g22v A )
def g22r1 (A : Ar)  : List Nat := g22g1 (g22v A )
theorem g22ok_spec {A : Ar} (h : g22ok A = true) : g22v A = some (.v (.agg [.nums .u64 4 (g22r0 A), .nums .u64 4 (g22r1 A)])) := g22is_spec h
def g22o (A : Ar) (args : List AV) : Option (Bool × AV) := match args with
  | [] => some (g22ok A , .v (.agg [.nums .u64 4 (g22r0 A), .nums .u64 4 (g22r1 A)]))
  | _ => none
theorem g22o_sound : ∀ args v, g22o realA args = some (true, v) → Fn1 Try.prog 22 args v := by
  intro args v h
  unfold g22o at h
  split at h
  · simp only [Option.some.injEq, Prod.mk.injEq] at h
    obtain ⟨hc, h⟩ := h
    subst h
    · skip
      exact fn1_ofG mixed gtysOK g22O_sound g22O_det (an := g22an) (cut := g22cut) Try.func22 (c := bodyOf Try.f22) rfl (by kernel_rfl) Try.call22 (Nat.le_of_ble_eq_true rfl) (fun b => rfl) (fun _ => (show g22v realA  = _ from g22ok_spec hc)) fun _ st => g22_go st
  · cases h
attribute [local irreducible] g22ok g22r0 g22r1
def g26O (A : Ar) : Orc := orcOf [(22, g22o A), (20, g20o A)]
theorem g26O_sound : OSound Try.prog (g26O realA) := orc_sound fun f g hm args v hv => by
  simp only [List.mem_cons, List.not_mem_nil, or_false, Prod.mk.injEq] at hm
  rcases hm with ⟨rfl, rfl⟩ | ⟨rfl, rfl⟩
  · exact g22o_sound _ _ hv
  · exact g20o_sound _ _ hv
theorem g26O_det : ODet (g26O realA) := orc_det _
def g26an : Ann := [(0, ([0], [])), (1, ([0, 2], [1000]))]
def g26res : List ResultVar := [.cell 2 26]
def g26cut : List Nat := []
noncomputable def g26N {R : Type} (A : Ar) (kk : AV → Heap → Option R) (t : List Bool → St → Option R) (p : List Bool) (s : St) : Option R := nodeN A gtys (g26O A) g26an g26cut t (bodyOf Try.f26) (finD gtys g26res kk) p s
def g26 {R : Type} (A : Ar) (n : Nat) (kk : AV → Heap → Option R) (a : List Nat) : Option R :=
  match A.neg (A.mn (A.ofN a.length) 4) with
  | true => none
  | false => match A.le (A.toN (A.mn (A.ofN a.length) 4)) a.length with
    | true => match g22ok A with
      | true => match g20ok A ((a.take (A.toN (A.mn (A.ofN a.length) 4))).drop 0) (g22r0 A) (g22r1 A) with
        | true => kk (.v (.agg [.nums .u64 4 (g20r0 A ((a.take (A.toN (A.mn (A.ofN a.length) 4))).drop 0) (g22r0 A) (g22r1 A)), .nums .u64 4 (g20r1 A ((a.take (A.toN (A.mn (A.ofN a.length) 4))).drop 0) (g22r0 A) (g22r1 A))])) [(1000, ⟨[.nums .u64 4 (g20r0 A ((a.take (A.toN (A.mn (A.ofN a.length) 4))).drop 0) (g22r0 A) (g22r1 A)), .nums .u64 4 (g20r1 A ((a.take (A.toN (A.mn (A.ofN a.length) 4))).drop 0) (g22r0 A) (g22r1 A))], 26, 1⟩)]
        | false => none
      | false => none
    | false => none
section
variable {R : Type} {A : Ar} {n : Nat} {kk : AV → Heap → Option R} {tb : Nat → List Bool → St → Option R} (st : Stp (g26N A kk) tb)
include st
theorem g26_go {a : List Nat} : Prs (fun k => funN A gtys (g26O A) g26an g26cut (bodyOf Try.f26) g26res [(tS a)] [] kk (tb k)) (g26 A n kk a) := by
  unfold g26
  exact pc (SxY05qpi _ pn (SxY05qpi _ (SxY05qpi _ (SxY05qpi _ (pf _) pn) pn) pn)) (by kernel_rfl)
end
def g26is (o : Option AV) : Bool := match o with
  | some (.v (.agg [.nums .u64 4 _, .nums .u64 4 _])) => true
  | _ => false
def g26g0 (o : Option AV) : List Nat := match o with
  | some (.v (.agg [.nums .u64 4 x, .nums .u64 4 _])) => x
  | _ => []
def g26g1 (o : Option AV) : List Nat := match o with
  | some (.v (.agg [.nums .u64 4 _, .nums .u64 4 x])) => x
  | _ => []
theorem g26is_spec {o : Option AV} (h : g26is o = true) : o = some (.v (.agg [.nums .u64 4 (g26g0 o), .nums .u64 4 (g26g1 o)])) := by
  unfold g26is at h
  split at h
  · rfl
  · cases h
def g26v (A : Ar) (a : List Nat) : Option AV := g26 A (100000) (fun v _ => some v) a
def g26ok (A : Ar) (a : List Nat) : Bool := g26is (g26v A a)
def g26r0 (A : Ar) (a : List Nat) : List Nat := g26g0 (g26v A a)
def g26r1 (A : Ar) (a : List Nat) : List Nat := g26g1 (g26v A a)
theorem g26ok_spec {A : Ar} {a} (h : g26ok A a = true) : g26v A a = some (.v (.agg [.nums .u64 4 (g26r0 A a), .nums .u64 4 (g26r1 A a)])) := g26is_spec h
def g26o (A : Ar) (args : List AV) : Option (Bool × AV) := match args with
  | [.v (.cell (.str a))] => some (g26ok A a, .v (.agg [.nums .u64 4 (g26r0 A a), .nums .u64 4 (g26r1 A a)]))
  | _ => none
theorem g26o_sound : ∀ args v, g26o realA args = some (true, v) → Fn1 Try.prog 26 args v := by
  intro args v h
  unfold g26o at h
  split at h
  · rename_i a
    simp only [Option.some.injEq, Prod.mk.injEq] at h
    obtain ⟨hc, h⟩ := h
    subst h
    · skip
      exact fn1_ofG mixed gtysOK g26O_sound g26O_det (an := g26an) (cut := g26cut) Try.func26 (c := bodyOf Try.f26) rfl (by kernel_rfl) Try.call26 (Nat.le_of_ble_eq_true rfl) (fun b => rfl) (fun _ => (show g26v realA a = _ from g26ok_spec hc)) fun _ st => g26_go st
  · cases h
attribute [local irreducible] g26ok g26r0 g26r1
def g27O (A : Ar) : Orc := orcOf [(60, g60o A), (55, g55o A), (43, g43o A)]
theorem g27O_sound : OSound Try.prog (g27O realA) := orc_sound fun f g hm args v hv => by
  simp only [List.mem_cons, List.not_mem_nil, or_false, Prod.mk.injEq] at hm
  rcases hm with ⟨rfl, rfl⟩ | ⟨rfl, rfl⟩ | ⟨rfl, rfl⟩
  · exact g60o_sound _ _ hv
  · exact g55o_sound _ _ hv
  · exact g43o_sound _ _ hv
theorem g27O_det : ODet (g27O realA) := orc_det _
def g27an : Ann := [(0, ([0], [])), (1, ([0, 2], [1000])), (2, ([2], [1000])), (3, ([0, 2], [1000])), (4, ([0, 2, 4], [1000])), (5, ([2, 4, 5, 6], [1000, 5012])), (6, ([2], [1000])), (7, ([2, 4, 5], [1000, 5012])), (8, ([2, 4, 5, 6, 7], [1000, 5012, 8005])), (9, ([2], [1000])), (10, ([2, 4, 5, 7], [1000, 5012, 8005])), (11, ([2, 4, 5, 7, 8], [1000, 5012, 8005, 11003])), (12, ([2, 8], [1000, 11003])), (13, ([2, 5, 7, 8], [1000, 5012, 8005, 11003])), (14, ([2, 5, 7, 8], [1000, 5012, 8005, 11003])), (15, ([2], [1000])), (16, ([2, 8], [1000, 11003]))]
def g27res : List ResultVar := [.cell 2 26, .tmp 3]
def g27cut : List Nat := [3, 7, 10, 13]
noncomputable def g27N {R : Type} (A : Ar) (kk : AV → Heap → Option R) (t : List Bool → St → Option R) (p : List Bool) (s : St) : Option R := nodeN A gtys (g27O A) g27an g27cut t (bodyOf Try.f27) (finD gtys g27res kk) p s
def g27J13s (x0 x1 : List Nat) (x2 x3 : List Nat) (x4 x5 : List Nat) : St := ⟨[(2, (pT 1000 0)), (5, (pT 5012 0)), (7, (pT 8005 0)), (8, (pT 11003 0))], [(1000, ⟨[.nums .u64 4 x0, .nums .u64 4 x1], 26, 1⟩), (5012, (bU 4 x2 24)), (8005, (bU 4 x3 24)), (11003, ⟨[.nums .u64 4 x4, .nums .u64 4 x5], 26, 1⟩)]⟩
def g27J13 {R : Type} (A : Ar) (n : Nat) (kk : AV → Heap → Option R)  (x0 x1 : List Nat) (x2 x3 : List Nat) (x4 x5 : List Nat) : Option R :=
  match g43ok A x3 with
  | true => match (A.lq (g43r0 A x3) x3) && ((A.lq x5 x2) && true) with
    | true => kk (.tup [(.agg [.nums .u64 4 [0, 0, 0, 0], .nums .u64 4 [0, 0, 0, 0]]), (.cell (.bool false))]) [(1000, ⟨[.nums .u64 4 [0, 0, 0, 0], .nums .u64 4 [0, 0, 0, 0]], 26, 1⟩)]
    | false => kk (.tup [(.agg [.nums .u64 4 (g43r0 A x3), .nums .u64 4 x5]), (.cell (.bool true))]) [(1000, ⟨[.nums .u64 4 (g43r0 A x3), .nums .u64 4 x5], 26, 1⟩), (11003, ⟨[.nums .u64 4 (g43r0 A x3), .nums .u64 4 x5], 26, 1⟩)]
  | false => none
def g27J10s (x0 : Nat) (x1 x2 : List Nat) (x3 x4 : List Nat) : St := ⟨[(2, (pT 1000 0)), (4, (u8v x0)), (5, (pT 5012 0)), (7, (pT 8005 0))], [(1000, ⟨[.nums .u64 4 x1, .nums .u64 4 x2], 26, 1⟩), (5012, (bU 4 x3 24)), (8005, (bU 4 x4 24))]⟩
def g27J10 {R : Type} (A : Ar) (n : Nat) (kk : AV → Heap → Option R)  (x0 : Nat) (x1 x2 : List Nat) (x3 x4 : List Nat) : Option R :=
  match A.nc .eql x0 0 with
  | true => kk (.tup [(.agg [.nums .u64 4 x4, .nums .u64 4 x3]), (.cell (.bool true))]) [(1000, ⟨[.nums .u64 4 x4, .nums .u64 4 x3], 26, 1⟩), (11003, ⟨[.nums .u64 4 x4, .nums .u64 4 x3], 26, 1⟩)]
  | false => g27J13 A n kk  x1 x2 x3 x4 x4 x3
def g27J7s (x0 : Nat) (x1 x2 x3 : List Nat) : St := ⟨[(2, (pT 1000 0)), (4, (u8v x0)), (5, (pT 5012 0))], [(1000, ⟨[.nums .u64 4 x1, .nums .u64 4 x2], 26, 1⟩), (5012, (bU 4 x3 24))]⟩
def g27J7 {R : Type} (A : Ar) (n : Nat) (kk : AV → Heap → Option R)  (x0 : Nat) (x1 x2 x3 : List Nat) : Option R :=
  match g55ok A x3 with
  | true => match !(g55r1 A x3) with
    | true => kk (.tup [(.agg [.nums .u64 4 [0, 0, 0, 0], .nums .u64 4 [0, 0, 0, 0]]), (.cell (.bool false))]) [(1000, ⟨[.nums .u64 4 [0, 0, 0, 0], .nums .u64 4 [0, 0, 0, 0]], 26, 1⟩)]
    | false => g27J10 A n kk  x0 x1 x2 x3 (g55r0 A x3)
  | false => none
def g27J3s (x0 x1 x2 : List Nat) : St := ⟨[(0, (tS x0)), (2, (pT 1000 0))], [(1000, ⟨[.nums .u64 4 x1, .nums .u64 4 x2], 26, 1⟩)]⟩
def g27J3 {R : Type} (A : Ar) (n : Nat) (kk : AV → Heap → Option R)  (x0 x1 x2 : List Nat) : Option R :=
  match Nat.blt 31 x0.length with
  | true => match A.le 31 x0.length with
    | true => match Nat.blt 31 x0.length with
      | true => match A.le (((x0.take 31).drop 0).length + ([A.nb .andNot .u8 (x0.getD 31 0) 128].take 1).length) 9223372036854775807 with
        | true => match g60ok A (((x0.take 31).drop 0) ++ ([A.nb .andNot .u8 (x0.getD 31 0) 128].take 1)) with
          | true => match !(g60r1 A (((x0.take 31).drop 0) ++ ([A.nb .andNot .u8 (x0.getD 31 0) 128].take 1))) with
            | true => kk (.tup [(.agg [.nums .u64 4 [0, 0, 0, 0], .nums .u64 4 [0, 0, 0, 0]]), (.cell (.bool false))]) [(1000, ⟨[.nums .u64 4 [0, 0, 0, 0], .nums .u64 4 [0, 0, 0, 0]], 26, 1⟩)]
            | false => g27J7 A n kk  (A.nb .and .u8 (x0.getD 31 0) 128) x1 x2 (g60r0 A (((x0.take 31).drop 0) ++ ([A.nb .andNot .u8 (x0.getD 31 0) 128].take 1)))
          | false => none
        | false => none
      | false => none
    | false => none
  | false => none
def g27 {R : Type} (A : Ar) (n : Nat) (kk : AV → Heap → Option R) (a : List Nat) : Option R :=
  match A.ic .neq (A.ofN a.length) 32 with
  | true => kk (.tup [(.agg [.nums .u64 4 [0, 0, 0, 0], .nums .u64 4 [0, 0, 0, 0]]), (.cell (.bool false))]) [(1000, ⟨[.nums .u64 4 [0, 0, 0, 0], .nums .u64 4 [0, 0, 0, 0]], 26, 1⟩)]
  | false => g27J3 A n kk  a [0, 0, 0, 0] [0, 0, 0, 0]
section
variable {R : Type} {A : Ar} {n : Nat} {kk : AV → Heap → Option R} {tb : Nat → List Bool → St → Option R} (st : Stp (g27N A kk) tb)
include st
theorem g27J13_go {x0 : List Nat} {x1 : List Nat} {x2 : List Nat} {x3 : List Nat} {x4 : List Nat} {x5 : List Nat} : Prs (fun k => tb k (pth 1023) (g27J13s x0 x1 x2 x3 x4 x5)) (g27J13 A n kk x0 x1 x2 x3 x4 x5) := by
  unfold g27J13
  exact st.g (pc (SxY05qpi _ (SxY05qpi _ (pf _) (pf _)) pn) (by kernel_rfl))
theorem g27J10_go {x0 : Nat} {x1 : List Nat} {x2 : List Nat} {x3 : List Nat} {x4 : List Nat} : Prs (fun k => tb k (pth 255) (g27J10s x0 x1 x2 x3 x4)) (g27J10 A n kk x0 x1 x2 x3 x4) := by
  unfold g27J10
  exact st.g (pc (SxY05qpi _ (pf _) (g27J13_go st)) (by kernel_rfl))
theorem g27J7_go {x0 : Nat} {x1 : List Nat} {x2 : List Nat} {x3 : List Nat} : Prs (fun k => tb k (pth 63) (g27J7s x0 x1 x2 x3)) (g27J7 A n kk x0 x1 x2 x3) := by
  unfold g27J7
  exact st.g (pc (SxY05qpi _ (SxY05qpi _ (pf _) (g27J10_go st)) pn) (by kernel_rfl))
theorem g27J3_go {x0 : List Nat} {x1 : List Nat} {x2 : List Nat} : Prs (fun k => tb k (pth 7) (g27J3s x0 x1 x2)) (g27J3 A n kk x0 x1 x2) := by
  unfold g27J3
  exact st.g (pc (SxY05qpi _ (SxY05qpi _ (SxY05qpi _ (SxY05qpi _ (SxY05qpi _ (SxY05qpi _ (pf _) (g27J7_go st)) pn) pn) pn) pn) pn) (by kernel_rfl))
theorem g27_go {a : List Nat} : Prs (fun k => funN A gtys (g27O A) g27an g27cut (bodyOf Try.f27) g27res [(tS a)] [] kk (tb k)) (g27 A n kk a) := by
  unfold g27
  exact pc (SxY05qpi _ (pf _) (g27J3_go st)) (by kernel_rfl)
end
def g27is (o : Option AV) : Bool := match o with
  | some (.tup [.agg [.nums .u64 4 _, .nums .u64 4 _], .cell (.bool _)]) => true
  | _ => false
def g27g0 (o : Option AV) : List Nat := match o with
  | some (.tup [.agg [.nums .u64 4 x, .nums .u64 4 _], .cell (.bool _)]) => x
  | _ => []
def g27g1 (o : Option AV) : List Nat := match o with
  | some (.tup [.agg [.nums .u64 4 _, .nums .u64 4 x], .cell (.bool _)]) => x
  | _ => []
def g27g2 (o : Option AV) : Bool := match o with
  | some (.tup [.agg [.nums .u64 4 _, .nums .u64 4 _], .cell (.bool x)]) => x
  | _ => false
theorem g27is_spec {o : Option AV} (h : g27is o = true) : o = some (.tup [.agg [.nums .u64 4 (g27g0 o), .nums .u64 4 (g27g1 o)], .cell (.bool (g27g2 o))]) := by
  unfold g27is at h
  split at h
  · rfl
  · cases h
def g27v (A : Ar) (a : List Nat) : Option AV := g27 A (100000) (fun v _ => some v) a
def g27ok (A : Ar) (a : List Nat) : Bool := g27is (g27v A a)
def g27r0 (A : Ar) (a : List Nat) : List Nat := g27g0 (g27v A a)
def g27r1 (A : Ar) (a : List Nat) : List Nat := g27g1 (g27v A a)
def g27r2 (A : Ar) (a : List Nat) : Bool := g27g2 (g27v A a)
theorem g27ok_spec {A : Ar} {a} (h : g27ok A a = true) : g27v A a = some (.tup [.agg [.nums .u64 4 (g27r0 A a), .nums .u64 4 (g27r1 A a)], .cell (.bool (g27r2 A a))]) := g27is_spec h
def g27o (A : Ar) (args : List AV) : Option (Bool × AV) := match args with
  | [.v (.cell (.str a))] => some (g27ok A a, .tup [.agg [.nums .u64 4 (g27r0 A a), .nums .u64 4 (g27r1 A a)], .cell (.bool (g27r2 A a))])
  | _ => none
theorem g27o_sound : ∀ args v, g27o realA args = some (true, v) → Fn1 Try.prog 27 args v := by
  intro args v h
  unfold g27o at h
  split at h
  · rename_i a
    simp only [Option.some.injEq, Prod.mk.injEq] at h
    obtain ⟨hc, h⟩ := h
    subst h
    · skip
      exact fn1_ofG mixed gtysOK g27O_sound g27O_det (an := g27an) (cut := g27cut) Try.func27 (c := bodyOf Try.f27) rfl (by kernel_rfl) Try.call27 (Nat.le_of_ble_eq_true rfl) (fun b => rfl) (fun _ => (show g27v realA a = _ from g27ok_spec hc)) fun _ st => g27_go st
  · cases h
attribute [local irreducible] g27ok g27r0 g27r1 g27r2
def g30O (A : Ar) : Orc := orcOf []
theorem g30O_sound : OSound Try.prog (g30O realA) := orc_sound fun f g hm args v hv => by
  cases hm
theorem g30O_det : ODet (g30O realA) := orc_det _
def g30an : Ann := [(0, ([], [])), (1, ([], [])), (2, ([1], [2000])), (3, ([1, 2], [2000])), (4, ([1, 2], [2000])), (5, ([1, 2], [2000])), (6, ([1], [2000]))]
def g30res : List ResultVar := [.tmp 0]
def g30cut : List Nat := [5]
noncomputable def g30N {R : Type} (A : Ar) (kk : AV → Heap → Option R) (t : List Bool → St → Option R) (p : List Bool) (s : St) : Option R := nodeN A gtys (g30O A) g30an g30cut t (bodyOf Try.f30) (finD gtys g30res kk) p s
def g30J5s (x0 : Nat) (x1 : Int) (x2 : Nat) (x3 : List Nat) : St := ⟨[(1, (sL 2000 none x0 1)), (2, (i6 x1))], [(2000, ⟨[.nums .u8 x2 x3], 5, 2⟩)]⟩
def g30J5 {R : Type} (A : Ar) (n : Nat) (kk : AV → Heap → Option R) (lg30L3 : Nat → Int → Nat → List Nat → Option R) (x0 : Nat) (x1 : Int) (x2 : Nat) (x3 : List Nat) : Option R :=
  match A.neg x1 with
  | true => none
  | false => match A.lt (A.toN x1) x0 with
    | true => lg30L3 x0 (A.ib .add .i64 x1 1) x2 (x3.set (A.toN x1) 102)
    | false => none
def g30L3s (x0 : Nat) (x1 : Int) (x2 : Nat) (x3 : List Nat) : St := ⟨[(1, (sL 2000 none x0 1)), (2, (i6 x1))], [(2000, ⟨[.nums .u8 x2 x3], 5, 2⟩)]⟩
def g30L3 {R : Type} (A : Ar) (n : Nat) (kk : AV → Heap → Option R)  : Nat → Nat → Int → Nat → List Nat → Option R
  | 0, _, _, _, _ => none
  | m + 1, x0, x1, x2, x3 => match A.ic .lss x1 31 with
  | true => g30J5 A n kk (g30L3 A n kk  m) x0 x1 x2 x3
  | false => kk (tS (x3.take x0)) [(2000, ⟨[.nums .u8 x2 x3], 5, 2⟩)]
def g30 {R : Type} (A : Ar) (n : Nat) (kk : AV → Heap → Option R)  : Option R :=
  match A.le 31 31 with
  | true => match A.le 31 140737488355328 with
    | true => g30L3 A n kk  n 31 0 31 (List.replicate 31 0)
    | false => none
  | false => none
section
variable {R : Type} {A : Ar} {n : Nat} {kk : AV → Heap → Option R} {tb : Nat → List Bool → St → Option R} (st : Stp (g30N A kk) tb)
include st
theorem g30J5_go {lg30L3 : Nat → Int → Nat → List Nat → Option R} (hg30L3 : ∀ (x0 : Nat) (x1 : Int) (x2 : Nat) (x3 : List Nat), Prs (fun k => tb k (pth 116) (g30L3s x0 x1 x2 x3)) (lg30L3 x0 x1 x2 x3)) {x0 : Nat} {x1 : Int} {x2 : Nat} {x3 : List Nat} : Prs (fun k => tb k (pth 233) (g30J5s x0 x1 x2 x3)) (g30J5 A n kk lg30L3 x0 x1 x2 x3) := by
  unfold g30J5
  exact st.g (pc (SxY05qpi _ pn (SxY05qpi _ (hg30L3 _ _ _ _) pn)) (by kernel_rfl))
theorem g30L3_go (m : Nat) : ∀ (x0 : Nat) (x1 : Int) (x2 : Nat) (x3 : List Nat), Prs (fun k => tb k (pth 116) (g30L3s x0 x1 x2 x3)) (g30L3 A n kk m x0 x1 x2 x3) := by
  induction m with
  | zero => intro x0 x1 x2 x3; exact pn0
  | succ m ih =>
    intro x0 x1 x2 x3; rw [g30L3]
    exact st.g (pc (SxY05qpi _ (g30J5_go st ih) (pf _)) (by kernel_rfl))
theorem g30_go  : Prs (fun k => funN A gtys (g30O A) g30an g30cut (bodyOf Try.f30) g30res [] [] kk (tb k)) (g30 A n kk ) := by
  unfold g30
  exact pc (SxY05qpi _ (SxY05qpi _ (g30L3_go st n _ _ _ _) pn) pn) (by kernel_rfl)
end
def g30is (o : Option AV) : Bool := match o with
  | some (.v (.cell (.str _))) => true
  | _ => false
def g30g0 (o : Option AV) : List Nat := match o with
  | some (.v (.cell (.str x))) => x
  | _ => []
theorem g30is_spec {o : Option AV} (h : g30is o = true) : o = some (.v (.cell (.str (g30g0 o)))) := by
  unfold g30is at h
  split at h
  · rfl
  · cases h
def g30v (A : Ar)  : Option AV := g30 A (100000) (fun v _ => some v) 
def g30ok (A : Ar)  : Bool := g30is (g30v A )
def g30r0 (A : Ar)  : List Nat := g30g0 (g30v A )
theorem g30ok_spec {A : Ar} (h : g30ok A = true) : g30v A = some (.v (.cell (.str (g30r0 A)))) := g30is_spec h
def g30o (A : Ar) (args : List AV) : Option (Bool × AV) := match args with
  | [] => some (g30ok A , .v (.cell (.str (g30r0 A))))
  | _ => none
theorem g30o_sound : ∀ args v, g30o realA args = some (true, v) → Fn1 Try.prog 30 args v := by
  intro args v h
  unfold g30o at h
  split at h
  · simp only [Option.some.injEq, Prod.mk.injEq] at h
    obtain ⟨hc, h⟩ := h
    subst h
    · skip
      exact fn1_ofG mixed gtysOK g30O_sound g30O_det (an := g30an) (cut := g30cut) Try.func30 (c := bodyOf Try.f30) rfl (by kernel_rfl) Try.call30 (Nat.le_of_ble_eq_true rfl) (fun b => rfl) (fun _ => (show g30v realA  = _ from g30ok_spec hc)) fun _ st => g30_go st
  · cases h
attribute [local irreducible] g30ok g30r0
end Go.Sx
