import Derived.Test.YtkomlijabeedpaaDoorChecked
import Derived.Test.YtkomlijabeedpaaDoorSxK3
import Derived.Test.YtkomlijabeedpaaDoorSxNi
import Derived.Test.YtkomlijabeedpaaDoorSxTn
import Derived.Test.YtkomlijabeedpaaDoorSxEx
import Derived.Test.YtkomlijabeedpaaDoorSxRo
import Derived.Test.YtkomlijabeedpaaDoorSxB07
namespace Go.Sx
set_option linter.unusedSectionVars false
open Go.Proofs
set_option linter.unusedVariables false
set_option maxRecDepth 100000
theorem mixed : Tryd.prog.follows .mixedOrders = true := Tryd.checked.mixed
def gtyList : List (Nat × Ty) := [(3, ⟨.int .i64, 1, 8, (.cell (.int .i64 0)), [], 0, 0, false⟩),
  (4, ⟨.bool, 1, 1, (.cell (.bool false)), [], 0, 0, false⟩),
  (5, ⟨.int .u8, 1, 1, (.cell (.nat .u8 0)), [], 0, 0, false⟩),
  (9, ⟨.string, 1, 16, (.cell (.str [])), [], 0, 0, false⟩),
  (21, ⟨.int .i32, 1, 4, (.cell (.int .i32 0)), [], 0, 0, false⟩),
  (34, ⟨.slice, 1, 24, (.cell .nils), [], 0, 5, false⟩),
  (36, ⟨.struct, 2, 32, (.agg [.one .nilp, .one .nils]), [(0, 33), (1, 34)], 0, 0, false⟩),
  (52, ⟨.array, 20, 20, (.agg [.nums .u8 20 [0, 0, 0, 0, 0, 0, 0, 0, 0, 0, 0, 0, 0, 0, 0, 0, 0, 0, 0, 0]]), [], 20, 5, true⟩)]
def gtys : Tys := fun t => lk t gtyList
theorem gtysOK0 : allL (fun p => tyB Tryd.prog p.1 p.2) gtyList = true := by kernel_rfl
theorem gtysOK : TyOK Tryd.prog gtys := tyOK_of gtysOK0 (eqB_spec (by kernel_rfl))
theorem SxP07api {R : Type} (c : Bool) {f1 f2 : Nat → Option R} {a1 a2 : Option R} (h1 : Prs f1 a1) (h2 : Prs f2 a2) : Prs (fun k => match c with | true => f1 k | false => f2 k) (match c with | true => a1 | false => a2) := by cases c <;> assumption
attribute [local irreducible] idxB runeS
def g18O (A : Ar) : Orc := orcOf []
theorem g18O_sound : OSound Tryd.prog (g18O realA) := orc_sound fun f g hm args v hv => by
  cases hm
theorem g18O_det : ODet (g18O realA) := orc_det _
def g18an : Ann := [(0, ([0], [])), (1, ([0], [])), (2, ([], [])), (3, ([0], [])), (4, ([0, 4], [4000])), (5, ([0, 4, 5], [4000])), (6, ([0, 4, 5], [4000])), (7, ([0, 4, 5], [4000])), (8, ([0, 4, 5], [4000])), (9, ([4, 5], [4000]))]
def g18res : List ResultVar := [.tmp 2, .tmp 3]
def g18cut : List Nat := [3]
noncomputable def g18N {R : Type} (A : Ar) (kk : AV → Heap → Option R) (t : List Bool → St → Option R) (p : List Bool) (s : St) : Option R := nodeN A gtys (g18O A) g18an g18cut t (bodyOf Tryd.f18) (finD gtys g18res kk) p s
def g18L5s (x0 x1 : Int) (x2 : List Nat) : St := ⟨[(0, (i6 x0)), (4, (pT 4000 0)), (5, (i6 x1))], [(4000, (bB 20 x2 52))]⟩
def g18L5 {R : Type} (A : Ar) (n : Nat) (kk : AV → Heap → Option R)  : Nat → Int → Int → List Nat → Option R
  | 0, _, _, _ => none
  | m + 1, x0, x1, x2 => match A.neg (A.ib .sub .i64 x1 1) with
  | true => none
  | false => match A.lt (A.toN (A.ib .sub .i64 x1 1)) 20 with
    | true => match A.ic .eql (A.ib .quo .i64 x0 10) 0 with
      | true => match A.neg (A.ib .sub .i64 x1 1) with
        | true => none
        | false => match A.le (A.toN (A.ib .sub .i64 x1 1)) 20 with
          | true => kk (.tup [(.cell (.str (((x2.set (A.toN (A.ib .sub .i64 x1 1)) (A.i2n .u8 (A.ib .add .i64 48 (A.ib .rem .i64 x0 10)))).drop (A.toN (A.ib .sub .i64 x1 1))).take (20 - (A.toN (A.ib .sub .i64 x1 1)))))), (.cell (.bool true))]) [(4000, (bB 20 (x2.set (A.toN (A.ib .sub .i64 x1 1)) (A.i2n .u8 (A.ib .add .i64 48 (A.ib .rem .i64 x0 10)))) 52))]
          | false => none
      | false => g18L5 A n kk  m (A.ib .quo .i64 x0 10) (A.ib .sub .i64 x1 1) (x2.set (A.toN (A.ib .sub .i64 x1 1)) (A.i2n .u8 (A.ib .add .i64 48 (A.ib .rem .i64 x0 10))))
    | false => none
def g18J3s (x0 : Int) : St := ⟨[(0, (i6 x0))], []⟩
def g18J3 {R : Type} (A : Ar) (n : Nat) (kk : AV → Heap → Option R)  (x0 : Int) : Option R :=
  g18L5 A n kk  n x0 20 [0, 0, 0, 0, 0, 0, 0, 0, 0, 0, 0, 0, 0, 0, 0, 0, 0, 0, 0, 0]
def g18 {R : Type} (A : Ar) (n : Nat) (kk : AV → Heap → Option R) (a : Int) : Option R :=
  match A.ic .lss a 0 with
  | true => kk (.tup [(.cell (.str [])), (.cell (.bool false))]) []
  | false => g18J3 A n kk  a
section
variable {R : Type} {A : Ar} {n : Nat} {kk : AV → Heap → Option R} {tb : Nat → List Bool → St → Option R} (st : Stp (g18N A kk) tb)
include st
theorem g18L5_go (m : Nat) : ∀ (x0 x1 : Int) (x2 : List Nat), Prs (fun k => tb k (pth 124) (g18L5s x0 x1 x2)) (g18L5 A n kk m x0 x1 x2) := by
  induction m with
  | zero => intro x0 x1 x2; exact pn0
  | succ m ih =>
    intro x0 x1 x2; rw [g18L5]
    exact st.g (pc (SxP07api _ pn (SxP07api _ (SxP07api _ (SxP07api _ pn (SxP07api _ (pf _) pn)) (ih _ _ _)) pn)) (by kernel_rfl))
theorem g18J3_go {x0 : Int} : Prs (fun k => tb k (pth 7) (g18J3s x0)) (g18J3 A n kk x0) := by
  unfold g18J3
  exact st.g (pc (g18L5_go st n _ _ _) (by kernel_rfl))
theorem g18_go {a : Int} : Prs (fun k => funN A gtys (g18O A) g18an g18cut (bodyOf Tryd.f18) g18res [(i6 a)] [] kk (tb k)) (g18 A n kk a) := by
  unfold g18
  exact pc (SxP07api _ (pf _) (g18J3_go st)) (by kernel_rfl)
end
def g18is (o : Option AV) : Bool := match o with
  | some (.tup [.cell (.str _), .cell (.bool _)]) => true
  | _ => false
def g18g0 (o : Option AV) : List Nat := match o with
  | some (.tup [.cell (.str x), .cell (.bool _)]) => x
  | _ => []
def g18g1 (o : Option AV) : Bool := match o with
  | some (.tup [.cell (.str _), .cell (.bool x)]) => x
  | _ => false
theorem g18is_spec {o : Option AV} (h : g18is o = true) : o = some (.tup [.cell (.str (g18g0 o)), .cell (.bool (g18g1 o))]) := by
  unfold g18is at h
  split at h
  · rfl
  · cases h
def g18v (A : Ar) (a : Int) : Option AV := g18 A (10000000) (fun v _ => some v) a
def g18ok (A : Ar) (a : Int) : Bool := g18is (g18v A a)
def g18r0 (A : Ar) (a : Int) : List Nat := g18g0 (g18v A a)
def g18r1 (A : Ar) (a : Int) : Bool := g18g1 (g18v A a)
theorem g18ok_spec {A : Ar} {a} (h : g18ok A a = true) : g18v A a = some (.tup [.cell (.str (g18r0 A a)), .cell (.bool (g18r1 A a))]) := g18is_spec h
def g18o (A : Ar) (args : List AV) : Option (Bool × AV) := match args with
  | [.v (.cell (.int .i64 a))] => some (g18ok A a, .tup [.cell (.str (g18r0 A a)), .cell (.bool (g18r1 A a))])
  | _ => none
theorem g18o_sound : ∀ args v, g18o realA args = some (true, v) → Fn1 Tryd.prog 18 args v := by
  intro args v h
  unfold g18o at h
  split at h
  · rename_i a
    simp only [Option.some.injEq, Prod.mk.injEq] at h
    obtain ⟨hc, h⟩ := h
    subst h
    · skip
      exact fn1_ofG mixed gtysOK g18O_sound g18O_det (an := g18an) (cut := g18cut) Tryd.func18 (c := bodyOf Tryd.f18) rfl (by kernel_rfl) Tryd.call18 (Nat.le_of_ble_eq_true rfl) (fun b => rfl) (fun _ => (show g18v realA a = _ from g18ok_spec hc)) fun _ st => g18_go st
  · cases h
attribute [local irreducible] g18ok g18r0 g18r1
def g24O (A : Ar) : Orc := orcOf []
theorem g24O_sound : OSound Tryd.prog (g24O realA) := orc_sound fun f g hm args v hv => by
  cases hm
theorem g24O_det : ODet (g24O realA) := orc_det _
def g24an : Ann := [(0, ([0], [0, 1])), (1, ([0], [0, 1]))]
def g24res : List ResultVar := [.tmp 2]
def g24cut : List Nat := []
noncomputable def g24N {R : Type} (A : Ar) (kk : AV → Heap → Option R) (t : List Bool → St → Option R) (p : List Bool) (s : St) : Option R := nodeN A gtys (g24O A) g24an g24cut t (bodyOf Tryd.f24) (finD gtys g24res kk) p s
def g24 {R : Type} (A : Ar) (n : Nat) (kk : AV → Heap → Option R) (x0 x1 : Nat) (x2 : List Nat) : Option R :=
  kk (i6 (A.ofN x0)) [(0, ⟨[.one (.ptr 0 0 none), .one (.sl 1 none x0 1)], 36, 1⟩), (1, ⟨[.nums .u8 x1 x2], 5, 0⟩)]
section
variable {R : Type} {A : Ar} {n : Nat} {kk : AV → Heap → Option R} {tb : Nat → List Bool → St → Option R} (st : Stp (g24N A kk) tb)
include st
theorem g24_go {x0 : Nat} {x1 : Nat} {x2 : List Nat} : Prs (fun k => funN A gtys (g24O A) g24an g24cut (bodyOf Tryd.f24) g24res [(pT 0 0)] [(0, ⟨[.one (.ptr 0 0 none), .one (.sl 1 none x0 1)], 36, 1⟩), (1, ⟨[.nums .u8 x1 x2], 5, 0⟩)] kk (tb k)) (g24 A n kk x0 x1 x2) := by
  unfold g24
  exact pc (pf _) (by kernel_rfl)
end
def g24is (o : Option (AV × Heap)) : Bool := match o with
  | some (.v (.cell (.int .i64 _)), [(n0, ⟨[.one (.ptr n1 n2 none), .one (.sl n3 none _ n4)], n5, n6⟩), (n7, ⟨[.nums .u8 _ _], n8, n9⟩)]) => Nat.beq n0 0 && (Nat.beq n1 0 && (Nat.beq n2 0 && (Nat.beq n3 1 && (Nat.beq n4 1 && (Nat.beq n5 36 && (Nat.beq n6 1 && (Nat.beq n7 1 && (Nat.beq n8 5 && (Nat.beq n9 0)))))))))
  | _ => false
def g24g0 (o : Option (AV × Heap)) : Int := match o with
  | some (.v (.cell (.int .i64 x)), [(_, ⟨[.one (.ptr _ _ none), .one (.sl _ none _ _)], _, _⟩), (_, ⟨[.nums .u8 _ _], _, _⟩)]) => x
  | _ => 0
def g24g1 (o : Option (AV × Heap)) : Nat := match o with
  | some (.v (.cell (.int .i64 _)), [(_, ⟨[.one (.ptr _ _ none), .one (.sl _ none x _)], _, _⟩), (_, ⟨[.nums .u8 _ _], _, _⟩)]) => x
  | _ => 0
def g24g2 (o : Option (AV × Heap)) : Nat := match o with
  | some (.v (.cell (.int .i64 _)), [(_, ⟨[.one (.ptr _ _ none), .one (.sl _ none _ _)], _, _⟩), (_, ⟨[.nums .u8 x _], _, _⟩)]) => x
  | _ => 0
def g24g3 (o : Option (AV × Heap)) : List Nat := match o with
  | some (.v (.cell (.int .i64 _)), [(_, ⟨[.one (.ptr _ _ none), .one (.sl _ none _ _)], _, _⟩), (_, ⟨[.nums .u8 _ x], _, _⟩)]) => x
  | _ => []
theorem g24is_spec {o : Option (AV × Heap)} (h : g24is o = true) : o = some ((i6 (g24g0 o)), [(0, ⟨[.one (.ptr 0 0 none), .one (.sl 1 none (g24g1 o) 1)], 36, 1⟩), (1, ⟨[.nums .u8 (g24g2 o) (g24g3 o)], 5, 0⟩)]) := by
  unfold g24is at h
  split at h
  · rename_i z0 n0 n1 n2 n3 z5 n4 n5 n6 n7 z10 z11 n8 n9
    simp only [Bool.and_eq_true] at h
    have en0 := beq_true h.1
    subst en0
    replace h := h.2
    have en1 := beq_true h.1
    subst en1
    replace h := h.2
    have en2 := beq_true h.1
    subst en2
    replace h := h.2
    have en3 := beq_true h.1
    subst en3
    replace h := h.2
    have en4 := beq_true h.1
    subst en4
    replace h := h.2
    have en5 := beq_true h.1
    subst en5
    replace h := h.2
    have en6 := beq_true h.1
    subst en6
    replace h := h.2
    have en7 := beq_true h.1
    subst en7
    replace h := h.2
    have en8 := beq_true h.1
    subst en8
    replace h := h.2
    have en9 := beq_true h
    subst en9
    rfl
  · cases h
def g24v (A : Ar) (x0 x1 : Nat) (x2 : List Nat) : Option (AV × Heap) := g24 A (10000000) (outH [0, 1] none) x0 x1 x2
def g24ok (A : Ar) (x0 x1 : Nat) (x2 : List Nat) : Bool := g24is (g24v A x0 x1 x2)
def g24r0 (A : Ar) (x0 x1 : Nat) (x2 : List Nat) : Int := g24g0 (g24v A x0 x1 x2)
def g24r1 (A : Ar) (x0 x1 : Nat) (x2 : List Nat) : Nat := g24g1 (g24v A x0 x1 x2)
def g24r2 (A : Ar) (x0 x1 : Nat) (x2 : List Nat) : Nat := g24g2 (g24v A x0 x1 x2)
def g24r3 (A : Ar) (x0 x1 : Nat) (x2 : List Nat) : List Nat := g24g3 (g24v A x0 x1 x2)
theorem g24ok_spec {A : Ar} {x0 x1 x2} (h : g24ok A x0 x1 x2 = true) : g24v A x0 x1 x2 = some ((i6 (g24r0 A x0 x1 x2)), [(0, ⟨[.one (.ptr 0 0 none), .one (.sl 1 none (g24r1 A x0 x1 x2) 1)], 36, 1⟩), (1, ⟨[.nums .u8 (g24r2 A x0 x1 x2) (g24r3 A x0 x1 x2)], 5, 0⟩)]) := g24is_spec h
def g24o (A : Ar) (args : List AV) (h : Heap) : Option (Bool × AV × Heap) := match args, h with
  | [.v (.cell (.ptr n0 n1 none))], [(n2, ⟨[.one (.ptr n3 n4 none), .one (.sl n5 none x0 n6)], n7, n8⟩), (n9, ⟨[.nums .u8 x1 x2], n10, n11⟩)] => match Nat.beq n0 0 && (Nat.beq n1 0 && (Nat.beq n2 0 && (Nat.beq n3 0 && (Nat.beq n4 0 && (Nat.beq n5 1 && (Nat.beq n6 1 && (Nat.beq n7 36 && (Nat.beq n8 1 && (Nat.beq n9 1 && (Nat.beq n10 5 && (Nat.beq n11 0))))))))))) with
    | true => some (g24ok A x0 x1 x2, (i6 (g24r0 A x0 x1 x2)), [(0, ⟨[.one (.ptr 0 0 none), .one (.sl 1 none (g24r1 A x0 x1 x2) 1)], 36, 1⟩), (1, ⟨[.nums .u8 (g24r2 A x0 x1 x2) (g24r3 A x0 x1 x2)], 5, 0⟩)])
    | false => none
  | _, _ => none
theorem g24o_sound : ∀ args h v h', g24o realA args h = some (true, v, h') → FnH Tryd.prog 24 args h v h' := by
  intro args h v h' hh
  unfold g24o at hh
  split at hh
  · rename_i n0 n1 n2 n3 n4 n5 x0 n6 n7 n8 n9 x1 x2 n10 n11
    split at hh
    case h_2 => cases hh
    rename_i hc0
    simp only [Option.some.injEq, Prod.mk.injEq] at hh
    obtain ⟨hc, hv, hh⟩ := hh
    subst hv
    subst hh
    simp only [Bool.and_eq_true] at hc0
    have en0 := beq_true hc0.1
    subst en0
    replace hc0 := hc0.2
    have en1 := beq_true hc0.1
    subst en1
    replace hc0 := hc0.2
    have en2 := beq_true hc0.1
    subst en2
    replace hc0 := hc0.2
    have en3 := beq_true hc0.1
    subst en3
    replace hc0 := hc0.2
    have en4 := beq_true hc0.1
    subst en4
    replace hc0 := hc0.2
    have en5 := beq_true hc0.1
    subst en5
    replace hc0 := hc0.2
    have en6 := beq_true hc0.1
    subst en6
    replace hc0 := hc0.2
    have en7 := beq_true hc0.1
    subst en7
    replace hc0 := hc0.2
    have en8 := beq_true hc0.1
    subst en8
    replace hc0 := hc0.2
    have en9 := beq_true hc0.1
    subst en9
    replace hc0 := hc0.2
    have en10 := beq_true hc0.1
    subst en10
    replace hc0 := hc0.2
    have en11 := beq_true hc0
    subst en11
    exact fnh_ofG mixed gtysOK g24O_sound g24O_det (an := g24an) (cut := g24cut) Tryd.func24 (c := bodyOf Tryd.f24) rfl (by kernel_rfl) Tryd.call24 (Nat.le_of_ble_eq_true rfl) (pins := [0, 1]) (nilr := none) (fun _ => (show g24v realA x0 x1 x2 = _ from g24ok_spec hc)) fun _ st => g24_go st
  · cases hh
attribute [local irreducible] g24ok g24r0 g24r1 g24r2 g24r3
def g34O (A : Ar) : Orc := orcOf []
theorem g34O_sound : OSound Tryd.prog (g34O realA) := orc_sound fun f g hm args v hv => by
  cases hm
theorem g34O_det : ODet (g34O realA) := orc_det _
def g34an : Ann := [(0, ([0, 1], [])), (1, ([0, 1], [])), (2, ([0, 1], [])), (3, ([0], []))]
def g34res : List ResultVar := [.tmp 4]
def g34cut : List Nat := [2]
noncomputable def g34N {R : Type} (A : Ar) (kk : AV → Heap → Option R) (t : List Bool → St → Option R) (p : List Bool) (s : St) : Option R := nodeN A gtys (g34O A) g34an g34cut t (bodyOf Tryd.f34) (finD gtys g34res kk) p s
def g34J2s (x0 : List Nat) (x1 : Nat) : St := ⟨[(0, (tS x0)), (1, (u8v x1))], []⟩
def g34J2 {R : Type} (A : Ar) (n : Nat) (kk : AV → Heap → Option R) (lg34L1 : List Nat → Nat → Option R) (x0 : List Nat) (x1 : Nat) : Option R :=
  match A.neg (A.ib .sub .i64 (A.ofN x0.length) 1) with
  | true => none
  | false => match A.le (A.toN (A.ib .sub .i64 (A.ofN x0.length) 1)) x0.length with
    | true => lg34L1 ((x0.take (A.toN (A.ib .sub .i64 (A.ofN x0.length) 1))).drop 0) x1
    | false => none
def g34L1s (x0 : List Nat) (x1 : Nat) : St := ⟨[(0, (tS x0)), (1, (u8v x1))], []⟩
def g34L1 {R : Type} (A : Ar) (n : Nat) (kk : AV → Heap → Option R)  : Nat → List Nat → Nat → Option R
  | 0, _, _ => none
  | m + 1, x0, x1 => match A.ic .gtr (A.ofN x0.length) 0 with
  | true => match A.neg (A.ib .sub .i64 (A.ofN x0.length) 1) with
    | true => none
    | false => match A.lt (A.toN (A.ib .sub .i64 (A.ofN x0.length) 1)) x0.length with
      | true => match A.nc .eql (x0.getD (A.toN (A.ib .sub .i64 (A.ofN x0.length) 1)) 0) x1 with
        | true => g34J2 A n kk (g34L1 A n kk  m) x0 x1
        | false => kk (tS x0) []
      | false => none
  | false => kk (tS x0) []
def g34 {R : Type} (A : Ar) (n : Nat) (kk : AV → Heap → Option R) (a : List Nat) (b : Nat) : Option R :=
  g34L1 A n kk  n a b
section
variable {R : Type} {A : Ar} {n : Nat} {kk : AV → Heap → Option R} {tb : Nat → List Bool → St → Option R} (st : Stp (g34N A kk) tb)
include st
theorem g34J2_go {lg34L1 : List Nat → Nat → Option R} (hg34L1 : ∀ (x0 : List Nat) (x1 : Nat), Prs (fun k => tb k (pth 24) (g34L1s x0 x1)) (lg34L1 x0 x1)) {x0 : List Nat} {x1 : Nat} : Prs (fun k => tb k (pth 49) (g34J2s x0 x1)) (g34J2 A n kk lg34L1 x0 x1) := by
  unfold g34J2
  exact st.g (pc (SxP07api _ pn (SxP07api _ (hg34L1 _ _) pn)) (by kernel_rfl))
theorem g34L1_go (m : Nat) : ∀ (x0 : List Nat) (x1 : Nat), Prs (fun k => tb k (pth 24) (g34L1s x0 x1)) (g34L1 A n kk m x0 x1) := by
  induction m with
  | zero => intro x0 x1; exact pn0
  | succ m ih =>
    intro x0 x1; rw [g34L1]
    exact st.g (pc (SxP07api _ (SxP07api _ pn (SxP07api _ (SxP07api _ (g34J2_go st ih) (pf _)) pn)) (pf _)) (by kernel_rfl))
theorem g34_go {a : List Nat} {b : Nat} : Prs (fun k => funN A gtys (g34O A) g34an g34cut (bodyOf Tryd.f34) g34res [(tS a), (u8v b)] [] kk (tb k)) (g34 A n kk a b) := by
  unfold g34
  exact pc (g34L1_go st n _ _) (by kernel_rfl)
end
def g34is (o : Option AV) : Bool := match o with
  | some (.v (.cell (.str _))) => true
  | _ => false
def g34g0 (o : Option AV) : List Nat := match o with
  | some (.v (.cell (.str x))) => x
  | _ => []
theorem g34is_spec {o : Option AV} (h : g34is o = true) : o = some (.v (.cell (.str (g34g0 o)))) := by
  unfold g34is at h
  split at h
  · rfl
  · cases h
def g34v (A : Ar) (a : List Nat) (b : Nat) : Option AV := g34 A (10000000) (fun v _ => some v) a b
def g34ok (A : Ar) (a : List Nat) (b : Nat) : Bool := g34is (g34v A a b)
def g34r0 (A : Ar) (a : List Nat) (b : Nat) : List Nat := g34g0 (g34v A a b)
theorem g34ok_spec {A : Ar} {a b} (h : g34ok A a b = true) : g34v A a b = some (.v (.cell (.str (g34r0 A a b)))) := g34is_spec h
def g34o (A : Ar) (args : List AV) : Option (Bool × AV) := match args with
  | [.v (.cell (.str a)), .v (.cell (.nat .u8 b))] => some (g34ok A a b, .v (.cell (.str (g34r0 A a b))))
  | _ => none
theorem g34o_sound : ∀ args v, g34o realA args = some (true, v) → Fn1 Tryd.prog 34 args v := by
  intro args v h
  unfold g34o at h
  split at h
  · rename_i a b
    simp only [Option.some.injEq, Prod.mk.injEq] at h
    obtain ⟨hc, h⟩ := h
    subst h
    · skip
      exact fn1_ofG mixed gtysOK g34O_sound g34O_det (an := g34an) (cut := g34cut) Tryd.func34 (c := bodyOf Tryd.f34) rfl (by kernel_rfl) Tryd.call34 (Nat.le_of_ble_eq_true rfl) (fun b => rfl) (fun _ => (show g34v realA a b = _ from g34ok_spec hc)) fun _ st => g34_go st
  · cases h
attribute [local irreducible] g34ok g34r0
def g47O (A : Ar) : Orc := orcOf []
def g47an : Ann := [(0, ([0], [])), (1, ([0], []))]
def g47res : List ResultVar := [.tmp 2]
def g47cut : List Nat := []
noncomputable def g47N {R : Type} (A : Ar) (kk : AV → Heap → Option R) (t : List Bool → St → Option R) (p : List Bool) (s : St) : Option R := nodeN A gtys (g47O A) g47an g47cut t (bodyOf Tryd.f47) (finD gtys g47res kk) p s
def g47 {R : Type} (A : Ar) (n : Nat) (kk : AV → Heap → Option R) (a : Nat) : Option R :=
  kk (bO (A.nc .neq (A.nb .and .u8 a 192) 128)) []
section
variable {R : Type} {A : Ar} {n : Nat} {kk : AV → Heap → Option R} {tb : Nat → List Bool → St → Option R} (st : Stp (g47N A kk) tb)
include st
end
def g47is (o : Option AV) : Bool := match o with
  | some (.v (.cell (.bool _))) => true
  | _ => false
def g47g0 (o : Option AV) : Bool := match o with
  | some (.v (.cell (.bool x))) => x
  | _ => false
def g47v (A : Ar) (a : Nat) : Option AV := g47 A (10000000) (fun v _ => some v) a
def g47ok (A : Ar) (a : Nat) : Bool := g47is (g47v A a)
def g47r0 (A : Ar) (a : Nat) : Bool := g47g0 (g47v A a)
attribute [local irreducible] g47ok g47r0
def g46o (A : Ar) := ibo
theorem g46o_sound : ∀ args v, g46o realA args = some (true, v) → Fn1 Tryd.prog 46 args v := ibo_sound Tryd.func46 (by kernel_rfl) (by kernel_rfl) (by kernel_rfl) (by kernel_rfl)
def g41O (A : Ar) : Orc := orcOf [(46, g46o A)]
theorem g41O_sound : OSound Tryd.prog (g41O realA) := orc_sound fun f g hm args v hv => by
  simp only [List.mem_cons, List.not_mem_nil, or_false, Prod.mk.injEq] at hm
  rcases hm with ⟨rfl, rfl⟩
  · exact g46o_sound _ _ hv
theorem g41O_det : ODet (g41O realA) := orc_det _
def g41an : Ann := [(0, ([0, 1], [])), (1, ([0, 1], []))]
def g41res : List ResultVar := [.tmp 4]
def g41cut : List Nat := []
noncomputable def g41N {R : Type} (A : Ar) (kk : AV → Heap → Option R) (t : List Bool → St → Option R) (p : List Bool) (s : St) : Option R := nodeN A gtys (g41O A) g41an g41cut t (bodyOf Tryd.f41) (finD gtys g41res kk) p s
def g41 {R : Type} (A : Ar) (n : Nat) (kk : AV → Heap → Option R) (a : List Nat) (b : Nat) : Option R :=
  kk (i6 (idxB a b)) []
section
variable {R : Type} {A : Ar} {n : Nat} {kk : AV → Heap → Option R} {tb : Nat → List Bool → St → Option R} (st : Stp (g41N A kk) tb)
include st
theorem g41_go {a : List Nat} {b : Nat} : Prs (fun k => funN A gtys (g41O A) g41an g41cut (bodyOf Tryd.f41) g41res [(tS a), (u8v b)] [] kk (tb k)) (g41 A n kk a b) := by
  unfold g41
  exact pc (pf _) (by kernel_rfl)
end
def g41is (o : Option AV) : Bool := match o with
  | some (.v (.cell (.int .i64 _))) => true
  | _ => false
def g41g0 (o : Option AV) : Int := match o with
  | some (.v (.cell (.int .i64 x))) => x
  | _ => 0
theorem g41is_spec {o : Option AV} (h : g41is o = true) : o = some (.v (.cell (.int .i64 (g41g0 o)))) := by
  unfold g41is at h
  split at h
  · rfl
  · cases h
def g41v (A : Ar) (a : List Nat) (b : Nat) : Option AV := g41 A (10000000) (fun v _ => some v) a b
def g41ok (A : Ar) (a : List Nat) (b : Nat) : Bool := g41is (g41v A a b)
def g41r0 (A : Ar) (a : List Nat) (b : Nat) : Int := g41g0 (g41v A a b)
theorem g41ok_spec {A : Ar} {a b} (h : g41ok A a b = true) : g41v A a b = some (.v (.cell (.int .i64 (g41r0 A a b)))) := g41is_spec h
def g41o (A : Ar) (args : List AV) : Option (Bool × AV) := match args with
  | [.v (.cell (.str a)), .v (.cell (.nat .u8 b))] => some (g41ok A a b, .v (.cell (.int .i64 (g41r0 A a b))))
  | _ => none
theorem g41o_sound : ∀ args v, g41o realA args = some (true, v) → Fn1 Tryd.prog 41 args v := by
  intro args v h
  unfold g41o at h
  split at h
  · rename_i a b
    simp only [Option.some.injEq, Prod.mk.injEq] at h
    obtain ⟨hc, h⟩ := h
    subst h
    · skip
      exact fn1_ofG mixed gtysOK g41O_sound g41O_det (an := g41an) (cut := g41cut) Tryd.func41 (c := bodyOf Tryd.f41) rfl (by kernel_rfl) Tryd.call41 (Nat.le_of_ble_eq_true rfl) (fun b => rfl) (fun _ => (show g41v realA a b = _ from g41ok_spec hc)) fun _ st => g41_go st
  · cases h
attribute [local irreducible] g41ok g41r0
def g30O (A : Ar) : Orc := orcOf [(41, g41o A)]
theorem g30O_sound : OSound Tryd.prog (g30O realA) := orc_sound fun f g hm args v hv => by
  simp only [List.mem_cons, List.not_mem_nil, or_false, Prod.mk.injEq] at hm
  rcases hm with ⟨rfl, rfl⟩
  · exact g41o_sound _ _ hv
theorem g30O_det : ODet (g30O realA) := orc_det _
def g30an : Ann := [(0, ([0, 1], [])), (1, ([0, 1], []))]
def g30res : List ResultVar := [.tmp 4]
def g30cut : List Nat := []
noncomputable def g30N {R : Type} (A : Ar) (kk : AV → Heap → Option R) (t : List Bool → St → Option R) (p : List Bool) (s : St) : Option R := nodeN A gtys (g30O A) g30an g30cut t (bodyOf Tryd.f30) (finD gtys g30res kk) p s
def g30 {R : Type} (A : Ar) (n : Nat) (kk : AV → Heap → Option R) (a : List Nat) (b : Nat) : Option R :=
  match g41ok A a b with
  | true => kk (i6 (g41r0 A a b)) []
  | false => none
section
variable {R : Type} {A : Ar} {n : Nat} {kk : AV → Heap → Option R} {tb : Nat → List Bool → St → Option R} (st : Stp (g30N A kk) tb)
include st
theorem g30_go {a : List Nat} {b : Nat} : Prs (fun k => funN A gtys (g30O A) g30an g30cut (bodyOf Tryd.f30) g30res [(tS a), (u8v b)] [] kk (tb k)) (g30 A n kk a b) := by
  unfold g30
  exact pc (SxP07api _ (pf _) pn) (by kernel_rfl)
end
def g30is (o : Option AV) : Bool := match o with
  | some (.v (.cell (.int .i64 _))) => true
  | _ => false
def g30g0 (o : Option AV) : Int := match o with
  | some (.v (.cell (.int .i64 x))) => x
  | _ => 0
theorem g30is_spec {o : Option AV} (h : g30is o = true) : o = some (.v (.cell (.int .i64 (g30g0 o)))) := by
  unfold g30is at h
  split at h
  · rfl
  · cases h
def g30v (A : Ar) (a : List Nat) (b : Nat) : Option AV := g30 A (10000000) (fun v _ => some v) a b
def g30ok (A : Ar) (a : List Nat) (b : Nat) : Bool := g30is (g30v A a b)
def g30r0 (A : Ar) (a : List Nat) (b : Nat) : Int := g30g0 (g30v A a b)
theorem g30ok_spec {A : Ar} {a b} (h : g30ok A a b = true) : g30v A a b = some (.v (.cell (.int .i64 (g30r0 A a b)))) := g30is_spec h
def g30o (A : Ar) (args : List AV) : Option (Bool × AV) := match args with
  | [.v (.cell (.str a)), .v (.cell (.nat .u8 b))] => some (g30ok A a b, .v (.cell (.int .i64 (g30r0 A a b))))
  | _ => none
theorem g30o_sound : ∀ args v, g30o realA args = some (true, v) → Fn1 Tryd.prog 30 args v := by
  intro args v h
  unfold g30o at h
  split at h
  · rename_i a b
    simp only [Option.some.injEq, Prod.mk.injEq] at h
    obtain ⟨hc, h⟩ := h
    subst h
    · skip
      exact fn1_ofG mixed gtysOK g30O_sound g30O_det (an := g30an) (cut := g30cut) Tryd.func30 (c := bodyOf Tryd.f30) rfl (by kernel_rfl) Tryd.call30 (Nat.le_of_ble_eq_true rfl) (fun b => rfl) (fun _ => (show g30v realA a b = _ from g30ok_spec hc)) fun _ st => g30_go st
  · cases h
attribute [local irreducible] g30ok g30r0
def g38O (A : Ar) : Orc := orcOf []
theorem g38O_sound : OSound Tryd.prog (g38O realA) := orc_sound fun f g hm args v hv => by
  cases hm
theorem g38O_det : ODet (g38O realA) := orc_det _
def g38an : Ann := [(0, ([0], [])), (1, ([0], [])), (2, ([], [])), (3, ([0], [])), (4, ([], [])), (5, ([], []))]
def g38res : List ResultVar := [.tmp 2]
def g38cut : List Nat := []
noncomputable def g38N {R : Type} (A : Ar) (kk : AV → Heap → Option R) (t : List Bool → St → Option R) (p : List Bool) (s : St) : Option R := nodeN A gtys (g38O A) g38an g38cut t (bodyOf Tryd.f38) (finD gtys g38res kk) p s
def g38 {R : Type} (A : Ar) (n : Nat) (kk : AV → Heap → Option R) (a : Int) : Option R :=
  match A.ic .leq 0 a with
  | true => match A.ic .lss a 55296 with
    | true => kk (bO true) []
    | false => match A.ic .lss 57343 a with
      | true => match A.ic .leq a 1114111 with
        | true => kk (bO true) []
        | false => kk (bO false) []
      | false => kk (bO false) []
  | false => match A.ic .lss 57343 a with
    | true => match A.ic .leq a 1114111 with
      | true => kk (bO true) []
      | false => kk (bO false) []
    | false => kk (bO false) []
section
variable {R : Type} {A : Ar} {n : Nat} {kk : AV → Heap → Option R} {tb : Nat → List Bool → St → Option R} (st : Stp (g38N A kk) tb)
include st
theorem g38_go {a : Int} : Prs (fun k => funN A gtys (g38O A) g38an g38cut (bodyOf Tryd.f38) g38res [(.v (.cell (.int .i32 a)))] [] kk (tb k)) (g38 A n kk a) := by
  unfold g38
  exact pc (SxP07api _ (SxP07api _ (pf _) (SxP07api _ (SxP07api _ (pf _) (pf _)) (pf _))) (SxP07api _ (SxP07api _ (pf _) (pf _)) (pf _))) (by kernel_rfl)
end
def g38is (o : Option AV) : Bool := match o with
  | some (.v (.cell (.bool _))) => true
  | _ => false
def g38g0 (o : Option AV) : Bool := match o with
  | some (.v (.cell (.bool x))) => x
  | _ => false
theorem g38is_spec {o : Option AV} (h : g38is o = true) : o = some (.v (.cell (.bool (g38g0 o)))) := by
  unfold g38is at h
  split at h
  · rfl
  · cases h
def g38v (A : Ar) (a : Int) : Option AV := g38 A (10000000) (fun v _ => some v) a
def g38ok (A : Ar) (a : Int) : Bool := g38is (g38v A a)
def g38r0 (A : Ar) (a : Int) : Bool := g38g0 (g38v A a)
theorem g38ok_spec {A : Ar} {a} (h : g38ok A a = true) : g38v A a = some (.v (.cell (.bool (g38r0 A a)))) := g38is_spec h
def g38o (A : Ar) (args : List AV) : Option (Bool × AV) := match args with
  | [.v (.cell (.int .i32 a))] => some (g38ok A a, .v (.cell (.bool (g38r0 A a))))
  | _ => none
theorem g38o_sound : ∀ args v, g38o realA args = some (true, v) → Fn1 Tryd.prog 38 args v := by
  intro args v h
  unfold g38o at h
  split at h
  · rename_i a
    simp only [Option.some.injEq, Prod.mk.injEq] at h
    obtain ⟨hc, h⟩ := h
    subst h
    · skip
      exact fn1_ofG mixed gtysOK g38O_sound g38O_det (an := g38an) (cut := g38cut) Tryd.func38 (c := bodyOf Tryd.f38) rfl (by kernel_rfl) Tryd.call38 (Nat.le_of_ble_eq_true rfl) (fun b => rfl) (fun _ => (show g38v realA a = _ from g38ok_spec hc)) fun _ st => g38_go st
  · cases h
attribute [local irreducible] g38ok g38r0
def g39O (A : Ar) : Orc := orcOf []
theorem g39O_sound : OSound Tryd.prog (g39O realA) := orc_sound fun f g hm args v hv => by
  cases hm
theorem g39O_det : ODet (g39O realA) := orc_det _
def g39an : Ann := [(0, ([0], [])), (1, ([0], []))]
def g39res : List ResultVar := [.tmp 2]
def g39cut : List Nat := []
noncomputable def g39N {R : Type} (A : Ar) (kk : AV → Heap → Option R) (t : List Bool → St → Option R) (p : List Bool) (s : St) : Option R := nodeN A gtys (g39O A) g39an g39cut t (bodyOf Tryd.f39) (finD gtys g39res kk) p s
def g39 {R : Type} (A : Ar) (n : Nat) (kk : AV → Heap → Option R) (a : Int) : Option R :=
  kk (i6 (A.ib .quo .i64 (A.ib .add .i64 a 16) 8)) []
section
variable {R : Type} {A : Ar} {n : Nat} {kk : AV → Heap → Option R} {tb : Nat → List Bool → St → Option R} (st : Stp (g39N A kk) tb)
include st
theorem g39_go {a : Int} : Prs (fun k => funN A gtys (g39O A) g39an g39cut (bodyOf Tryd.f39) g39res [(i6 a)] [] kk (tb k)) (g39 A n kk a) := by
  unfold g39
  exact pc (pf _) (by kernel_rfl)
end
def g39is (o : Option AV) : Bool := match o with
  | some (.v (.cell (.int .i64 _))) => true
  | _ => false
def g39g0 (o : Option AV) : Int := match o with
  | some (.v (.cell (.int .i64 x))) => x
  | _ => 0
theorem g39is_spec {o : Option AV} (h : g39is o = true) : o = some (.v (.cell (.int .i64 (g39g0 o)))) := by
  unfold g39is at h
  split at h
  · rfl
  · cases h
def g39v (A : Ar) (a : Int) : Option AV := g39 A (10000000) (fun v _ => some v) a
def g39ok (A : Ar) (a : Int) : Bool := g39is (g39v A a)
def g39r0 (A : Ar) (a : Int) : Int := g39g0 (g39v A a)
theorem g39ok_spec {A : Ar} {a} (h : g39ok A a = true) : g39v A a = some (.v (.cell (.int .i64 (g39r0 A a)))) := g39is_spec h
def g39o (A : Ar) (args : List AV) : Option (Bool × AV) := match args with
  | [.v (.cell (.int .i64 a))] => some (g39ok A a, .v (.cell (.int .i64 (g39r0 A a))))
  | _ => none
theorem g39o_sound : ∀ args v, g39o realA args = some (true, v) → Fn1 Tryd.prog 39 args v := by
  intro args v h
  unfold g39o at h
  split at h
  · rename_i a
    simp only [Option.some.injEq, Prod.mk.injEq] at h
    obtain ⟨hc, h⟩ := h
    subst h
    · skip
      exact fn1_ofG mixed gtysOK g39O_sound g39O_det (an := g39an) (cut := g39cut) Tryd.func39 (c := bodyOf Tryd.f39) rfl (by kernel_rfl) Tryd.call39 (Nat.le_of_ble_eq_true rfl) (fun b => rfl) (fun _ => (show g39v realA a = _ from g39ok_spec hc)) fun _ st => g39_go st
  · cases h
attribute [local irreducible] g39ok g39r0
def g28O (A : Ar) : Orc := orcOf [(30, g30o A), (38, g38o A), (39, g39o A)]
theorem g28O_sound : OSound Tryd.prog (g28O realA) := orc_sound fun f g hm args v hv => by
  simp only [List.mem_cons, List.not_mem_nil, or_false, Prod.mk.injEq] at hm
  rcases hm with ⟨rfl, rfl⟩ | ⟨rfl, rfl⟩ | ⟨rfl, rfl⟩
  · exact g30o_sound _ _ hv
  · exact g38o_sound _ _ hv
  · exact g39o_sound _ _ hv
theorem g28O_det : ODet (g28O realA) := orc_det _
def g28an : Ann := [(0, ([0, 1], [])), (1, ([0, 1], [])), (2, ([0, 7], [])), (3, ([0, 7, 8], [])), (4, ([0, 7, 8, 9], [])), (5, ([0, 7, 8, 9], [])), (6, ([0, 7, 8, 9], [])), (7, ([0, 7, 8, 9], [])), (8, ([0, 7, 8, 9, 11], [])), (9, ([], [])), (10, ([0, 7, 8, 9, 11], [])), (11, ([0, 7, 8, 9], [])), (12, ([0, 7, 8, 9, 12], [])), (13, ([0, 7, 8, 9, 12], [])), (14, ([0, 7, 8, 9, 12], [])), (15, ([8, 9], [])), (16, ([0, 7, 8, 9, 10], [])), (17, ([0, 7, 8, 9, 10], [])), (18, ([0, 7, 8, 9, 10], [])), (19, ([], [])), (20, ([0, 1, 8, 9], [])), (21, ([8, 9, 13], [])), (22, ([8, 9, 13], [])), (23, ([0, 7, 8, 9], [])), (24, ([0, 7, 8, 9, 14], [])), (25, ([0, 7, 8, 9, 14, 15], [])), (26, ([0, 7, 8, 9, 14, 15], [])), (27, ([0, 7, 8, 9, 14, 15], [])), (28, ([0, 7, 8, 9, 14, 15], [])), (29, ([0, 7, 8, 9, 14, 15, 16], [])), (30, ([0, 7, 8, 9, 14, 15, 16], [])), (31, ([0, 7, 8, 9, 14, 15, 16], [])), (32, ([8, 9], [])), (33, ([], [])), (34, ([0, 1], [])), (35, ([0, 1], [])), (36, ([0, 1], [])), (37, ([0], [])), (38, ([175], [])), (39, ([175, 176], [])), (40, ([5, 6, 175], [])), (41, ([5], [])), (42, ([], [])), (43, ([0, 1], [])), (44, ([], []))]
def g28res : List ResultVar := [.tmp 4]
def g28cut : List Nat := [6, 10, 11, 14, 15, 19, 27, 31, 39]
noncomputable def g28N {R : Type} (A : Ar) (kk : AV → Heap → Option R) (t : List Bool → St → Option R) (p : List Bool) (s : St) : Option R := nodeN A gtys (g28O A) g28an g28cut t (bodyOf Tryd.f28) (finD gtys g28res kk) p s
def g28J14s (x0 x1 : List Nat) (x2 x3 x4 : Int) : St := ⟨[(0, (tS x0)), (7, (tS x1)), (8, (i6 x2)), (9, (i6 x3)), (12, (i6 x4))], []⟩
def g28J14 {R : Type} (A : Ar) (n : Nat) (kk : AV → Heap → Option R) (lg28L12 : List Nat → List Nat → Int → Int → Int → Option R) (x0 x1 : List Nat) (x2 x3 x4 : Int) : Option R :=
  match A.neg (A.ib .sub .i64 x3 x4) with
  | true => none
  | false => match A.lt (A.toN (A.ib .sub .i64 x3 x4)) x0.length with
    | true => match A.neg (A.ib .sub .i64 x2 x4) with
      | true => none
      | false => match A.lt (A.toN (A.ib .sub .i64 x2 x4)) x1.length with
        | true => match A.nc .neq (x0.getD (A.toN (A.ib .sub .i64 x3 x4)) 0) (x1.getD (A.toN (A.ib .sub .i64 x2 x4)) 0) with
          | true => none
          | false => lg28L12 x0 x1 x2 x3 (A.ib .add .i64 x4 1)
        | false => none
    | false => none
def g28J15s (x0 x1 : Int) : St := ⟨[(8, (i6 x0)), (9, (i6 x1))], []⟩
def g28J15 {R : Type} (A : Ar) (n : Nat) (kk : AV → Heap → Option R)  (x0 x1 : Int) : Option R :=
  kk (i6 (A.ib .sub .i64 x1 x0)) []
def g28L12s (x0 x1 : List Nat) (x2 x3 x4 : Int) : St := ⟨[(0, (tS x0)), (7, (tS x1)), (8, (i6 x2)), (9, (i6 x3)), (12, (i6 x4))], []⟩
def g28L12 {R : Type} (A : Ar) (n : Nat) (kk : AV → Heap → Option R)  : Nat → List Nat → List Nat → Int → Int → Int → Option R
  | 0, _, _, _, _, _ => none
  | m + 1, x0, x1, x2, x3, x4 => match A.ic .lss x4 (A.ofN x1.length) with
  | true => g28J14 A n kk (g28L12 A n kk  m) x0 x1 x2 x3 x4
  | false => g28J15 A n kk  x2 x3
def g28J11s (x0 x1 : List Nat) (x2 x3 : Int) : St := ⟨[(0, (tS x0)), (7, (tS x1)), (8, (i6 x2)), (9, (i6 x3))], []⟩
def g28J11 {R : Type} (A : Ar) (n : Nat) (kk : AV → Heap → Option R)  (x0 x1 : List Nat) (x2 x3 : Int) : Option R :=
  g28L12 A n kk  n x0 x1 x2 x3 1
def g28J10s (x0 x1 : List Nat) (x2 x3 x4 : Int) : St := ⟨[(0, (tS x0)), (7, (tS x1)), (8, (i6 x2)), (9, (i6 x3)), (11, (i6 x4))], []⟩
def g28J10 {R : Type} (A : Ar) (n : Nat) (kk : AV → Heap → Option R)  (x0 x1 : List Nat) (x2 x3 x4 : Int) : Option R :=
  g28J11 A n kk  x0 x1 x2 (A.ib .add .i64 x3 (A.ib .add .i64 x4 1))
def g28J6s (x0 x1 : List Nat) (x2 x3 : Int) : St := ⟨[(0, (tS x0)), (7, (tS x1)), (8, (i6 x2)), (9, (i6 x3))], []⟩
def g28J6 {R : Type} (A : Ar) (n : Nat) (kk : AV → Heap → Option R)  (x0 x1 : List Nat) (x2 x3 : Int) : Option R :=
  match A.neg x3 with
  | true => none
  | false => match A.lt (A.toN x3) x0.length with
    | true => match A.neg x2 with
      | true => none
      | false => match A.lt (A.toN x2) x1.length with
        | true => match A.nc .neq (x0.getD (A.toN x3) 0) (x1.getD (A.toN x2) 0) with
          | true => match A.neg (A.ib .add .i64 x3 1) with
            | true => none
            | false => match A.le (A.toN (A.ib .add .i64 x3 1)) x0.length with
              | true => match A.neg x2 with
                | true => none
                | false => match A.lt (A.toN x2) x1.length with
                  | true => match g30ok A ((x0.take x0.length).drop (A.toN (A.ib .add .i64 x3 1))) (x1.getD (A.toN x2) 0) with
                    | true => match A.ic .lss (g30r0 A ((x0.take x0.length).drop (A.toN (A.ib .add .i64 x3 1))) (x1.getD (A.toN x2) 0)) 0 with
                      | true => kk (i6 (-1)) []
                      | false => g28J10 A n kk  x0 x1 x2 x3 (g30r0 A ((x0.take x0.length).drop (A.toN (A.ib .add .i64 x3 1))) (x1.getD (A.toN x2) 0))
                    | false => none
                  | false => none
              | false => none
          | false => g28J11 A n kk  x0 x1 x2 x3
        | false => none
    | false => none
def g28J19s  : St := ⟨[], []⟩
def g28J19 {R : Type} (A : Ar) (n : Nat) (kk : AV → Heap → Option R)   : Option R :=
  kk (i6 (-1)) []
def g28L5s (x0 x1 : List Nat) (x2 x3 : Int) : St := ⟨[(0, (tS x0)), (7, (tS x1)), (8, (i6 x2)), (9, (i6 x3))], []⟩
def g28L5 {R : Type} (A : Ar) (n : Nat) (kk : AV → Heap → Option R)  : Nat → List Nat → List Nat → Int → Int → Option R
  | 0, _, _, _, _ => none
  | m + 1, x0, x1, x2, x3 => match A.ic .lss x3 (A.ofN x0.length) with
  | true => g28J6 A n kk  x0 x1 x2 x3
  | false => g28J19 A n kk  
def g28 {R : Type} (A : Ar) (n : Nat) (kk : AV → Heap → Option R) (a : List Nat) (b : Int) : Option R :=
  match A.ic .leq 0 b with
  | true => match A.ic .lss b 128 with
    | true => match g30ok A a (A.i2n .u8 b) with
      | true => kk (i6 (g30r0 A a (A.i2n .u8 b))) []
      | false => none
    | false => match A.ic .eql b 65533 with
      | true => none
      | false => match g38ok A b with
        | true => match !(g38r0 A b) with
          | true => kk (i6 (-1)) []
          | false => g28L5 A n kk  n a (runeS b) (A.ib .sub .i64 (A.ofN ((runeS b).length)) 1) (A.ib .sub .i64 (A.ofN ((runeS b).length)) 1)
        | false => none
  | false => match A.ic .eql b 65533 with
    | true => none
    | false => match g38ok A b with
      | true => match !(g38r0 A b) with
        | true => kk (i6 (-1)) []
        | false => g28L5 A n kk  n a (runeS b) (A.ib .sub .i64 (A.ofN ((runeS b).length)) 1) (A.ib .sub .i64 (A.ofN ((runeS b).length)) 1)
      | false => none
section
variable {R : Type} {A : Ar} {n : Nat} {kk : AV → Heap → Option R} {tb : Nat → List Bool → St → Option R} (st : Stp (g28N A kk) tb)
include st
theorem g28J14_go {lg28L12 : List Nat → List Nat → Int → Int → Int → Option R} (hg28L12 : ∀ (x0 x1 : List Nat) (x2 x3 x4 : Int), Prs (fun k => tb k (pth 29325460) (g28L12s x0 x1 x2 x3 x4)) (lg28L12 x0 x1 x2 x3 x4)) {x0 : List Nat} {x1 : List Nat} {x2 : Int} {x3 : Int} {x4 : Int} : Prs (fun k => tb k (pth 58650921) (g28J14s x0 x1 x2 x3 x4)) (g28J14 A n kk lg28L12 x0 x1 x2 x3 x4) := by
  unfold g28J14
  exact st.g (pc (SxP07api _ pn (SxP07api _ (SxP07api _ pn (SxP07api _ (SxP07api _ pn (hg28L12 _ _ _ _ _)) pn)) pn)) (by kernel_rfl))
theorem g28J15_go {x0 : Int} {x1 : Int} : Prs (fun k => tb k (pth 3665683) (g28J15s x0 x1)) (g28J15 A n kk x0 x1) := by
  unfold g28J15
  exact st.g (pc (pf _) (by kernel_rfl))
theorem g28L12_go (m : Nat) : ∀ (x0 x1 : List Nat) (x2 x3 x4 : Int), Prs (fun k => tb k (pth 29325460) (g28L12s x0 x1 x2 x3 x4)) (g28L12 A n kk m x0 x1 x2 x3 x4) := by
  induction m with
  | zero => intro x0 x1 x2 x3 x4; exact pn0
  | succ m ih =>
    intro x0 x1 x2 x3 x4; rw [g28L12]
    exact st.g (pc (SxP07api _ (g28J14_go st ih) (g28J15_go st)) (by kernel_rfl))
theorem g28J11_go {x0 : List Nat} {x1 : List Nat} {x2 : Int} {x3 : Int} : Prs (fun k => tb k (pth 1832841) (g28J11s x0 x1 x2 x3)) (g28J11 A n kk x0 x1 x2 x3) := by
  unfold g28J11
  exact st.g (pc (g28L12_go st n _ _ _ _ _) (by kernel_rfl))
theorem g28J10_go {x0 : List Nat} {x1 : List Nat} {x2 : Int} {x3 : Int} {x4 : Int} : Prs (fun k => tb k (pth 29325451) (g28J10s x0 x1 x2 x3 x4)) (g28J10 A n kk x0 x1 x2 x3 x4) := by
  unfold g28J10
  exact st.g (pc (g28J11_go st) (by kernel_rfl))
theorem g28J6_go {x0 : List Nat} {x1 : List Nat} {x2 : Int} {x3 : Int} : Prs (fun k => tb k (pth 229105) (g28J6s x0 x1 x2 x3)) (g28J6 A n kk x0 x1 x2 x3) := by
  unfold g28J6
  exact st.g (pc (SxP07api _ pn (SxP07api _ (SxP07api _ pn (SxP07api _ (SxP07api _ (SxP07api _ pn (SxP07api _ (SxP07api _ pn (SxP07api _ (SxP07api _ (SxP07api _ (pf _) (g28J10_go st)) pn) pn)) pn)) (g28J11_go st)) pn)) pn)) (by kernel_rfl))
theorem g28J19_go  : Prs (fun k => tb k (pth 28639) (g28J19s)) (g28J19 A n kk) := by
  unfold g28J19
  exact st.g (pc (pf _) (by kernel_rfl))
theorem g28L5_go (m : Nat) : ∀ (x0 x1 : List Nat) (x2 x3 : Int), Prs (fun k => tb k (pth 114552) (g28L5s x0 x1 x2 x3)) (g28L5 A n kk m x0 x1 x2 x3) := by
  induction m with
  | zero => intro x0 x1 x2 x3; exact pn0
  | succ m ih =>
    intro x0 x1 x2 x3; rw [g28L5]
    exact st.g (pc (SxP07api _ (g28J6_go st) (g28J19_go st)) (by kernel_rfl))
theorem g28_go {a : List Nat} {b : Int} : Prs (fun k => funN A gtys (g28O A) g28an g28cut (bodyOf Tryd.f28) g28res [(tS a), (.v (.cell (.int .i32 b)))] [] kk (tb k)) (g28 A n kk a b) := by
  unfold g28
  exact pc (SxP07api _ (SxP07api _ (SxP07api _ (pf _) pn) (SxP07api _ pn (SxP07api _ (SxP07api _ (pf _) (g28L5_go st n _ _ _ _)) pn))) (SxP07api _ pn (SxP07api _ (SxP07api _ (pf _) (g28L5_go st n _ _ _ _)) pn))) (by kernel_rfl)
end
def g28is (o : Option AV) : Bool := match o with
  | some (.v (.cell (.int .i64 _))) => true
  | _ => false
def g28g0 (o : Option AV) : Int := match o with
  | some (.v (.cell (.int .i64 x))) => x
  | _ => 0
theorem g28is_spec {o : Option AV} (h : g28is o = true) : o = some (.v (.cell (.int .i64 (g28g0 o)))) := by
  unfold g28is at h
  split at h
  · rfl
  · cases h
def g28v (A : Ar) (a : List Nat) (b : Int) : Option AV := g28 A (10000000) (fun v _ => some v) a b
def g28ok (A : Ar) (a : List Nat) (b : Int) : Bool := g28is (g28v A a b)
def g28r0 (A : Ar) (a : List Nat) (b : Int) : Int := g28g0 (g28v A a b)
theorem g28ok_spec {A : Ar} {a b} (h : g28ok A a b = true) : g28v A a b = some (.v (.cell (.int .i64 (g28r0 A a b)))) := g28is_spec h
def g28o (A : Ar) (args : List AV) : Option (Bool × AV) := match args with
  | [.v (.cell (.str a)), .v (.cell (.int .i32 b))] => some (g28ok A a b, .v (.cell (.int .i64 (g28r0 A a b))))
  | _ => none
theorem g28o_sound : ∀ args v, g28o realA args = some (true, v) → Fn1 Tryd.prog 28 args v := by
  intro args v h
  unfold g28o at h
  split at h
  · rename_i a b
    simp only [Option.some.injEq, Prod.mk.injEq] at h
    obtain ⟨hc, h⟩ := h
    subst h
    · skip
      exact fn1_ofG mixed gtysOK g28O_sound g28O_det (an := g28an) (cut := g28cut) Tryd.func28 (c := bodyOf Tryd.f28) rfl (by kernel_rfl) Tryd.call28 (Nat.le_of_ble_eq_true rfl) (fun b => rfl) (fun _ => (show g28v realA a b = _ from g28ok_spec hc)) fun _ st => g28_go st
  · cases h
attribute [local irreducible] g28ok g28r0
def g45O (A : Ar) : Orc := orcOf [(28, g28o A)]
def g45an : Ann := [(0, ([0, 1], [])), (1, ([0, 1], []))]
def g45res : List ResultVar := [.tmp 4]
def g45cut : List Nat := []
noncomputable def g45N {R : Type} (A : Ar) (kk : AV → Heap → Option R) (t : List Bool → St → Option R) (p : List Bool) (s : St) : Option R := nodeN A gtys (g45O A) g45an g45cut t (bodyOf Tryd.f45) (finD gtys g45res kk) p s
def g45 {R : Type} (A : Ar) (n : Nat) (kk : AV → Heap → Option R) (a : List Nat) (b : Int) : Option R :=
  match g28ok A a b with
  | true => kk (bO (A.ic .geq (g28r0 A a b) 0)) []
  | false => none
section
variable {R : Type} {A : Ar} {n : Nat} {kk : AV → Heap → Option R} {tb : Nat → List Bool → St → Option R} (st : Stp (g45N A kk) tb)
include st
end
def g45is (o : Option AV) : Bool := match o with
  | some (.v (.cell (.bool _))) => true
  | _ => false
def g45g0 (o : Option AV) : Bool := match o with
  | some (.v (.cell (.bool x))) => x
  | _ => false
def g45v (A : Ar) (a : List Nat) (b : Int) : Option AV := g45 A (10000000) (fun v _ => some v) a b
def g45ok (A : Ar) (a : List Nat) (b : Int) : Bool := g45is (g45v A a b)
def g45r0 (A : Ar) (a : List Nat) (b : Int) : Bool := g45g0 (g45v A a b)
attribute [local irreducible] g45ok g45r0
def g27O (A : Ar) : Orc := orcOf [(34, g34o A)]
theorem g27O_sound : OSound Tryd.prog (g27O realA) := orc_sound fun f g hm args v hv => by
  simp only [List.mem_cons, List.not_mem_nil, or_false, Prod.mk.injEq] at hm
  rcases hm with ⟨rfl, rfl⟩
  · exact g34o_sound _ _ hv
theorem g27O_det : ODet (g27O realA) := orc_det _
def g27an : Ann := [(0, ([0, 1], [])), (1, ([0, 1], [])), (2, ([0], [])), (3, ([0, 1], [])), (4, ([0, 1], [])), (5, ([0, 1], [])), (6, ([0, 1, 5, 6], [])), (7, ([0, 5], [])), (8, ([0, 1], []))]
def g27res : List ResultVar := [.tmp 4]
def g27cut : List Nat := [3, 5]
noncomputable def g27N {R : Type} (A : Ar) (kk : AV → Heap → Option R) (t : List Bool → St → Option R) (p : List Bool) (s : St) : Option R := nodeN A gtys (g27O A) g27an g27cut t (bodyOf Tryd.f27) (finD gtys g27res kk) p s
def g27J5s (x0 x1 : List Nat) : St := ⟨[(0, (tS x0)), (1, (tS x1))], []⟩
def g27J5 {R : Type} (A : Ar) (n : Nat) (kk : AV → Heap → Option R)  (x0 x1 : List Nat) : Option R :=
  none
def g27J3s (x0 x1 : List Nat) : St := ⟨[(0, (tS x0)), (1, (tS x1))], []⟩
def g27J3 {R : Type} (A : Ar) (n : Nat) (kk : AV → Heap → Option R)  (x0 x1 : List Nat) : Option R :=
  match A.ic .eql (A.ofN x1.length) 1 with
  | true => match Nat.blt 0 x1.length with
    | true => match A.nc .lss (x1.getD 0 0) 128 with
      | true => match Nat.blt 0 x1.length with
        | true => match g34ok A x0 (x1.getD 0 0) with
          | true => kk (tS (g34r0 A x0 (x1.getD 0 0))) []
          | false => none
        | false => none
      | false => g27J5 A n kk  x0 x1
    | false => none
  | false => g27J5 A n kk  x0 x1
def g27 {R : Type} (A : Ar) (n : Nat) (kk : AV → Heap → Option R) (a b : List Nat) : Option R :=
  match A.sc .eql a [] with
  | true => kk (tS a) []
  | false => match A.sc .eql b [] with
    | true => kk (tS a) []
    | false => g27J3 A n kk  a b
section
variable {R : Type} {A : Ar} {n : Nat} {kk : AV → Heap → Option R} {tb : Nat → List Bool → St → Option R} (st : Stp (g27N A kk) tb)
include st
theorem g27J5_go {x0 : List Nat} {x1 : List Nat} : Prs (fun k => tb k (pth 15) (g27J5s x0 x1)) (g27J5 A n kk x0 x1) := by
  unfold g27J5
  exact st.g (pc pn (by kernel_rfl))
theorem g27J3_go {x0 : List Nat} {x1 : List Nat} : Prs (fun k => tb k (pth 7) (g27J3s x0 x1)) (g27J3 A n kk x0 x1) := by
  unfold g27J3
  exact st.g (pc (SxP07api _ (SxP07api _ (SxP07api _ (SxP07api _ (SxP07api _ (pf _) pn) pn) (g27J5_go st)) pn) (g27J5_go st)) (by kernel_rfl))
theorem g27_go {a : List Nat} {b : List Nat} : Prs (fun k => funN A gtys (g27O A) g27an g27cut (bodyOf Tryd.f27) g27res [(tS a), (tS b)] [] kk (tb k)) (g27 A n kk a b) := by
  unfold g27
  exact pc (SxP07api _ (pf _) (SxP07api _ (pf _) (g27J3_go st))) (by kernel_rfl)
end
def g27is (o : Option AV) : Bool := match o with
  | some (.v (.cell (.str _))) => true
  | _ => false
def g27g0 (o : Option AV) : List Nat := match o with
  | some (.v (.cell (.str x))) => x
  | _ => []
theorem g27is_spec {o : Option AV} (h : g27is o = true) : o = some (.v (.cell (.str (g27g0 o)))) := by
  unfold g27is at h
  split at h
  · rfl
  · cases h
def g27v (A : Ar) (a b : List Nat) : Option AV := g27 A (10000000) (fun v _ => some v) a b
def g27ok (A : Ar) (a b : List Nat) : Bool := g27is (g27v A a b)
def g27r0 (A : Ar) (a b : List Nat) : List Nat := g27g0 (g27v A a b)
theorem g27ok_spec {A : Ar} {a b} (h : g27ok A a b = true) : g27v A a b = some (.v (.cell (.str (g27r0 A a b)))) := g27is_spec h
def g27o (A : Ar) (args : List AV) : Option (Bool × AV) := match args with
  | [.v (.cell (.str a)), .v (.cell (.str b))] => some (g27ok A a b, .v (.cell (.str (g27r0 A a b))))
  | _ => none
theorem g27o_sound : ∀ args v, g27o realA args = some (true, v) → Fn1 Tryd.prog 27 args v := by
  intro args v h
  unfold g27o at h
  split at h
  · rename_i a b
    simp only [Option.some.injEq, Prod.mk.injEq] at h
    obtain ⟨hc, h⟩ := h
    subst h
    · skip
      exact fn1_ofG mixed gtysOK g27O_sound g27O_det (an := g27an) (cut := g27cut) Tryd.func27 (c := bodyOf Tryd.f27) rfl (by kernel_rfl) Tryd.call27 (Nat.le_of_ble_eq_true rfl) (fun b => rfl) (fun _ => (show g27v realA a b = _ from g27ok_spec hc)) fun _ st => g27_go st
  · cases h
attribute [local irreducible] g27ok g27r0
def g33ok (A : Ar)  : Bool := true
def g33o (A : Ar) (args : List AV) (h : Heap) : Option (Bool × AV × Heap) := match args, h with
  | [.v (.cell (.ptr n0 n1 none))], [(n2, ⟨[.one .nilp, .one .nils], n3, n4⟩)] => match Nat.beq n0 0 && (Nat.beq n1 0 && (Nat.beq n2 0 && (Nat.beq n3 36 && (Nat.beq n4 1)))) with
    | true => some (g33ok A, (.tup []), [(0, ⟨[.one (.ptr 0 0 none), .one .nils], 36, 1⟩)])
    | false => none
  | _, _ => none
theorem g33o_sound : ∀ args h v h', g33o realA args h = some (true, v, h') → FnH Tryd.prog 33 args h v h' := by
  intro args h v h' hh
  unfold g33o at hh
  split at hh
  · rename_i n0 n1 n2 n3 n4
    split at hh
    case h_2 => cases hh
    rename_i hc0
    simp only [Option.some.injEq, Prod.mk.injEq] at hh
    obtain ⟨hc, hv, hh⟩ := hh
    subst hv
    subst hh
    simp only [Bool.and_eq_true] at hc0
    have en0 := beq_true hc0.1
    subst en0
    replace hc0 := hc0.2
    have en1 := beq_true hc0.1
    subst en1
    replace hc0 := hc0.2
    have en2 := beq_true hc0.1
    subst en2
    replace hc0 := hc0.2
    have en3 := beq_true hc0.1
    subst en3
    replace hc0 := hc0.2
    have en4 := beq_true hc0
    subst en4
    exact Bd07.copyF rfl
  · cases hh
attribute [local irreducible] g33ok
def g23O (A : Ar) : Orc := orcH [] [(33, ⟨[], none, (g33o A)⟩)]
theorem g23O_sound : OSound Tryd.prog (g23O realA) := orcH_sound (fun f g hm args v hv => by
    cases hm) (fun f e hm args h v h' hv => by
    simp only [List.mem_cons, List.not_mem_nil, or_false, Prod.mk.injEq] at hm
    rcases hm with ⟨rfl, rfl⟩
    · exact g33o_sound _ _ _ _ hv)
theorem g23O_det : ODet (g23O realA) := orcH_det _ _
def g23an : Ann := [(0, ([0, 1], [0])), (1, ([0, 1], [0])), (2, ([0, 1], [0])), (3, ([], [0, 3007]))]
def g23res : List ResultVar := [.tmp 4]
def g23cut : List Nat := []
noncomputable def g23N {R : Type} (A : Ar) (kk : AV → Heap → Option R) (t : List Bool → St → Option R) (p : List Bool) (s : St) : Option R := nodeN A gtys (g23O A) g23an g23cut t (bodyOf Tryd.f23) (finD gtys g23res kk) p s
def g23 {R : Type} (A : Ar) (n : Nat) (kk : AV → Heap → Option R) (x0 : Nat) : Option R :=
  match g33ok A with
  | true => match A.eq 0 0 with
    | true => match A.le (([] ++ ([x0].take 1)).length) 140737488355328 with
      | true => kk (.v (.cell .top)) [(0, ⟨[.one (.ptr 0 0 none), .one (.sl 3007 none (([] ++ ([x0].take 1)).length) 1)], 36, 1⟩), (3007, ⟨[.nums .u8 (([] ++ ([x0].take 1)).length) ([] ++ ([x0].take 1))], 5, 2⟩)]
      | false => none
    | false => none
  | false => none
section
variable {R : Type} {A : Ar} {n : Nat} {kk : AV → Heap → Option R} {tb : Nat → List Bool → St → Option R} (st : Stp (g23N A kk) tb)
include st
theorem g23_go {x0 : Nat} : Prs (fun k => funN A gtys (g23O A) g23an g23cut (bodyOf Tryd.f23) g23res [(pT 0 0), (u8v x0)] [(0, ⟨[.one .nilp, .one .nils], 36, 1⟩)] kk (tb k)) (g23 A n kk x0) := by
  unfold g23
  exact pc (SxP07api _ (SxP07api _ (SxP07api _ (pf _) pn) pn) pn) (by kernel_rfl)
end
def g23is (o : Option (AV × Heap)) : Bool := match o with
  | some (.v (.cell .top), [(n0, ⟨[.one (.ptr n1 n2 none), .one (.sl n3 none _ n4)], n5, n6⟩), (n7, ⟨[.nums .u8 _ _], n8, n9⟩)]) => Nat.beq n0 0 && (Nat.beq n1 0 && (Nat.beq n2 0 && (Nat.beq n3 700 && (Nat.beq n4 1 && (Nat.beq n5 36 && (Nat.beq n6 1 && (Nat.beq n7 700 && (Nat.beq n8 5 && (Nat.beq n9 2)))))))))
  | _ => false
def g23g0 (o : Option (AV × Heap)) : Nat := match o with
  | some (.v (.cell .top), [(_, ⟨[.one (.ptr _ _ none), .one (.sl _ none x _)], _, _⟩), (_, ⟨[.nums .u8 _ _], _, _⟩)]) => x
  | _ => 0
def g23g1 (o : Option (AV × Heap)) : Nat := match o with
  | some (.v (.cell .top), [(_, ⟨[.one (.ptr _ _ none), .one (.sl _ none _ _)], _, _⟩), (_, ⟨[.nums .u8 x _], _, _⟩)]) => x
  | _ => 0
def g23g2 (o : Option (AV × Heap)) : List Nat := match o with
  | some (.v (.cell .top), [(_, ⟨[.one (.ptr _ _ none), .one (.sl _ none _ _)], _, _⟩), (_, ⟨[.nums .u8 _ x], _, _⟩)]) => x
  | _ => []
theorem g23is_spec {o : Option (AV × Heap)} (h : g23is o = true) : o = some ((.v (.cell .top)), [(0, ⟨[.one (.ptr 0 0 none), .one (.sl 700 none (g23g0 o) 1)], 36, 1⟩), (700, ⟨[.nums .u8 (g23g1 o) (g23g2 o)], 5, 2⟩)]) := by
  unfold g23is at h
  split at h
  · rename_i n0 n1 n2 n3 z4 n4 n5 n6 n7 z9 z10 n8 n9
    simp only [Bool.and_eq_true] at h
    have en0 := beq_true h.1
    subst en0
    replace h := h.2
    have en1 := beq_true h.1
    subst en1
    replace h := h.2
    have en2 := beq_true h.1
    subst en2
    replace h := h.2
    have en3 := beq_true h.1
    subst en3
    replace h := h.2
    have en4 := beq_true h.1
    subst en4
    replace h := h.2
    have en5 := beq_true h.1
    subst en5
    replace h := h.2
    have en6 := beq_true h.1
    subst en6
    replace h := h.2
    have en7 := beq_true h.1
    subst en7
    replace h := h.2
    have en8 := beq_true h.1
    subst en8
    replace h := h.2
    have en9 := beq_true h
    subst en9
    rfl
  · cases h
def g23v (A : Ar) (x0 : Nat) : Option (AV × Heap) := g23 A (10000000) (outH [0] none) x0
def g23ok (A : Ar) (x0 : Nat) : Bool := g23is (g23v A x0)
def g23r0 (A : Ar) (x0 : Nat) : Nat := g23g0 (g23v A x0)
def g23r1 (A : Ar) (x0 : Nat) : Nat := g23g1 (g23v A x0)
def g23r2 (A : Ar) (x0 : Nat) : List Nat := g23g2 (g23v A x0)
theorem g23ok_spec {A : Ar} {x0} (h : g23ok A x0 = true) : g23v A x0 = some ((.v (.cell .top)), [(0, ⟨[.one (.ptr 0 0 none), .one (.sl 700 none (g23r0 A x0) 1)], 36, 1⟩), (700, ⟨[.nums .u8 (g23r1 A x0) (g23r2 A x0)], 5, 2⟩)]) := g23is_spec h
def g23o (A : Ar) (args : List AV) (h : Heap) : Option (Bool × AV × Heap) := match args, h with
  | [.v (.cell (.ptr n0 n1 none)), .v (.cell (.nat .u8 x0))], [(n2, ⟨[.one .nilp, .one .nils], n3, n4⟩)] => match Nat.beq n0 0 && (Nat.beq n1 0 && (Nat.beq n2 0 && (Nat.beq n3 36 && (Nat.beq n4 1)))) with
    | true => some (g23ok A x0, (.v (.cell .top)), [(0, ⟨[.one (.ptr 0 0 none), .one (.sl 700 none (g23r0 A x0) 1)], 36, 1⟩), (700, ⟨[.nums .u8 (g23r1 A x0) (g23r2 A x0)], 5, 2⟩)])
    | false => none
  | _, _ => none
theorem g23o_sound : ∀ args h v h', g23o realA args h = some (true, v, h') → FnH Tryd.prog 23 args h v h' := by
  intro args h v h' hh
  unfold g23o at hh
  split at hh
  · rename_i n0 n1 x0 n2 n3 n4
    split at hh
    case h_2 => cases hh
    rename_i hc0
    simp only [Option.some.injEq, Prod.mk.injEq] at hh
    obtain ⟨hc, hv, hh⟩ := hh
    subst hv
    subst hh
    simp only [Bool.and_eq_true] at hc0
    have en0 := beq_true hc0.1
    subst en0
    replace hc0 := hc0.2
    have en1 := beq_true hc0.1
    subst en1
    replace hc0 := hc0.2
    have en2 := beq_true hc0.1
    subst en2
    replace hc0 := hc0.2
    have en3 := beq_true hc0.1
    subst en3
    replace hc0 := hc0.2
    have en4 := beq_true hc0
    subst en4
    exact fnh_ofG mixed gtysOK g23O_sound g23O_det (an := g23an) (cut := g23cut) Tryd.func23 (c := bodyOf Tryd.f23) rfl (by kernel_rfl) Tryd.call23 (Nat.le_of_ble_eq_true rfl) (pins := [0]) (nilr := none) (fun _ => (show g23v realA x0 = _ from g23ok_spec hc)) fun _ st => g23_go st
  · cases hh
attribute [local irreducible] g23ok g23r0 g23r1 g23r2
def g33a_ok (A : Ar) (x0 x1 : Nat) (x2 : List Nat) : Bool := true
def g33a_r0 (A : Ar) (x0 x1 : Nat) (x2 : List Nat) : Nat := x0
def g33a_r1 (A : Ar) (x0 x1 : Nat) (x2 : List Nat) : Nat := x1
def g33a_r2 (A : Ar) (x0 x1 : Nat) (x2 : List Nat) : List Nat := x2
def g33a_o (A : Ar) (args : List AV) (h : Heap) : Option (Bool × AV × Heap) := match args, h with
  | [.v (.cell (.ptr n0 n1 none))], [(n2, ⟨[.one (.ptr n3 n4 none), .one (.sl n5 none x0 n6)], n7, n8⟩), (n9, ⟨[.nums .u8 x1 x2], n10, n11⟩)] => match Nat.beq n0 0 && (Nat.beq n1 0 && (Nat.beq n2 0 && (Nat.beq n3 0 && (Nat.beq n4 0 && (Nat.beq n5 1 && (Nat.beq n6 1 && (Nat.beq n7 36 && (Nat.beq n8 1 && (Nat.beq n9 1 && (Nat.beq n10 5 && (Nat.beq n11 2))))))))))) with
    | true => some (g33a_ok A x0 x1 x2, (.tup []), [(0, ⟨[.one (.ptr 0 0 none), .one (.sl 1 none (g33a_r0 A x0 x1 x2) 1)], 36, 1⟩), (1, ⟨[.nums .u8 (g33a_r1 A x0 x1 x2) (g33a_r2 A x0 x1 x2)], 5, 2⟩)])
    | false => none
  | _, _ => none
theorem g33a_o_sound : ∀ args h v h', g33a_o realA args h = some (true, v, h') → FnH Tryd.prog 33 args h v h' := by
  intro args h v h' hh
  unfold g33a_o at hh
  split at hh
  · rename_i n0 n1 n2 n3 n4 n5 x0 n6 n7 n8 n9 x1 x2 n10 n11
    split at hh
    case h_2 => cases hh
    rename_i hc0
    simp only [Option.some.injEq, Prod.mk.injEq] at hh
    obtain ⟨hc, hv, hh⟩ := hh
    subst hv
    subst hh
    simp only [Bool.and_eq_true] at hc0
    have en0 := beq_true hc0.1
    subst en0
    replace hc0 := hc0.2
    have en1 := beq_true hc0.1
    subst en1
    replace hc0 := hc0.2
    have en2 := beq_true hc0.1
    subst en2
    replace hc0 := hc0.2
    have en3 := beq_true hc0.1
    subst en3
    replace hc0 := hc0.2
    have en4 := beq_true hc0.1
    subst en4
    replace hc0 := hc0.2
    have en5 := beq_true hc0.1
    subst en5
    replace hc0 := hc0.2
    have en6 := beq_true hc0.1
    subst en6
    replace hc0 := hc0.2
    have en7 := beq_true hc0.1
    subst en7
    replace hc0 := hc0.2
    have en8 := beq_true hc0.1
    subst en8
    replace hc0 := hc0.2
    have en9 := beq_true hc0.1
    subst en9
    replace hc0 := hc0.2
    have en10 := beq_true hc0.1
    subst en10
    replace hc0 := hc0.2
    have en11 := beq_true hc0
    subst en11
    exact Bd07.copyU rfl
  · cases hh
attribute [local irreducible] g33a_ok g33a_r0 g33a_r1 g33a_r2
def g23a_O (A : Ar) : Orc := orcH [] [(33, ⟨[], none, (ho2 (g33o A) (g33a_o A))⟩)]
theorem g23a_O_sound : OSound Tryd.prog (g23a_O realA) := orcH_sound (fun f g hm args v hv => by
    cases hm) (fun f e hm args h v h' hv => by
    simp only [List.mem_cons, List.not_mem_nil, or_false, Prod.mk.injEq] at hm
    rcases hm with ⟨rfl, rfl⟩
    · exact (ho2_sound g33o_sound g33a_o_sound) _ _ _ _ hv)
theorem g23a_O_det : ODet (g23a_O realA) := orcH_det _ _
def g23a_an : Ann := [(0, ([0, 1], [0, 501])), (1, ([0, 1], [0, 501])), (2, ([0, 1], [0, 501])), (3, ([], [0, 501]))]
def g23a_res : List ResultVar := [.tmp 4]
def g23a_cut : List Nat := []
noncomputable def g23a_N {R : Type} (A : Ar) (kk : AV → Heap → Option R) (t : List Bool → St → Option R) (p : List Bool) (s : St) : Option R := nodeN A gtys (g23a_O A) g23a_an g23a_cut t (bodyOf Tryd.f23) (finD gtys g23a_res kk) p s
def g23a_ {R : Type} (A : Ar) (n : Nat) (kk : AV → Heap → Option R) (x0 x1 x2 : Nat) (x3 : List Nat) : Option R :=
  match g33a_ok A x1 x2 x3 with
  | true => match A.eq (g33a_r0 A x1 x2 x3) ((g33a_r1 A x1 x2 x3) + 0) with
    | true => match A.le (((g33a_r2 A x1 x2 x3) ++ ([x0].take 1)).length) 140737488355328 with
      | true => kk (.v (.cell .top)) [(0, ⟨[.one (.ptr 0 0 none), .one (.sl 501 none (((g33a_r2 A x1 x2 x3) ++ ([x0].take 1)).length) 1)], 36, 1⟩), (501, ⟨[.nums .u8 (((g33a_r2 A x1 x2 x3) ++ ([x0].take 1)).length) ((g33a_r2 A x1 x2 x3) ++ ([x0].take 1))], 5, 2⟩)]
      | false => none
    | false => none
  | false => none
section
variable {R : Type} {A : Ar} {n : Nat} {kk : AV → Heap → Option R} {tb : Nat → List Bool → St → Option R} (st : Stp (g23a_N A kk) tb)
include st
theorem g23a__go {x0 : Nat} {x1 : Nat} {x2 : Nat} {x3 : List Nat} : Prs (fun k => funN A gtys (g23a_O A) g23a_an g23a_cut (bodyOf Tryd.f23) g23a_res [(pT 0 0), (u8v x0)] [(0, ⟨[.one (.ptr 0 0 none), .one (.sl 501 none x1 1)], 36, 1⟩), (501, ⟨[.nums .u8 x2 x3], 5, 2⟩)] kk (tb k)) (g23a_ A n kk x0 x1 x2 x3) := by
  unfold g23a_
  exact pc (SxP07api _ (SxP07api _ (SxP07api _ (pf _) pn) pn) pn) (by kernel_rfl)
end
def g23a_is (o : Option (AV × Heap)) : Bool := match o with
  | some (.v (.cell .top), [(n0, ⟨[.one (.ptr n1 n2 none), .one (.sl n3 none _ n4)], n5, n6⟩), (n7, ⟨[.nums .u8 _ _], n8, n9⟩)]) => Nat.beq n0 0 && (Nat.beq n1 0 && (Nat.beq n2 0 && (Nat.beq n3 501 && (Nat.beq n4 1 && (Nat.beq n5 36 && (Nat.beq n6 1 && (Nat.beq n7 501 && (Nat.beq n8 5 && (Nat.beq n9 2)))))))))
  | _ => false
def g23a_g0 (o : Option (AV × Heap)) : Nat := match o with
  | some (.v (.cell .top), [(_, ⟨[.one (.ptr _ _ none), .one (.sl _ none x _)], _, _⟩), (_, ⟨[.nums .u8 _ _], _, _⟩)]) => x
  | _ => 0
def g23a_g1 (o : Option (AV × Heap)) : Nat := match o with
  | some (.v (.cell .top), [(_, ⟨[.one (.ptr _ _ none), .one (.sl _ none _ _)], _, _⟩), (_, ⟨[.nums .u8 x _], _, _⟩)]) => x
  | _ => 0
def g23a_g2 (o : Option (AV × Heap)) : List Nat := match o with
  | some (.v (.cell .top), [(_, ⟨[.one (.ptr _ _ none), .one (.sl _ none _ _)], _, _⟩), (_, ⟨[.nums .u8 _ x], _, _⟩)]) => x
  | _ => []
theorem g23a_is_spec {o : Option (AV × Heap)} (h : g23a_is o = true) : o = some ((.v (.cell .top)), [(0, ⟨[.one (.ptr 0 0 none), .one (.sl 501 none (g23a_g0 o) 1)], 36, 1⟩), (501, ⟨[.nums .u8 (g23a_g1 o) (g23a_g2 o)], 5, 2⟩)]) := by
  unfold g23a_is at h
  split at h
  · rename_i n0 n1 n2 n3 z4 n4 n5 n6 n7 z9 z10 n8 n9
    simp only [Bool.and_eq_true] at h
    have en0 := beq_true h.1
    subst en0
    replace h := h.2
    have en1 := beq_true h.1
    subst en1
    replace h := h.2
    have en2 := beq_true h.1
    subst en2
    replace h := h.2
    have en3 := beq_true h.1
    subst en3
    replace h := h.2
    have en4 := beq_true h.1
    subst en4
    replace h := h.2
    have en5 := beq_true h.1
    subst en5
    replace h := h.2
    have en6 := beq_true h.1
    subst en6
    replace h := h.2
    have en7 := beq_true h.1
    subst en7
    replace h := h.2
    have en8 := beq_true h.1
    subst en8
    replace h := h.2
    have en9 := beq_true h
    subst en9
    rfl
  · cases h
def g23a_v (A : Ar) (x0 x1 x2 : Nat) (x3 : List Nat) : Option (AV × Heap) := g23a_ A (10000000) (outH [0, 501] none) x0 x1 x2 x3
def g23a_ok (A : Ar) (x0 x1 x2 : Nat) (x3 : List Nat) : Bool := g23a_is (g23a_v A x0 x1 x2 x3)
def g23a_r0 (A : Ar) (x0 x1 x2 : Nat) (x3 : List Nat) : Nat := g23a_g0 (g23a_v A x0 x1 x2 x3)
def g23a_r1 (A : Ar) (x0 x1 x2 : Nat) (x3 : List Nat) : Nat := g23a_g1 (g23a_v A x0 x1 x2 x3)
def g23a_r2 (A : Ar) (x0 x1 x2 : Nat) (x3 : List Nat) : List Nat := g23a_g2 (g23a_v A x0 x1 x2 x3)
theorem g23a_ok_spec {A : Ar} {x0 x1 x2 x3} (h : g23a_ok A x0 x1 x2 x3 = true) : g23a_v A x0 x1 x2 x3 = some ((.v (.cell .top)), [(0, ⟨[.one (.ptr 0 0 none), .one (.sl 501 none (g23a_r0 A x0 x1 x2 x3) 1)], 36, 1⟩), (501, ⟨[.nums .u8 (g23a_r1 A x0 x1 x2 x3) (g23a_r2 A x0 x1 x2 x3)], 5, 2⟩)]) := g23a_is_spec h
def g23a_o (A : Ar) (args : List AV) (h : Heap) : Option (Bool × AV × Heap) := match args, h with
  | [.v (.cell (.ptr n0 n1 none)), .v (.cell (.nat .u8 x0))], [(n2, ⟨[.one (.ptr n3 n4 none), .one (.sl n5 none x1 n6)], n7, n8⟩), (n9, ⟨[.nums .u8 x2 x3], n10, n11⟩)] => match Nat.beq n0 0 && (Nat.beq n1 0 && (Nat.beq n2 0 && (Nat.beq n3 0 && (Nat.beq n4 0 && (Nat.beq n5 501 && (Nat.beq n6 1 && (Nat.beq n7 36 && (Nat.beq n8 1 && (Nat.beq n9 501 && (Nat.beq n10 5 && (Nat.beq n11 2))))))))))) with
    | true => some (g23a_ok A x0 x1 x2 x3, (.v (.cell .top)), [(0, ⟨[.one (.ptr 0 0 none), .one (.sl 501 none (g23a_r0 A x0 x1 x2 x3) 1)], 36, 1⟩), (501, ⟨[.nums .u8 (g23a_r1 A x0 x1 x2 x3) (g23a_r2 A x0 x1 x2 x3)], 5, 2⟩)])
    | false => none
  | _, _ => none
theorem g23a_o_sound : ∀ args h v h', g23a_o realA args h = some (true, v, h') → FnH Tryd.prog 23 args h v h' := by
  intro args h v h' hh
  unfold g23a_o at hh
  split at hh
  · rename_i n0 n1 x0 n2 n3 n4 n5 x1 n6 n7 n8 n9 x2 x3 n10 n11
    split at hh
    case h_2 => cases hh
    rename_i hc0
    simp only [Option.some.injEq, Prod.mk.injEq] at hh
    obtain ⟨hc, hv, hh⟩ := hh
    subst hv
    subst hh
    simp only [Bool.and_eq_true] at hc0
    have en0 := beq_true hc0.1
    subst en0
    replace hc0 := hc0.2
    have en1 := beq_true hc0.1
    subst en1
    replace hc0 := hc0.2
    have en2 := beq_true hc0.1
    subst en2
    replace hc0 := hc0.2
    have en3 := beq_true hc0.1
    subst en3
    replace hc0 := hc0.2
    have en4 := beq_true hc0.1
    subst en4
    replace hc0 := hc0.2
    have en5 := beq_true hc0.1
    subst en5
    replace hc0 := hc0.2
    have en6 := beq_true hc0.1
    subst en6
    replace hc0 := hc0.2
    have en7 := beq_true hc0.1
    subst en7
    replace hc0 := hc0.2
    have en8 := beq_true hc0.1
    subst en8
    replace hc0 := hc0.2
    have en9 := beq_true hc0.1
    subst en9
    replace hc0 := hc0.2
    have en10 := beq_true hc0.1
    subst en10
    replace hc0 := hc0.2
    have en11 := beq_true hc0
    subst en11
    exact fnh_ofG mixed gtysOK g23a_O_sound g23a_O_det (an := g23a_an) (cut := g23a_cut) Tryd.func23 (c := bodyOf Tryd.f23) rfl (by kernel_rfl) Tryd.call23 (Nat.le_of_ble_eq_true rfl) (pins := [0, 501]) (nilr := none) (fun _ => (show g23a_v realA x0 x1 x2 x3 = _ from g23a_ok_spec hc)) fun _ st => g23a__go st
  · cases hh
attribute [local irreducible] g23a_ok g23a_r0 g23a_r1 g23a_r2
def g24a_O (A : Ar) : Orc := orcOf []
theorem g24a_O_sound : OSound Tryd.prog (g24a_O realA) := orc_sound fun f g hm args v hv => by
  cases hm
theorem g24a_O_det : ODet (g24a_O realA) := orc_det _
def g24a_an : Ann := [(0, ([0], [0, 1])), (1, ([0], [0, 1]))]
def g24a_res : List ResultVar := [.tmp 2]
def g24a_cut : List Nat := []
noncomputable def g24a_N {R : Type} (A : Ar) (kk : AV → Heap → Option R) (t : List Bool → St → Option R) (p : List Bool) (s : St) : Option R := nodeN A gtys (g24a_O A) g24a_an g24a_cut t (bodyOf Tryd.f24) (finD gtys g24a_res kk) p s
def g24a_ {R : Type} (A : Ar) (n : Nat) (kk : AV → Heap → Option R) (x0 x1 : Nat) (x2 : List Nat) : Option R :=
  kk (i6 (A.ofN x0)) [(0, ⟨[.one (.ptr 0 0 none), .one (.sl 1 none x0 1)], 36, 1⟩), (1, ⟨[.nums .u8 x1 x2], 5, 2⟩)]
section
variable {R : Type} {A : Ar} {n : Nat} {kk : AV → Heap → Option R} {tb : Nat → List Bool → St → Option R} (st : Stp (g24a_N A kk) tb)
include st
theorem g24a__go {x0 : Nat} {x1 : Nat} {x2 : List Nat} : Prs (fun k => funN A gtys (g24a_O A) g24a_an g24a_cut (bodyOf Tryd.f24) g24a_res [(pT 0 0)] [(0, ⟨[.one (.ptr 0 0 none), .one (.sl 1 none x0 1)], 36, 1⟩), (1, ⟨[.nums .u8 x1 x2], 5, 2⟩)] kk (tb k)) (g24a_ A n kk x0 x1 x2) := by
  unfold g24a_
  exact pc (pf _) (by kernel_rfl)
end
def g24a_is (o : Option (AV × Heap)) : Bool := match o with
  | some (.v (.cell (.int .i64 _)), [(n0, ⟨[.one (.ptr n1 n2 none), .one (.sl n3 none _ n4)], n5, n6⟩), (n7, ⟨[.nums .u8 _ _], n8, n9⟩)]) => Nat.beq n0 0 && (Nat.beq n1 0 && (Nat.beq n2 0 && (Nat.beq n3 1 && (Nat.beq n4 1 && (Nat.beq n5 36 && (Nat.beq n6 1 && (Nat.beq n7 1 && (Nat.beq n8 5 && (Nat.beq n9 2)))))))))
  | _ => false
def g24a_g0 (o : Option (AV × Heap)) : Int := match o with
  | some (.v (.cell (.int .i64 x)), [(_, ⟨[.one (.ptr _ _ none), .one (.sl _ none _ _)], _, _⟩), (_, ⟨[.nums .u8 _ _], _, _⟩)]) => x
  | _ => 0
def g24a_g1 (o : Option (AV × Heap)) : Nat := match o with
  | some (.v (.cell (.int .i64 _)), [(_, ⟨[.one (.ptr _ _ none), .one (.sl _ none x _)], _, _⟩), (_, ⟨[.nums .u8 _ _], _, _⟩)]) => x
  | _ => 0
def g24a_g2 (o : Option (AV × Heap)) : Nat := match o with
  | some (.v (.cell (.int .i64 _)), [(_, ⟨[.one (.ptr _ _ none), .one (.sl _ none _ _)], _, _⟩), (_, ⟨[.nums .u8 x _], _, _⟩)]) => x
  | _ => 0
def g24a_g3 (o : Option (AV × Heap)) : List Nat := match o with
  | some (.v (.cell (.int .i64 _)), [(_, ⟨[.one (.ptr _ _ none), .one (.sl _ none _ _)], _, _⟩), (_, ⟨[.nums .u8 _ x], _, _⟩)]) => x
  | _ => []
theorem g24a_is_spec {o : Option (AV × Heap)} (h : g24a_is o = true) : o = some ((i6 (g24a_g0 o)), [(0, ⟨[.one (.ptr 0 0 none), .one (.sl 1 none (g24a_g1 o) 1)], 36, 1⟩), (1, ⟨[.nums .u8 (g24a_g2 o) (g24a_g3 o)], 5, 2⟩)]) := by
  unfold g24a_is at h
  split at h
  · rename_i z0 n0 n1 n2 n3 z5 n4 n5 n6 n7 z10 z11 n8 n9
    simp only [Bool.and_eq_true] at h
    have en0 := beq_true h.1
    subst en0
    replace h := h.2
    have en1 := beq_true h.1
    subst en1
    replace h := h.2
    have en2 := beq_true h.1
    subst en2
    replace h := h.2
    have en3 := beq_true h.1
    subst en3
    replace h := h.2
    have en4 := beq_true h.1
    subst en4
    replace h := h.2
    have en5 := beq_true h.1
    subst en5
    replace h := h.2
    have en6 := beq_true h.1
    subst en6
    replace h := h.2
    have en7 := beq_true h.1
    subst en7
    replace h := h.2
    have en8 := beq_true h.1
    subst en8
    replace h := h.2
    have en9 := beq_true h
    subst en9
    rfl
  · cases h
def g24a_v (A : Ar) (x0 x1 : Nat) (x2 : List Nat) : Option (AV × Heap) := g24a_ A (10000000) (outH [0, 1] none) x0 x1 x2
def g24a_ok (A : Ar) (x0 x1 : Nat) (x2 : List Nat) : Bool := g24a_is (g24a_v A x0 x1 x2)
def g24a_r0 (A : Ar) (x0 x1 : Nat) (x2 : List Nat) : Int := g24a_g0 (g24a_v A x0 x1 x2)
def g24a_r1 (A : Ar) (x0 x1 : Nat) (x2 : List Nat) : Nat := g24a_g1 (g24a_v A x0 x1 x2)
def g24a_r2 (A : Ar) (x0 x1 : Nat) (x2 : List Nat) : Nat := g24a_g2 (g24a_v A x0 x1 x2)
def g24a_r3 (A : Ar) (x0 x1 : Nat) (x2 : List Nat) : List Nat := g24a_g3 (g24a_v A x0 x1 x2)
theorem g24a_ok_spec {A : Ar} {x0 x1 x2} (h : g24a_ok A x0 x1 x2 = true) : g24a_v A x0 x1 x2 = some ((i6 (g24a_r0 A x0 x1 x2)), [(0, ⟨[.one (.ptr 0 0 none), .one (.sl 1 none (g24a_r1 A x0 x1 x2) 1)], 36, 1⟩), (1, ⟨[.nums .u8 (g24a_r2 A x0 x1 x2) (g24a_r3 A x0 x1 x2)], 5, 2⟩)]) := g24a_is_spec h
def g24a_o (A : Ar) (args : List AV) (h : Heap) : Option (Bool × AV × Heap) := match args, h with
  | [.v (.cell (.ptr n0 n1 none))], [(n2, ⟨[.one (.ptr n3 n4 none), .one (.sl n5 none x0 n6)], n7, n8⟩), (n9, ⟨[.nums .u8 x1 x2], n10, n11⟩)] => match Nat.beq n0 0 && (Nat.beq n1 0 && (Nat.beq n2 0 && (Nat.beq n3 0 && (Nat.beq n4 0 && (Nat.beq n5 1 && (Nat.beq n6 1 && (Nat.beq n7 36 && (Nat.beq n8 1 && (Nat.beq n9 1 && (Nat.beq n10 5 && (Nat.beq n11 2))))))))))) with
    | true => some (g24a_ok A x0 x1 x2, (i6 (g24a_r0 A x0 x1 x2)), [(0, ⟨[.one (.ptr 0 0 none), .one (.sl 1 none (g24a_r1 A x0 x1 x2) 1)], 36, 1⟩), (1, ⟨[.nums .u8 (g24a_r2 A x0 x1 x2) (g24a_r3 A x0 x1 x2)], 5, 2⟩)])
    | false => none
  | _, _ => none
theorem g24a_o_sound : ∀ args h v h', g24a_o realA args h = some (true, v, h') → FnH Tryd.prog 24 args h v h' := by
  intro args h v h' hh
  unfold g24a_o at hh
  split at hh
  · rename_i n0 n1 n2 n3 n4 n5 x0 n6 n7 n8 n9 x1 x2 n10 n11
    split at hh
    case h_2 => cases hh
    rename_i hc0
    simp only [Option.some.injEq, Prod.mk.injEq] at hh
    obtain ⟨hc, hv, hh⟩ := hh
    subst hv
    subst hh
    simp only [Bool.and_eq_true] at hc0
    have en0 := beq_true hc0.1
    subst en0
    replace hc0 := hc0.2
    have en1 := beq_true hc0.1
    subst en1
    replace hc0 := hc0.2
    have en2 := beq_true hc0.1
    subst en2
    replace hc0 := hc0.2
    have en3 := beq_true hc0.1
    subst en3
    replace hc0 := hc0.2
    have en4 := beq_true hc0.1
    subst en4
    replace hc0 := hc0.2
    have en5 := beq_true hc0.1
    subst en5
    replace hc0 := hc0.2
    have en6 := beq_true hc0.1
    subst en6
    replace hc0 := hc0.2
    have en7 := beq_true hc0.1
    subst en7
    replace hc0 := hc0.2
    have en8 := beq_true hc0.1
    subst en8
    replace hc0 := hc0.2
    have en9 := beq_true hc0.1
    subst en9
    replace hc0 := hc0.2
    have en10 := beq_true hc0.1
    subst en10
    replace hc0 := hc0.2
    have en11 := beq_true hc0
    subst en11
    exact fnh_ofG mixed gtysOK g24a_O_sound g24a_O_det (an := g24a_an) (cut := g24a_cut) Tryd.func24 (c := bodyOf Tryd.f24) rfl (by kernel_rfl) Tryd.call24 (Nat.le_of_ble_eq_true rfl) (pins := [0, 1]) (nilr := none) (fun _ => (show g24a_v realA x0 x1 x2 = _ from g24a_ok_spec hc)) fun _ st => g24a__go st
  · cases hh
attribute [local irreducible] g24a_ok g24a_r0 g24a_r1 g24a_r2 g24a_r3
def g25O (A : Ar) : Orc := orcH [] [(33, ⟨[], none, (ho2 (g33o A) (g33a_o A))⟩)]
theorem g25O_sound : OSound Tryd.prog (g25O realA) := orcH_sound (fun f g hm args v hv => by
    cases hm) (fun f e hm args h v h' hv => by
    simp only [List.mem_cons, List.not_mem_nil, or_false, Prod.mk.injEq] at hm
    rcases hm with ⟨rfl, rfl⟩
    · exact (ho2_sound g33o_sound g33a_o_sound) _ _ _ _ hv)
theorem g25O_det : ODet (g25O realA) := orcH_det _ _
def g25an : Ann := [(0, ([0, 1], [0, 501])), (1, ([0, 1], [0, 501])), (2, ([0, 1], [0, 501])), (3, ([1], [0, 501]))]
def g25res : List ResultVar := [.tmp 4, .tmp 5]
def g25cut : List Nat := []
noncomputable def g25N {R : Type} (A : Ar) (kk : AV → Heap → Option R) (t : List Bool → St → Option R) (p : List Bool) (s : St) : Option R := nodeN A gtys (g25O A) g25an g25cut t (bodyOf Tryd.f25) (finD gtys g25res kk) p s
def g25 {R : Type} (A : Ar) (n : Nat) (kk : AV → Heap → Option R) (x0 : List Nat) (x1 x2 : Nat) (x3 : List Nat) : Option R :=
  match g33a_ok A x1 x2 x3 with
  | true => match A.eq (g33a_r0 A x1 x2 x3) ((g33a_r1 A x1 x2 x3) + 0) with
    | true => match A.le (((g33a_r2 A x1 x2 x3) ++ x0).length) 140737488355328 with
      | true => kk (.tup [(.cell (.int .i64 (A.ofN x0.length))), (.cell .top)]) [(0, ⟨[.one (.ptr 0 0 none), .one (.sl 501 none (((g33a_r2 A x1 x2 x3) ++ x0).length) 1)], 36, 1⟩), (501, ⟨[.nums .u8 (((g33a_r2 A x1 x2 x3) ++ x0).length) ((g33a_r2 A x1 x2 x3) ++ x0)], 5, 2⟩)]
      | false => none
    | false => none
  | false => none
section
variable {R : Type} {A : Ar} {n : Nat} {kk : AV → Heap → Option R} {tb : Nat → List Bool → St → Option R} (st : Stp (g25N A kk) tb)
include st
theorem g25_go {x0 : List Nat} {x1 : Nat} {x2 : Nat} {x3 : List Nat} : Prs (fun k => funN A gtys (g25O A) g25an g25cut (bodyOf Tryd.f25) g25res [(pT 0 0), (tS x0)] [(0, ⟨[.one (.ptr 0 0 none), .one (.sl 501 none x1 1)], 36, 1⟩), (501, ⟨[.nums .u8 x2 x3], 5, 2⟩)] kk (tb k)) (g25 A n kk x0 x1 x2 x3) := by
  unfold g25
  exact pc (SxP07api _ (SxP07api _ (SxP07api _ (pf _) pn) pn) pn) (by kernel_rfl)
end
def g25is (o : Option (AV × Heap)) : Bool := match o with
  | some (.tup [(.cell (.int .i64 _)), (.cell .top)], [(n0, ⟨[.one (.ptr n1 n2 none), .one (.sl n3 none _ n4)], n5, n6⟩), (n7, ⟨[.nums .u8 _ _], n8, n9⟩)]) => Nat.beq n0 0 && (Nat.beq n1 0 && (Nat.beq n2 0 && (Nat.beq n3 501 && (Nat.beq n4 1 && (Nat.beq n5 36 && (Nat.beq n6 1 && (Nat.beq n7 501 && (Nat.beq n8 5 && (Nat.beq n9 2)))))))))
  | _ => false
def g25g0 (o : Option (AV × Heap)) : Int := match o with
  | some (.tup [(.cell (.int .i64 x)), (.cell .top)], [(_, ⟨[.one (.ptr _ _ none), .one (.sl _ none _ _)], _, _⟩), (_, ⟨[.nums .u8 _ _], _, _⟩)]) => x
  | _ => 0
def g25g1 (o : Option (AV × Heap)) : Nat := match o with
  | some (.tup [(.cell (.int .i64 _)), (.cell .top)], [(_, ⟨[.one (.ptr _ _ none), .one (.sl _ none x _)], _, _⟩), (_, ⟨[.nums .u8 _ _], _, _⟩)]) => x
  | _ => 0
def g25g2 (o : Option (AV × Heap)) : Nat := match o with
  | some (.tup [(.cell (.int .i64 _)), (.cell .top)], [(_, ⟨[.one (.ptr _ _ none), .one (.sl _ none _ _)], _, _⟩), (_, ⟨[.nums .u8 x _], _, _⟩)]) => x
  | _ => 0
def g25g3 (o : Option (AV × Heap)) : List Nat := match o with
  | some (.tup [(.cell (.int .i64 _)), (.cell .top)], [(_, ⟨[.one (.ptr _ _ none), .one (.sl _ none _ _)], _, _⟩), (_, ⟨[.nums .u8 _ x], _, _⟩)]) => x
  | _ => []
theorem g25is_spec {o : Option (AV × Heap)} (h : g25is o = true) : o = some ((.tup [(.cell (.int .i64 (g25g0 o))), (.cell .top)]), [(0, ⟨[.one (.ptr 0 0 none), .one (.sl 501 none (g25g1 o) 1)], 36, 1⟩), (501, ⟨[.nums .u8 (g25g2 o) (g25g3 o)], 5, 2⟩)]) := by
  unfold g25is at h
  split at h
  · rename_i z0 n0 n1 n2 n3 z5 n4 n5 n6 n7 z10 z11 n8 n9
    simp only [Bool.and_eq_true] at h
    have en0 := beq_true h.1
    subst en0
    replace h := h.2
    have en1 := beq_true h.1
    subst en1
    replace h := h.2
    have en2 := beq_true h.1
    subst en2
    replace h := h.2
    have en3 := beq_true h.1
    subst en3
    replace h := h.2
    have en4 := beq_true h.1
    subst en4
    replace h := h.2
    have en5 := beq_true h.1
    subst en5
    replace h := h.2
    have en6 := beq_true h.1
    subst en6
    replace h := h.2
    have en7 := beq_true h.1
    subst en7
    replace h := h.2
    have en8 := beq_true h.1
    subst en8
    replace h := h.2
    have en9 := beq_true h
    subst en9
    rfl
  · cases h
def g25v (A : Ar) (x0 : List Nat) (x1 x2 : Nat) (x3 : List Nat) : Option (AV × Heap) := g25 A (10000000) (outH [0, 501] none) x0 x1 x2 x3
def g25ok (A : Ar) (x0 : List Nat) (x1 x2 : Nat) (x3 : List Nat) : Bool := g25is (g25v A x0 x1 x2 x3)
def g25r0 (A : Ar) (x0 : List Nat) (x1 x2 : Nat) (x3 : List Nat) : Int := g25g0 (g25v A x0 x1 x2 x3)
def g25r1 (A : Ar) (x0 : List Nat) (x1 x2 : Nat) (x3 : List Nat) : Nat := g25g1 (g25v A x0 x1 x2 x3)
def g25r2 (A : Ar) (x0 : List Nat) (x1 x2 : Nat) (x3 : List Nat) : Nat := g25g2 (g25v A x0 x1 x2 x3)
def g25r3 (A : Ar) (x0 : List Nat) (x1 x2 : Nat) (x3 : List Nat) : List Nat := g25g3 (g25v A x0 x1 x2 x3)
theorem g25ok_spec {A : Ar} {x0 x1 x2 x3} (h : g25ok A x0 x1 x2 x3 = true) : g25v A x0 x1 x2 x3 = some ((.tup [(.cell (.int .i64 (g25r0 A x0 x1 x2 x3))), (.cell .top)]), [(0, ⟨[.one (.ptr 0 0 none), .one (.sl 501 none (g25r1 A x0 x1 x2 x3) 1)], 36, 1⟩), (501, ⟨[.nums .u8 (g25r2 A x0 x1 x2 x3) (g25r3 A x0 x1 x2 x3)], 5, 2⟩)]) := g25is_spec h
def g25o (A : Ar) (args : List AV) (h : Heap) : Option (Bool × AV × Heap) := match args, h with
  | [.v (.cell (.ptr n0 n1 none)), .v (.cell (.str x0))], [(n2, ⟨[.one (.ptr n3 n4 none), .one (.sl n5 none x1 n6)], n7, n8⟩), (n9, ⟨[.nums .u8 x2 x3], n10, n11⟩)] => match Nat.beq n0 0 && (Nat.beq n1 0 && (Nat.beq n2 0 && (Nat.beq n3 0 && (Nat.beq n4 0 && (Nat.beq n5 501 && (Nat.beq n6 1 && (Nat.beq n7 36 && (Nat.beq n8 1 && (Nat.beq n9 501 && (Nat.beq n10 5 && (Nat.beq n11 2))))))))))) with
    | true => some (g25ok A x0 x1 x2 x3, (.tup [(.cell (.int .i64 (g25r0 A x0 x1 x2 x3))), (.cell .top)]), [(0, ⟨[.one (.ptr 0 0 none), .one (.sl 501 none (g25r1 A x0 x1 x2 x3) 1)], 36, 1⟩), (501, ⟨[.nums .u8 (g25r2 A x0 x1 x2 x3) (g25r3 A x0 x1 x2 x3)], 5, 2⟩)])
    | false => none
  | _, _ => none
theorem g25o_sound : ∀ args h v h', g25o realA args h = some (true, v, h') → FnH Tryd.prog 25 args h v h' := by
  intro args h v h' hh
  unfold g25o at hh
  split at hh
  · rename_i n0 n1 x0 n2 n3 n4 n5 x1 n6 n7 n8 n9 x2 x3 n10 n11
    split at hh
    case h_2 => cases hh
    rename_i hc0
    simp only [Option.some.injEq, Prod.mk.injEq] at hh
    obtain ⟨hc, hv, hh⟩ := hh
    subst hv
    subst hh
    simp only [Bool.and_eq_true] at hc0
    have en0 := beq_true hc0.1
    subst en0
    replace hc0 := hc0.2
    have en1 := beq_true hc0.1
    subst en1
    replace hc0 := hc0.2
    have en2 := beq_true hc0.1
    subst en2
    replace hc0 := hc0.2
    have en3 := beq_true hc0.1
    subst en3
    replace hc0 := hc0.2
    have en4 := beq_true hc0.1
    subst en4
    replace hc0 := hc0.2
    have en5 := beq_true hc0.1
    subst en5
    replace hc0 := hc0.2
    have en6 := beq_true hc0.1
    subst en6
    replace hc0 := hc0.2
    have en7 := beq_true hc0.1
    subst en7
    replace hc0 := hc0.2
    have en8 := beq_true hc0.1
    subst en8
    replace hc0 := hc0.2
    have en9 := beq_true hc0.1
    subst en9
    replace hc0 := hc0.2
    have en10 := beq_true hc0.1
    subst en10
    replace hc0 := hc0.2
    have en11 := beq_true hc0
    subst en11
    exact fnh_ofG mixed gtysOK g25O_sound g25O_det (an := g25an) (cut := g25cut) Tryd.func25 (c := bodyOf Tryd.f25) rfl (by kernel_rfl) Tryd.call25 (Nat.le_of_ble_eq_true rfl) (pins := [0, 501]) (nilr := none) (fun _ => (show g25v realA x0 x1 x2 x3 = _ from g25ok_spec hc)) fun _ st => g25_go st
  · cases hh
attribute [local irreducible] g25ok g25r0 g25r1 g25r2 g25r3
def g26ok (A : Ar) (x0 x1 : Nat) (x2 : List Nat) : Bool := A.lt 0 x0
def g26r0 (A : Ar) (x0 x1 : Nat) (x2 : List Nat) : List Nat := x2.take x0
def g26r1 (A : Ar) (x0 x1 : Nat) (x2 : List Nat) : Nat := x0
def g26r2 (A : Ar) (x0 x1 : Nat) (x2 : List Nat) : Nat := x1
def g26r3 (A : Ar) (x0 x1 : Nat) (x2 : List Nat) : List Nat := x2
def g26o (A : Ar) (args : List AV) (h : Heap) : Option (Bool × AV × Heap) := match args, h with
  | [.v (.cell (.ptr n0 n1 none))], [(n2, ⟨[.one (.ptr n3 n4 none), .one (.sl n5 none x0 n6)], n7, n8⟩), (n9, ⟨[.nums .u8 x1 x2], n10, n11⟩)] => match Nat.beq n0 0 && (Nat.beq n1 0 && (Nat.beq n2 0 && (Nat.beq n3 0 && (Nat.beq n4 0 && (Nat.beq n5 1 && (Nat.beq n6 1 && (Nat.beq n7 36 && (Nat.beq n8 1 && (Nat.beq n9 1 && (Nat.beq n10 5 && (Nat.beq n11 2))))))))))) with
    | true => some (g26ok A x0 x1 x2, (tS (g26r0 A x0 x1 x2)), [(0, ⟨[.one (.ptr 0 0 none), .one (.sl 1 none (g26r1 A x0 x1 x2) 1)], 36, 1⟩), (1, ⟨[.nums .u8 (g26r2 A x0 x1 x2) (g26r3 A x0 x1 x2)], 5, 0⟩)])
    | false => none
  | _, _ => none
theorem g26o_sound : ∀ args h v h', g26o realA args h = some (true, v, h') → FnH Tryd.prog 26 args h v h' := by
  intro args h v h' hh
  unfold g26o at hh
  split at hh
  · rename_i n0 n1 n2 n3 n4 n5 x0 n6 n7 n8 n9 x1 x2 n10 n11
    split at hh
    case h_2 => cases hh
    rename_i hc0
    simp only [Option.some.injEq, Prod.mk.injEq] at hh
    obtain ⟨hc, hv, hh⟩ := hh
    subst hv
    subst hh
    simp only [Bool.and_eq_true] at hc0
    have en0 := beq_true hc0.1
    subst en0
    replace hc0 := hc0.2
    have en1 := beq_true hc0.1
    subst en1
    replace hc0 := hc0.2
    have en2 := beq_true hc0.1
    subst en2
    replace hc0 := hc0.2
    have en3 := beq_true hc0.1
    subst en3
    replace hc0 := hc0.2
    have en4 := beq_true hc0.1
    subst en4
    replace hc0 := hc0.2
    have en5 := beq_true hc0.1
    subst en5
    replace hc0 := hc0.2
    have en6 := beq_true hc0.1
    subst en6
    replace hc0 := hc0.2
    have en7 := beq_true hc0.1
    subst en7
    replace hc0 := hc0.2
    have en8 := beq_true hc0.1
    subst en8
    replace hc0 := hc0.2
    have en9 := beq_true hc0.1
    subst en9
    replace hc0 := hc0.2
    have en10 := beq_true hc0.1
    subst en10
    replace hc0 := hc0.2
    have en11 := beq_true hc0
    subst en11
    exact Bd07.strS (b := 1) rfl rfl (of_decide_eq_true (p := 0 < x0) hc)
  · cases hh
attribute [local irreducible] g26ok g26r0 g26r1 g26r2 g26r3
def g24b_O (A : Ar) : Orc := orcOf []
theorem g24b_O_sound : OSound Tryd.prog (g24b_O realA) := orc_sound fun f g hm args v hv => by
  cases hm
theorem g24b_O_det : ODet (g24b_O realA) := orc_det _
def g24b_an : Ann := [(0, ([0], [0])), (1, ([0], [0]))]
def g24b_res : List ResultVar := [.tmp 2]
def g24b_cut : List Nat := []
noncomputable def g24b_N {R : Type} (A : Ar) (kk : AV → Heap → Option R) (t : List Bool → St → Option R) (p : List Bool) (s : St) : Option R := nodeN A gtys (g24b_O A) g24b_an g24b_cut t (bodyOf Tryd.f24) (finD gtys g24b_res kk) p s
def g24b_ {R : Type} (A : Ar) (n : Nat) (kk : AV → Heap → Option R)  : Option R :=
  kk (i6 (A.ofN 0)) [(0, ⟨[.one .nilp, .one .nils], 36, 1⟩)]
section
variable {R : Type} {A : Ar} {n : Nat} {kk : AV → Heap → Option R} {tb : Nat → List Bool → St → Option R} (st : Stp (g24b_N A kk) tb)
include st
theorem g24b__go  : Prs (fun k => funN A gtys (g24b_O A) g24b_an g24b_cut (bodyOf Tryd.f24) g24b_res [(pT 0 0)] [(0, ⟨[.one .nilp, .one .nils], 36, 1⟩)] kk (tb k)) (g24b_ A n kk ) := by
  unfold g24b_
  exact pc (pf _) (by kernel_rfl)
end
def g24b_is (o : Option (AV × Heap)) : Bool := match o with
  | some (.v (.cell (.int .i64 _)), [(n0, ⟨[.one .nilp, .one .nils], n1, n2⟩)]) => Nat.beq n0 0 && (Nat.beq n1 36 && (Nat.beq n2 1))
  | _ => false
def g24b_g0 (o : Option (AV × Heap)) : Int := match o with
  | some (.v (.cell (.int .i64 x)), [(_, ⟨[.one .nilp, .one .nils], _, _⟩)]) => x
  | _ => 0
theorem g24b_is_spec {o : Option (AV × Heap)} (h : g24b_is o = true) : o = some ((i6 (g24b_g0 o)), [(0, ⟨[.one .nilp, .one .nils], 36, 1⟩)]) := by
  unfold g24b_is at h
  split at h
  · rename_i z0 n0 n1 n2
    simp only [Bool.and_eq_true] at h
    have en0 := beq_true h.1
    subst en0
    replace h := h.2
    have en1 := beq_true h.1
    subst en1
    replace h := h.2
    have en2 := beq_true h
    subst en2
    rfl
  · cases h
def g24b_v (A : Ar)  : Option (AV × Heap) := g24b_ A (10000000) (outH [0] none) 
def g24b_ok (A : Ar)  : Bool := g24b_is (g24b_v A)
def g24b_r0 (A : Ar)  : Int := g24b_g0 (g24b_v A)
theorem g24b_ok_spec {A : Ar} (h : g24b_ok A = true) : g24b_v A = some ((i6 (g24b_r0 A)), [(0, ⟨[.one .nilp, .one .nils], 36, 1⟩)]) := g24b_is_spec h
def g24b_o (A : Ar) (args : List AV) (h : Heap) : Option (Bool × AV × Heap) := match args, h with
  | [.v (.cell (.ptr n0 n1 none))], [(n2, ⟨[.one .nilp, .one .nils], n3, n4⟩)] => match Nat.beq n0 0 && (Nat.beq n1 0 && (Nat.beq n2 0 && (Nat.beq n3 36 && (Nat.beq n4 1)))) with
    | true => some (g24b_ok A, (i6 (g24b_r0 A)), [(0, ⟨[.one .nilp, .one .nils], 36, 1⟩)])
    | false => none
  | _, _ => none
theorem g24b_o_sound : ∀ args h v h', g24b_o realA args h = some (true, v, h') → FnH Tryd.prog 24 args h v h' := by
  intro args h v h' hh
  unfold g24b_o at hh
  split at hh
  · rename_i n0 n1 n2 n3 n4
    split at hh
    case h_2 => cases hh
    rename_i hc0
    simp only [Option.some.injEq, Prod.mk.injEq] at hh
    obtain ⟨hc, hv, hh⟩ := hh
    subst hv
    subst hh
    simp only [Bool.and_eq_true] at hc0
    have en0 := beq_true hc0.1
    subst en0
    replace hc0 := hc0.2
    have en1 := beq_true hc0.1
    subst en1
    replace hc0 := hc0.2
    have en2 := beq_true hc0.1
    subst en2
    replace hc0 := hc0.2
    have en3 := beq_true hc0.1
    subst en3
    replace hc0 := hc0.2
    have en4 := beq_true hc0
    subst en4
    exact fnh_ofG mixed gtysOK g24b_O_sound g24b_O_det (an := g24b_an) (cut := g24b_cut) Tryd.func24 (c := bodyOf Tryd.f24) rfl (by kernel_rfl) Tryd.call24 (Nat.le_of_ble_eq_true rfl) (pins := [0]) (nilr := none) (fun _ => (show g24b_v realA = _ from g24b_ok_spec hc)) fun _ st => g24b__go st
  · cases hh
attribute [local irreducible] g24b_ok g24b_r0
def g25a_O (A : Ar) : Orc := orcH [] [(33, ⟨[], none, (ho2 (g33o A) (g33a_o A))⟩)]
theorem g25a_O_sound : OSound Tryd.prog (g25a_O realA) := orcH_sound (fun f g hm args v hv => by
    cases hm) (fun f e hm args h v h' hv => by
    simp only [List.mem_cons, List.not_mem_nil, or_false, Prod.mk.injEq] at hm
    rcases hm with ⟨rfl, rfl⟩
    · exact (ho2_sound g33o_sound g33a_o_sound) _ _ _ _ hv)
theorem g25a_O_det : ODet (g25a_O realA) := orcH_det _ _
def g25a_an : Ann := [(0, ([0, 1], [0])), (1, ([0, 1], [0])), (2, ([0, 1], [0])), (3, ([1], [0, 3006]))]
def g25a_res : List ResultVar := [.tmp 4, .tmp 5]
def g25a_cut : List Nat := []
noncomputable def g25a_N {R : Type} (A : Ar) (kk : AV → Heap → Option R) (t : List Bool → St → Option R) (p : List Bool) (s : St) : Option R := nodeN A gtys (g25a_O A) g25a_an g25a_cut t (bodyOf Tryd.f25) (finD gtys g25a_res kk) p s
def g25a_ {R : Type} (A : Ar) (n : Nat) (kk : AV → Heap → Option R) (x0 : List Nat) : Option R :=
  match g33ok A with
  | true => match A.eq 0 0 with
    | true => match A.le (([] ++ x0).length) 140737488355328 with
      | true => kk (.tup [(.cell (.int .i64 (A.ofN x0.length))), (.cell .top)]) [(0, ⟨[.one (.ptr 0 0 none), .one (.sl 3006 none (([] ++ x0).length) 1)], 36, 1⟩), (3006, ⟨[.nums .u8 (([] ++ x0).length) ([] ++ x0)], 5, 2⟩)]
      | false => none
    | false => none
  | false => none
section
variable {R : Type} {A : Ar} {n : Nat} {kk : AV → Heap → Option R} {tb : Nat → List Bool → St → Option R} (st : Stp (g25a_N A kk) tb)
include st
theorem g25a__go {x0 : List Nat} : Prs (fun k => funN A gtys (g25a_O A) g25a_an g25a_cut (bodyOf Tryd.f25) g25a_res [(pT 0 0), (tS x0)] [(0, ⟨[.one .nilp, .one .nils], 36, 1⟩)] kk (tb k)) (g25a_ A n kk x0) := by
  unfold g25a_
  exact pc (SxP07api _ (SxP07api _ (SxP07api _ (pf _) pn) pn) pn) (by kernel_rfl)
end
def g25a_is (o : Option (AV × Heap)) : Bool := match o with
  | some (.tup [(.cell (.int .i64 _)), (.cell .top)], [(n0, ⟨[.one (.ptr n1 n2 none), .one (.sl n3 none _ n4)], n5, n6⟩), (n7, ⟨[.nums .u8 _ _], n8, n9⟩)]) => Nat.beq n0 0 && (Nat.beq n1 0 && (Nat.beq n2 0 && (Nat.beq n3 700 && (Nat.beq n4 1 && (Nat.beq n5 36 && (Nat.beq n6 1 && (Nat.beq n7 700 && (Nat.beq n8 5 && (Nat.beq n9 2)))))))))
  | _ => false
def g25a_g0 (o : Option (AV × Heap)) : Int := match o with
  | some (.tup [(.cell (.int .i64 x)), (.cell .top)], [(_, ⟨[.one (.ptr _ _ none), .one (.sl _ none _ _)], _, _⟩), (_, ⟨[.nums .u8 _ _], _, _⟩)]) => x
  | _ => 0
def g25a_g1 (o : Option (AV × Heap)) : Nat := match o with
  | some (.tup [(.cell (.int .i64 _)), (.cell .top)], [(_, ⟨[.one (.ptr _ _ none), .one (.sl _ none x _)], _, _⟩), (_, ⟨[.nums .u8 _ _], _, _⟩)]) => x
  | _ => 0
def g25a_g2 (o : Option (AV × Heap)) : Nat := match o with
  | some (.tup [(.cell (.int .i64 _)), (.cell .top)], [(_, ⟨[.one (.ptr _ _ none), .one (.sl _ none _ _)], _, _⟩), (_, ⟨[.nums .u8 x _], _, _⟩)]) => x
  | _ => 0
def g25a_g3 (o : Option (AV × Heap)) : List Nat := match o with
  | some (.tup [(.cell (.int .i64 _)), (.cell .top)], [(_, ⟨[.one (.ptr _ _ none), .one (.sl _ none _ _)], _, _⟩), (_, ⟨[.nums .u8 _ x], _, _⟩)]) => x
  | _ => []
theorem g25a_is_spec {o : Option (AV × Heap)} (h : g25a_is o = true) : o = some ((.tup [(.cell (.int .i64 (g25a_g0 o))), (.cell .top)]), [(0, ⟨[.one (.ptr 0 0 none), .one (.sl 700 none (g25a_g1 o) 1)], 36, 1⟩), (700, ⟨[.nums .u8 (g25a_g2 o) (g25a_g3 o)], 5, 2⟩)]) := by
  unfold g25a_is at h
  split at h
  · rename_i z0 n0 n1 n2 n3 z5 n4 n5 n6 n7 z10 z11 n8 n9
    simp only [Bool.and_eq_true] at h
    have en0 := beq_true h.1
    subst en0
    replace h := h.2
    have en1 := beq_true h.1
    subst en1
    replace h := h.2
    have en2 := beq_true h.1
    subst en2
    replace h := h.2
    have en3 := beq_true h.1
    subst en3
    replace h := h.2
    have en4 := beq_true h.1
    subst en4
    replace h := h.2
    have en5 := beq_true h.1
    subst en5
    replace h := h.2
    have en6 := beq_true h.1
    subst en6
    replace h := h.2
    have en7 := beq_true h.1
    subst en7
    replace h := h.2
    have en8 := beq_true h.1
    subst en8
    replace h := h.2
    have en9 := beq_true h
    subst en9
    rfl
  · cases h
def g25a_v (A : Ar) (x0 : List Nat) : Option (AV × Heap) := g25a_ A (10000000) (outH [0] none) x0
def g25a_ok (A : Ar) (x0 : List Nat) : Bool := g25a_is (g25a_v A x0)
def g25a_r0 (A : Ar) (x0 : List Nat) : Int := g25a_g0 (g25a_v A x0)
def g25a_r1 (A : Ar) (x0 : List Nat) : Nat := g25a_g1 (g25a_v A x0)
def g25a_r2 (A : Ar) (x0 : List Nat) : Nat := g25a_g2 (g25a_v A x0)
def g25a_r3 (A : Ar) (x0 : List Nat) : List Nat := g25a_g3 (g25a_v A x0)
theorem g25a_ok_spec {A : Ar} {x0} (h : g25a_ok A x0 = true) : g25a_v A x0 = some ((.tup [(.cell (.int .i64 (g25a_r0 A x0))), (.cell .top)]), [(0, ⟨[.one (.ptr 0 0 none), .one (.sl 700 none (g25a_r1 A x0) 1)], 36, 1⟩), (700, ⟨[.nums .u8 (g25a_r2 A x0) (g25a_r3 A x0)], 5, 2⟩)]) := g25a_is_spec h
def g25a_o (A : Ar) (args : List AV) (h : Heap) : Option (Bool × AV × Heap) := match args, h with
  | [.v (.cell (.ptr n0 n1 none)), .v (.cell (.str x0))], [(n2, ⟨[.one .nilp, .one .nils], n3, n4⟩)] => match Nat.beq n0 0 && (Nat.beq n1 0 && (Nat.beq n2 0 && (Nat.beq n3 36 && (Nat.beq n4 1)))) with
    | true => some (g25a_ok A x0, (.tup [(.cell (.int .i64 (g25a_r0 A x0))), (.cell .top)]), [(0, ⟨[.one (.ptr 0 0 none), .one (.sl 700 none (g25a_r1 A x0) 1)], 36, 1⟩), (700, ⟨[.nums .u8 (g25a_r2 A x0) (g25a_r3 A x0)], 5, 2⟩)])
    | false => none
  | _, _ => none
theorem g25a_o_sound : ∀ args h v h', g25a_o realA args h = some (true, v, h') → FnH Tryd.prog 25 args h v h' := by
  intro args h v h' hh
  unfold g25a_o at hh
  split at hh
  · rename_i n0 n1 x0 n2 n3 n4
    split at hh
    case h_2 => cases hh
    rename_i hc0
    simp only [Option.some.injEq, Prod.mk.injEq] at hh
    obtain ⟨hc, hv, hh⟩ := hh
    subst hv
    subst hh
    simp only [Bool.and_eq_true] at hc0
    have en0 := beq_true hc0.1
    subst en0
    replace hc0 := hc0.2
    have en1 := beq_true hc0.1
    subst en1
    replace hc0 := hc0.2
    have en2 := beq_true hc0.1
    subst en2
    replace hc0 := hc0.2
    have en3 := beq_true hc0.1
    subst en3
    replace hc0 := hc0.2
    have en4 := beq_true hc0
    subst en4
    exact fnh_ofG mixed gtysOK g25a_O_sound g25a_O_det (an := g25a_an) (cut := g25a_cut) Tryd.func25 (c := bodyOf Tryd.f25) rfl (by kernel_rfl) Tryd.call25 (Nat.le_of_ble_eq_true rfl) (pins := [0]) (nilr := none) (fun _ => (show g25a_v realA x0 = _ from g25a_ok_spec hc)) fun _ st => g25a__go st
  · cases hh
attribute [local irreducible] g25a_ok g25a_r0 g25a_r1 g25a_r2 g25a_r3
def g26a_ok (A : Ar)  : Bool := true
def g26a_r0 (A : Ar)  : List Nat := []
def g26a_o (A : Ar) (args : List AV) (h : Heap) : Option (Bool × AV × Heap) := match args, h with
  | [.v (.cell (.ptr n0 n1 none))], [(n2, ⟨[.one .nilp, .one .nils], n3, n4⟩)] => match Nat.beq n0 0 && (Nat.beq n1 0 && (Nat.beq n2 0 && (Nat.beq n3 36 && (Nat.beq n4 1)))) with
    | true => some (g26a_ok A, (tS (g26a_r0 A)), [(0, ⟨[.one .nilp, .one .nils], 36, 1⟩)])
    | false => none
  | _, _ => none
theorem g26a_o_sound : ∀ args h v h', g26a_o realA args h = some (true, v, h') → FnH Tryd.prog 26 args h v h' := by
  intro args h v h' hh
  unfold g26a_o at hh
  split at hh
  · rename_i n0 n1 n2 n3 n4
    split at hh
    case h_2 => cases hh
    rename_i hc0
    simp only [Option.some.injEq, Prod.mk.injEq] at hh
    obtain ⟨hc, hv, hh⟩ := hh
    subst hv
    subst hh
    simp only [Bool.and_eq_true] at hc0
    have en0 := beq_true hc0.1
    subst en0
    replace hc0 := hc0.2
    have en1 := beq_true hc0.1
    subst en1
    replace hc0 := hc0.2
    have en2 := beq_true hc0.1
    subst en2
    replace hc0 := hc0.2
    have en3 := beq_true hc0.1
    subst en3
    replace hc0 := hc0.2
    have en4 := beq_true hc0
    subst en4
    exact Bd07.strN rfl
  · cases hh
attribute [local irreducible] g26a_ok g26a_r0
end Go.Sx
