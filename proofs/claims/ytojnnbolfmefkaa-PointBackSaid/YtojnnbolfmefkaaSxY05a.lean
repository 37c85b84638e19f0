import Derived.Test.YtojnnbolfmefkaaChecked
import Derived.Test.YtojnnbolfmefkaaSxK3
import Derived.Test.YtojnnbolfmefkaaSxTn
import Derived.Test.YtojnnbolfmefkaaSxEx
namespace Go.Sx
set_option linter.unusedSectionVars false
open Go.Proofs
set_option linter.unusedVariables false
set_option maxRecDepth 100000
theorem mixed : Try.prog.follows .mixedOrders = true := Try.checked.mixed
def gtyList : List (Nat × Ty) := [(3, ⟨.int .i64, 1, 8, (.cell (.int .i64 0)), [], 0, 0, false⟩),
  (4, ⟨.bool, 1, 1, (.cell (.bool false)), [], 0, 0, false⟩),
  (5, ⟨.int .u8, 1, 1, (.cell (.nat .u8 0)), [], 0, 0, false⟩),
  (9, ⟨.string, 1, 16, (.cell (.str [])), [], 0, 0, false⟩),
  (22, ⟨.int .u64, 1, 8, (.cell (.nat .u64 0)), [], 0, 0, false⟩),
  (23, ⟨.array, 4, 32, (.agg [.nums .u64 4 [0, 0, 0, 0]]), [], 4, 22, true⟩),
  (24, ⟨.array, 4, 32, (.agg [.nums .u64 4 [0, 0, 0, 0]]), [], 4, 22, true⟩),
  (26, ⟨.struct, 8, 64, (.agg [.nums .u64 4 [0, 0, 0, 0], .nums .u64 4 [0, 0, 0, 0]]), [(0, 24), (4, 24)], 0, 0, true⟩),
  (38, ⟨.int .u16, 1, 2, (.cell (.nat .u16 0)), [], 0, 0, false⟩),
  (40, ⟨.slice, 1, 24, (.cell .nils), [], 0, 5, false⟩),
  (54, ⟨.struct, 20, 160, (.agg [.nums .u64 4 [0, 0, 0, 0], .nums .u64 4 [0, 0, 0, 0], .nums .u64 4 [0, 0, 0, 0], .nums .u64 4 [0, 0, 0, 0], .nums .u64 4 [0, 0, 0, 0]]), [(0, 24), (4, 24), (8, 24), (12, 24), (16, 24)], 0, 0, true⟩),
  (59, ⟨.struct, 16, 128, (.agg [.nums .u64 4 [0, 0, 0, 0], .nums .u64 4 [0, 0, 0, 0], .nums .u64 4 [0, 0, 0, 0], .nums .u64 4 [0, 0, 0, 0]]), [(0, 24), (4, 24), (8, 24), (12, 24)], 0, 0, true⟩),
  (72, ⟨.array, 5, 40, (.agg [.nums .u64 5 [0, 0, 0, 0, 0]]), [], 5, 22, true⟩),
  (75, ⟨.int .u32, 1, 4, (.cell (.nat .u32 0)), [], 0, 0, false⟩),
  (77, ⟨.array, 8, 32, (.agg [.nums .u32 8 [0, 0, 0, 0, 0, 0, 0, 0]]), [], 8, 75, true⟩),
  (85, ⟨.slice, 1, 24, (.cell .nils), [], 0, 22, false⟩),
  (90, ⟨.struct, 2, 16, (.agg [.nums .u64 2 [0, 0]]), [(0, 22), (1, 22)], 0, 0, true⟩),
  (91, ⟨.array, 10, 80, (.agg [.nums .u64 10 [0, 0, 0, 0, 0, 0, 0, 0, 0, 0]]), [], 5, 90, true⟩)]
def gtys : Tys := fun t => lk t gtyList
theorem gtysOK0 : allL (fun p => tyB Try.prog p.1 p.2) gtyList = true := by kernel_rfl
theorem gtysOK : TyOK Try.prog gtys := tyOK_of gtysOK0 (eqB_spec (by kernel_rfl))
theorem SxY05api {R : Type} (c : Bool) {f1 f2 : Nat → Option R} {a1 a2 : Option R} (h1 : Prs f1 a1) (h2 : Prs f2 a2) : Prs (fun k => match c with | true => f1 k | false => f2 k) (match c with | true => a1 | false => a2) := by cases c <;> assumption
attribute [local irreducible] carryok add64a add64b
def g78O (A : Ar) : Orc := orcOf []
theorem g78O_sound : OSound Try.prog (g78O realA) := orc_sound fun f g hm args v hv => by
  cases hm
theorem g78O_det : ODet (g78O realA) := orc_det _
def g78an : Ann := [(0, ([0], [])), (1, ([1, 2], [1000, 1001])), (2, ([1, 2, 3], [1000, 1001])), (3, ([1, 2, 3, 5], [1000, 1001])), (4, ([1, 2, 3, 5], [1000, 1001])), (5, ([1, 2, 3, 4, 5], [1000, 1001])), (6, ([1, 2, 4, 5], [1000, 1001])), (7, ([1, 2, 3, 4, 5], [1000, 1001])), (8, ([1, 2, 3, 5], [1000, 1001])), (9, ([1, 2, 3], [1000, 1001])), (10, ([1, 2], [1000, 1001]))]
def g78res : List ResultVar := [.cell 2 72]
def g78cut : List Nat := [4, 9]
noncomputable def g78N {R : Type} (A : Ar) (kk : AV → Heap → Option R) (t : List Bool → St → Option R) (p : List Bool) (s : St) : Option R := nodeN A gtys (g78O A) g78an g78cut t (bodyOf Try.f78) (finD gtys g78res kk) p s
def g78J4s (x0 : Nat) (x1 : Int) (x2 x3 : List Nat) : St := ⟨[(1, (pT 1000 0)), (2, (pT 1001 0)), (3, (u64v x0)), (5, (i6 x1))], [(1000, (bU 5 x2 72)), (1001, (bU 5 x3 72))]⟩
def g78J4 {R : Type} (A : Ar) (n : Nat) (kk : AV → Heap → Option R) (lg78L3 : Nat → Int → List Nat → List Nat → Option R) (x0 : Nat) (x1 : Int) (x2 x3 : List Nat) : Option R :=
  match A.neg x1 with
  | true => none
  | false => match A.lt (A.toN x1) 5 with
    | true => match A.neg x1 with
      | true => none
      | false => match A.lt (A.toN x1) 5 with
        | true => match A.neg x1 with
          | true => none
          | false => match A.lt (A.toN x1) 5 with
            | true => match A.neg x1 with
              | true => none
              | false => match A.lt (A.toN x1) 5 with
                | true => match A.neg x1 with
                  | true => none
                  | false => match A.lt (A.toN x1) 5 with
                    | true => lg78L3 (A.nsh .shr .u64 ((x2.set (A.toN x1) (A.nb .add .u64 (x2.getD (A.toN x1) 0) x0)).getD (A.toN x1) 0) 51) (A.ib .add .i64 x1 1) ((x2.set (A.toN x1) (A.nb .add .u64 (x2.getD (A.toN x1) 0) x0)).set (A.toN x1) (A.nb .and .u64 ((x2.set (A.toN x1) (A.nb .add .u64 (x2.getD (A.toN x1) 0) x0)).getD (A.toN x1) 0) 2251799813685247)) x3
                    | false => none
                | false => none
            | false => none
        | false => none
    | false => none
def g78J9s (x0 : Nat) (x1 x2 : List Nat) : St := ⟨[(1, (pT 1000 0)), (2, (pT 1001 0)), (3, (u64v x0))], [(1000, (bU 5 x1 72)), (1001, (bU 5 x2 72))]⟩
def g78J9 {R : Type} (A : Ar) (n : Nat) (kk : AV → Heap → Option R)  (x0 : Nat) (x1 x2 : List Nat) : Option R :=
  kk (aN .u64 5 (x1.set 0 (A.nb .add .u64 (x1.getD 0 0) (A.nb .mul .u64 x0 19)))) [(1000, (bU 5 (x1.set 0 (A.nb .add .u64 (x1.getD 0 0) (A.nb .mul .u64 x0 19))) 72)), (1001, (bU 5 (x1.set 0 (A.nb .add .u64 (x1.getD 0 0) (A.nb .mul .u64 x0 19))) 72))]
def g78L3s (x0 : Nat) (x1 : Int) (x2 x3 : List Nat) : St := ⟨[(1, (pT 1000 0)), (2, (pT 1001 0)), (3, (u64v x0)), (5, (i6 x1))], [(1000, (bU 5 x2 72)), (1001, (bU 5 x3 72))]⟩
def g78L3 {R : Type} (A : Ar) (n : Nat) (kk : AV → Heap → Option R)  : Nat → Nat → Int → List Nat → List Nat → Option R
  | 0, _, _, _, _ => none
  | m + 1, x0, x1, x2, x3 => match A.ic .lss x1 5 with
  | true => g78J4 A n kk (g78L3 A n kk  m) x0 x1 x2 x3
  | false => g78J9 A n kk  x0 x2 x3
def g78 {R : Type} (A : Ar) (n : Nat) (kk : AV → Heap → Option R) (a : List Nat) : Option R :=
  g78L3 A n kk  n 0 0 a [0, 0, 0, 0, 0]
section
variable {R : Type} {A : Ar} {n : Nat} {kk : AV → Heap → Option R} {tb : Nat → List Bool → St → Option R} (st : Stp (g78N A kk) tb)
include st
theorem g78J4_go {lg78L3 : Nat → Int → List Nat → List Nat → Option R} (hg78L3 : ∀ (x0 : Nat) (x1 : Int) (x2 x3 : List Nat), Prs (fun k => tb k (pth 116) (g78L3s x0 x1 x2 x3)) (lg78L3 x0 x1 x2 x3)) {x0 : Nat} {x1 : Int} {x2 : List Nat} {x3 : List Nat} : Prs (fun k => tb k (pth 467) (g78J4s x0 x1 x2 x3)) (g78J4 A n kk lg78L3 x0 x1 x2 x3) := by
  unfold g78J4
  exact st.g (pc (SxY05api _ pn (SxY05api _ (SxY05api _ pn (SxY05api _ (SxY05api _ pn (SxY05api _ (SxY05api _ pn (SxY05api _ (SxY05api _ pn (SxY05api _ (hg78L3 _ _ _ _) pn)) pn)) pn)) pn)) pn)) (by kernel_rfl))
theorem g78J9_go {x0 : Nat} {x1 : List Nat} {x2 : List Nat} : Prs (fun k => tb k (pth 15) (g78J9s x0 x1 x2)) (g78J9 A n kk x0 x1 x2) := by
  unfold g78J9
  exact st.g (pc (pf _) (by kernel_rfl))
theorem g78L3_go (m : Nat) : ∀ (x0 : Nat) (x1 : Int) (x2 x3 : List Nat), Prs (fun k => tb k (pth 116) (g78L3s x0 x1 x2 x3)) (g78L3 A n kk m x0 x1 x2 x3) := by
  induction m with
  | zero => intro x0 x1 x2 x3; exact pn0
  | succ m ih =>
    intro x0 x1 x2 x3; rw [g78L3]
    exact st.g (pc (SxY05api _ (g78J4_go st ih) (g78J9_go st)) (by kernel_rfl))
theorem g78_go {a : List Nat} : Prs (fun k => funN A gtys (g78O A) g78an g78cut (bodyOf Try.f78) g78res [(aN .u64 5 a)] [] kk (tb k)) (g78 A n kk a) := by
  unfold g78
  exact pc (g78L3_go st n _ _ _ _) (by kernel_rfl)
end
def g78is (o : Option AV) : Bool := match o with
  | some (aN .u64 5 _) => true
  | _ => false
def g78g0 (o : Option AV) : List Nat := match o with
  | some (aN .u64 5 x) => x
  | _ => []
theorem g78is_spec {o : Option AV} (h : g78is o = true) : o = some (aN .u64 5 (g78g0 o)) := by
  unfold g78is at h
  split at h
  · rfl
  · cases h
def g78v (A : Ar) (a : List Nat) : Option AV := g78 A (100000) (fun v _ => some v) a
def g78ok (A : Ar) (a : List Nat) : Bool := g78is (g78v A a)
def g78r0 (A : Ar) (a : List Nat) : List Nat := g78g0 (g78v A a)
theorem g78ok_spec {A : Ar} {a} (h : g78ok A a = true) : g78v A a = some (aN .u64 5 (g78r0 A a)) := g78is_spec h
def g78o (A : Ar) (args : List AV) : Option (Bool × AV) := match args with
  | [.v (.agg [.nums .u64 n0 a])] => some (Nat.beq n0 5 && (g78ok A a), .v (.agg [.nums .u64 5 (g78r0 A a)]))
  | _ => none
theorem g78o_sound : ∀ args v, g78o realA args = some (true, v) → Fn1 Try.prog 78 args v := by
  intro args v h
  unfold g78o at h
  split at h
  · rename_i n0 a
    simp only [Option.some.injEq, Prod.mk.injEq] at h
    obtain ⟨hc, h⟩ := h
    subst h
    · skip
      simp only [Bool.and_eq_true] at hc
      have en0 := beq_true hc.1
      subst en0
      replace hc := hc.2
      exact fn1_ofG mixed gtysOK g78O_sound g78O_det (an := g78an) (cut := g78cut) Try.func78 (c := bodyOf Try.f78) rfl (by kernel_rfl) Try.call78 (Nat.le_of_ble_eq_true rfl) (fun b => rfl) (fun _ => (show g78v realA a = _ from g78ok_spec hc)) fun _ st => g78_go st
  · cases h
attribute [local irreducible] g78ok g78r0
def g62O (A : Ar) : Orc := orcOf [(78, g78o A)]
theorem g62O_sound : OSound Try.prog (g62O realA) := orc_sound fun f g hm args v hv => by
  simp only [List.mem_cons, List.not_mem_nil, or_false, Prod.mk.injEq] at hm
  rcases hm with ⟨rfl, rfl⟩
  · exact g78o_sound _ _ hv
theorem g62O_det : ODet (g62O realA) := orc_det _
def g62an : Ann := [(0, ([0], [])), (1, ([1, 2], [1000, 1001])), (2, ([2, 3], [1001, 2031]))]
def g62res : List ResultVar := [.cell 2 72]
def g62cut : List Nat := []
noncomputable def g62N {R : Type} (A : Ar) (kk : AV → Heap → Option R) (t : List Bool → St → Option R) (p : List Bool) (s : St) : Option R := nodeN A gtys (g62O A) g62an g62cut t (bodyOf Try.f62) (finD gtys g62res kk) p s
def g62 {R : Type} (A : Ar) (n : Nat) (kk : AV → Heap → Option R) (a : List Nat) : Option R :=
  match g78ok A ((((([0, 0, 0, 0, 0].set 0 (A.nb .and .u64 (a.getD 0 0) 2251799813685247)).set 1 (A.nb .and .u64 (A.nb .or .u64 (A.nsh .shr .u64 (a.getD 0 0) 51) (A.nsh .shl .u64 (a.getD 1 0) 13)) 2251799813685247)).set 2 (A.nb .and .u64 (A.nb .or .u64 (A.nsh .shr .u64 (a.getD 1 0) 38) (A.nsh .shl .u64 (a.getD 2 0) 26)) 2251799813685247)).set 3 (A.nb .and .u64 (A.nb .or .u64 (A.nsh .shr .u64 (a.getD 2 0) 25) (A.nsh .shl .u64 (a.getD 3 0) 39)) 2251799813685247)).set 4 (A.nsh .shr .u64 (a.getD 3 0) 12)) with
  | true => kk (aN .u64 5 (g78r0 A ((((([0, 0, 0, 0, 0].set 0 (A.nb .and .u64 (a.getD 0 0) 2251799813685247)).set 1 (A.nb .and .u64 (A.nb .or .u64 (A.nsh .shr .u64 (a.getD 0 0) 51) (A.nsh .shl .u64 (a.getD 1 0) 13)) 2251799813685247)).set 2 (A.nb .and .u64 (A.nb .or .u64 (A.nsh .shr .u64 (a.getD 1 0) 38) (A.nsh .shl .u64 (a.getD 2 0) 26)) 2251799813685247)).set 3 (A.nb .and .u64 (A.nb .or .u64 (A.nsh .shr .u64 (a.getD 2 0) 25) (A.nsh .shl .u64 (a.getD 3 0) 39)) 2251799813685247)).set 4 (A.nsh .shr .u64 (a.getD 3 0) 12)))) [(1001, (bU 5 (g78r0 A ((((([0, 0, 0, 0, 0].set 0 (A.nb .and .u64 (a.getD 0 0) 2251799813685247)).set 1 (A.nb .and .u64 (A.nb .or .u64 (A.nsh .shr .u64 (a.getD 0 0) 51) (A.nsh .shl .u64 (a.getD 1 0) 13)) 2251799813685247)).set 2 (A.nb .and .u64 (A.nb .or .u64 (A.nsh .shr .u64 (a.getD 1 0) 38) (A.nsh .shl .u64 (a.getD 2 0) 26)) 2251799813685247)).set 3 (A.nb .and .u64 (A.nb .or .u64 (A.nsh .shr .u64 (a.getD 2 0) 25) (A.nsh .shl .u64 (a.getD 3 0) 39)) 2251799813685247)).set 4 (A.nsh .shr .u64 (a.getD 3 0) 12))) 72)), (2031, (bU 5 ((((([0, 0, 0, 0, 0].set 0 (A.nb .and .u64 (a.getD 0 0) 2251799813685247)).set 1 (A.nb .and .u64 (A.nb .or .u64 (A.nsh .shr .u64 (a.getD 0 0) 51) (A.nsh .shl .u64 (a.getD 1 0) 13)) 2251799813685247)).set 2 (A.nb .and .u64 (A.nb .or .u64 (A.nsh .shr .u64 (a.getD 1 0) 38) (A.nsh .shl .u64 (a.getD 2 0) 26)) 2251799813685247)).set 3 (A.nb .and .u64 (A.nb .or .u64 (A.nsh .shr .u64 (a.getD 2 0) 25) (A.nsh .shl .u64 (a.getD 3 0) 39)) 2251799813685247)).set 4 (A.nsh .shr .u64 (a.getD 3 0) 12)) 72))]
  | false => none
section
variable {R : Type} {A : Ar} {n : Nat} {kk : AV → Heap → Option R} {tb : Nat → List Bool → St → Option R} (st : Stp (g62N A kk) tb)
include st
theorem g62_go {a : List Nat} : Prs (fun k => funN A gtys (g62O A) g62an g62cut (bodyOf Try.f62) g62res [(aN .u64 4 a)] [] kk (tb k)) (g62 A n kk a) := by
  unfold g62
  exact pc (SxY05api _ (pf _) pn) (by kernel_rfl)
end
def g62is (o : Option AV) : Bool := match o with
  | some (aN .u64 5 _) => true
  | _ => false
def g62g0 (o : Option AV) : List Nat := match o with
  | some (aN .u64 5 x) => x
  | _ => []
theorem g62is_spec {o : Option AV} (h : g62is o = true) : o = some (aN .u64 5 (g62g0 o)) := by
  unfold g62is at h
  split at h
  · rfl
  · cases h
def g62v (A : Ar) (a : List Nat) : Option AV := g62 A (100000) (fun v _ => some v) a
def g62ok (A : Ar) (a : List Nat) : Bool := g62is (g62v A a)
def g62r0 (A : Ar) (a : List Nat) : List Nat := g62g0 (g62v A a)
theorem g62ok_spec {A : Ar} {a} (h : g62ok A a = true) : g62v A a = some (aN .u64 5 (g62r0 A a)) := g62is_spec h
def g62o (A : Ar) (args : List AV) : Option (Bool × AV) := match args with
  | [.v (.agg [.nums .u64 n0 a])] => some (Nat.beq n0 4 && (g62ok A a), .v (.agg [.nums .u64 5 (g62r0 A a)]))
  | _ => none
theorem g62o_sound : ∀ args v, g62o realA args = some (true, v) → Fn1 Try.prog 62 args v := by
  intro args v h
  unfold g62o at h
  split at h
  · rename_i n0 a
    simp only [Option.some.injEq, Prod.mk.injEq] at h
    obtain ⟨hc, h⟩ := h
    subst h
    · skip
      simp only [Bool.and_eq_true] at hc
      have en0 := beq_true hc.1
      subst en0
      replace hc := hc.2
      exact fn1_ofG mixed gtysOK g62O_sound g62O_det (an := g62an) (cut := g62cut) Try.func62 (c := bodyOf Try.f62) rfl (by kernel_rfl) Try.call62 (Nat.le_of_ble_eq_true rfl) (fun b => rfl) (fun _ => (show g62v realA a = _ from g62ok_spec hc)) fun _ st => g62_go st
  · cases h
attribute [local irreducible] g62ok g62r0
def g84O (A : Ar) : Orc := orcOf []
theorem g84O_sound : OSound Try.prog (g84O realA) := orc_sound fun f g hm args v hv => by
  cases hm
theorem g84O_det : ODet (g84O realA) := orc_det _
def g84an : Ann := [(0, ([0, 1], [])), (1, ([0, 1], [])), (2, ([0, 1, 6], [])), (3, ([0, 1, 6, 7], [])), (4, ([0, 1, 6, 7, 8], [])), (5, ([0, 1, 6, 7, 8, 9], [])), (6, ([0, 1, 6, 7, 8, 9, 10], [])), (7, ([0, 1, 6, 7, 9, 11], [])), (8, ([0, 1, 6, 7, 9, 11, 12], [])), (9, ([0, 1, 6, 7, 9, 12, 13], [])), (10, ([0, 1, 7, 9, 12, 13], [])), (11, ([0, 1, 4], []))]
def g84res : List ResultVar := [.tmp 4, .tmp 5]
def g84cut : List Nat := []
noncomputable def g84N {R : Type} (A : Ar) (kk : AV → Heap → Option R) (t : List Bool → St → Option R) (p : List Bool) (s : St) : Option R := nodeN A gtys (g84O A) g84an g84cut t (bodyOf Try.f84) (finD gtys g84res kk) p s
def g84 {R : Type} (A : Ar) (n : Nat) (kk : AV → Heap → Option R) (a b : Nat) : Option R :=
  kk (.tup [(.cell (.nat .u64 (A.nb .add .u64 (A.nb .add .u64 (A.nb .mul .u64 (A.nsh .shr .u64 a 32) (A.nsh .shr .u64 b 32)) (A.nsh .shr .u64 (A.nb .add .u64 (A.nb .mul .u64 (A.nsh .shr .u64 a 32) (A.nb .and .u64 b 4294967295)) (A.nsh .shr .u64 (A.nb .mul .u64 (A.nb .and .u64 a 4294967295) (A.nb .and .u64 b 4294967295)) 32)) 32)) (A.nsh .shr .u64 (A.nb .add .u64 (A.nb .and .u64 (A.nb .add .u64 (A.nb .mul .u64 (A.nsh .shr .u64 a 32) (A.nb .and .u64 b 4294967295)) (A.nsh .shr .u64 (A.nb .mul .u64 (A.nb .and .u64 a 4294967295) (A.nb .and .u64 b 4294967295)) 32)) 4294967295) (A.nb .mul .u64 (A.nb .and .u64 a 4294967295) (A.nsh .shr .u64 b 32))) 32)))), (.cell (.nat .u64 (A.nb .mul .u64 a b)))]) []
section
variable {R : Type} {A : Ar} {n : Nat} {kk : AV → Heap → Option R} {tb : Nat → List Bool → St → Option R} (st : Stp (g84N A kk) tb)
include st
theorem g84_go {a : Nat} {b : Nat} : Prs (fun k => funN A gtys (g84O A) g84an g84cut (bodyOf Try.f84) g84res [(u64v a), (u64v b)] [] kk (tb k)) (g84 A n kk a b) := by
  unfold g84
  exact pc (pf _) (by kernel_rfl)
end
def g84is (o : Option AV) : Bool := match o with
  | some (.tup [.cell (.nat .u64 _), .cell (.nat .u64 _)]) => true
  | _ => false
def g84g0 (o : Option AV) : Nat := match o with
  | some (.tup [.cell (.nat .u64 x), .cell (.nat .u64 _)]) => x
  | _ => 0
def g84g1 (o : Option AV) : Nat := match o with
  | some (.tup [.cell (.nat .u64 _), .cell (.nat .u64 x)]) => x
  | _ => 0
theorem g84is_spec {o : Option AV} (h : g84is o = true) : o = some (.tup [.cell (.nat .u64 (g84g0 o)), .cell (.nat .u64 (g84g1 o))]) := by
  unfold g84is at h
  split at h
  · rfl
  · cases h
def g84v (A : Ar) (a b : Nat) : Option AV := g84 A (100000) (fun v _ => some v) a b
def g84ok (A : Ar) (a b : Nat) : Bool := g84is (g84v A a b)
def g84r0 (A : Ar) (a b : Nat) : Nat := g84g0 (g84v A a b)
def g84r1 (A : Ar) (a b : Nat) : Nat := g84g1 (g84v A a b)
theorem g84ok_spec {A : Ar} {a b} (h : g84ok A a b = true) : g84v A a b = some (.tup [.cell (.nat .u64 (g84r0 A a b)), .cell (.nat .u64 (g84r1 A a b))]) := g84is_spec h
def g84o (A : Ar) (args : List AV) : Option (Bool × AV) := match args with
  | [.v (.cell (.nat .u64 a)), .v (.cell (.nat .u64 b))] => some (g84ok A a b, .tup [.cell (.nat .u64 (g84r0 A a b)), .cell (.nat .u64 (g84r1 A a b))])
  | _ => none
theorem g84o_sound : ∀ args v, g84o realA args = some (true, v) → Fn1 Try.prog 84 args v := by
  intro args v h
  unfold g84o at h
  split at h
  · rename_i a b
    simp only [Option.some.injEq, Prod.mk.injEq] at h
    obtain ⟨hc, h⟩ := h
    subst h
    · skip
      exact fn1_ofG mixed gtysOK g84O_sound g84O_det (an := g84an) (cut := g84cut) Try.func84 (c := bodyOf Try.f84) rfl (by kernel_rfl) Try.call84 (Nat.le_of_ble_eq_true rfl) (fun b => rfl) (fun _ => (show g84v realA a b = _ from g84ok_spec hc)) fun _ st => g84_go st
  · cases h
attribute [local irreducible] g84ok g84r0 g84r1
def g85o (A : Ar) := add64o
theorem g85o_sound : ∀ args v, g85o realA args = some (true, v) → Fn1 Try.prog 85 args v := add64o_sound Try.func85 (by kernel_rfl) (by kernel_rfl) (by kernel_rfl) (by kernel_rfl)
def g82O (A : Ar) : Orc := orcOf []
theorem g82O_sound : OSound Try.prog (g82O realA) := orc_sound fun f g hm args v hv => by
  cases hm
theorem g82O_det : ODet (g82O realA) := orc_det _
def g82an : Ann := [(0, ([0], [])), (1, ([1], [1000]))]
def g82res : List ResultVar := [.tmp 2]
def g82cut : List Nat := []
noncomputable def g82N {R : Type} (A : Ar) (kk : AV → Heap → Option R) (t : List Bool → St → Option R) (p : List Bool) (s : St) : Option R := nodeN A gtys (g82O A) g82an g82cut t (bodyOf Try.f82) (finD gtys g82res kk) p s
def g82 {R : Type} (A : Ar) (n : Nat) (kk : AV → Heap → Option R) (a : List Nat) : Option R :=
  kk (u64v (A.nb .or .u64 (A.nsh .shl .u64 (a.getD 0 0) 13) (A.nsh .shr .u64 (a.getD 1 0) 51))) [(1000, (bU 2 a 90))]
section
variable {R : Type} {A : Ar} {n : Nat} {kk : AV → Heap → Option R} {tb : Nat → List Bool → St → Option R} (st : Stp (g82N A kk) tb)
include st
theorem g82_go {a : List Nat} : Prs (fun k => funN A gtys (g82O A) g82an g82cut (bodyOf Try.f82) g82res [(aN .u64 2 a)] [] kk (tb k)) (g82 A n kk a) := by
  unfold g82
  exact pc (pf _) (by kernel_rfl)
end
def g82is (o : Option AV) : Bool := match o with
  | some (.v (.cell (.nat .u64 _))) => true
  | _ => false
def g82g0 (o : Option AV) : Nat := match o with
  | some (.v (.cell (.nat .u64 x))) => x
  | _ => 0
theorem g82is_spec {o : Option AV} (h : g82is o = true) : o = some (.v (.cell (.nat .u64 (g82g0 o)))) := by
  unfold g82is at h
  split at h
  · rfl
  · cases h
def g82v (A : Ar) (a : List Nat) : Option AV := g82 A (100000) (fun v _ => some v) a
def g82ok (A : Ar) (a : List Nat) : Bool := g82is (g82v A a)
def g82r0 (A : Ar) (a : List Nat) : Nat := g82g0 (g82v A a)
theorem g82ok_spec {A : Ar} {a} (h : g82ok A a = true) : g82v A a = some (.v (.cell (.nat .u64 (g82r0 A a)))) := g82is_spec h
def g82o (A : Ar) (args : List AV) : Option (Bool × AV) := match args with
  | [.v (.agg [.nums .u64 n0 a])] => some (Nat.beq n0 2 && (g82ok A a), .v (.cell (.nat .u64 (g82r0 A a))))
  | _ => none
theorem g82o_sound : ∀ args v, g82o realA args = some (true, v) → Fn1 Try.prog 82 args v := by
  intro args v h
  unfold g82o at h
  split at h
  · rename_i n0 a
    simp only [Option.some.injEq, Prod.mk.injEq] at h
    obtain ⟨hc, h⟩ := h
    subst h
    · skip
      simp only [Bool.and_eq_true] at hc
      have en0 := beq_true hc.1
      subst en0
      replace hc := hc.2
      exact fn1_ofG mixed gtysOK g82O_sound g82O_det (an := g82an) (cut := g82cut) Try.func82 (c := bodyOf Try.f82) rfl (by kernel_rfl) Try.call82 (Nat.le_of_ble_eq_true rfl) (fun b => rfl) (fun _ => (show g82v realA a = _ from g82ok_spec hc)) fun _ st => g82_go st
  · cases h
attribute [local irreducible] g82ok g82r0
def g80O (A : Ar) : Orc := orcOf [(84, g84o A), (85, g85o A)]
theorem g80O_sound : OSound Try.prog (g80O realA) := orc_sound fun f g hm args v hv => by
  simp only [List.mem_cons, List.not_mem_nil, or_false, Prod.mk.injEq] at hm
  rcases hm with ⟨rfl, rfl⟩ | ⟨rfl, rfl⟩
  · exact g84o_sound _ _ hv
  · exact g85o_sound _ _ hv
theorem g80O_det : ODet (g80O realA) := orc_det _
def g80an : Ann := [(0, ([0, 1, 2], [0])), (1, ([0, 6, 7], [0])), (2, ([0, 6, 7], [0])), (3, ([0, 6, 8], [0]))]
def g80res : List ResultVar := []
def g80cut : List Nat := []
noncomputable def g80N {R : Type} (A : Ar) (kk : AV → Heap → Option R) (t : List Bool → St → Option R) (p : List Bool) (s : St) : Option R := nodeN A gtys (g80O A) g80an g80cut t (bodyOf Try.f80) (finD gtys g80res kk) p s
def g80 {R : Type} (A : Ar) (n : Nat) (kk : AV → Heap → Option R) (x0 x1 x2 : Nat) (x3 : List Nat) : Option R :=
  match g84ok A x1 x2 with
  | true => match carryok (x3.getD (x0 + 1) 0) (g84r1 A x1 x2) 0 with
    | true => match carryok ((x3.set (x0 + 1) (add64a (x3.getD (x0 + 1) 0) (g84r1 A x1 x2) 0)).getD (x0 + 0) 0) (g84r0 A x1 x2) (add64b (x3.getD (x0 + 1) 0) (g84r1 A x1 x2) 0) with
      | true => kk (.tup []) [(0, (bU 10 ((x3.set (x0 + 1) (add64a (x3.getD (x0 + 1) 0) (g84r1 A x1 x2) 0)).set (x0 + 0) (add64a ((x3.set (x0 + 1) (add64a (x3.getD (x0 + 1) 0) (g84r1 A x1 x2) 0)).getD (x0 + 0) 0) (g84r0 A x1 x2) (add64b (x3.getD (x0 + 1) 0) (g84r1 A x1 x2) 0))) 91))]
      | false => none
    | false => none
  | false => none
section
variable {R : Type} {A : Ar} {n : Nat} {kk : AV → Heap → Option R} {tb : Nat → List Bool → St → Option R} (st : Stp (g80N A kk) tb)
include st
theorem g80_go {x0 : Nat} {x1 : Nat} {x2 : Nat} {x3 : List Nat} : Prs (fun k => funN A gtys (g80O A) g80an g80cut (bodyOf Try.f80) g80res [(.v (.cell (.ptr 0 0 (some ⟨x0, 2, 10, 0, 0, 0⟩)))), (u64v x1), (u64v x2)] [(0, (bU 10 x3 91))] kk (tb k)) (g80 A n kk x0 x1 x2 x3) := by
  unfold g80
  exact pc (SxY05api _ (SxY05api _ (SxY05api _ (pf _) pn) pn) pn) (by kernel_rfl)
end
def g80is (o : Option (AV × Heap)) : Bool := match o with
  | some (.tup [], [(n0, ⟨[.nums .u64 n1 _], n2, n3⟩)]) => Nat.beq n0 0 && (Nat.beq n1 10 && (Nat.beq n2 91 && (Nat.beq n3 1)))
  | _ => false
def g80g0 (o : Option (AV × Heap)) : List Nat := match o with
  | some (.tup [], [(_, ⟨[.nums .u64 _ x], _, _⟩)]) => x
  | _ => []
theorem g80is_spec {o : Option (AV × Heap)} (h : g80is o = true) : o = some ((.tup []), [(0, (bU 10 (g80g0 o) 91))]) := by
  unfold g80is at h
  split at h
  · rename_i n0 n1 z2 n2 n3
    simp only [Bool.and_eq_true] at h
    have en0 := beq_true h.1
    subst en0
    replace h := h.2
    have en1 := beq_true h.1
    subst en1
    replace h := h.2
    have en2 := beq_true h.1
    subst en2
    replace h := h.2
    have en3 := beq_true h
    subst en3
    rfl
  · cases h
def g80v (A : Ar) (x0 x1 x2 : Nat) (x3 : List Nat) : Option (AV × Heap) := g80 A (100000) (outH [0] none) x0 x1 x2 x3
def g80ok (A : Ar) (x0 x1 x2 : Nat) (x3 : List Nat) : Bool := g80is (g80v A x0 x1 x2 x3)
def g80r0 (A : Ar) (x0 x1 x2 : Nat) (x3 : List Nat) : List Nat := g80g0 (g80v A x0 x1 x2 x3)
theorem g80ok_spec {A : Ar} {x0 x1 x2 x3} (h : g80ok A x0 x1 x2 x3 = true) : g80v A x0 x1 x2 x3 = some ((.tup []), [(0, (bU 10 (g80r0 A x0 x1 x2 x3) 91))]) := g80is_spec h
def g80o (A : Ar) (args : List AV) (h : Heap) : Option (Bool × AV × Heap) := match args, h with
  | [.v (.cell (.ptr n0 n1 (some ⟨x0, n2, n3, n4, n5, n6⟩))), .v (.cell (.nat .u64 x1)), .v (.cell (.nat .u64 x2))], [(n7, ⟨[.nums .u64 n8 x3], n9, n10⟩)] => match Nat.beq n0 0 && (Nat.beq n1 0 && (Nat.beq n2 2 && (Nat.beq n3 10 && (Nat.beq n4 0 && (Nat.beq n5 0 && (Nat.beq n6 0 && (Nat.beq n7 0 && (Nat.beq n8 10 && (Nat.beq n9 91 && (Nat.beq n10 1)))))))))) with
    | true => some (g80ok A x0 x1 x2 x3, (.tup []), [(0, (bU 10 (g80r0 A x0 x1 x2 x3) 91))])
    | false => none
  | _, _ => none
theorem g80o_sound : ∀ args h v h', g80o realA args h = some (true, v, h') → FnH Try.prog 80 args h v h' := by
  intro args h v h' hh
  unfold g80o at hh
  split at hh
  · rename_i n0 n1 x0 n2 n3 n4 n5 n6 x1 x2 n7 n8 x3 n9 n10
    split at hh
    case h_2 => cases hh
    rename_i hc0
    simp only [Option.some.injEq, Prod.mk.injEq] at hh
    obtain ⟨hc, hv, hh⟩ := hh
    subst hv
    subst hh
    simp only [Bool.and_eq_true] at hc0
    have en0 := beq_true hc0.1
    subst en0
    replace hc0 := hc0.2
    have en1 := beq_true hc0.1
    subst en1
    replace hc0 := hc0.2
    have en2 := beq_true hc0.1
    subst en2
    replace hc0 := hc0.2
    have en3 := beq_true hc0.1
    subst en3
    replace hc0 := hc0.2
    have en4 := beq_true hc0.1
    subst en4
    replace hc0 := hc0.2
    have en5 := beq_true hc0.1
    subst en5
    replace hc0 := hc0.2
    have en6 := beq_true hc0.1
    subst en6
    replace hc0 := hc0.2
    have en7 := beq_true hc0.1
    subst en7
    replace hc0 := hc0.2
    have en8 := beq_true hc0.1
    subst en8
    replace hc0 := hc0.2
    have en9 := beq_true hc0.1
    subst en9
    replace hc0 := hc0.2
    have en10 := beq_true hc0
    subst en10
    exact fnh_ofG mixed gtysOK g80O_sound g80O_det (an := g80an) (cut := g80cut) Try.func80 (c := bodyOf Try.f80) rfl (by kernel_rfl) Try.call80 (Nat.le_of_ble_eq_true rfl) (pins := [0]) (nilr := none) (fun _ => (show g80v realA x0 x1 x2 x3 = _ from g80ok_spec hc)) fun _ st => g80_go st
  · cases hh
attribute [local irreducible] g80ok g80r0
def g81O (A : Ar) : Orc := orcOf [(85, g85o A)]
theorem g81O_sound : OSound Try.prog (g81O realA) := orc_sound fun f g hm args v hv => by
  simp only [List.mem_cons, List.not_mem_nil, or_false, Prod.mk.injEq] at hm
  rcases hm with ⟨rfl, rfl⟩
  · exact g85o_sound _ _ hv
theorem g81O_det : ODet (g81O realA) := orc_det _
def g81an : Ann := [(0, ([0, 1], [0])), (1, ([0, 1], [0])), (2, ([0, 4], [0]))]
def g81res : List ResultVar := []
def g81cut : List Nat := []
noncomputable def g81N {R : Type} (A : Ar) (kk : AV → Heap → Option R) (t : List Bool → St → Option R) (p : List Bool) (s : St) : Option R := nodeN A gtys (g81O A) g81an g81cut t (bodyOf Try.f81) (finD gtys g81res kk) p s
def g81 {R : Type} (A : Ar) (n : Nat) (kk : AV → Heap → Option R) (x0 x1 : Nat) (x2 : List Nat) : Option R :=
  match carryok (x2.getD (x0 + 1) 0) x1 0 with
  | true => kk (.tup []) [(0, (bU 10 ((x2.set (x0 + 1) (add64a (x2.getD (x0 + 1) 0) x1 0)).set (x0 + 0) (A.nb .add .u64 ((x2.set (x0 + 1) (add64a (x2.getD (x0 + 1) 0) x1 0)).getD (x0 + 0) 0) (add64b (x2.getD (x0 + 1) 0) x1 0))) 91))]
  | false => none
section
variable {R : Type} {A : Ar} {n : Nat} {kk : AV → Heap → Option R} {tb : Nat → List Bool → St → Option R} (st : Stp (g81N A kk) tb)
include st
theorem g81_go {x0 : Nat} {x1 : Nat} {x2 : List Nat} : Prs (fun k => funN A gtys (g81O A) g81an g81cut (bodyOf Try.f81) g81res [(.v (.cell (.ptr 0 0 (some ⟨x0, 2, 10, 0, 0, 0⟩)))), (u64v x1)] [(0, (bU 10 x2 91))] kk (tb k)) (g81 A n kk x0 x1 x2) := by
  unfold g81
  exact pc (SxY05api _ (pf _) pn) (by kernel_rfl)
end
def g81is (o : Option (AV × Heap)) : Bool := match o with
  | some (.tup [], [(n0, ⟨[.nums .u64 n1 _], n2, n3⟩)]) => Nat.beq n0 0 && (Nat.beq n1 10 && (Nat.beq n2 91 && (Nat.beq n3 1)))
  | _ => false
def g81g0 (o : Option (AV × Heap)) : List Nat := match o with
  | some (.tup [], [(_, ⟨[.nums .u64 _ x], _, _⟩)]) => x
  | _ => []
theorem g81is_spec {o : Option (AV × Heap)} (h : g81is o = true) : o = some ((.tup []), [(0, (bU 10 (g81g0 o) 91))]) := by
  unfold g81is at h
  split at h
  · rename_i n0 n1 z2 n2 n3
    simp only [Bool.and_eq_true] at h
    have en0 := beq_true h.1
    subst en0
    replace h := h.2
    have en1 := beq_true h.1
    subst en1
    replace h := h.2
    have en2 := beq_true h.1
    subst en2
    replace h := h.2
    have en3 := beq_true h
    subst en3
    rfl
  · cases h
def g81v (A : Ar) (x0 x1 : Nat) (x2 : List Nat) : Option (AV × Heap) := g81 A (100000) (outH [0] none) x0 x1 x2
def g81ok (A : Ar) (x0 x1 : Nat) (x2 : List Nat) : Bool := g81is (g81v A x0 x1 x2)
def g81r0 (A : Ar) (x0 x1 : Nat) (x2 : List Nat) : List Nat := g81g0 (g81v A x0 x1 x2)
theorem g81ok_spec {A : Ar} {x0 x1 x2} (h : g81ok A x0 x1 x2 = true) : g81v A x0 x1 x2 = some ((.tup []), [(0, (bU 10 (g81r0 A x0 x1 x2) 91))]) := g81is_spec h
def g81o (A : Ar) (args : List AV) (h : Heap) : Option (Bool × AV × Heap) := match args, h with
  | [.v (.cell (.ptr n0 n1 (some ⟨x0, n2, n3, n4, n5, n6⟩))), .v (.cell (.nat .u64 x1))], [(n7, ⟨[.nums .u64 n8 x2], n9, n10⟩)] => match Nat.beq n0 0 && (Nat.beq n1 0 && (Nat.beq n2 2 && (Nat.beq n3 10 && (Nat.beq n4 0 && (Nat.beq n5 0 && (Nat.beq n6 0 && (Nat.beq n7 0 && (Nat.beq n8 10 && (Nat.beq n9 91 && (Nat.beq n10 1)))))))))) with
    | true => some (g81ok A x0 x1 x2, (.tup []), [(0, (bU 10 (g81r0 A x0 x1 x2) 91))])
    | false => none
  | _, _ => none
theorem g81o_sound : ∀ args h v h', g81o realA args h = some (true, v, h') → FnH Try.prog 81 args h v h' := by
  intro args h v h' hh
  unfold g81o at hh
  split at hh
  · rename_i n0 n1 x0 n2 n3 n4 n5 n6 x1 n7 n8 x2 n9 n10
    split at hh
    case h_2 => cases hh
    rename_i hc0
    simp only [Option.some.injEq, Prod.mk.injEq] at hh
    obtain ⟨hc, hv, hh⟩ := hh
    subst hv
    subst hh
    simp only [Bool.and_eq_true] at hc0
    have en0 := beq_true hc0.1
    subst en0
    replace hc0 := hc0.2
    have en1 := beq_true hc0.1
    subst en1
    replace hc0 := hc0.2
    have en2 := beq_true hc0.1
    subst en2
    replace hc0 := hc0.2
    have en3 := beq_true hc0.1
    subst en3
    replace hc0 := hc0.2
    have en4 := beq_true hc0.1
    subst en4
    replace hc0 := hc0.2
    have en5 := beq_true hc0.1
    subst en5
    replace hc0 := hc0.2
    have en6 := beq_true hc0.1
    subst en6
    replace hc0 := hc0.2
    have en7 := beq_true hc0.1
    subst en7
    replace hc0 := hc0.2
    have en8 := beq_true hc0.1
    subst en8
    replace hc0 := hc0.2
    have en9 := beq_true hc0.1
    subst en9
    replace hc0 := hc0.2
    have en10 := beq_true hc0
    subst en10
    exact fnh_ofG mixed gtysOK g81O_sound g81O_det (an := g81an) (cut := g81cut) Try.func81 (c := bodyOf Try.f81) rfl (by kernel_rfl) Try.call81 (Nat.le_of_ble_eq_true rfl) (pins := [0]) (nilr := none) (fun _ => (show g81v realA x0 x1 x2 = _ from g81ok_spec hc)) fun _ st => g81_go st
  · cases hh
attribute [local irreducible] g81ok g81r0
def g72O (A : Ar) : Orc := orcH [(82, g82o A), (78, g78o A)] [(80, ⟨[], none, (g80o A)⟩), (81, ⟨[], none, (g81o A)⟩)]
theorem g72O_sound : OSound Try.prog (g72O realA) := orcH_sound (fun f g hm args v hv => by
    simp only [List.mem_cons, List.not_mem_nil, or_false, Prod.mk.injEq] at hm
    rcases hm with ⟨rfl, rfl⟩ | ⟨rfl, rfl⟩
    · exact g82o_sound _ _ hv
    · exact g78o_sound _ _ hv) (fun f e hm args h v h' hv => by
    simp only [List.mem_cons, List.not_mem_nil, or_false, Prod.mk.injEq] at hm
    rcases hm with ⟨rfl, rfl⟩ | ⟨rfl, rfl⟩
    · exact g80o_sound _ _ _ _ hv
    · exact g81o_sound _ _ _ _ hv)
theorem g72O_det : ODet (g72O realA) := orcH_det _ _
def g72an : Ann := [(0, ([0, 1], [])), (1, ([2, 3, 4], [1000, 1001, 1002])), (2, ([2, 3, 4, 5], [1000, 1001, 1002, 2000])), (3, ([3, 4, 5, 14, 15], [1001, 1002, 2000])), (4, ([3, 4, 5, 14, 15], [1001, 1002, 2000])), (5, ([3, 4, 5, 6, 7, 14, 15], [1001, 1002, 2000])), (6, ([3, 4, 5, 6, 7, 14, 15, 19, 20], [1001, 1002, 2000])), (7, ([3, 4, 5, 6, 7, 14, 15, 19, 20], [1001, 1002, 2000])), (8, ([3, 4, 5, 6, 7, 8, 9, 14, 15, 19, 20], [1001, 1002, 2000])), (9, ([3, 4, 5, 6, 7, 9, 10, 14, 15, 19, 20], [1001, 1002, 2000])), (10, ([3, 4, 5, 6, 7, 9, 10, 14, 15, 19, 20], [1001, 1002, 2000])), (11, ([3, 4, 5, 6, 7, 9, 10, 14, 15, 19, 20], [1001, 1002, 2000])), (12, ([3, 4, 5, 6, 7, 14, 15, 19, 20], [1001, 1002, 2000])), (13, ([3, 4, 5, 14, 15], [1001, 1002, 2000])), (14, ([4, 5], [1002, 2000])), (15, ([4, 5, 11], [1002, 2000, 15000])), (16, ([4, 5, 11, 12], [1002, 2000, 15000])), (17, ([4, 5, 11, 12, 40], [1002, 2000, 15000])), (18, ([4, 5, 11, 12, 40], [1002, 2000, 15000])), (19, ([4, 5, 11, 12, 13, 40], [1002, 2000, 15000])), (20, ([4, 5, 11, 13, 40], [1002, 2000, 15000])), (21, ([4, 5, 11, 12, 40], [1002, 2000, 15000])), (22, ([4, 11, 12], [1002, 15000])), (23, ([4, 11], [1002, 15000]))]
def g72res : List ResultVar := [.cell 4 72]
def g72cut : List Nat := [4, 7, 11, 14, 18, 22]
noncomputable def g72N {R : Type} (A : Ar) (kk : AV → Heap → Option R) (t : List Bool → St → Option R) (p : List Bool) (s : St) : Option R := nodeN A gtys (g72O A) g72an g72cut t (bodyOf Try.f72) (finD gtys g72res kk) p s
def g72J11s (x0 : Int) (x1 x2 : Nat) (x3 : Int) (x4 : List Nat) (x5 : Int) (x6 : List Nat) (x7 : Int) (x8 x9 x10 : List Nat) : St := ⟨[(3, (pT 1001 0)), (4, (pT 1002 0)), (5, (pT 2000 0)), (6, (i6 x0)), (7, (u64v x1)), (9, (u64v x2)), (10, (i6 x3)), (14, (aN .u64 5 x4)), (15, (i6 x5)), (19, (aN .u64 5 x6)), (20, (i6 x7))], [(1001, (bU 5 x8 72)), (1002, (bU 5 x9 72)), (2000, (bU 10 x10 91))]⟩
def g72J11 {R : Type} (A : Ar) (n : Nat) (kk : AV → Heap → Option R) (lg72L3 : List Nat → Int → List Nat → List Nat → List Nat → Option R) (lg72L6 : Int → Nat → List Nat → Int → List Nat → Int → List Nat → List Nat → List Nat → Option R) (x0 : Int) (x1 x2 : Nat) (x3 : Int) (x4 : List Nat) (x5 : Int) (x6 : List Nat) (x7 : Int) (x8 x9 x10 : List Nat) : Option R :=
  match A.neg x3 with
  | true => none
  | false => match A.lt (A.toN x3) 5 with
    | true => match g80ok A ((A.toN x3) * 2) x1 x2 x10 with
      | true => lg72L6 x0 x1 x4 x5 x6 (A.ib .add .i64 x7 1) x8 x9 (g80r0 A ((A.toN x3) * 2) x1 x2 x10)
      | false => none
    | false => none
def g72J7s (x0 : Int) (x1 : Nat) (x2 : List Nat) (x3 : Int) (x4 : List Nat) (x5 : Int) (x6 x7 x8 : List Nat) : St := ⟨[(3, (pT 1001 0)), (4, (pT 1002 0)), (5, (pT 2000 0)), (6, (i6 x0)), (7, (u64v x1)), (14, (aN .u64 5 x2)), (15, (i6 x3)), (19, (aN .u64 5 x4)), (20, (i6 x5))], [(1001, (bU 5 x6 72)), (1002, (bU 5 x7 72)), (2000, (bU 10 x8 91))]⟩
def g72J7 {R : Type} (A : Ar) (n : Nat) (kk : AV → Heap → Option R) (lg72L3 : List Nat → Int → List Nat → List Nat → List Nat → Option R) (lg72L6 : Int → Nat → List Nat → Int → List Nat → Int → List Nat → List Nat → List Nat → Option R) (x0 : Int) (x1 : Nat) (x2 : List Nat) (x3 : Int) (x4 : List Nat) (x5 : Int) (x6 x7 x8 : List Nat) : Option R :=
  match A.neg x5 with
  | true => none
  | false => match A.lt (A.toN x5) 5 with
    | true => match A.ic .geq (A.ib .add .i64 x0 x5) 5 with
      | true => g72J11 A n kk lg72L3 lg72L6 x0 x1 (A.nb .mul .u64 (x4.getD (A.toN x5) 0) 19) (A.ib .sub .i64 (A.ib .add .i64 x0 x5) 5) x2 x3 x4 x5 x6 x7 x8
      | false => g72J11 A n kk lg72L3 lg72L6 x0 x1 (x4.getD (A.toN x5) 0) (A.ib .add .i64 x0 x5) x2 x3 x4 x5 x6 x7 x8
    | false => none
def g72L6s (x0 : Int) (x1 : Nat) (x2 : List Nat) (x3 : Int) (x4 : List Nat) (x5 : Int) (x6 x7 x8 : List Nat) : St := ⟨[(3, (pT 1001 0)), (4, (pT 1002 0)), (5, (pT 2000 0)), (6, (i6 x0)), (7, (u64v x1)), (14, (aN .u64 5 x2)), (15, (i6 x3)), (19, (aN .u64 5 x4)), (20, (i6 x5))], [(1001, (bU 5 x6 72)), (1002, (bU 5 x7 72)), (2000, (bU 10 x8 91))]⟩
def g72L6 {R : Type} (A : Ar) (n : Nat) (kk : AV → Heap → Option R) (lg72L3 : List Nat → Int → List Nat → List Nat → List Nat → Option R) : Nat → Int → Nat → List Nat → Int → List Nat → Int → List Nat → List Nat → List Nat → Option R
  | 0, _, _, _, _, _, _, _, _, _ => none
  | m + 1, x0, x1, x2, x3, x4, x5, x6, x7, x8 => match A.ic .lss x5 5 with
  | true => g72J7 A n kk lg72L3 (g72L6 A n kk lg72L3 m) x0 x1 x2 x3 x4 x5 x6 x7 x8
  | false => lg72L3 x2 (A.ib .add .i64 x3 1) x6 x7 x8
def g72J4s (x0 : List Nat) (x1 : Int) (x2 x3 x4 : List Nat) : St := ⟨[(3, (pT 1001 0)), (4, (pT 1002 0)), (5, (pT 2000 0)), (14, (aN .u64 5 x0)), (15, (i6 x1))], [(1001, (bU 5 x2 72)), (1002, (bU 5 x3 72)), (2000, (bU 10 x4 91))]⟩
def g72J4 {R : Type} (A : Ar) (n : Nat) (kk : AV → Heap → Option R) (lg72L3 : List Nat → Int → List Nat → List Nat → List Nat → Option R) (x0 : List Nat) (x1 : Int) (x2 x3 x4 : List Nat) : Option R :=
  match A.neg x1 with
  | true => none
  | false => match A.lt (A.toN x1) 5 with
    | true => g72L6 A n kk lg72L3 n x1 (x0.getD (A.toN x1) 0) x0 x1 x2 0 x2 x3 x4
    | false => none
def g72J18s (x0 : Nat) (x1 : Int) (x2 x3 x4 : List Nat) : St := ⟨[(4, (pT 1002 0)), (5, (pT 2000 0)), (11, (pT 15000 0)), (12, (u64v x0)), (40, (i6 x1))], [(1002, (bU 5 x2 72)), (2000, (bU 10 x3 91)), (15000, (bU 5 x4 72))]⟩
def g72J18 {R : Type} (A : Ar) (n : Nat) (kk : AV → Heap → Option R) (lg72L17 : Nat → Int → List Nat → List Nat → List Nat → Option R) (x0 : Nat) (x1 : Int) (x2 x3 x4 : List Nat) : Option R :=
  match A.neg x1 with
  | true => none
  | false => match A.lt (A.toN x1) 5 with
    | true => match g81ok A ((A.toN x1) * 2) x0 x3 with
      | true => match A.neg x1 with
        | true => none
        | false => match A.lt (A.toN x1) 5 with
          | true => match A.neg x1 with
            | true => none
            | false => match A.lt (A.toN x1) 5 with
              | true => match g82ok A (((g81r0 A ((A.toN x1) * 2) x0 x3).drop ((A.toN x1) * 2)).take 2) with
                | true => match A.neg x1 with
                  | true => none
                  | false => match A.lt (A.toN x1) 5 with
                    | true => lg72L17 (g82r0 A (((g81r0 A ((A.toN x1) * 2) x0 x3).drop ((A.toN x1) * 2)).take 2)) (A.ib .add .i64 x1 1) x2 (g81r0 A ((A.toN x1) * 2) x0 x3) (x4.set (A.toN x1) (A.nb .and .u64 ((g81r0 A ((A.toN x1) * 2) x0 x3).getD (((A.toN x1) * 2) + 1) 0) 2251799813685247))
                    | false => none
                | false => none
              | false => none
          | false => none
      | false => none
    | false => none
def g72J22s (x0 : Nat) (x1 x2 : List Nat) : St := ⟨[(4, (pT 1002 0)), (11, (pT 15000 0)), (12, (u64v x0))], [(1002, (bU 5 x1 72)), (15000, (bU 5 x2 72))]⟩
def g72J22 {R : Type} (A : Ar) (n : Nat) (kk : AV → Heap → Option R)  (x0 : Nat) (x1 x2 : List Nat) : Option R :=
  match g78ok A (x2.set 0 (A.nb .add .u64 (x2.getD 0 0) (A.nb .mul .u64 x0 19))) with
  | true => kk (aN .u64 5 (g78r0 A (x2.set 0 (A.nb .add .u64 (x2.getD 0 0) (A.nb .mul .u64 x0 19))))) [(1002, (bU 5 (g78r0 A (x2.set 0 (A.nb .add .u64 (x2.getD 0 0) (A.nb .mul .u64 x0 19)))) 72)), (15000, (bU 5 (x2.set 0 (A.nb .add .u64 (x2.getD 0 0) (A.nb .mul .u64 x0 19))) 72))]
  | false => none
def g72L17s (x0 : Nat) (x1 : Int) (x2 x3 x4 : List Nat) : St := ⟨[(4, (pT 1002 0)), (5, (pT 2000 0)), (11, (pT 15000 0)), (12, (u64v x0)), (40, (i6 x1))], [(1002, (bU 5 x2 72)), (2000, (bU 10 x3 91)), (15000, (bU 5 x4 72))]⟩
def g72L17 {R : Type} (A : Ar) (n : Nat) (kk : AV → Heap → Option R)  : Nat → Nat → Int → List Nat → List Nat → List Nat → Option R
  | 0, _, _, _, _, _ => none
  | m + 1, x0, x1, x2, x3, x4 => match A.ic .lss x1 5 with
  | true => g72J18 A n kk (g72L17 A n kk  m) x0 x1 x2 x3 x4
  | false => g72J22 A n kk  x0 x2 x4
def g72J14s (x0 x1 : List Nat) : St := ⟨[(4, (pT 1002 0)), (5, (pT 2000 0))], [(1002, (bU 5 x0 72)), (2000, (bU 10 x1 91))]⟩
def g72J14 {R : Type} (A : Ar) (n : Nat) (kk : AV → Heap → Option R)  (x0 x1 : List Nat) : Option R :=
  g72L17 A n kk  n 0 0 x0 x1 [0, 0, 0, 0, 0]
def g72L3s (x0 : List Nat) (x1 : Int) (x2 x3 x4 : List Nat) : St := ⟨[(3, (pT 1001 0)), (4, (pT 1002 0)), (5, (pT 2000 0)), (14, (aN .u64 5 x0)), (15, (i6 x1))], [(1001, (bU 5 x2 72)), (1002, (bU 5 x3 72)), (2000, (bU 10 x4 91))]⟩
def g72L3 {R : Type} (A : Ar) (n : Nat) (kk : AV → Heap → Option R)  : Nat → List Nat → Int → List Nat → List Nat → List Nat → Option R
  | 0, _, _, _, _, _ => none
  | m + 1, x0, x1, x2, x3, x4 => match A.ic .lss x1 5 with
  | true => g72J4 A n kk (g72L3 A n kk  m) x0 x1 x2 x3 x4
  | false => g72J14 A n kk  x3 x4
def g72 {R : Type} (A : Ar) (n : Nat) (kk : AV → Heap → Option R) (a b : List Nat) : Option R :=
  g72L3 A n kk  n a 0 b [0, 0, 0, 0, 0] [0, 0, 0, 0, 0, 0, 0, 0, 0, 0]
section
variable {R : Type} {A : Ar} {n : Nat} {kk : AV → Heap → Option R} {tb : Nat → List Bool → St → Option R} (st : Stp (g72N A kk) tb)
include st
theorem g72J11_go {lg72L3 : List Nat → Int → List Nat → List Nat → List Nat → Option R} {lg72L6 : Int → Nat → List Nat → Int → List Nat → Int → List Nat → List Nat → List Nat → Option R} (hg72L3 : ∀ (x0 : List Nat) (x1 : Int) (x2 x3 x4 : List Nat), Prs (fun k => tb k (pth 116) (g72L3s x0 x1 x2 x3 x4)) (lg72L3 x0 x1 x2 x3 x4)) (hg72L6 : ∀ (x0 : Int) (x1 : Nat) (x2 : List Nat) (x3 : Int) (x4 : List Nat) (x5 : Int) (x6 x7 x8 : List Nat), Prs (fun k => tb k (pth 29900) (g72L6s x0 x1 x2 x3 x4 x5 x6 x7 x8)) (lg72L6 x0 x1 x2 x3 x4 x5 x6 x7 x8)) {x0 : Int} {x1 : Nat} {x2 : Nat} {x3 : Int} {x4 : List Nat} {x5 : Int} {x6 : List Nat} {x7 : Int} {x8 : List Nat} {x9 : List Nat} {x10 : List Nat} : Prs (fun k => tb k (pth 3827303) (g72J11s x0 x1 x2 x3 x4 x5 x6 x7 x8 x9 x10)) (g72J11 A n kk lg72L3 lg72L6 x0 x1 x2 x3 x4 x5 x6 x7 x8 x9 x10) := by
  unfold g72J11
  exact st.g (pc (SxY05api _ pn (SxY05api _ (SxY05api _ (hg72L6 _ _ _ _ _ _ _ _ _) pn) pn)) (by kernel_rfl))
theorem g72J7_go {lg72L3 : List Nat → Int → List Nat → List Nat → List Nat → Option R} {lg72L6 : Int → Nat → List Nat → Int → List Nat → Int → List Nat → List Nat → List Nat → Option R} (hg72L3 : ∀ (x0 : List Nat) (x1 : Int) (x2 x3 x4 : List Nat), Prs (fun k => tb k (pth 116) (g72L3s x0 x1 x2 x3 x4)) (lg72L3 x0 x1 x2 x3 x4)) (hg72L6 : ∀ (x0 : Int) (x1 : Nat) (x2 : List Nat) (x3 : Int) (x4 : List Nat) (x5 : Int) (x6 x7 x8 : List Nat), Prs (fun k => tb k (pth 29900) (g72L6s x0 x1 x2 x3 x4 x5 x6 x7 x8)) (lg72L6 x0 x1 x2 x3 x4 x5 x6 x7 x8)) {x0 : Int} {x1 : Nat} {x2 : List Nat} {x3 : Int} {x4 : List Nat} {x5 : Int} {x6 : List Nat} {x7 : List Nat} {x8 : List Nat} : Prs (fun k => tb k (pth 119603) (g72J7s x0 x1 x2 x3 x4 x5 x6 x7 x8)) (g72J7 A n kk lg72L3 lg72L6 x0 x1 x2 x3 x4 x5 x6 x7 x8) := by
  unfold g72J7
  exact st.g (pc (SxY05api _ pn (SxY05api _ (SxY05api _ (g72J11_go st hg72L3 hg72L6) (g72J11_go st hg72L3 hg72L6)) pn)) (by kernel_rfl))
theorem g72L6_go {lg72L3 : List Nat → Int → List Nat → List Nat → List Nat → Option R} (hg72L3 : ∀ (x0 : List Nat) (x1 : Int) (x2 x3 x4 : List Nat), Prs (fun k => tb k (pth 116) (g72L3s x0 x1 x2 x3 x4)) (lg72L3 x0 x1 x2 x3 x4)) (m : Nat) : ∀ (x0 : Int) (x1 : Nat) (x2 : List Nat) (x3 : Int) (x4 : List Nat) (x5 : Int) (x6 x7 x8 : List Nat), Prs (fun k => tb k (pth 29900) (g72L6s x0 x1 x2 x3 x4 x5 x6 x7 x8)) (g72L6 A n kk lg72L3 m x0 x1 x2 x3 x4 x5 x6 x7 x8) := by
  induction m with
  | zero => intro x0 x1 x2 x3 x4 x5 x6 x7 x8; exact pn0
  | succ m ih =>
    intro x0 x1 x2 x3 x4 x5 x6 x7 x8; rw [g72L6]
    exact st.g (pc (SxY05api _ (g72J7_go st hg72L3 ih) (hg72L3 _ _ _ _ _)) (by kernel_rfl))
theorem g72J4_go {lg72L3 : List Nat → Int → List Nat → List Nat → List Nat → Option R} (hg72L3 : ∀ (x0 : List Nat) (x1 : Int) (x2 x3 x4 : List Nat), Prs (fun k => tb k (pth 116) (g72L3s x0 x1 x2 x3 x4)) (lg72L3 x0 x1 x2 x3 x4)) {x0 : List Nat} {x1 : Int} {x2 : List Nat} {x3 : List Nat} {x4 : List Nat} : Prs (fun k => tb k (pth 467) (g72J4s x0 x1 x2 x3 x4)) (g72J4 A n kk lg72L3 x0 x1 x2 x3 x4) := by
  unfold g72J4
  exact st.g (pc (SxY05api _ pn (SxY05api _ (g72L6_go st hg72L3 n _ _ _ _ _ _ _ _ _) pn)) (by kernel_rfl))
theorem g72J18_go {lg72L17 : Nat → Int → List Nat → List Nat → List Nat → Option R} (hg72L17 : ∀ (x0 : Nat) (x1 : Int) (x2 x3 x4 : List Nat), Prs (fun k => tb k (pth 1012) (g72L17s x0 x1 x2 x3 x4)) (lg72L17 x0 x1 x2 x3 x4)) {x0 : Nat} {x1 : Int} {x2 : List Nat} {x3 : List Nat} {x4 : List Nat} : Prs (fun k => tb k (pth 4051) (g72J18s x0 x1 x2 x3 x4)) (g72J18 A n kk lg72L17 x0 x1 x2 x3 x4) := by
  unfold g72J18
  exact st.g (pc (SxY05api _ pn (SxY05api _ (SxY05api _ (SxY05api _ pn (SxY05api _ (SxY05api _ pn (SxY05api _ (SxY05api _ (SxY05api _ pn (SxY05api _ (hg72L17 _ _ _ _ _) pn)) pn) pn)) pn)) pn) pn)) (by kernel_rfl))
theorem g72J22_go {x0 : Nat} {x1 : List Nat} {x2 : List Nat} : Prs (fun k => tb k (pth 127) (g72J22s x0 x1 x2)) (g72J22 A n kk x0 x1 x2) := by
  unfold g72J22
  exact st.g (pc (SxY05api _ (pf _) pn) (by kernel_rfl))
theorem g72L17_go (m : Nat) : ∀ (x0 : Nat) (x1 : Int) (x2 x3 x4 : List Nat), Prs (fun k => tb k (pth 1012) (g72L17s x0 x1 x2 x3 x4)) (g72L17 A n kk m x0 x1 x2 x3 x4) := by
  induction m with
  | zero => intro x0 x1 x2 x3 x4; exact pn0
  | succ m ih =>
    intro x0 x1 x2 x3 x4; rw [g72L17]
    exact st.g (pc (SxY05api _ (g72J18_go st ih) (g72J22_go st)) (by kernel_rfl))
theorem g72J14_go {x0 : List Nat} {x1 : List Nat} : Prs (fun k => tb k (pth 15) (g72J14s x0 x1)) (g72J14 A n kk x0 x1) := by
  unfold g72J14
  exact st.g (pc (g72L17_go st n _ _ _ _ _) (by kernel_rfl))
theorem g72L3_go (m : Nat) : ∀ (x0 : List Nat) (x1 : Int) (x2 x3 x4 : List Nat), Prs (fun k => tb k (pth 116) (g72L3s x0 x1 x2 x3 x4)) (g72L3 A n kk m x0 x1 x2 x3 x4) := by
  induction m with
  | zero => intro x0 x1 x2 x3 x4; exact pn0
  | succ m ih =>
    intro x0 x1 x2 x3 x4; rw [g72L3]
    exact st.g (pc (SxY05api _ (g72J4_go st ih) (g72J14_go st)) (by kernel_rfl))
theorem g72_go {a : List Nat} {b : List Nat} : Prs (fun k => funN A gtys (g72O A) g72an g72cut (bodyOf Try.f72) g72res [(aN .u64 5 a), (aN .u64 5 b)] [] kk (tb k)) (g72 A n kk a b) := by
  unfold g72
  exact pc (g72L3_go st n _ _ _ _ _) (by kernel_rfl)
end
def g72is (o : Option AV) : Bool := match o with
  | some (aN .u64 5 _) => true
  | _ => false
def g72g0 (o : Option AV) : List Nat := match o with
  | some (aN .u64 5 x) => x
  | _ => []
theorem g72is_spec {o : Option AV} (h : g72is o = true) : o = some (aN .u64 5 (g72g0 o)) := by
  unfold g72is at h
  split at h
  · rfl
  · cases h
def g72v (A : Ar) (a b : List Nat) : Option AV := g72 A (100000) (fun v _ => some v) a b
def g72ok (A : Ar) (a b : List Nat) : Bool := g72is (g72v A a b)
def g72r0 (A : Ar) (a b : List Nat) : List Nat := g72g0 (g72v A a b)
theorem g72ok_spec {A : Ar} {a b} (h : g72ok A a b = true) : g72v A a b = some (aN .u64 5 (g72r0 A a b)) := g72is_spec h
def g72o (A : Ar) (args : List AV) : Option (Bool × AV) := match args with
  | [.v (.agg [.nums .u64 n0 a]), .v (.agg [.nums .u64 n1 b])] => some (Nat.beq n0 5 && (Nat.beq n1 5 && (g72ok A a b)), .v (.agg [.nums .u64 5 (g72r0 A a b)]))
  | _ => none
theorem g72o_sound : ∀ args v, g72o realA args = some (true, v) → Fn1 Try.prog 72 args v := by
  intro args v h
  unfold g72o at h
  split at h
  · rename_i n0 a n1 b
    simp only [Option.some.injEq, Prod.mk.injEq] at h
    obtain ⟨hc, h⟩ := h
    subst h
    · skip
      simp only [Bool.and_eq_true] at hc
      have en0 := beq_true hc.1
      subst en0
      replace hc := hc.2
      have en1 := beq_true hc.1
      subst en1
      replace hc := hc.2
      exact fn1_ofG mixed gtysOK g72O_sound g72O_det (an := g72an) (cut := g72cut) Try.func72 (c := bodyOf Try.f72) rfl (by kernel_rfl) Try.call72 (Nat.le_of_ble_eq_true rfl) (fun b => rfl) (fun _ => (show g72v realA a b = _ from g72ok_spec hc)) fun _ st => g72_go st
  · cases h
attribute [local irreducible] g72ok g72r0
def g63O (A : Ar) : Orc := orcOf [(78, g78o A)]
theorem g63O_sound : OSound Try.prog (g63O realA) := orc_sound fun f g hm args v hv => by
  simp only [List.mem_cons, List.not_mem_nil, or_false, Prod.mk.injEq] at hm
  rcases hm with ⟨rfl, rfl⟩
  · exact g78o_sound _ _ hv
theorem g63O_det : ODet (g63O realA) := orc_det _
def g63an : Ann := [(0, ([0], [])), (1, ([1, 2], [1000, 1001])), (2, ([1, 2], [1000, 1001])), (3, ([1, 2, 3], [1000, 1001])), (4, ([1, 2, 3, 4], [1000, 1001])), (5, ([1, 2, 3, 4], [1000, 1001])), (6, ([1, 2, 3, 4], [1000, 1001])), (7, ([1, 2, 3], [1000, 1001])), (8, ([1, 2], [1000, 1001])), (9, ([1, 2, 5], [1000, 1001])), (10, ([1, 2, 5, 30], [1000, 1001])), (11, ([1, 2, 5, 30], [1000, 1001])), (12, ([1, 2, 5, 6, 30], [1000, 1001])), (13, ([1, 2, 6, 30], [1000, 1001])), (14, ([1, 2, 5, 6, 30], [1000, 1001])), (15, ([1, 2, 5, 30], [1000, 1001])), (16, ([1, 2], [1000, 1001]))]
def g63res : List ResultVar := [.cell 2 24]
def g63cut : List Nat := [6, 7, 11, 16]
noncomputable def g63N {R : Type} (A : Ar) (kk : AV → Heap → Option R) (t : List Bool → St → Option R) (p : List Bool) (s : St) : Option R := nodeN A gtys (g63O A) g63an g63cut t (bodyOf Try.f63) (finD gtys g63res kk) p s
def g63J6s (x0 : Nat) (x1 : Int) (x2 x3 : List Nat) : St := ⟨[(1, (pT 1000 0)), (2, (pT 1001 0)), (3, (u64v x0)), (4, (i6 x1))], [(1000, (bU 5 x2 72)), (1001, (bU 4 x3 24))]⟩
def g63J6 {R : Type} (A : Ar) (n : Nat) (kk : AV → Heap → Option R) (lg63L4 : Nat → Int → List Nat → List Nat → Option R) (x0 : Nat) (x1 : Int) (x2 x3 : List Nat) : Option R :=
  match A.neg x1 with
  | true => none
  | false => match A.lt (A.toN x1) 5 with
    | true => lg63L4 (A.nsh .shr .u64 (A.nb .add .u64 (x2.getD (A.toN x1) 0) x0) 51) (A.ib .add .i64 x1 1) x2 x3
    | false => none
def g63J11s (x0 : Nat) (x1 : Int) (x2 x3 : List Nat) : St := ⟨[(1, (pT 1000 0)), (2, (pT 1001 0)), (5, (u64v x0)), (30, (i6 x1))], [(1000, (bU 5 x2 72)), (1001, (bU 4 x3 24))]⟩
def g63J11 {R : Type} (A : Ar) (n : Nat) (kk : AV → Heap → Option R) (lg63L10 : Nat → Int → List Nat → List Nat → Option R) (x0 : Nat) (x1 : Int) (x2 x3 : List Nat) : Option R :=
  match A.neg x1 with
  | true => none
  | false => match A.lt (A.toN x1) 5 with
    | true => match A.neg x1 with
      | true => none
      | false => match A.lt (A.toN x1) 5 with
        | true => match A.neg x1 with
          | true => none
          | false => match A.lt (A.toN x1) 5 with
            | true => match A.neg x1 with
              | true => none
              | false => match A.lt (A.toN x1) 5 with
                | true => match A.neg x1 with
                  | true => none
                  | false => match A.lt (A.toN x1) 5 with
                    | true => lg63L10 (A.nsh .shr .u64 ((x2.set (A.toN x1) (A.nb .add .u64 (x2.getD (A.toN x1) 0) x0)).getD (A.toN x1) 0) 51) (A.ib .add .i64 x1 1) ((x2.set (A.toN x1) (A.nb .add .u64 (x2.getD (A.toN x1) 0) x0)).set (A.toN x1) (A.nb .and .u64 ((x2.set (A.toN x1) (A.nb .add .u64 (x2.getD (A.toN x1) 0) x0)).getD (A.toN x1) 0) 2251799813685247)) x3
                    | false => none
                | false => none
            | false => none
        | false => none
    | false => none
def g63J16s (x0 x1 : List Nat) : St := ⟨[(1, (pT 1000 0)), (2, (pT 1001 0))], [(1000, (bU 5 x0 72)), (1001, (bU 4 x1 24))]⟩
def g63J16 {R : Type} (A : Ar) (n : Nat) (kk : AV → Heap → Option R)  (x0 x1 : List Nat) : Option R :=
  kk (aN .u64 4 (((([0, 0, 0, 0].set 0 (A.nb .or .u64 (x0.getD 0 0) (A.nsh .shl .u64 (x0.getD 1 0) 51))).set 1 (A.nb .or .u64 (A.nsh .shr .u64 (x0.getD 1 0) 13) (A.nsh .shl .u64 (x0.getD 2 0) 38))).set 2 (A.nb .or .u64 (A.nsh .shr .u64 (x0.getD 2 0) 26) (A.nsh .shl .u64 (x0.getD 3 0) 25))).set 3 (A.nb .or .u64 (A.nsh .shr .u64 (x0.getD 3 0) 39) (A.nsh .shl .u64 (x0.getD 4 0) 12)))) [(1000, (bU 5 x0 72)), (1001, (bU 4 (((([0, 0, 0, 0].set 0 (A.nb .or .u64 (x0.getD 0 0) (A.nsh .shl .u64 (x0.getD 1 0) 51))).set 1 (A.nb .or .u64 (A.nsh .shr .u64 (x0.getD 1 0) 13) (A.nsh .shl .u64 (x0.getD 2 0) 38))).set 2 (A.nb .or .u64 (A.nsh .shr .u64 (x0.getD 2 0) 26) (A.nsh .shl .u64 (x0.getD 3 0) 25))).set 3 (A.nb .or .u64 (A.nsh .shr .u64 (x0.getD 3 0) 39) (A.nsh .shl .u64 (x0.getD 4 0) 12))) 24))]
def g63L10s (x0 : Nat) (x1 : Int) (x2 x3 : List Nat) : St := ⟨[(1, (pT 1000 0)), (2, (pT 1001 0)), (5, (u64v x0)), (30, (i6 x1))], [(1000, (bU 5 x2 72)), (1001, (bU 4 x3 24))]⟩
def g63L10 {R : Type} (A : Ar) (n : Nat) (kk : AV → Heap → Option R)  : Nat → Nat → Int → List Nat → List Nat → Option R
  | 0, _, _, _, _ => none
  | m + 1, x0, x1, x2, x3 => match A.ic .lss x1 5 with
  | true => g63J11 A n kk (g63L10 A n kk  m) x0 x1 x2 x3
  | false => g63J16 A n kk  x2 x3
def g63J7s (x0 : Nat) (x1 x2 : List Nat) : St := ⟨[(1, (pT 1000 0)), (2, (pT 1001 0)), (3, (u64v x0))], [(1000, (bU 5 x1 72)), (1001, (bU 4 x2 24))]⟩
def g63J7 {R : Type} (A : Ar) (n : Nat) (kk : AV → Heap → Option R)  (x0 : Nat) (x1 x2 : List Nat) : Option R :=
  g63L10 A n kk  n 0 0 (x1.set 0 (A.nb .add .u64 (x1.getD 0 0) (A.nb .mul .u64 19 x0))) x2
def g63L4s (x0 : Nat) (x1 : Int) (x2 x3 : List Nat) : St := ⟨[(1, (pT 1000 0)), (2, (pT 1001 0)), (3, (u64v x0)), (4, (i6 x1))], [(1000, (bU 5 x2 72)), (1001, (bU 4 x3 24))]⟩
def g63L4 {R : Type} (A : Ar) (n : Nat) (kk : AV → Heap → Option R)  : Nat → Nat → Int → List Nat → List Nat → Option R
  | 0, _, _, _, _ => none
  | m + 1, x0, x1, x2, x3 => match A.ic .lss x1 5 with
  | true => g63J6 A n kk (g63L4 A n kk  m) x0 x1 x2 x3
  | false => g63J7 A n kk  x0 x2 x3
def g63 {R : Type} (A : Ar) (n : Nat) (kk : AV → Heap → Option R) (a : List Nat) : Option R :=
  match g78ok A a with
  | true => match g78ok A (g78r0 A a) with
    | true => g63L4 A n kk  n (A.nsh .shr .u64 (A.nb .add .u64 ((g78r0 A (g78r0 A a)).getD 0 0) 19) 51) 1 (g78r0 A (g78r0 A a)) [0, 0, 0, 0]
    | false => none
  | false => none
section
variable {R : Type} {A : Ar} {n : Nat} {kk : AV → Heap → Option R} {tb : Nat → List Bool → St → Option R} (st : Stp (g63N A kk) tb)
include st
theorem g63J6_go {lg63L4 : Nat → Int → List Nat → List Nat → Option R} (hg63L4 : ∀ (x0 : Nat) (x1 : Int) (x2 x3 : List Nat), Prs (fun k => tb k (pth 244) (g63L4s x0 x1 x2 x3)) (lg63L4 x0 x1 x2 x3)) {x0 : Nat} {x1 : Int} {x2 : List Nat} {x3 : List Nat} : Prs (fun k => tb k (pth 489) (g63J6s x0 x1 x2 x3)) (g63J6 A n kk lg63L4 x0 x1 x2 x3) := by
  unfold g63J6
  exact st.g (pc (SxY05api _ pn (SxY05api _ (hg63L4 _ _ _ _) pn)) (by kernel_rfl))
theorem g63J11_go {lg63L10 : Nat → Int → List Nat → List Nat → Option R} (hg63L10 : ∀ (x0 : Nat) (x1 : Int) (x2 x3 : List Nat), Prs (fun k => tb k (pth 2036) (g63L10s x0 x1 x2 x3)) (lg63L10 x0 x1 x2 x3)) {x0 : Nat} {x1 : Int} {x2 : List Nat} {x3 : List Nat} : Prs (fun k => tb k (pth 8147) (g63J11s x0 x1 x2 x3)) (g63J11 A n kk lg63L10 x0 x1 x2 x3) := by
  unfold g63J11
  exact st.g (pc (SxY05api _ pn (SxY05api _ (SxY05api _ pn (SxY05api _ (SxY05api _ pn (SxY05api _ (SxY05api _ pn (SxY05api _ (SxY05api _ pn (SxY05api _ (hg63L10 _ _ _ _) pn)) pn)) pn)) pn)) pn)) (by kernel_rfl))
theorem g63J16_go {x0 : List Nat} {x1 : List Nat} : Prs (fun k => tb k (pth 255) (g63J16s x0 x1)) (g63J16 A n kk x0 x1) := by
  unfold g63J16
  exact st.g (pc (pf _) (by kernel_rfl))
theorem g63L10_go (m : Nat) : ∀ (x0 : Nat) (x1 : Int) (x2 x3 : List Nat), Prs (fun k => tb k (pth 2036) (g63L10s x0 x1 x2 x3)) (g63L10 A n kk m x0 x1 x2 x3) := by
  induction m with
  | zero => intro x0 x1 x2 x3; exact pn0
  | succ m ih =>
    intro x0 x1 x2 x3; rw [g63L10]
    exact st.g (pc (SxY05api _ (g63J11_go st ih) (g63J16_go st)) (by kernel_rfl))
theorem g63J7_go {x0 : Nat} {x1 : List Nat} {x2 : List Nat} : Prs (fun k => tb k (pth 31) (g63J7s x0 x1 x2)) (g63J7 A n kk x0 x1 x2) := by
  unfold g63J7
  exact st.g (pc (g63L10_go st n _ _ _ _) (by kernel_rfl))
theorem g63L4_go (m : Nat) : ∀ (x0 : Nat) (x1 : Int) (x2 x3 : List Nat), Prs (fun k => tb k (pth 244) (g63L4s x0 x1 x2 x3)) (g63L4 A n kk m x0 x1 x2 x3) := by
  induction m with
  | zero => intro x0 x1 x2 x3; exact pn0
  | succ m ih =>
    intro x0 x1 x2 x3; rw [g63L4]
    exact st.g (pc (SxY05api _ (g63J6_go st ih) (g63J7_go st)) (by kernel_rfl))
theorem g63_go {a : List Nat} : Prs (fun k => funN A gtys (g63O A) g63an g63cut (bodyOf Try.f63) g63res [(aN .u64 5 a)] [] kk (tb k)) (g63 A n kk a) := by
  unfold g63
  exact pc (SxY05api _ (SxY05api _ (g63L4_go st n _ _ _ _) pn) pn) (by kernel_rfl)
end
def g63is (o : Option AV) : Bool := match o with
  | some (aN .u64 4 _) => true
  | _ => false
def g63g0 (o : Option AV) : List Nat := match o with
  | some (aN .u64 4 x) => x
  | _ => []
theorem g63is_spec {o : Option AV} (h : g63is o = true) : o = some (aN .u64 4 (g63g0 o)) := by
  unfold g63is at h
  split at h
  · rfl
  · cases h
def g63v (A : Ar) (a : List Nat) : Option AV := g63 A (100000) (fun v _ => some v) a
def g63ok (A : Ar) (a : List Nat) : Bool := g63is (g63v A a)
def g63r0 (A : Ar) (a : List Nat) : List Nat := g63g0 (g63v A a)
theorem g63ok_spec {A : Ar} {a} (h : g63ok A a = true) : g63v A a = some (aN .u64 4 (g63r0 A a)) := g63is_spec h
def g63o (A : Ar) (args : List AV) : Option (Bool × AV) := match args with
  | [.v (.agg [.nums .u64 n0 a])] => some (Nat.beq n0 5 && (g63ok A a), .v (.agg [.nums .u64 4 (g63r0 A a)]))
  | _ => none
theorem g63o_sound : ∀ args v, g63o realA args = some (true, v) → Fn1 Try.prog 63 args v := by
  intro args v h
  unfold g63o at h
  split at h
  · rename_i n0 a
    simp only [Option.some.injEq, Prod.mk.injEq] at h
    obtain ⟨hc, h⟩ := h
    subst h
    · skip
      simp only [Bool.and_eq_true] at hc
      have en0 := beq_true hc.1
      subst en0
      replace hc := hc.2
      exact fn1_ofG mixed gtysOK g63O_sound g63O_det (an := g63an) (cut := g63cut) Try.func63 (c := bodyOf Try.f63) rfl (by kernel_rfl) Try.call63 (Nat.le_of_ble_eq_true rfl) (fun b => rfl) (fun _ => (show g63v realA a = _ from g63ok_spec hc)) fun _ st => g63_go st
  · cases h
attribute [local irreducible] g63ok g63r0
def g46O (A : Ar) : Orc := orcOf [(62, g62o A), (72, g72o A), (63, g63o A)]
theorem g46O_sound : OSound Try.prog (g46O realA) := orc_sound fun f g hm args v hv => by
  simp only [List.mem_cons, List.not_mem_nil, or_false, Prod.mk.injEq] at hm
  rcases hm with ⟨rfl, rfl⟩ | ⟨rfl, rfl⟩ | ⟨rfl, rfl⟩
  · exact g62o_sound _ _ hv
  · exact g72o_sound _ _ hv
  · exact g63o_sound _ _ hv
theorem g46O_det : ODet (g46O realA) := orc_det _
def g46an : Ann := [(0, ([0, 1], [])), (1, ([2, 3, 4], [1000, 1001, 1002]))]
def g46res : List ResultVar := [.cell 4 24]
def g46cut : List Nat := []
noncomputable def g46N {R : Type} (A : Ar) (kk : AV → Heap → Option R) (t : List Bool → St → Option R) (p : List Bool) (s : St) : Option R := nodeN A gtys (g46O A) g46an g46cut t (bodyOf Try.f46) (finD gtys g46res kk) p s
def g46 {R : Type} (A : Ar) (n : Nat) (kk : AV → Heap → Option R) (a b : List Nat) : Option R :=
  match g62ok A a with
  | true => match g62ok A b with
    | true => match g72ok A (g62r0 A a) (g62r0 A b) with
      | true => match g63ok A (g72r0 A (g62r0 A a) (g62r0 A b)) with
        | true => kk (aN .u64 4 (g63r0 A (g72r0 A (g62r0 A a) (g62r0 A b)))) [(1000, (bU 4 a 24)), (1001, (bU 4 b 24)), (1002, (bU 4 (g63r0 A (g72r0 A (g62r0 A a) (g62r0 A b))) 24))]
        | false => none
      | false => none
    | false => none
  | false => none
section
variable {R : Type} {A : Ar} {n : Nat} {kk : AV → Heap → Option R} {tb : Nat → List Bool → St → Option R} (st : Stp (g46N A kk) tb)
include st
theorem g46_go {a : List Nat} {b : List Nat} : Prs (fun k => funN A gtys (g46O A) g46an g46cut (bodyOf Try.f46) g46res [(aN .u64 4 a), (aN .u64 4 b)] [] kk (tb k)) (g46 A n kk a b) := by
  unfold g46
  exact pc (SxY05api _ (SxY05api _ (SxY05api _ (SxY05api _ (pf _) pn) pn) pn) pn) (by kernel_rfl)
end
def g46is (o : Option AV) : Bool := match o with
  | some (aN .u64 4 _) => true
  | _ => false
def g46g0 (o : Option AV) : List Nat := match o with
  | some (aN .u64 4 x) => x
  | _ => []
theorem g46is_spec {o : Option AV} (h : g46is o = true) : o = some (aN .u64 4 (g46g0 o)) := by
  unfold g46is at h
  split at h
  · rfl
  · cases h
def g46v (A : Ar) (a b : List Nat) : Option AV := g46 A (100000) (fun v _ => some v) a b
def g46ok (A : Ar) (a b : List Nat) : Bool := g46is (g46v A a b)
def g46r0 (A : Ar) (a b : List Nat) : List Nat := g46g0 (g46v A a b)
theorem g46ok_spec {A : Ar} {a b} (h : g46ok A a b = true) : g46v A a b = some (aN .u64 4 (g46r0 A a b)) := g46is_spec h
def g46o (A : Ar) (args : List AV) : Option (Bool × AV) := match args with
  | [.v (.agg [.nums .u64 n0 a]), .v (.agg [.nums .u64 n1 b])] => some (Nat.beq n0 4 && (Nat.beq n1 4 && (g46ok A a b)), .v (.agg [.nums .u64 4 (g46r0 A a b)]))
  | _ => none
theorem g46o_sound : ∀ args v, g46o realA args = some (true, v) → Fn1 Try.prog 46 args v := by
  intro args v h
  unfold g46o at h
  split at h
  · rename_i n0 a n1 b
    simp only [Option.some.injEq, Prod.mk.injEq] at h
    obtain ⟨hc, h⟩ := h
    subst h
    · skip
      simp only [Bool.and_eq_true] at hc
      have en0 := beq_true hc.1
      subst en0
      replace hc := hc.2
      have en1 := beq_true hc.1
      subst en1
      replace hc := hc.2
      exact fn1_ofG mixed gtysOK g46O_sound g46O_det (an := g46an) (cut := g46cut) Try.func46 (c := bodyOf Try.f46) rfl (by kernel_rfl) Try.call46 (Nat.le_of_ble_eq_true rfl) (fun b => rfl) (fun _ => (show g46v realA a b = _ from g46ok_spec hc)) fun _ st => g46_go st
  · cases h
attribute [local irreducible] g46ok g46r0
def g47O (A : Ar) : Orc := orcOf [(62, g62o A), (63, g63o A)]
theorem g47O_sound : OSound Try.prog (g47O realA) := orc_sound fun f g hm args v hv => by
  simp only [List.mem_cons, List.not_mem_nil, or_false, Prod.mk.injEq] at hm
  rcases hm with ⟨rfl, rfl⟩ | ⟨rfl, rfl⟩
  · exact g62o_sound _ _ hv
  · exact g63o_sound _ _ hv
theorem g47O_det : ODet (g47O realA) := orc_det _
def g47an : Ann := [(0, ([0, 1], [])), (1, ([2, 3, 4], [1000, 1001, 1002])), (2, ([4, 5, 6], [1002, 2004, 2005])), (3, ([4, 5, 6, 7], [1002, 2004, 2005, 3001])), (4, ([4, 5, 6, 7, 14], [1002, 2004, 2005, 3001])), (5, ([4, 5, 6, 7, 14], [1002, 2004, 2005, 3001])), (6, ([4, 5, 6, 7, 8, 14], [1002, 2004, 2005, 3001])), (7, ([4, 5, 6, 7, 14], [1002, 2004, 2005, 3001])), (8, ([4, 5], [1002, 2004]))]
def g47res : List ResultVar := [.cell 4 24]
def g47cut : List Nat := [5]
noncomputable def g47N {R : Type} (A : Ar) (kk : AV → Heap → Option R) (t : List Bool → St → Option R) (p : List Bool) (s : St) : Option R := nodeN A gtys (g47O A) g47an g47cut t (bodyOf Try.f47) (finD gtys g47res kk) p s
def g47J5s (x0 : Int) (x1 x2 : List Nat) (x3 x4 : List Nat) : St := ⟨[(4, (pT 1002 0)), (5, (pT 2004 0)), (6, (pT 2005 0)), (7, (pT 3001 0)), (14, (i6 x0))], [(1002, (bU 4 x1 24)), (2004, (bU 5 x2 72)), (2005, (bU 5 x3 72)), (3001, (bU 5 x4 72))]⟩
def g47J5 {R : Type} (A : Ar) (n : Nat) (kk : AV → Heap → Option R) (lg47L4 : Int → List Nat → List Nat → List Nat → List Nat → Option R) (x0 : Int) (x1 x2 : List Nat) (x3 x4 : List Nat) : Option R :=
  match A.neg x0 with
  | true => none
  | false => match A.lt (A.toN x0) 5 with
    | true => match A.neg x0 with
      | true => none
      | false => match A.lt (A.toN x0) 5 with
        | true => match A.neg x0 with
          | true => none
          | false => match A.lt (A.toN x0) 5 with
            | true => match A.neg x0 with
              | true => none
              | false => match A.lt (A.toN x0) 5 with
                | true => lg47L4 (A.ib .add .i64 x0 1) x1 (x2.set (A.toN x0) (A.nb .add .u64 (x2.getD (A.toN x0) 0) (A.nb .sub .u64 (x4.getD (A.toN x0) 0) (x3.getD (A.toN x0) 0)))) x3 x4
                | false => none
            | false => none
        | false => none
    | false => none
def g47L4s (x0 : Int) (x1 x2 : List Nat) (x3 x4 : List Nat) : St := ⟨[(4, (pT 1002 0)), (5, (pT 2004 0)), (6, (pT 2005 0)), (7, (pT 3001 0)), (14, (i6 x0))], [(1002, (bU 4 x1 24)), (2004, (bU 5 x2 72)), (2005, (bU 5 x3 72)), (3001, (bU 5 x4 72))]⟩
def g47L4 {R : Type} (A : Ar) (n : Nat) (kk : AV → Heap → Option R)  : Nat → Int → List Nat → List Nat → List Nat → List Nat → Option R
  | 0, _, _, _, _, _ => none
  | m + 1, x0, x1, x2, x3, x4 => match A.ic .lss x0 5 with
  | true => g47J5 A n kk (g47L4 A n kk  m) x0 x1 x2 x3 x4
  | false => match g63ok A x2 with
    | true => kk (aN .u64 4 (g63r0 A x2)) [(1002, (bU 4 (g63r0 A x2) 24)), (2004, (bU 5 x2 72))]
    | false => none
def g47 {R : Type} (A : Ar) (n : Nat) (kk : AV → Heap → Option R) (a b : List Nat) : Option R :=
  match g62ok A a with
  | true => match g62ok A b with
    | true => g47L4 A n kk  n 0 [0, 0, 0, 0] (g62r0 A a) (g62r0 A b) ((((([0, 0, 0, 0, 0].set 0 9007199254740916).set 1 9007199254740988).set 2 9007199254740988).set 3 9007199254740988).set 4 9007199254740988)
    | false => none
  | false => none
section
variable {R : Type} {A : Ar} {n : Nat} {kk : AV → Heap → Option R} {tb : Nat → List Bool → St → Option R} (st : Stp (g47N A kk) tb)
include st
theorem g47J5_go {lg47L4 : Int → List Nat → List Nat → List Nat → List Nat → Option R} (hg47L4 : ∀ (x0 : Int) (x1 x2 : List Nat) (x3 x4 : List Nat), Prs (fun k => tb k (pth 244) (g47L4s x0 x1 x2 x3 x4)) (lg47L4 x0 x1 x2 x3 x4)) {x0 : Int} {x1 : List Nat} {x2 : List Nat} {x3 : List Nat} {x4 : List Nat} : Prs (fun k => tb k (pth 979) (g47J5s x0 x1 x2 x3 x4)) (g47J5 A n kk lg47L4 x0 x1 x2 x3 x4) := by
  unfold g47J5
  exact st.g (pc (SxY05api _ pn (SxY05api _ (SxY05api _ pn (SxY05api _ (SxY05api _ pn (SxY05api _ (SxY05api _ pn (SxY05api _ (hg47L4 _ _ _ _ _) pn)) pn)) pn)) pn)) (by kernel_rfl))
theorem g47L4_go (m : Nat) : ∀ (x0 : Int) (x1 x2 : List Nat) (x3 x4 : List Nat), Prs (fun k => tb k (pth 244) (g47L4s x0 x1 x2 x3 x4)) (g47L4 A n kk m x0 x1 x2 x3 x4) := by
  induction m with
  | zero => intro x0 x1 x2 x3 x4; exact pn0
  | succ m ih =>
    intro x0 x1 x2 x3 x4; rw [g47L4]
    exact st.g (pc (SxY05api _ (g47J5_go st ih) (SxY05api _ (pf _) pn)) (by kernel_rfl))
theorem g47_go {a : List Nat} {b : List Nat} : Prs (fun k => funN A gtys (g47O A) g47an g47cut (bodyOf Try.f47) g47res [(aN .u64 4 a), (aN .u64 4 b)] [] kk (tb k)) (g47 A n kk a b) := by
  unfold g47
  exact pc (SxY05api _ (SxY05api _ (g47L4_go st n _ _ _ _ _) pn) pn) (by kernel_rfl)
end
def g47is (o : Option AV) : Bool := match o with
  | some (aN .u64 4 _) => true
  | _ => false
def g47g0 (o : Option AV) : List Nat := match o with
  | some (aN .u64 4 x) => x
  | _ => []
theorem g47is_spec {o : Option AV} (h : g47is o = true) : o = some (aN .u64 4 (g47g0 o)) := by
  unfold g47is at h
  split at h
  · rfl
  · cases h
def g47v (A : Ar) (a b : List Nat) : Option AV := g47 A (100000) (fun v _ => some v) a b
def g47ok (A : Ar) (a b : List Nat) : Bool := g47is (g47v A a b)
def g47r0 (A : Ar) (a b : List Nat) : List Nat := g47g0 (g47v A a b)
theorem g47ok_spec {A : Ar} {a b} (h : g47ok A a b = true) : g47v A a b = some (aN .u64 4 (g47r0 A a b)) := g47is_spec h
def g47o (A : Ar) (args : List AV) : Option (Bool × AV) := match args with
  | [.v (.agg [.nums .u64 n0 a]), .v (.agg [.nums .u64 n1 b])] => some (Nat.beq n0 4 && (Nat.beq n1 4 && (g47ok A a b)), .v (.agg [.nums .u64 4 (g47r0 A a b)]))
  | _ => none
theorem g47o_sound : ∀ args v, g47o realA args = some (true, v) → Fn1 Try.prog 47 args v := by
  intro args v h
  unfold g47o at h
  split at h
  · rename_i n0 a n1 b
    simp only [Option.some.injEq, Prod.mk.injEq] at h
    obtain ⟨hc, h⟩ := h
    subst h
    · skip
      simp only [Bool.and_eq_true] at hc
      have en0 := beq_true hc.1
      subst en0
      replace hc := hc.2
      have en1 := beq_true hc.1
      subst en1
      replace hc := hc.2
      exact fn1_ofG mixed gtysOK g47O_sound g47O_det (an := g47an) (cut := g47cut) Try.func47 (c := bodyOf Try.f47) rfl (by kernel_rfl) Try.call47 (Nat.le_of_ble_eq_true rfl) (fun b => rfl) (fun _ => (show g47v realA a b = _ from g47ok_spec hc)) fun _ st => g47_go st
  · cases h
attribute [local irreducible] g47ok g47r0
def g66O (A : Ar) : Orc := orcOf [(62, g62o A), (63, g63o A)]
theorem g66O_sound : OSound Try.prog (g66O realA) := orc_sound fun f g hm args v hv => by
  simp only [List.mem_cons, List.not_mem_nil, or_false, Prod.mk.injEq] at hm
  rcases hm with ⟨rfl, rfl⟩ | ⟨rfl, rfl⟩
  · exact g62o_sound _ _ hv
  · exact g63o_sound _ _ hv
theorem g66O_det : ODet (g66O realA) := orc_det _
def g66an : Ann := [(0, ([0, 1], [])), (1, ([2, 3, 4], [1000, 1001, 1002])), (2, ([4, 5, 6], [1002, 2004, 2005])), (3, ([4, 5, 6, 12], [1002, 2004, 2005])), (4, ([4, 5, 6, 12], [1002, 2004, 2005])), (5, ([4, 5, 6, 7, 12], [1002, 2004, 2005])), (6, ([4, 5, 6, 12], [1002, 2004, 2005])), (7, ([4, 5], [1002, 2004]))]
def g66res : List ResultVar := [.cell 4 24]
def g66cut : List Nat := [4]
noncomputable def g66N {R : Type} (A : Ar) (kk : AV → Heap → Option R) (t : List Bool → St → Option R) (p : List Bool) (s : St) : Option R := nodeN A gtys (g66O A) g66an g66cut t (bodyOf Try.f66) (finD gtys g66res kk) p s
def g66J4s (x0 : Int) (x1 x2 x3 : List Nat) : St := ⟨[(4, (pT 1002 0)), (5, (pT 2004 0)), (6, (pT 2005 0)), (12, (i6 x0))], [(1002, (bU 4 x1 24)), (2004, (bU 5 x2 72)), (2005, (bU 5 x3 72))]⟩
def g66J4 {R : Type} (A : Ar) (n : Nat) (kk : AV → Heap → Option R) (lg66L3 : Int → List Nat → List Nat → List Nat → Option R) (x0 : Int) (x1 x2 x3 : List Nat) : Option R :=
  match A.neg x0 with
  | true => none
  | false => match A.lt (A.toN x0) 5 with
    | true => match A.neg x0 with
      | true => none
      | false => match A.lt (A.toN x0) 5 with
        | true => match A.neg x0 with
          | true => none
          | false => match A.lt (A.toN x0) 5 with
            | true => lg66L3 (A.ib .add .i64 x0 1) x1 (x2.set (A.toN x0) (A.nb .add .u64 (x2.getD (A.toN x0) 0) (x3.getD (A.toN x0) 0))) x3
            | false => none
        | false => none
    | false => none
def g66L3s (x0 : Int) (x1 x2 x3 : List Nat) : St := ⟨[(4, (pT 1002 0)), (5, (pT 2004 0)), (6, (pT 2005 0)), (12, (i6 x0))], [(1002, (bU 4 x1 24)), (2004, (bU 5 x2 72)), (2005, (bU 5 x3 72))]⟩
def g66L3 {R : Type} (A : Ar) (n : Nat) (kk : AV → Heap → Option R)  : Nat → Int → List Nat → List Nat → List Nat → Option R
  | 0, _, _, _, _ => none
  | m + 1, x0, x1, x2, x3 => match A.ic .lss x0 5 with
  | true => g66J4 A n kk (g66L3 A n kk  m) x0 x1 x2 x3
  | false => match g63ok A x2 with
    | true => kk (aN .u64 4 (g63r0 A x2)) [(1002, (bU 4 (g63r0 A x2) 24)), (2004, (bU 5 x2 72))]
    | false => none
def g66 {R : Type} (A : Ar) (n : Nat) (kk : AV → Heap → Option R) (a b : List Nat) : Option R :=
  match g62ok A a with
  | true => match g62ok A b with
    | true => g66L3 A n kk  n 0 [0, 0, 0, 0] (g62r0 A a) (g62r0 A b)
    | false => none
  | false => none
section
variable {R : Type} {A : Ar} {n : Nat} {kk : AV → Heap → Option R} {tb : Nat → List Bool → St → Option R} (st : Stp (g66N A kk) tb)
include st
theorem g66J4_go {lg66L3 : Int → List Nat → List Nat → List Nat → Option R} (hg66L3 : ∀ (x0 : Int) (x1 x2 x3 : List Nat), Prs (fun k => tb k (pth 116) (g66L3s x0 x1 x2 x3)) (lg66L3 x0 x1 x2 x3)) {x0 : Int} {x1 : List Nat} {x2 : List Nat} {x3 : List Nat} : Prs (fun k => tb k (pth 467) (g66J4s x0 x1 x2 x3)) (g66J4 A n kk lg66L3 x0 x1 x2 x3) := by
  unfold g66J4
  exact st.g (pc (SxY05api _ pn (SxY05api _ (SxY05api _ pn (SxY05api _ (SxY05api _ pn (SxY05api _ (hg66L3 _ _ _ _) pn)) pn)) pn)) (by kernel_rfl))
theorem g66L3_go (m : Nat) : ∀ (x0 : Int) (x1 x2 x3 : List Nat), Prs (fun k => tb k (pth 116) (g66L3s x0 x1 x2 x3)) (g66L3 A n kk m x0 x1 x2 x3) := by
  induction m with
  | zero => intro x0 x1 x2 x3; exact pn0
  | succ m ih =>
    intro x0 x1 x2 x3; rw [g66L3]
    exact st.g (pc (SxY05api _ (g66J4_go st ih) (SxY05api _ (pf _) pn)) (by kernel_rfl))
theorem g66_go {a : List Nat} {b : List Nat} : Prs (fun k => funN A gtys (g66O A) g66an g66cut (bodyOf Try.f66) g66res [(aN .u64 4 a), (aN .u64 4 b)] [] kk (tb k)) (g66 A n kk a b) := by
  unfold g66
  exact pc (SxY05api _ (SxY05api _ (g66L3_go st n _ _ _ _) pn) pn) (by kernel_rfl)
end
def g66is (o : Option AV) : Bool := match o with
  | some (aN .u64 4 _) => true
  | _ => false
def g66g0 (o : Option AV) : List Nat := match o with
  | some (aN .u64 4 x) => x
  | _ => []
theorem g66is_spec {o : Option AV} (h : g66is o = true) : o = some (aN .u64 4 (g66g0 o)) := by
  unfold g66is at h
  split at h
  · rfl
  · cases h
def g66v (A : Ar) (a b : List Nat) : Option AV := g66 A (100000) (fun v _ => some v) a b
def g66ok (A : Ar) (a b : List Nat) : Bool := g66is (g66v A a b)
def g66r0 (A : Ar) (a b : List Nat) : List Nat := g66g0 (g66v A a b)
theorem g66ok_spec {A : Ar} {a b} (h : g66ok A a b = true) : g66v A a b = some (aN .u64 4 (g66r0 A a b)) := g66is_spec h
def g66o (A : Ar) (args : List AV) : Option (Bool × AV) := match args with
  | [.v (.agg [.nums .u64 n0 a]), .v (.agg [.nums .u64 n1 b])] => some (Nat.beq n0 4 && (Nat.beq n1 4 && (g66ok A a b)), .v (.agg [.nums .u64 4 (g66r0 A a b)]))
  | _ => none
theorem g66o_sound : ∀ args v, g66o realA args = some (true, v) → Fn1 Try.prog 66 args v := by
  intro args v h
  unfold g66o at h
  split at h
  · rename_i n0 a n1 b
    simp only [Option.some.injEq, Prod.mk.injEq] at h
    obtain ⟨hc, h⟩ := h
    subst h
    · skip
      simp only [Bool.and_eq_true] at hc
      have en0 := beq_true hc.1
      subst en0
      replace hc := hc.2
      have en1 := beq_true hc.1
      subst en1
      replace hc := hc.2
      exact fn1_ofG mixed gtysOK g66O_sound g66O_det (an := g66an) (cut := g66cut) Try.func66 (c := bodyOf Try.f66) rfl (by kernel_rfl) Try.call66 (Nat.le_of_ble_eq_true rfl) (fun b => rfl) (fun _ => (show g66v realA a b = _ from g66ok_spec hc)) fun _ st => g66_go st
  · cases h
attribute [local irreducible] g66ok g66r0
def g43O (A : Ar) : Orc := orcOf [(47, g47o A)]
theorem g43O_sound : OSound Try.prog (g43O realA) := orc_sound fun f g hm args v hv => by
  simp only [List.mem_cons, List.not_mem_nil, or_false, Prod.mk.injEq] at hm
  rcases hm with ⟨rfl, rfl⟩
  · exact g47o_sound _ _ hv
theorem g43O_det : ODet (g43O realA) := orc_det _
def g43an : Ann := [(0, ([0], [])), (1, ([1, 2], [1000, 1001]))]
def g43res : List ResultVar := [.cell 2 24]
def g43cut : List Nat := []
noncomputable def g43N {R : Type} (A : Ar) (kk : AV → Heap → Option R) (t : List Bool → St → Option R) (p : List Bool) (s : St) : Option R := nodeN A gtys (g43O A) g43an g43cut t (bodyOf Try.f43) (finD gtys g43res kk) p s
def g43 {R : Type} (A : Ar) (n : Nat) (kk : AV → Heap → Option R) (a : List Nat) : Option R :=
  match g47ok A [0, 0, 0, 0] a with
  | true => kk (aN .u64 4 (g47r0 A [0, 0, 0, 0] a)) [(1000, (bU 4 a 24)), (1001, (bU 4 (g47r0 A [0, 0, 0, 0] a) 24))]
  | false => none
section
variable {R : Type} {A : Ar} {n : Nat} {kk : AV → Heap → Option R} {tb : Nat → List Bool → St → Option R} (st : Stp (g43N A kk) tb)
include st
theorem g43_go {a : List Nat} : Prs (fun k => funN A gtys (g43O A) g43an g43cut (bodyOf Try.f43) g43res [(aN .u64 4 a)] [] kk (tb k)) (g43 A n kk a) := by
  unfold g43
  exact pc (SxY05api _ (pf _) pn) (by kernel_rfl)
end
def g43is (o : Option AV) : Bool := match o with
  | some (aN .u64 4 _) => true
  | _ => false
def g43g0 (o : Option AV) : List Nat := match o with
  | some (aN .u64 4 x) => x
  | _ => []
theorem g43is_spec {o : Option AV} (h : g43is o = true) : o = some (aN .u64 4 (g43g0 o)) := by
  unfold g43is at h
  split at h
  · rfl
  · cases h
def g43v (A : Ar) (a : List Nat) : Option AV := g43 A (100000) (fun v _ => some v) a
def g43ok (A : Ar) (a : List Nat) : Bool := g43is (g43v A a)
def g43r0 (A : Ar) (a : List Nat) : List Nat := g43g0 (g43v A a)
theorem g43ok_spec {A : Ar} {a} (h : g43ok A a = true) : g43v A a = some (aN .u64 4 (g43r0 A a)) := g43is_spec h
def g43o (A : Ar) (args : List AV) : Option (Bool × AV) := match args with
  | [.v (.agg [.nums .u64 n0 a])] => some (Nat.beq n0 4 && (g43ok A a), .v (.agg [.nums .u64 4 (g43r0 A a)]))
  | _ => none
theorem g43o_sound : ∀ args v, g43o realA args = some (true, v) → Fn1 Try.prog 43 args v := by
  intro args v h
  unfold g43o at h
  split at h
  · rename_i n0 a
    simp only [Option.some.injEq, Prod.mk.injEq] at h
    obtain ⟨hc, h⟩ := h
    subst h
    · skip
      simp only [Bool.and_eq_true] at hc
      have en0 := beq_true hc.1
      subst en0
      replace hc := hc.2
      exact fn1_ofG mixed gtysOK g43O_sound g43O_det (an := g43an) (cut := g43cut) Try.func43 (c := bodyOf Try.f43) rfl (by kernel_rfl) Try.call43 (Nat.le_of_ble_eq_true rfl) (fun b => rfl) (fun _ => (show g43v realA a = _ from g43ok_spec hc)) fun _ st => g43_go st
  · cases h
attribute [local irreducible] g43ok g43r0
def g45O (A : Ar) : Orc := orcOf [(62, g62o A), (63, g63o A)]
theorem g45O_sound : OSound Try.prog (g45O realA) := orc_sound fun f g hm args v hv => by
  simp only [List.mem_cons, List.not_mem_nil, or_false, Prod.mk.injEq] at hm
  rcases hm with ⟨rfl, rfl⟩ | ⟨rfl, rfl⟩
  · exact g62o_sound _ _ hv
  · exact g63o_sound _ _ hv
theorem g45O_det : ODet (g45O realA) := orc_det _
def g45an : Ann := [(0, ([0], [])), (1, ([1], [1000]))]
def g45res : List ResultVar := [.tmp 2]
def g45cut : List Nat := []
noncomputable def g45N {R : Type} (A : Ar) (kk : AV → Heap → Option R) (t : List Bool → St → Option R) (p : List Bool) (s : St) : Option R := nodeN A gtys (g45O A) g45an g45cut t (bodyOf Try.f45) (finD gtys g45res kk) p s
def g45 {R : Type} (A : Ar) (n : Nat) (kk : AV → Heap → Option R) (a : List Nat) : Option R :=
  match g62ok A a with
  | true => match g63ok A (g62r0 A a) with
    | true => kk (bO ((A.lq (g63r0 A (g62r0 A a)) a) && true)) [(1000, (bU 4 a 24))]
    | false => none
  | false => none
section
variable {R : Type} {A : Ar} {n : Nat} {kk : AV → Heap → Option R} {tb : Nat → List Bool → St → Option R} (st : Stp (g45N A kk) tb)
include st
theorem g45_go {a : List Nat} : Prs (fun k => funN A gtys (g45O A) g45an g45cut (bodyOf Try.f45) g45res [(aN .u64 4 a)] [] kk (tb k)) (g45 A n kk a) := by
  unfold g45
  exact pc (SxY05api _ (SxY05api _ (pf _) pn) pn) (by kernel_rfl)
end
def g45is (o : Option AV) : Bool := match o with
  | some (.v (.cell (.bool _))) => true
  | _ => false
def g45g0 (o : Option AV) : Bool := match o with
  | some (.v (.cell (.bool x))) => x
  | _ => false
theorem g45is_spec {o : Option AV} (h : g45is o = true) : o = some (.v (.cell (.bool (g45g0 o)))) := by
  unfold g45is at h
  split at h
  · rfl
  · cases h
def g45v (A : Ar) (a : List Nat) : Option AV := g45 A (100000) (fun v _ => some v) a
def g45ok (A : Ar) (a : List Nat) : Bool := g45is (g45v A a)
def g45r0 (A : Ar) (a : List Nat) : Bool := g45g0 (g45v A a)
theorem g45ok_spec {A : Ar} {a} (h : g45ok A a = true) : g45v A a = some (.v (.cell (.bool (g45r0 A a)))) := g45is_spec h
def g45o (A : Ar) (args : List AV) : Option (Bool × AV) := match args with
  | [.v (.agg [.nums .u64 n0 a])] => some (Nat.beq n0 4 && (g45ok A a), .v (.cell (.bool (g45r0 A a))))
  | _ => none
theorem g45o_sound : ∀ args v, g45o realA args = some (true, v) → Fn1 Try.prog 45 args v := by
  intro args v h
  unfold g45o at h
  split at h
  · rename_i n0 a
    simp only [Option.some.injEq, Prod.mk.injEq] at h
    obtain ⟨hc, h⟩ := h
    subst h
    · skip
      simp only [Bool.and_eq_true] at hc
      have en0 := beq_true hc.1
      subst en0
      replace hc := hc.2
      exact fn1_ofG mixed gtysOK g45O_sound g45O_det (an := g45an) (cut := g45cut) Try.func45 (c := bodyOf Try.f45) rfl (by kernel_rfl) Try.call45 (Nat.le_of_ble_eq_true rfl) (fun b => rfl) (fun _ => (show g45v realA a = _ from g45ok_spec hc)) fun _ st => g45_go st
  · cases h
attribute [local irreducible] g45ok g45r0
def g48O (A : Ar) : Orc := orcOf []
theorem g48O_sound : OSound Try.prog (g48O realA) := orc_sound fun f g hm args v hv => by
  cases hm
theorem g48O_det : ODet (g48O realA) := orc_det _
def g48an : Ann := [(0, ([0], [])), (1, ([0, 2], [1000]))]
def g48res : List ResultVar := [.cell 2 24]
def g48cut : List Nat := []
noncomputable def g48N {R : Type} (A : Ar) (kk : AV → Heap → Option R) (t : List Bool → St → Option R) (p : List Bool) (s : St) : Option R := nodeN A gtys (g48O A) g48an g48cut t (bodyOf Try.f48) (finD gtys g48res kk) p s
def g48 {R : Type} (A : Ar) (n : Nat) (kk : AV → Heap → Option R) (a : Nat) : Option R :=
  kk (aN .u64 4 ([0, 0, 0, 0].set 0 a)) [(1000, (bU 4 ([0, 0, 0, 0].set 0 a) 24))]
section
variable {R : Type} {A : Ar} {n : Nat} {kk : AV → Heap → Option R} {tb : Nat → List Bool → St → Option R} (st : Stp (g48N A kk) tb)
include st
theorem g48_go {a : Nat} : Prs (fun k => funN A gtys (g48O A) g48an g48cut (bodyOf Try.f48) g48res [(u64v a)] [] kk (tb k)) (g48 A n kk a) := by
  unfold g48
  exact pc (pf _) (by kernel_rfl)
end
def g48is (o : Option AV) : Bool := match o with
  | some (aN .u64 4 _) => true
  | _ => false
def g48g0 (o : Option AV) : List Nat := match o with
  | some (aN .u64 4 x) => x
  | _ => []
theorem g48is_spec {o : Option AV} (h : g48is o = true) : o = some (aN .u64 4 (g48g0 o)) := by
  unfold g48is at h
  split at h
  · rfl
  · cases h
def g48v (A : Ar) (a : Nat) : Option AV := g48 A (100000) (fun v _ => some v) a
def g48ok (A : Ar) (a : Nat) : Bool := g48is (g48v A a)
def g48r0 (A : Ar) (a : Nat) : List Nat := g48g0 (g48v A a)
theorem g48ok_spec {A : Ar} {a} (h : g48ok A a = true) : g48v A a = some (aN .u64 4 (g48r0 A a)) := g48is_spec h
def g48o (A : Ar) (args : List AV) : Option (Bool × AV) := match args with
  | [.v (.cell (.nat .u64 a))] => some (g48ok A a, .v (.agg [.nums .u64 4 (g48r0 A a)]))
  | _ => none
theorem g48o_sound : ∀ args v, g48o realA args = some (true, v) → Fn1 Try.prog 48 args v := by
  intro args v h
  unfold g48o at h
  split at h
  · rename_i a
    simp only [Option.some.injEq, Prod.mk.injEq] at h
    obtain ⟨hc, h⟩ := h
    subst h
    · skip
      exact fn1_ofG mixed gtysOK g48O_sound g48O_det (an := g48an) (cut := g48cut) Try.func48 (c := bodyOf Try.f48) rfl (by kernel_rfl) Try.call48 (Nat.le_of_ble_eq_true rfl) (fun b => rfl) (fun _ => (show g48v realA a = _ from g48ok_spec hc)) fun _ st => g48_go st
  · cases h
attribute [local irreducible] g48ok g48r0
def g83O (A : Ar) : Orc := orcOf [(72, g72o A)]
theorem g83O_sound : OSound Try.prog (g83O realA) := orc_sound fun f g hm args v hv => by
  simp only [List.mem_cons, List.not_mem_nil, or_false, Prod.mk.injEq] at hm
  rcases hm with ⟨rfl, rfl⟩
  · exact g72o_sound _ _ hv
theorem g83O_det : ODet (g83O realA) := orc_det _
def g83an : Ann := [(0, ([0, 1], [])), (1, ([2, 3, 4], [1000, 1001, 1002])), (2, ([2, 3, 4, 5], [1000, 1001, 1002, 2001])), (3, ([2, 3, 4, 5, 9, 10], [1000, 1001, 1002, 2001])), (4, ([2, 3, 4, 5, 9, 10], [1000, 1001, 1002, 2001])), (5, ([2, 3, 4, 5, 6, 7, 9, 10], [1000, 1001, 1002, 2001])), (6, ([2, 3, 4, 5, 6, 7, 9, 10, 14], [1000, 1001, 1002, 2001])), (7, ([2, 3, 4, 5, 6, 7, 9, 10, 14], [1000, 1001, 1002, 2001])), (8, ([2, 3, 4, 5, 6, 7, 9, 10, 14], [1000, 1001, 1002, 2001])), (9, ([2, 3, 4, 5, 6, 7, 9, 10, 14], [1000, 1001, 1002, 2001])), (10, ([2, 3, 4, 5, 6, 7, 9, 10, 14], [1000, 1001, 1002, 2001])), (11, ([2, 3, 4, 5, 6, 7, 9, 10, 14], [1000, 1001, 1002, 2001])), (12, ([2, 3, 4, 5, 9, 10], [1000, 1001, 1002, 2001])), (13, ([4, 5], [1002, 2001]))]
def g83res : List ResultVar := [.cell 4 72]
def g83cut : List Nat := [4, 7, 8, 10]
noncomputable def g83N {R : Type} (A : Ar) (kk : AV → Heap → Option R) (t : List Bool → St → Option R) (p : List Bool) (s : St) : Option R := nodeN A gtys (g83O A) g83an g83cut t (bodyOf Try.f83) (finD gtys g83res kk) p s
def g83J10s (x0 : Int) (x1 : Nat) (x2 : List Nat) (x3 x4 : Int) (x5 x6 : List Nat) (x7 x8 : List Nat) : St := ⟨[(2, (pT 1000 0)), (3, (pT 1001 0)), (4, (pT 1002 0)), (5, (pT 2001 0)), (6, (i6 x0)), (7, (u64v x1)), (9, (aN .u64 4 x2)), (10, (i6 x3)), (14, (i6 x4))], [(1000, (bU 5 x5 72)), (1001, (bU 4 x6 23)), (1002, (bU 5 x7 72)), (2001, (bU 5 x8 72))]⟩
def g83J10 {R : Type} (A : Ar) (n : Nat) (kk : AV → Heap → Option R) (lg83L3 : List Nat → Int → List Nat → List Nat → List Nat → List Nat → Option R) (lg83L6 : Int → Nat → List Nat → Int → Int → List Nat → List Nat → List Nat → List Nat → Option R) (x0 : Int) (x1 : Nat) (x2 : List Nat) (x3 x4 : Int) (x5 x6 : List Nat) (x7 x8 : List Nat) : Option R :=
  match g72ok A x5 x5 with
  | true => lg83L6 x0 (A.nsh .shr .u64 x1 1) x2 x3 (A.ib .add .i64 x4 1) (g72r0 A x5 x5) x6 x7 x8
  | false => none
def g83J8s (x0 : Int) (x1 : Nat) (x2 : List Nat) (x3 x4 : Int) (x5 x6 : List Nat) (x7 x8 : List Nat) : St := ⟨[(2, (pT 1000 0)), (3, (pT 1001 0)), (4, (pT 1002 0)), (5, (pT 2001 0)), (6, (i6 x0)), (7, (u64v x1)), (9, (aN .u64 4 x2)), (10, (i6 x3)), (14, (i6 x4))], [(1000, (bU 5 x5 72)), (1001, (bU 4 x6 23)), (1002, (bU 5 x7 72)), (2001, (bU 5 x8 72))]⟩
def g83J8 {R : Type} (A : Ar) (n : Nat) (kk : AV → Heap → Option R) (lg83L3 : List Nat → Int → List Nat → List Nat → List Nat → List Nat → Option R) (lg83L6 : Int → Nat → List Nat → Int → Int → List Nat → List Nat → List Nat → List Nat → Option R) (x0 : Int) (x1 : Nat) (x2 : List Nat) (x3 x4 : Int) (x5 x6 : List Nat) (x7 x8 : List Nat) : Option R :=
  match A.nc .neq (A.nb .and .u64 x1 1) 0 with
  | true => match g72ok A x8 x5 with
    | true => g83J10 A n kk lg83L3 lg83L6 x0 x1 x2 x3 x4 x5 x6 x7 (g72r0 A x8 x5)
    | false => none
  | false => g83J10 A n kk lg83L3 lg83L6 x0 x1 x2 x3 x4 x5 x6 x7 x8
def g83J7s (x0 : Int) (x1 : Nat) (x2 : List Nat) (x3 x4 : Int) (x5 x6 : List Nat) (x7 x8 : List Nat) : St := ⟨[(2, (pT 1000 0)), (3, (pT 1001 0)), (4, (pT 1002 0)), (5, (pT 2001 0)), (6, (i6 x0)), (7, (u64v x1)), (9, (aN .u64 4 x2)), (10, (i6 x3)), (14, (i6 x4))], [(1000, (bU 5 x5 72)), (1001, (bU 4 x6 23)), (1002, (bU 5 x7 72)), (2001, (bU 5 x8 72))]⟩
def g83J7 {R : Type} (A : Ar) (n : Nat) (kk : AV → Heap → Option R) (lg83L3 : List Nat → Int → List Nat → List Nat → List Nat → List Nat → Option R) (lg83L6 : Int → Nat → List Nat → Int → Int → List Nat → List Nat → List Nat → List Nat → Option R) (x0 : Int) (x1 : Nat) (x2 : List Nat) (x3 x4 : Int) (x5 x6 : List Nat) (x7 x8 : List Nat) : Option R :=
  match A.nc .eql x1 0 with
  | true => match A.nc .eql (x6.getD 3 0) 0 with
    | true => match A.ic .eql x0 3 with
      | true => kk (aN .u64 5 x8) [(1002, (bU 5 x8 72)), (2001, (bU 5 x8 72))]
      | false => g83J8 A n kk lg83L3 lg83L6 x0 x1 x2 x3 x4 x5 x6 x7 x8
    | false => g83J8 A n kk lg83L3 lg83L6 x0 x1 x2 x3 x4 x5 x6 x7 x8
  | false => g83J8 A n kk lg83L3 lg83L6 x0 x1 x2 x3 x4 x5 x6 x7 x8
def g83L6s (x0 : Int) (x1 : Nat) (x2 : List Nat) (x3 x4 : Int) (x5 x6 : List Nat) (x7 x8 : List Nat) : St := ⟨[(2, (pT 1000 0)), (3, (pT 1001 0)), (4, (pT 1002 0)), (5, (pT 2001 0)), (6, (i6 x0)), (7, (u64v x1)), (9, (aN .u64 4 x2)), (10, (i6 x3)), (14, (i6 x4))], [(1000, (bU 5 x5 72)), (1001, (bU 4 x6 23)), (1002, (bU 5 x7 72)), (2001, (bU 5 x8 72))]⟩
def g83L6 {R : Type} (A : Ar) (n : Nat) (kk : AV → Heap → Option R) (lg83L3 : List Nat → Int → List Nat → List Nat → List Nat → List Nat → Option R) : Nat → Int → Nat → List Nat → Int → Int → List Nat → List Nat → List Nat → List Nat → Option R
  | 0, _, _, _, _, _, _, _, _, _ => none
  | m + 1, x0, x1, x2, x3, x4, x5, x6, x7, x8 => match A.ic .lss x4 64 with
  | true => g83J7 A n kk lg83L3 (g83L6 A n kk lg83L3 m) x0 x1 x2 x3 x4 x5 x6 x7 x8
  | false => lg83L3 x2 (A.ib .add .i64 x3 1) x5 x6 x7 x8
def g83J4s (x0 : List Nat) (x1 : Int) (x2 x3 : List Nat) (x4 x5 : List Nat) : St := ⟨[(2, (pT 1000 0)), (3, (pT 1001 0)), (4, (pT 1002 0)), (5, (pT 2001 0)), (9, (aN .u64 4 x0)), (10, (i6 x1))], [(1000, (bU 5 x2 72)), (1001, (bU 4 x3 23)), (1002, (bU 5 x4 72)), (2001, (bU 5 x5 72))]⟩
def g83J4 {R : Type} (A : Ar) (n : Nat) (kk : AV → Heap → Option R) (lg83L3 : List Nat → Int → List Nat → List Nat → List Nat → List Nat → Option R) (x0 : List Nat) (x1 : Int) (x2 x3 : List Nat) (x4 x5 : List Nat) : Option R :=
  match A.neg x1 with
  | true => none
  | false => match A.lt (A.toN x1) 4 with
    | true => g83L6 A n kk lg83L3 n x1 (x0.getD (A.toN x1) 0) x0 x1 0 x2 x3 x4 x5
    | false => none
def g83L3s (x0 : List Nat) (x1 : Int) (x2 x3 : List Nat) (x4 x5 : List Nat) : St := ⟨[(2, (pT 1000 0)), (3, (pT 1001 0)), (4, (pT 1002 0)), (5, (pT 2001 0)), (9, (aN .u64 4 x0)), (10, (i6 x1))], [(1000, (bU 5 x2 72)), (1001, (bU 4 x3 23)), (1002, (bU 5 x4 72)), (2001, (bU 5 x5 72))]⟩
def g83L3 {R : Type} (A : Ar) (n : Nat) (kk : AV → Heap → Option R)  : Nat → List Nat → Int → List Nat → List Nat → List Nat → List Nat → Option R
  | 0, _, _, _, _, _, _ => none
  | m + 1, x0, x1, x2, x3, x4, x5 => match A.ic .lss x1 4 with
  | true => g83J4 A n kk (g83L3 A n kk  m) x0 x1 x2 x3 x4 x5
  | false => kk (aN .u64 5 x5) [(1002, (bU 5 x5 72)), (2001, (bU 5 x5 72))]
def g83 {R : Type} (A : Ar) (n : Nat) (kk : AV → Heap → Option R) (a b : List Nat) : Option R :=
  g83L3 A n kk  n b 0 a b [0, 0, 0, 0, 0] ([0, 0, 0, 0, 0].set 0 1)
section
variable {R : Type} {A : Ar} {n : Nat} {kk : AV → Heap → Option R} {tb : Nat → List Bool → St → Option R} (st : Stp (g83N A kk) tb)
include st
theorem g83J10_go {lg83L3 : List Nat → Int → List Nat → List Nat → List Nat → List Nat → Option R} {lg83L6 : Int → Nat → List Nat → Int → Int → List Nat → List Nat → List Nat → List Nat → Option R} (hg83L3 : ∀ (x0 : List Nat) (x1 : Int) (x2 x3 : List Nat) (x4 x5 : List Nat), Prs (fun k => tb k (pth 436) (g83L3s x0 x1 x2 x3 x4 x5)) (lg83L3 x0 x1 x2 x3 x4 x5)) (hg83L6 : ∀ (x0 : Int) (x1 : Nat) (x2 : List Nat) (x3 x4 : Int) (x5 x6 : List Nat) (x7 x8 : List Nat), Prs (fun k => tb k (pth 111820) (g83L6s x0 x1 x2 x3 x4 x5 x6 x7 x8)) (lg83L6 x0 x1 x2 x3 x4 x5 x6 x7 x8)) {x0 : Int} {x1 : Nat} {x2 : List Nat} {x3 : Int} {x4 : Int} {x5 : List Nat} {x6 : List Nat} {x7 : List Nat} {x8 : List Nat} : Prs (fun k => tb k (pth 7156531) (g83J10s x0 x1 x2 x3 x4 x5 x6 x7 x8)) (g83J10 A n kk lg83L3 lg83L6 x0 x1 x2 x3 x4 x5 x6 x7 x8) := by
  unfold g83J10
  exact st.g (pc (SxY05api _ (hg83L6 _ _ _ _ _ _ _ _ _) pn) (by kernel_rfl))
theorem g83J8_go {lg83L3 : List Nat → Int → List Nat → List Nat → List Nat → List Nat → Option R} {lg83L6 : Int → Nat → List Nat → Int → Int → List Nat → List Nat → List Nat → List Nat → Option R} (hg83L3 : ∀ (x0 : List Nat) (x1 : Int) (x2 x3 : List Nat) (x4 x5 : List Nat), Prs (fun k => tb k (pth 436) (g83L3s x0 x1 x2 x3 x4 x5)) (lg83L3 x0 x1 x2 x3 x4 x5)) (hg83L6 : ∀ (x0 : Int) (x1 : Nat) (x2 : List Nat) (x3 x4 : Int) (x5 x6 : List Nat) (x7 x8 : List Nat), Prs (fun k => tb k (pth 111820) (g83L6s x0 x1 x2 x3 x4 x5 x6 x7 x8)) (lg83L6 x0 x1 x2 x3 x4 x5 x6 x7 x8)) {x0 : Int} {x1 : Nat} {x2 : List Nat} {x3 : Int} {x4 : Int} {x5 : List Nat} {x6 : List Nat} {x7 : List Nat} {x8 : List Nat} : Prs (fun k => tb k (pth 3578265) (g83J8s x0 x1 x2 x3 x4 x5 x6 x7 x8)) (g83J8 A n kk lg83L3 lg83L6 x0 x1 x2 x3 x4 x5 x6 x7 x8) := by
  unfold g83J8
  exact st.g (pc (SxY05api _ (SxY05api _ (g83J10_go st hg83L3 hg83L6) pn) (g83J10_go st hg83L3 hg83L6)) (by kernel_rfl))
theorem g83J7_go {lg83L3 : List Nat → Int → List Nat → List Nat → List Nat → List Nat → Option R} {lg83L6 : Int → Nat → List Nat → Int → Int → List Nat → List Nat → List Nat → List Nat → Option R} (hg83L3 : ∀ (x0 : List Nat) (x1 : Int) (x2 x3 : List Nat) (x4 x5 : List Nat), Prs (fun k => tb k (pth 436) (g83L3s x0 x1 x2 x3 x4 x5)) (lg83L3 x0 x1 x2 x3 x4 x5)) (hg83L6 : ∀ (x0 : Int) (x1 : Nat) (x2 : List Nat) (x3 x4 : Int) (x5 x6 : List Nat) (x7 x8 : List Nat), Prs (fun k => tb k (pth 111820) (g83L6s x0 x1 x2 x3 x4 x5 x6 x7 x8)) (lg83L6 x0 x1 x2 x3 x4 x5 x6 x7 x8)) {x0 : Int} {x1 : Nat} {x2 : List Nat} {x3 : Int} {x4 : Int} {x5 : List Nat} {x6 : List Nat} {x7 : List Nat} {x8 : List Nat} : Prs (fun k => tb k (pth 447283) (g83J7s x0 x1 x2 x3 x4 x5 x6 x7 x8)) (g83J7 A n kk lg83L3 lg83L6 x0 x1 x2 x3 x4 x5 x6 x7 x8) := by
  unfold g83J7
  exact st.g (pc (SxY05api _ (SxY05api _ (SxY05api _ (pf _) (g83J8_go st hg83L3 hg83L6)) (g83J8_go st hg83L3 hg83L6)) (g83J8_go st hg83L3 hg83L6)) (by kernel_rfl))
theorem g83L6_go {lg83L3 : List Nat → Int → List Nat → List Nat → List Nat → List Nat → Option R} (hg83L3 : ∀ (x0 : List Nat) (x1 : Int) (x2 x3 : List Nat) (x4 x5 : List Nat), Prs (fun k => tb k (pth 436) (g83L3s x0 x1 x2 x3 x4 x5)) (lg83L3 x0 x1 x2 x3 x4 x5)) (m : Nat) : ∀ (x0 : Int) (x1 : Nat) (x2 : List Nat) (x3 x4 : Int) (x5 x6 : List Nat) (x7 x8 : List Nat), Prs (fun k => tb k (pth 111820) (g83L6s x0 x1 x2 x3 x4 x5 x6 x7 x8)) (g83L6 A n kk lg83L3 m x0 x1 x2 x3 x4 x5 x6 x7 x8) := by
  induction m with
  | zero => intro x0 x1 x2 x3 x4 x5 x6 x7 x8; exact pn0
  | succ m ih =>
    intro x0 x1 x2 x3 x4 x5 x6 x7 x8; rw [g83L6]
    exact st.g (pc (SxY05api _ (g83J7_go st hg83L3 ih) (hg83L3 _ _ _ _ _ _)) (by kernel_rfl))
theorem g83J4_go {lg83L3 : List Nat → Int → List Nat → List Nat → List Nat → List Nat → Option R} (hg83L3 : ∀ (x0 : List Nat) (x1 : Int) (x2 x3 : List Nat) (x4 x5 : List Nat), Prs (fun k => tb k (pth 436) (g83L3s x0 x1 x2 x3 x4 x5)) (lg83L3 x0 x1 x2 x3 x4 x5)) {x0 : List Nat} {x1 : Int} {x2 : List Nat} {x3 : List Nat} {x4 : List Nat} {x5 : List Nat} : Prs (fun k => tb k (pth 1747) (g83J4s x0 x1 x2 x3 x4 x5)) (g83J4 A n kk lg83L3 x0 x1 x2 x3 x4 x5) := by
  unfold g83J4
  exact st.g (pc (SxY05api _ pn (SxY05api _ (g83L6_go st hg83L3 n _ _ _ _ _ _ _ _ _) pn)) (by kernel_rfl))
theorem g83L3_go (m : Nat) : ∀ (x0 : List Nat) (x1 : Int) (x2 x3 : List Nat) (x4 x5 : List Nat), Prs (fun k => tb k (pth 436) (g83L3s x0 x1 x2 x3 x4 x5)) (g83L3 A n kk m x0 x1 x2 x3 x4 x5) := by
  induction m with
  | zero => intro x0 x1 x2 x3 x4 x5; exact pn0
  | succ m ih =>
    intro x0 x1 x2 x3 x4 x5; rw [g83L3]
    exact st.g (pc (SxY05api _ (g83J4_go st ih) (pf _)) (by kernel_rfl))
theorem g83_go {a : List Nat} {b : List Nat} : Prs (fun k => funN A gtys (g83O A) g83an g83cut (bodyOf Try.f83) g83res [(aN .u64 5 a), (aN .u64 4 b)] [] kk (tb k)) (g83 A n kk a b) := by
  unfold g83
  exact pc (g83L3_go st n _ _ _ _ _ _) (by kernel_rfl)
end
def g83is (o : Option AV) : Bool := match o with
  | some (aN .u64 5 _) => true
  | _ => false
def g83g0 (o : Option AV) : List Nat := match o with
  | some (aN .u64 5 x) => x
  | _ => []
theorem g83is_spec {o : Option AV} (h : g83is o = true) : o = some (aN .u64 5 (g83g0 o)) := by
  unfold g83is at h
  split at h
  · rfl
  · cases h
def g83v (A : Ar) (a b : List Nat) : Option AV := g83 A (100000) (fun v _ => some v) a b
def g83ok (A : Ar) (a b : List Nat) : Bool := g83is (g83v A a b)
def g83r0 (A : Ar) (a b : List Nat) : List Nat := g83g0 (g83v A a b)
theorem g83ok_spec {A : Ar} {a b} (h : g83ok A a b = true) : g83v A a b = some (aN .u64 5 (g83r0 A a b)) := g83is_spec h
def g83o (A : Ar) (args : List AV) : Option (Bool × AV) := match args with
  | [.v (.agg [.nums .u64 n0 a]), .v (.agg [.nums .u64 n1 b])] => some (Nat.beq n0 5 && (Nat.beq n1 4 && (g83ok A a b)), .v (.agg [.nums .u64 5 (g83r0 A a b)]))
  | _ => none
theorem g83o_sound : ∀ args v, g83o realA args = some (true, v) → Fn1 Try.prog 83 args v := by
  intro args v h
  unfold g83o at h
  split at h
  · rename_i n0 a n1 b
    simp only [Option.some.injEq, Prod.mk.injEq] at h
    obtain ⟨hc, h⟩ := h
    subst h
    · skip
      simp only [Bool.and_eq_true] at hc
      have en0 := beq_true hc.1
      subst en0
      replace hc := hc.2
      have en1 := beq_true hc.1
      subst en1
      replace hc := hc.2
      exact fn1_ofG mixed gtysOK g83O_sound g83O_det (an := g83an) (cut := g83cut) Try.func83 (c := bodyOf Try.f83) rfl (by kernel_rfl) Try.call83 (Nat.le_of_ble_eq_true rfl) (fun b => rfl) (fun _ => (show g83v realA a b = _ from g83ok_spec hc)) fun _ st => g83_go st
  · cases h
attribute [local irreducible] g83ok g83r0
def g73O (A : Ar) : Orc := orcOf [(62, g62o A), (83, g83o A), (63, g63o A)]
theorem g73O_sound : OSound Try.prog (g73O realA) := orc_sound fun f g hm args v hv => by
  simp only [List.mem_cons, List.not_mem_nil, or_false, Prod.mk.injEq] at hm
  rcases hm with ⟨rfl, rfl⟩ | ⟨rfl, rfl⟩ | ⟨rfl, rfl⟩
  · exact g62o_sound _ _ hv
  · exact g83o_sound _ _ hv
  · exact g63o_sound _ _ hv
theorem g73O_det : ODet (g73O realA) := orc_det _
def g73an : Ann := [(0, ([0, 1], [])), (1, ([2, 3, 4], [1000, 1001, 1002]))]
def g73res : List ResultVar := [.cell 4 24]
def g73cut : List Nat := []
noncomputable def g73N {R : Type} (A : Ar) (kk : AV → Heap → Option R) (t : List Bool → St → Option R) (p : List Bool) (s : St) : Option R := nodeN A gtys (g73O A) g73an g73cut t (bodyOf Try.f73) (finD gtys g73res kk) p s
def g73 {R : Type} (A : Ar) (n : Nat) (kk : AV → Heap → Option R) (a b : List Nat) : Option R :=
  match g62ok A a with
  | true => match g83ok A (g62r0 A a) b with
    | true => match g63ok A (g83r0 A (g62r0 A a) b) with
      | true => kk (aN .u64 4 (g63r0 A (g83r0 A (g62r0 A a) b))) [(1000, (bU 4 a 24)), (1001, (bU 4 b 23)), (1002, (bU 4 (g63r0 A (g83r0 A (g62r0 A a) b)) 24))]
      | false => none
    | false => none
  | false => none
section
variable {R : Type} {A : Ar} {n : Nat} {kk : AV → Heap → Option R} {tb : Nat → List Bool → St → Option R} (st : Stp (g73N A kk) tb)
include st
theorem g73_go {a : List Nat} {b : List Nat} : Prs (fun k => funN A gtys (g73O A) g73an g73cut (bodyOf Try.f73) g73res [(aN .u64 4 a), (aN .u64 4 b)] [] kk (tb k)) (g73 A n kk a b) := by
  unfold g73
  exact pc (SxY05api _ (SxY05api _ (SxY05api _ (pf _) pn) pn) pn) (by kernel_rfl)
end
def g73is (o : Option AV) : Bool := match o with
  | some (aN .u64 4 _) => true
  | _ => false
def g73g0 (o : Option AV) : List Nat := match o with
  | some (aN .u64 4 x) => x
  | _ => []
theorem g73is_spec {o : Option AV} (h : g73is o = true) : o = some (aN .u64 4 (g73g0 o)) := by
  unfold g73is at h
  split at h
  · rfl
  · cases h
def g73v (A : Ar) (a b : List Nat) : Option AV := g73 A (100000) (fun v _ => some v) a b
def g73ok (A : Ar) (a b : List Nat) : Bool := g73is (g73v A a b)
def g73r0 (A : Ar) (a b : List Nat) : List Nat := g73g0 (g73v A a b)
theorem g73ok_spec {A : Ar} {a b} (h : g73ok A a b = true) : g73v A a b = some (aN .u64 4 (g73r0 A a b)) := g73is_spec h
def g73o (A : Ar) (args : List AV) : Option (Bool × AV) := match args with
  | [.v (.agg [.nums .u64 n0 a]), .v (.agg [.nums .u64 n1 b])] => some (Nat.beq n0 4 && (Nat.beq n1 4 && (g73ok A a b)), .v (.agg [.nums .u64 4 (g73r0 A a b)]))
  | _ => none
theorem g73o_sound : ∀ args v, g73o realA args = some (true, v) → Fn1 Try.prog 73 args v := by
  intro args v h
  unfold g73o at h
  split at h
  · rename_i n0 a n1 b
    simp only [Option.some.injEq, Prod.mk.injEq] at h
    obtain ⟨hc, h⟩ := h
    subst h
    · skip
      simp only [Bool.and_eq_true] at hc
      have en0 := beq_true hc.1
      subst en0
      replace hc := hc.2
      have en1 := beq_true hc.1
      subst en1
      replace hc := hc.2
      exact fn1_ofG mixed gtysOK g73O_sound g73O_det (an := g73an) (cut := g73cut) Try.func73 (c := bodyOf Try.f73) rfl (by kernel_rfl) Try.call73 (Nat.le_of_ble_eq_true rfl) (fun b => rfl) (fun _ => (show g73v realA a b = _ from g73ok_spec hc)) fun _ st => g73_go st
  · cases h
attribute [local irreducible] g73ok g73r0
def g54O (A : Ar) : Orc := orcOf [(73, g73o A)]
theorem g54O_sound : OSound Try.prog (g54O realA) := orc_sound fun f g hm args v hv => by
  simp only [List.mem_cons, List.not_mem_nil, or_false, Prod.mk.injEq] at hm
  rcases hm with ⟨rfl, rfl⟩
  · exact g73o_sound _ _ hv
theorem g54O_det : ODet (g54O realA) := orc_det _
def g54an : Ann := [(0, ([0], [])), (1, ([1, 2], [1000, 1001]))]
def g54res : List ResultVar := [.cell 2 24]
def g54cut : List Nat := []
noncomputable def g54N {R : Type} (A : Ar) (kk : AV → Heap → Option R) (t : List Bool → St → Option R) (p : List Bool) (s : St) : Option R := nodeN A gtys (g54O A) g54an g54cut t (bodyOf Try.f54) (finD gtys g54res kk) p s
def g54 {R : Type} (A : Ar) (n : Nat) (kk : AV → Heap → Option R) (a : List Nat) : Option R :=
  match g73ok A a (((([0, 0, 0, 0].set 0 18446744073709551595).set 1 18446744073709551615).set 2 18446744073709551615).set 3 9223372036854775807) with
  | true => kk (aN .u64 4 (g73r0 A a (((([0, 0, 0, 0].set 0 18446744073709551595).set 1 18446744073709551615).set 2 18446744073709551615).set 3 9223372036854775807))) [(1000, (bU 4 a 24)), (1001, (bU 4 (g73r0 A a (((([0, 0, 0, 0].set 0 18446744073709551595).set 1 18446744073709551615).set 2 18446744073709551615).set 3 9223372036854775807)) 24))]
  | false => none
section
variable {R : Type} {A : Ar} {n : Nat} {kk : AV → Heap → Option R} {tb : Nat → List Bool → St → Option R} (st : Stp (g54N A kk) tb)
include st
theorem g54_go {a : List Nat} : Prs (fun k => funN A gtys (g54O A) g54an g54cut (bodyOf Try.f54) g54res [(aN .u64 4 a)] [] kk (tb k)) (g54 A n kk a) := by
  unfold g54
  exact pc (SxY05api _ (pf _) pn) (by kernel_rfl)
end
def g54is (o : Option AV) : Bool := match o with
  | some (aN .u64 4 _) => true
  | _ => false
def g54g0 (o : Option AV) : List Nat := match o with
  | some (aN .u64 4 x) => x
  | _ => []
theorem g54is_spec {o : Option AV} (h : g54is o = true) : o = some (aN .u64 4 (g54g0 o)) := by
  unfold g54is at h
  split at h
  · rfl
  · cases h
def g54v (A : Ar) (a : List Nat) : Option AV := g54 A (100000) (fun v _ => some v) a
def g54ok (A : Ar) (a : List Nat) : Bool := g54is (g54v A a)
def g54r0 (A : Ar) (a : List Nat) : List Nat := g54g0 (g54v A a)
theorem g54ok_spec {A : Ar} {a} (h : g54ok A a = true) : g54v A a = some (aN .u64 4 (g54r0 A a)) := g54is_spec h
def g54o (A : Ar) (args : List AV) : Option (Bool × AV) := match args with
  | [.v (.agg [.nums .u64 n0 a])] => some (Nat.beq n0 4 && (g54ok A a), .v (.agg [.nums .u64 4 (g54r0 A a)]))
  | _ => none
theorem g54o_sound : ∀ args v, g54o realA args = some (true, v) → Fn1 Try.prog 54 args v := by
  intro args v h
  unfold g54o at h
  split at h
  · rename_i n0 a
    simp only [Option.some.injEq, Prod.mk.injEq] at h
    obtain ⟨hc, h⟩ := h
    subst h
    · skip
      simp only [Bool.and_eq_true] at hc
      have en0 := beq_true hc.1
      subst en0
      replace hc := hc.2
      exact fn1_ofG mixed gtysOK g54O_sound g54O_det (an := g54an) (cut := g54cut) Try.func54 (c := bodyOf Try.f54) rfl (by kernel_rfl) Try.call54 (Nat.le_of_ble_eq_true rfl) (fun b => rfl) (fun _ => (show g54v realA a = _ from g54ok_spec hc)) fun _ st => g54_go st
  · cases h
attribute [local irreducible] g54ok g54r0
def g29O (A : Ar) : Orc := orcOf [(62, g62o A), (63, g63o A)]
theorem g29O_sound : OSound Try.prog (g29O realA) := orc_sound fun f g hm args v hv => by
  simp only [List.mem_cons, List.not_mem_nil, or_false, Prod.mk.injEq] at hm
  rcases hm with ⟨rfl, rfl⟩ | ⟨rfl, rfl⟩
  · exact g62o_sound _ _ hv
  · exact g63o_sound _ _ hv
theorem g29O_det : ODet (g29O realA) := orc_det _
def g29an : Ann := [(0, ([0], [])), (1, ([1], [1000]))]
def g29res : List ResultVar := [.tmp 2]
def g29cut : List Nat := []
noncomputable def g29N {R : Type} (A : Ar) (kk : AV → Heap → Option R) (t : List Bool → St → Option R) (p : List Bool) (s : St) : Option R := nodeN A gtys (g29O A) g29an g29cut t (bodyOf Try.f29) (finD gtys g29res kk) p s
def g29 {R : Type} (A : Ar) (n : Nat) (kk : AV → Heap → Option R) (a : List Nat) : Option R :=
  match g62ok A a with
  | true => match g63ok A (g62r0 A a) with
    | true => kk (bO (A.nc .neq (A.nb .and .u64 ((g63r0 A (g62r0 A a)).getD 0 0) 1) 0)) [(1000, (bU 4 a 24))]
    | false => none
  | false => none
section
variable {R : Type} {A : Ar} {n : Nat} {kk : AV → Heap → Option R} {tb : Nat → List Bool → St → Option R} (st : Stp (g29N A kk) tb)
include st
theorem g29_go {a : List Nat} : Prs (fun k => funN A gtys (g29O A) g29an g29cut (bodyOf Try.f29) g29res [(aN .u64 4 a)] [] kk (tb k)) (g29 A n kk a) := by
  unfold g29
  exact pc (SxY05api _ (SxY05api _ (pf _) pn) pn) (by kernel_rfl)
end
def g29is (o : Option AV) : Bool := match o with
  | some (.v (.cell (.bool _))) => true
  | _ => false
def g29g0 (o : Option AV) : Bool := match o with
  | some (.v (.cell (.bool x))) => x
  | _ => false
theorem g29is_spec {o : Option AV} (h : g29is o = true) : o = some (.v (.cell (.bool (g29g0 o)))) := by
  unfold g29is at h
  split at h
  · rfl
  · cases h
def g29v (A : Ar) (a : List Nat) : Option AV := g29 A (100000) (fun v _ => some v) a
def g29ok (A : Ar) (a : List Nat) : Bool := g29is (g29v A a)
def g29r0 (A : Ar) (a : List Nat) : Bool := g29g0 (g29v A a)
theorem g29ok_spec {A : Ar} {a} (h : g29ok A a = true) : g29v A a = some (.v (.cell (.bool (g29r0 A a)))) := g29is_spec h
def g29o (A : Ar) (args : List AV) : Option (Bool × AV) := match args with
  | [.v (.agg [.nums .u64 n0 a])] => some (Nat.beq n0 4 && (g29ok A a), .v (.cell (.bool (g29r0 A a))))
  | _ => none
theorem g29o_sound : ∀ args v, g29o realA args = some (true, v) → Fn1 Try.prog 29 args v := by
  intro args v h
  unfold g29o at h
  split at h
  · rename_i n0 a
    simp only [Option.some.injEq, Prod.mk.injEq] at h
    obtain ⟨hc, h⟩ := h
    subst h
    · skip
      simp only [Bool.and_eq_true] at hc
      have en0 := beq_true hc.1
      subst en0
      replace hc := hc.2
      exact fn1_ofG mixed gtysOK g29O_sound g29O_det (an := g29an) (cut := g29cut) Try.func29 (c := bodyOf Try.f29) rfl (by kernel_rfl) Try.call29 (Nat.le_of_ble_eq_true rfl) (fun b => rfl) (fun _ => (show g29v realA a = _ from g29ok_spec hc)) fun _ st => g29_go st
  · cases h
attribute [local irreducible] g29ok g29r0
def g74O (A : Ar) : Orc := orcOf [(46, g46o A), (73, g73o A), (62, g62o A), (63, g63o A), (43, g43o A), (48, g48o A), (29, g29o A)]
theorem g74O_sound : OSound Try.prog (g74O realA) := orc_sound fun f g hm args v hv => by
  simp only [List.mem_cons, List.not_mem_nil, or_false, Prod.mk.injEq] at hm
  rcases hm with ⟨rfl, rfl⟩ | ⟨rfl, rfl⟩ | ⟨rfl, rfl⟩ | ⟨rfl, rfl⟩ | ⟨rfl, rfl⟩ | ⟨rfl, rfl⟩ | ⟨rfl, rfl⟩
  · exact g46o_sound _ _ hv
  · exact g73o_sound _ _ hv
  · exact g62o_sound _ _ hv
  · exact g63o_sound _ _ hv
  · exact g43o_sound _ _ hv
  · exact g48o_sound _ _ hv
  · exact g29o_sound _ _ hv
theorem g74O_det : ODet (g74O realA) := orc_det _
def g74an : Ann := [(0, ([0, 1], [])), (1, ([2, 3, 4], [1000, 1001, 1002])), (2, ([2, 3, 4, 6], [1000, 1001, 1002, 2005])), (3, ([2, 3, 4, 6, 7], [1000, 1001, 1002, 2005, 3005])), (4, ([2, 3, 4, 8], [1000, 1001, 1002, 4009])), (5, ([3, 4, 8, 9], [1001, 1002, 4009, 5003])), (6, ([4], [1002])), (7, ([4, 8, 9, 36], [1002, 4009, 5003])), (8, ([4, 8, 9, 36], [1002, 4009, 5003])), (9, ([4, 8], [1002, 4009])), (10, ([4, 8], [1002, 4009])), (11, ([4, 8], [1002, 4009])), (12, ([4, 8], [1002, 4009]))]
def g74res : List ResultVar := [.cell 4 24, .tmp 5]
def g74cut : List Nat := [10]
noncomputable def g74N {R : Type} (A : Ar) (kk : AV → Heap → Option R) (t : List Bool → St → Option R) (p : List Bool) (s : St) : Option R := nodeN A gtys (g74O A) g74an g74cut t (bodyOf Try.f74) (finD gtys g74res kk) p s
def g74J10s (x0 x1 : List Nat) : St := ⟨[(4, (pT 1002 0)), (8, (pT 4009 0))], [(1002, (bU 4 x0 24)), (4009, (bU 4 x1 24))]⟩
def g74J10 {R : Type} (A : Ar) (n : Nat) (kk : AV → Heap → Option R)  (x0 x1 : List Nat) : Option R :=
  match g29ok A x1 with
  | true => match g29r0 A x1 with
    | true => match g43ok A x1 with
      | true => kk (.tup [(.agg [.nums .u64 4 (g43r0 A x1)]), (.cell (.bool true))]) [(1002, (bU 4 (g43r0 A x1) 24)), (4009, (bU 4 (g43r0 A x1) 24))]
      | false => none
    | false => kk (.tup [(.agg [.nums .u64 4 x1]), (.cell (.bool true))]) [(1002, (bU 4 x1 24)), (4009, (bU 4 x1 24))]
  | false => none
def g74 {R : Type} (A : Ar) (n : Nat) (kk : AV → Heap → Option R) (a b : List Nat) : Option R :=
  match g46ok A b b with
  | true => match g46ok A b (g46r0 A b b) with
    | true => match g46ok A (g46r0 A b (g46r0 A b b)) (g46r0 A b (g46r0 A b b)) with
      | true => match g46ok A b (g46r0 A (g46r0 A b (g46r0 A b b)) (g46r0 A b (g46r0 A b b))) with
        | true => match g46ok A a (g46r0 A b (g46r0 A b b)) with
          | true => match g46ok A a (g46r0 A b (g46r0 A (g46r0 A b (g46r0 A b b)) (g46r0 A b (g46r0 A b b)))) with
            | true => match g73ok A (g46r0 A a (g46r0 A b (g46r0 A (g46r0 A b (g46r0 A b b)) (g46r0 A b (g46r0 A b b))))) (((([0, 0, 0, 0].set 0 18446744073709551613).set 1 18446744073709551615).set 2 18446744073709551615).set 3 1152921504606846975) with
              | true => match g46ok A (g46r0 A a (g46r0 A b (g46r0 A b b))) (g73r0 A (g46r0 A a (g46r0 A b (g46r0 A (g46r0 A b (g46r0 A b b)) (g46r0 A b (g46r0 A b b))))) (((([0, 0, 0, 0].set 0 18446744073709551613).set 1 18446744073709551615).set 2 18446744073709551615).set 3 1152921504606846975)) with
                | true => match g62ok A a with
                  | true => match g63ok A (g62r0 A a) with
                    | true => match g46ok A (g46r0 A (g46r0 A a (g46r0 A b (g46r0 A b b))) (g73r0 A (g46r0 A a (g46r0 A b (g46r0 A (g46r0 A b (g46r0 A b b)) (g46r0 A b (g46r0 A b b))))) (((([0, 0, 0, 0].set 0 18446744073709551613).set 1 18446744073709551615).set 2 18446744073709551615).set 3 1152921504606846975))) (g46r0 A (g46r0 A a (g46r0 A b (g46r0 A b b))) (g73r0 A (g46r0 A a (g46r0 A b (g46r0 A (g46r0 A b (g46r0 A b b)) (g46r0 A b (g46r0 A b b))))) (((([0, 0, 0, 0].set 0 18446744073709551613).set 1 18446744073709551615).set 2 18446744073709551615).set 3 1152921504606846975))) with
                      | true => match g46ok A b (g46r0 A (g46r0 A (g46r0 A a (g46r0 A b (g46r0 A b b))) (g73r0 A (g46r0 A a (g46r0 A b (g46r0 A (g46r0 A b (g46r0 A b b)) (g46r0 A b (g46r0 A b b))))) (((([0, 0, 0, 0].set 0 18446744073709551613).set 1 18446744073709551615).set 2 18446744073709551615).set 3 1152921504606846975))) (g46r0 A (g46r0 A a (g46r0 A b (g46r0 A b b))) (g73r0 A (g46r0 A a (g46r0 A b (g46r0 A (g46r0 A b (g46r0 A b b)) (g46r0 A b (g46r0 A b b))))) (((([0, 0, 0, 0].set 0 18446744073709551613).set 1 18446744073709551615).set 2 18446744073709551615).set 3 1152921504606846975)))) with
                        | true => match (A.lq (g46r0 A b (g46r0 A (g46r0 A (g46r0 A a (g46r0 A b (g46r0 A b b))) (g73r0 A (g46r0 A a (g46r0 A b (g46r0 A (g46r0 A b (g46r0 A b b)) (g46r0 A b (g46r0 A b b))))) (((([0, 0, 0, 0].set 0 18446744073709551613).set 1 18446744073709551615).set 2 18446744073709551615).set 3 1152921504606846975))) (g46r0 A (g46r0 A a (g46r0 A b (g46r0 A b b))) (g73r0 A (g46r0 A a (g46r0 A b (g46r0 A (g46r0 A b (g46r0 A b b)) (g46r0 A b (g46r0 A b b))))) (((([0, 0, 0, 0].set 0 18446744073709551613).set 1 18446744073709551615).set 2 18446744073709551615).set 3 1152921504606846975))))) (g63r0 A (g62r0 A a))) && true with
                          | true => g74J10 A n kk  [0, 0, 0, 0] (g46r0 A (g46r0 A a (g46r0 A b (g46r0 A b b))) (g73r0 A (g46r0 A a (g46r0 A b (g46r0 A (g46r0 A b (g46r0 A b b)) (g46r0 A b (g46r0 A b b))))) (((([0, 0, 0, 0].set 0 18446744073709551613).set 1 18446744073709551615).set 2 18446744073709551615).set 3 1152921504606846975)))
                          | false => match g43ok A (g63r0 A (g62r0 A a)) with
                            | true => match (A.lq (g46r0 A b (g46r0 A (g46r0 A (g46r0 A a (g46r0 A b (g46r0 A b b))) (g73r0 A (g46r0 A a (g46r0 A b (g46r0 A (g46r0 A b (g46r0 A b b)) (g46r0 A b (g46r0 A b b))))) (((([0, 0, 0, 0].set 0 18446744073709551613).set 1 18446744073709551615).set 2 18446744073709551615).set 3 1152921504606846975))) (g46r0 A (g46r0 A a (g46r0 A b (g46r0 A b b))) (g73r0 A (g46r0 A a (g46r0 A b (g46r0 A (g46r0 A b (g46r0 A b b)) (g46r0 A b (g46r0 A b b))))) (((([0, 0, 0, 0].set 0 18446744073709551613).set 1 18446744073709551615).set 2 18446744073709551615).set 3 1152921504606846975))))) (g43r0 A (g63r0 A (g62r0 A a)))) && true with
                              | true => match g48ok A 2 with
                                | true => match g73ok A (g48r0 A 2) (((([0, 0, 0, 0].set 0 18446744073709551611).set 1 18446744073709551615).set 2 18446744073709551615).set 3 2305843009213693951) with
                                  | true => match g46ok A (g46r0 A (g46r0 A a (g46r0 A b (g46r0 A b b))) (g73r0 A (g46r0 A a (g46r0 A b (g46r0 A (g46r0 A b (g46r0 A b b)) (g46r0 A b (g46r0 A b b))))) (((([0, 0, 0, 0].set 0 18446744073709551613).set 1 18446744073709551615).set 2 18446744073709551615).set 3 1152921504606846975))) (g73r0 A (g48r0 A 2) (((([0, 0, 0, 0].set 0 18446744073709551611).set 1 18446744073709551615).set 2 18446744073709551615).set 3 2305843009213693951)) with
                                    | true => g74J10 A n kk  [0, 0, 0, 0] (g46r0 A (g46r0 A (g46r0 A a (g46r0 A b (g46r0 A b b))) (g73r0 A (g46r0 A a (g46r0 A b (g46r0 A (g46r0 A b (g46r0 A b b)) (g46r0 A b (g46r0 A b b))))) (((([0, 0, 0, 0].set 0 18446744073709551613).set 1 18446744073709551615).set 2 18446744073709551615).set 3 1152921504606846975))) (g73r0 A (g48r0 A 2) (((([0, 0, 0, 0].set 0 18446744073709551611).set 1 18446744073709551615).set 2 18446744073709551615).set 3 2305843009213693951)))
                                    | false => none
                                  | false => none
                                | false => none
                              | false => kk (.tup [(.agg [.nums .u64 4 [0, 0, 0, 0]]), (.cell (.bool false))]) [(1002, (bU 4 [0, 0, 0, 0] 24))]
                            | false => none
                        | false => none
                      | false => none
                    | false => none
                  | false => none
                | false => none
              | false => none
            | false => none
          | false => none
        | false => none
      | false => none
    | false => none
  | false => none
section
variable {R : Type} {A : Ar} {n : Nat} {kk : AV → Heap → Option R} {tb : Nat → List Bool → St → Option R} (st : Stp (g74N A kk) tb)
include st
theorem g74J10_go {x0 : List Nat} {x1 : List Nat} : Prs (fun k => tb k (pth 127) (g74J10s x0 x1)) (g74J10 A n kk x0 x1) := by
  unfold g74J10
  exact st.g (pc (SxY05api _ (SxY05api _ (SxY05api _ (pf _) pn) (pf _)) pn) (by kernel_rfl))
theorem g74_go {a : List Nat} {b : List Nat} : Prs (fun k => funN A gtys (g74O A) g74an g74cut (bodyOf Try.f74) g74res [(aN .u64 4 a), (aN .u64 4 b)] [] kk (tb k)) (g74 A n kk a b) := by
  unfold g74
  exact pc (SxY05api _ (SxY05api _ (SxY05api _ (SxY05api _ (SxY05api _ (SxY05api _ (SxY05api _ (SxY05api _ (SxY05api _ (SxY05api _ (SxY05api _ (SxY05api _ (SxY05api _ (g74J10_go st) (SxY05api _ (SxY05api _ (SxY05api _ (SxY05api _ (SxY05api _ (g74J10_go st) pn) pn) pn) (pf _)) pn)) pn) pn) pn) pn) pn) pn) pn) pn) pn) pn) pn) pn) (by kernel_rfl)
end
def g74is (o : Option AV) : Bool := match o with
  | some (.tup [.agg [.nums .u64 4 _], .cell (.bool _)]) => true
  | _ => false
def g74g0 (o : Option AV) : List Nat := match o with
  | some (.tup [.agg [.nums .u64 4 x], .cell (.bool _)]) => x
  | _ => []
def g74g1 (o : Option AV) : Bool := match o with
  | some (.tup [.agg [.nums .u64 4 _], .cell (.bool x)]) => x
  | _ => false
theorem g74is_spec {o : Option AV} (h : g74is o = true) : o = some (.tup [.agg [.nums .u64 4 (g74g0 o)], .cell (.bool (g74g1 o))]) := by
  unfold g74is at h
  split at h
  · rfl
  · cases h
def g74v (A : Ar) (a b : List Nat) : Option AV := g74 A (100000) (fun v _ => some v) a b
def g74ok (A : Ar) (a b : List Nat) : Bool := g74is (g74v A a b)
def g74r0 (A : Ar) (a b : List Nat) : List Nat := g74g0 (g74v A a b)
def g74r1 (A : Ar) (a b : List Nat) : Bool := g74g1 (g74v A a b)
theorem g74ok_spec {A : Ar} {a b} (h : g74ok A a b = true) : g74v A a b = some (.tup [.agg [.nums .u64 4 (g74r0 A a b)], .cell (.bool (g74r1 A a b))]) := g74is_spec h
def g74o (A : Ar) (args : List AV) : Option (Bool × AV) := match args with
  | [.v (.agg [.nums .u64 n0 a]), .v (.agg [.nums .u64 n1 b])] => some (Nat.beq n0 4 && (Nat.beq n1 4 && (g74ok A a b)), .tup [.agg [.nums .u64 4 (g74r0 A a b)], .cell (.bool (g74r1 A a b))])
  | _ => none
theorem g74o_sound : ∀ args v, g74o realA args = some (true, v) → Fn1 Try.prog 74 args v := by
  intro args v h
  unfold g74o at h
  split at h
  · rename_i n0 a n1 b
    simp only [Option.some.injEq, Prod.mk.injEq] at h
    obtain ⟨hc, h⟩ := h
    subst h
    · skip
      simp only [Bool.and_eq_true] at hc
      have en0 := beq_true hc.1
      subst en0
      replace hc := hc.2
      have en1 := beq_true hc.1
      subst en1
      replace hc := hc.2
      exact fn1_ofG mixed gtysOK g74O_sound g74O_det (an := g74an) (cut := g74cut) Try.func74 (c := bodyOf Try.f74) rfl (by kernel_rfl) Try.call74 (Nat.le_of_ble_eq_true rfl) (fun b => rfl) (fun _ => (show g74v realA a b = _ from g74ok_spec hc)) fun _ st => g74_go st
  · cases h
attribute [local irreducible] g74ok g74r0 g74r1
def g33O (A : Ar) : Orc := orcOf [(62, g62o A), (63, g63o A)]
theorem g33O_sound : OSound Try.prog (g33O realA) := orc_sound fun f g hm args v hv => by
  simp only [List.mem_cons, List.not_mem_nil, or_false, Prod.mk.injEq] at hm
  rcases hm with ⟨rfl, rfl⟩ | ⟨rfl, rfl⟩
  · exact g62o_sound _ _ hv
  · exact g63o_sound _ _ hv
theorem g33O_det : ODet (g33O realA) := orc_det _
def g33an : Ann := [(0, ([0], [])), (1, ([1], [1000])), (2, ([1], [1000])), (3, ([1, 3], [1000, 3000])), (4, ([3, 11, 12], [3000])), (5, ([3, 11, 12], [3000])), (6, ([3, 5, 11, 12], [3000])), (7, ([3, 5, 11, 12, 15], [3000])), (8, ([3, 5, 11, 12, 15], [3000])), (9, ([3, 5, 6, 11, 12, 15], [3000])), (10, ([3, 5, 11, 12, 15], [3000])), (11, ([3, 11, 12], [3000])), (12, ([3], [3000]))]
def g33res : List ResultVar := [.tmp 2]
def g33cut : List Nat := [5, 8]
noncomputable def g33N {R : Type} (A : Ar) (kk : AV → Heap → Option R) (t : List Bool → St → Option R) (p : List Bool) (s : St) : Option R := nodeN A gtys (g33O A) g33an g33cut t (bodyOf Try.f33) (finD gtys g33res kk) p s
def g33J8s (x0 x1 : Nat) (x2 : List Nat) (x3 x4 : Int) (x5 : Nat) (x6 : List Nat) : St := ⟨[(3, (sL 3000 none x0 1)), (5, (u64v x1)), (11, (aN .u64 4 x2)), (12, (i6 x3)), (15, (i6 x4))], [(3000, ⟨[.nums .u8 x5 x6], 5, 2⟩)]⟩
def g33J8 {R : Type} (A : Ar) (n : Nat) (kk : AV → Heap → Option R) (lg33L4 : Nat → List Nat → Int → Nat → List Nat → Option R) (lg33L7 : Nat → Nat → List Nat → Int → Int → Nat → List Nat → Option R) (x0 x1 : Nat) (x2 : List Nat) (x3 x4 : Int) (x5 : Nat) (x6 : List Nat) : Option R :=
  match A.neg (A.ib .mul .i64 8 x4) with
  | true => none
  | false => match A.eq x0 (x5 + 0) with
    | true => match A.le ((x6 ++ ([A.n2n .u8 (A.nsh .shr .u64 x1 (A.toN (A.ib .mul .i64 8 x4)))].take 1)).length) 140737488355328 with
      | true => lg33L7 ((x6 ++ ([A.n2n .u8 (A.nsh .shr .u64 x1 (A.toN (A.ib .mul .i64 8 x4)))].take 1)).length) x1 x2 x3 (A.ib .add .i64 x4 1) ((x6 ++ ([A.n2n .u8 (A.nsh .shr .u64 x1 (A.toN (A.ib .mul .i64 8 x4)))].take 1)).length) (x6 ++ ([A.n2n .u8 (A.nsh .shr .u64 x1 (A.toN (A.ib .mul .i64 8 x4)))].take 1))
      | false => none
    | false => none
def g33L7s (x0 x1 : Nat) (x2 : List Nat) (x3 x4 : Int) (x5 : Nat) (x6 : List Nat) : St := ⟨[(3, (sL 3000 none x0 1)), (5, (u64v x1)), (11, (aN .u64 4 x2)), (12, (i6 x3)), (15, (i6 x4))], [(3000, ⟨[.nums .u8 x5 x6], 5, 2⟩)]⟩
def g33L7 {R : Type} (A : Ar) (n : Nat) (kk : AV → Heap → Option R) (lg33L4 : Nat → List Nat → Int → Nat → List Nat → Option R) : Nat → Nat → Nat → List Nat → Int → Int → Nat → List Nat → Option R
  | 0, _, _, _, _, _, _, _ => none
  | m + 1, x0, x1, x2, x3, x4, x5, x6 => match A.ic .lss x4 8 with
  | true => g33J8 A n kk lg33L4 (g33L7 A n kk lg33L4 m) x0 x1 x2 x3 x4 x5 x6
  | false => lg33L4 x0 x2 (A.ib .add .i64 x3 1) x5 x6
def g33J5s (x0 : Nat) (x1 : List Nat) (x2 : Int) (x3 : Nat) (x4 : List Nat) : St := ⟨[(3, (sL 3000 none x0 1)), (11, (aN .u64 4 x1)), (12, (i6 x2))], [(3000, ⟨[.nums .u8 x3 x4], 5, 2⟩)]⟩
def g33J5 {R : Type} (A : Ar) (n : Nat) (kk : AV → Heap → Option R) (lg33L4 : Nat → List Nat → Int → Nat → List Nat → Option R) (x0 : Nat) (x1 : List Nat) (x2 : Int) (x3 : Nat) (x4 : List Nat) : Option R :=
  match A.neg x2 with
  | true => none
  | false => match A.lt (A.toN x2) 4 with
    | true => g33L7 A n kk lg33L4 n x0 (x1.getD (A.toN x2) 0) x1 x2 0 x3 x4
    | false => none
def g33L4s (x0 : Nat) (x1 : List Nat) (x2 : Int) (x3 : Nat) (x4 : List Nat) : St := ⟨[(3, (sL 3000 none x0 1)), (11, (aN .u64 4 x1)), (12, (i6 x2))], [(3000, ⟨[.nums .u8 x3 x4], 5, 2⟩)]⟩
def g33L4 {R : Type} (A : Ar) (n : Nat) (kk : AV → Heap → Option R)  : Nat → Nat → List Nat → Int → Nat → List Nat → Option R
  | 0, _, _, _, _, _ => none
  | m + 1, x0, x1, x2, x3, x4 => match A.ic .lss x2 4 with
  | true => g33J5 A n kk (g33L4 A n kk  m) x0 x1 x2 x3 x4
  | false => kk (tS (x4.take x0)) [(3000, ⟨[.nums .u8 x3 x4], 5, 2⟩)]
def g33 {R : Type} (A : Ar) (n : Nat) (kk : AV → Heap → Option R) (a : List Nat) : Option R :=
  match g62ok A a with
  | true => match g63ok A (g62r0 A a) with
    | true => match A.le 0 32 with
      | true => match A.le 32 140737488355328 with
        | true => g33L4 A n kk  n 0 (g63r0 A (g62r0 A a)) 0 0 (List.replicate 0 0)
        | false => none
      | false => none
    | false => none
  | false => none
section
variable {R : Type} {A : Ar} {n : Nat} {kk : AV → Heap → Option R} {tb : Nat → List Bool → St → Option R} (st : Stp (g33N A kk) tb)
include st
theorem g33J8_go {lg33L4 : Nat → List Nat → Int → Nat → List Nat → Option R} {lg33L7 : Nat → Nat → List Nat → Int → Int → Nat → List Nat → Option R} (hg33L4 : ∀ (x0 : Nat) (x1 : List Nat) (x2 : Int) (x3 : Nat) (x4 : List Nat), Prs (fun k => tb k (pth 244) (g33L4s x0 x1 x2 x3 x4)) (lg33L4 x0 x1 x2 x3 x4)) (hg33L7 : ∀ (x0 x1 : Nat) (x2 : List Nat) (x3 x4 : Int) (x5 : Nat) (x6 : List Nat), Prs (fun k => tb k (pth 62668) (g33L7s x0 x1 x2 x3 x4 x5 x6)) (lg33L7 x0 x1 x2 x3 x4 x5 x6)) {x0 : Nat} {x1 : Nat} {x2 : List Nat} {x3 : Int} {x4 : Int} {x5 : Nat} {x6 : List Nat} : Prs (fun k => tb k (pth 250675) (g33J8s x0 x1 x2 x3 x4 x5 x6)) (g33J8 A n kk lg33L4 lg33L7 x0 x1 x2 x3 x4 x5 x6) := by
  unfold g33J8
  exact st.g (pc (SxY05api _ pn (SxY05api _ (SxY05api _ (hg33L7 _ _ _ _ _ _ _) pn) pn)) (by kernel_rfl))
theorem g33L7_go {lg33L4 : Nat → List Nat → Int → Nat → List Nat → Option R} (hg33L4 : ∀ (x0 : Nat) (x1 : List Nat) (x2 : Int) (x3 : Nat) (x4 : List Nat), Prs (fun k => tb k (pth 244) (g33L4s x0 x1 x2 x3 x4)) (lg33L4 x0 x1 x2 x3 x4)) (m : Nat) : ∀ (x0 x1 : Nat) (x2 : List Nat) (x3 x4 : Int) (x5 : Nat) (x6 : List Nat), Prs (fun k => tb k (pth 62668) (g33L7s x0 x1 x2 x3 x4 x5 x6)) (g33L7 A n kk lg33L4 m x0 x1 x2 x3 x4 x5 x6) := by
  induction m with
  | zero => intro x0 x1 x2 x3 x4 x5 x6; exact pn0
  | succ m ih =>
    intro x0 x1 x2 x3 x4 x5 x6; rw [g33L7]
    exact st.g (pc (SxY05api _ (g33J8_go st hg33L4 ih) (hg33L4 _ _ _ _ _)) (by kernel_rfl))
theorem g33J5_go {lg33L4 : Nat → List Nat → Int → Nat → List Nat → Option R} (hg33L4 : ∀ (x0 : Nat) (x1 : List Nat) (x2 : Int) (x3 : Nat) (x4 : List Nat), Prs (fun k => tb k (pth 244) (g33L4s x0 x1 x2 x3 x4)) (lg33L4 x0 x1 x2 x3 x4)) {x0 : Nat} {x1 : List Nat} {x2 : Int} {x3 : Nat} {x4 : List Nat} : Prs (fun k => tb k (pth 979) (g33J5s x0 x1 x2 x3 x4)) (g33J5 A n kk lg33L4 x0 x1 x2 x3 x4) := by
  unfold g33J5
  exact st.g (pc (SxY05api _ pn (SxY05api _ (g33L7_go st hg33L4 n _ _ _ _ _ _ _) pn)) (by kernel_rfl))
theorem g33L4_go (m : Nat) : ∀ (x0 : Nat) (x1 : List Nat) (x2 : Int) (x3 : Nat) (x4 : List Nat), Prs (fun k => tb k (pth 244) (g33L4s x0 x1 x2 x3 x4)) (g33L4 A n kk m x0 x1 x2 x3 x4) := by
  induction m with
  | zero => intro x0 x1 x2 x3 x4; exact pn0
  | succ m ih =>
    intro x0 x1 x2 x3 x4; rw [g33L4]
    exact st.g (pc (SxY05api _ (g33J5_go st ih) (pf _)) (by kernel_rfl))
theorem g33_go {a : List Nat} : Prs (fun k => funN A gtys (g33O A) g33an g33cut (bodyOf Try.f33) g33res [(aN .u64 4 a)] [] kk (tb k)) (g33 A n kk a) := by
  unfold g33
  exact pc (SxY05api _ (SxY05api _ (SxY05api _ (SxY05api _ (g33L4_go st n _ _ _ _ _) pn) pn) pn) pn) (by kernel_rfl)
end
def g33is (o : Option AV) : Bool := match o with
  | some (.v (.cell (.str _))) => true
  | _ => false
def g33g0 (o : Option AV) : List Nat := match o with
  | some (.v (.cell (.str x))) => x
  | _ => []
theorem g33is_spec {o : Option AV} (h : g33is o = true) : o = some (.v (.cell (.str (g33g0 o)))) := by
  unfold g33is at h
  split at h
  · rfl
  · cases h
def g33v (A : Ar) (a : List Nat) : Option AV := g33 A (100000) (fun v _ => some v) a
def g33ok (A : Ar) (a : List Nat) : Bool := g33is (g33v A a)
def g33r0 (A : Ar) (a : List Nat) : List Nat := g33g0 (g33v A a)
theorem g33ok_spec {A : Ar} {a} (h : g33ok A a = true) : g33v A a = some (.v (.cell (.str (g33r0 A a)))) := g33is_spec h
def g33o (A : Ar) (args : List AV) : Option (Bool × AV) := match args with
  | [.v (.agg [.nums .u64 n0 a])] => some (Nat.beq n0 4 && (g33ok A a), .v (.cell (.str (g33r0 A a))))
  | _ => none
theorem g33o_sound : ∀ args v, g33o realA args = some (true, v) → Fn1 Try.prog 33 args v := by
  intro args v h
  unfold g33o at h
  split at h
  · rename_i n0 a
    simp only [Option.some.injEq, Prod.mk.injEq] at h
    obtain ⟨hc, h⟩ := h
    subst h
    · skip
      simp only [Bool.and_eq_true] at hc
      have en0 := beq_true hc.1
      subst en0
      replace hc := hc.2
      exact fn1_ofG mixed gtysOK g33O_sound g33O_det (an := g33an) (cut := g33cut) Try.func33 (c := bodyOf Try.f33) rfl (by kernel_rfl) Try.call33 (Nat.le_of_ble_eq_true rfl) (fun b => rfl) (fun _ => (show g33v realA a = _ from g33ok_spec hc)) fun _ st => g33_go st
  · cases h
attribute [local irreducible] g33ok g33r0
def g60O (A : Ar) : Orc := orcOf [(45, g45o A)]
theorem g60O_sound : OSound Try.prog (g60O realA) := orc_sound fun f g hm args v hv => by
  simp only [List.mem_cons, List.not_mem_nil, or_false, Prod.mk.injEq] at hm
  rcases hm with ⟨rfl, rfl⟩
  · exact g45o_sound _ _ hv
theorem g60O_det : ODet (g60O realA) := orc_det _
def g60an : Ann := [(0, ([0], [])), (1, ([0, 2], [1000])), (2, ([2], [1000])), (3, ([0, 2], [1000])), (4, ([0, 2, 4], [1000, 4000])), (5, ([0, 2, 4, 11], [1000, 4000])), (6, ([0, 2, 4, 11], [1000, 4000])), (7, ([0, 2, 4, 5, 11], [1000, 4000])), (8, ([0, 2, 4, 5, 11, 14], [1000, 4000])), (9, ([0, 2, 4, 5, 11, 14], [1000, 4000])), (10, ([0, 2, 4, 5, 6, 11, 14], [1000, 4000])), (11, ([0, 2, 4, 5, 11, 14], [1000, 4000])), (12, ([0, 2, 4, 11], [1000, 4000])), (13, ([2, 4], [1000, 4000])), (14, ([2], [1000])), (15, ([2, 4], [1000, 4000]))]
def g60res : List ResultVar := [.cell 2 24, .tmp 3]
def g60cut : List Nat := [3, 6, 9, 13]
noncomputable def g60N {R : Type} (A : Ar) (kk : AV → Heap → Option R) (t : List Bool → St → Option R) (p : List Bool) (s : St) : Option R := nodeN A gtys (g60O A) g60an g60cut t (bodyOf Try.f60) (finD gtys g60res kk) p s
def g60J9s (x0 : List Nat) (x1 x2 x3 : Int) (x4 x5 : List Nat) : St := ⟨[(0, (tS x0)), (2, (pT 1000 0)), (4, (pT 4000 0)), (5, (i6 x1)), (11, (i6 x2)), (14, (i6 x3))], [(1000, (bU 4 x4 24)), (4000, (bU 4 x5 24))]⟩
def g60J9 {R : Type} (A : Ar) (n : Nat) (kk : AV → Heap → Option R) (lg60L5 : List Nat → Int → List Nat → List Nat → Option R) (lg60L8 : List Nat → Int → Int → Int → List Nat → List Nat → Option R) (x0 : List Nat) (x1 x2 x3 : Int) (x4 x5 : List Nat) : Option R :=
  match A.neg x1 with
  | true => none
  | false => match A.lt (A.toN x1) 4 with
    | true => match A.neg (A.ib .add .i64 (A.ib .mul .i64 8 x1) x3) with
      | true => none
      | false => match A.lt (A.toN (A.ib .add .i64 (A.ib .mul .i64 8 x1) x3)) x0.length with
        | true => match A.neg (A.ib .mul .i64 8 x3) with
          | true => none
          | false => match A.neg x1 with
            | true => none
            | false => match A.lt (A.toN x1) 4 with
              | true => lg60L8 x0 x1 x2 (A.ib .add .i64 x3 1) x4 (x5.set (A.toN x1) (A.nb .or .u64 (x5.getD (A.toN x1) 0) (A.nsh .shl .u64 (x0.getD (A.toN (A.ib .add .i64 (A.ib .mul .i64 8 x1) x3)) 0) (A.toN (A.ib .mul .i64 8 x3)))))
              | false => none
        | false => none
    | false => none
def g60L8s (x0 : List Nat) (x1 x2 x3 : Int) (x4 x5 : List Nat) : St := ⟨[(0, (tS x0)), (2, (pT 1000 0)), (4, (pT 4000 0)), (5, (i6 x1)), (11, (i6 x2)), (14, (i6 x3))], [(1000, (bU 4 x4 24)), (4000, (bU 4 x5 24))]⟩
def g60L8 {R : Type} (A : Ar) (n : Nat) (kk : AV → Heap → Option R) (lg60L5 : List Nat → Int → List Nat → List Nat → Option R) : Nat → List Nat → Int → Int → Int → List Nat → List Nat → Option R
  | 0, _, _, _, _, _, _ => none
  | m + 1, x0, x1, x2, x3, x4, x5 => match A.ic .lss x3 8 with
  | true => g60J9 A n kk lg60L5 (g60L8 A n kk lg60L5 m) x0 x1 x2 x3 x4 x5
  | false => lg60L5 x0 (A.ib .add .i64 x2 1) x4 x5
def g60J6s (x0 : List Nat) (x1 : Int) (x2 x3 : List Nat) : St := ⟨[(0, (tS x0)), (2, (pT 1000 0)), (4, (pT 4000 0)), (11, (i6 x1))], [(1000, (bU 4 x2 24)), (4000, (bU 4 x3 24))]⟩
def g60J6 {R : Type} (A : Ar) (n : Nat) (kk : AV → Heap → Option R) (lg60L5 : List Nat → Int → List Nat → List Nat → Option R) (x0 : List Nat) (x1 : Int) (x2 x3 : List Nat) : Option R :=
  g60L8 A n kk lg60L5 n x0 x1 x1 0 x2 x3
def g60J13s (x0 x1 : List Nat) : St := ⟨[(2, (pT 1000 0)), (4, (pT 4000 0))], [(1000, (bU 4 x0 24)), (4000, (bU 4 x1 24))]⟩
def g60J13 {R : Type} (A : Ar) (n : Nat) (kk : AV → Heap → Option R)  (x0 x1 : List Nat) : Option R :=
  match g45ok A x1 with
  | true => match !(g45r0 A x1) with
    | true => kk (.tup [(.agg [.nums .u64 4 [0, 0, 0, 0]]), (.cell (.bool false))]) [(1000, (bU 4 [0, 0, 0, 0] 24))]
    | false => kk (.tup [(.agg [.nums .u64 4 x1]), (.cell (.bool true))]) [(1000, (bU 4 x1 24)), (4000, (bU 4 x1 24))]
  | false => none
def g60L5s (x0 : List Nat) (x1 : Int) (x2 x3 : List Nat) : St := ⟨[(0, (tS x0)), (2, (pT 1000 0)), (4, (pT 4000 0)), (11, (i6 x1))], [(1000, (bU 4 x2 24)), (4000, (bU 4 x3 24))]⟩
def g60L5 {R : Type} (A : Ar) (n : Nat) (kk : AV → Heap → Option R)  : Nat → List Nat → Int → List Nat → List Nat → Option R
  | 0, _, _, _, _ => none
  | m + 1, x0, x1, x2, x3 => match A.ic .lss x1 4 with
  | true => g60J6 A n kk (g60L5 A n kk  m) x0 x1 x2 x3
  | false => g60J13 A n kk  x2 x3
def g60J3s (x0 x1 : List Nat) : St := ⟨[(0, (tS x0)), (2, (pT 1000 0))], [(1000, (bU 4 x1 24))]⟩
def g60J3 {R : Type} (A : Ar) (n : Nat) (kk : AV → Heap → Option R)  (x0 x1 : List Nat) : Option R :=
  g60L5 A n kk  n x0 0 x1 [0, 0, 0, 0]
def g60 {R : Type} (A : Ar) (n : Nat) (kk : AV → Heap → Option R) (a : List Nat) : Option R :=
  match A.ic .neq (A.ofN a.length) 32 with
  | true => kk (.tup [(.agg [.nums .u64 4 [0, 0, 0, 0]]), (.cell (.bool false))]) [(1000, (bU 4 [0, 0, 0, 0] 24))]
  | false => g60J3 A n kk  a [0, 0, 0, 0]
section
variable {R : Type} {A : Ar} {n : Nat} {kk : AV → Heap → Option R} {tb : Nat → List Bool → St → Option R} (st : Stp (g60N A kk) tb)
include st
theorem g60J9_go {lg60L5 : List Nat → Int → List Nat → List Nat → Option R} {lg60L8 : List Nat → Int → Int → Int → List Nat → List Nat → Option R} (hg60L5 : ∀ (x0 : List Nat) (x1 : Int) (x2 x3 : List Nat), Prs (fun k => tb k (pth 244) (g60L5s x0 x1 x2 x3)) (lg60L5 x0 x1 x2 x3)) (hg60L8 : ∀ (x0 : List Nat) (x1 x2 x3 : Int) (x4 x5 : List Nat), Prs (fun k => tb k (pth 62668) (g60L8s x0 x1 x2 x3 x4 x5)) (lg60L8 x0 x1 x2 x3 x4 x5)) {x0 : List Nat} {x1 : Int} {x2 : Int} {x3 : Int} {x4 : List Nat} {x5 : List Nat} : Prs (fun k => tb k (pth 250675) (g60J9s x0 x1 x2 x3 x4 x5)) (g60J9 A n kk lg60L5 lg60L8 x0 x1 x2 x3 x4 x5) := by
  unfold g60J9
  exact st.g (pc (SxY05api _ pn (SxY05api _ (SxY05api _ pn (SxY05api _ (SxY05api _ pn (SxY05api _ pn (SxY05api _ (hg60L8 _ _ _ _ _ _) pn))) pn)) pn)) (by kernel_rfl))
theorem g60L8_go {lg60L5 : List Nat → Int → List Nat → List Nat → Option R} (hg60L5 : ∀ (x0 : List Nat) (x1 : Int) (x2 x3 : List Nat), Prs (fun k => tb k (pth 244) (g60L5s x0 x1 x2 x3)) (lg60L5 x0 x1 x2 x3)) (m : Nat) : ∀ (x0 : List Nat) (x1 x2 x3 : Int) (x4 x5 : List Nat), Prs (fun k => tb k (pth 62668) (g60L8s x0 x1 x2 x3 x4 x5)) (g60L8 A n kk lg60L5 m x0 x1 x2 x3 x4 x5) := by
  induction m with
  | zero => intro x0 x1 x2 x3 x4 x5; exact pn0
  | succ m ih =>
    intro x0 x1 x2 x3 x4 x5; rw [g60L8]
    exact st.g (pc (SxY05api _ (g60J9_go st hg60L5 ih) (hg60L5 _ _ _ _)) (by kernel_rfl))
theorem g60J6_go {lg60L5 : List Nat → Int → List Nat → List Nat → Option R} (hg60L5 : ∀ (x0 : List Nat) (x1 : Int) (x2 x3 : List Nat), Prs (fun k => tb k (pth 244) (g60L5s x0 x1 x2 x3)) (lg60L5 x0 x1 x2 x3)) {x0 : List Nat} {x1 : Int} {x2 : List Nat} {x3 : List Nat} : Prs (fun k => tb k (pth 979) (g60J6s x0 x1 x2 x3)) (g60J6 A n kk lg60L5 x0 x1 x2 x3) := by
  unfold g60J6
  exact st.g (pc (g60L8_go st hg60L5 n _ _ _ _ _ _) (by kernel_rfl))
theorem g60J13_go {x0 : List Nat} {x1 : List Nat} : Prs (fun k => tb k (pth 31) (g60J13s x0 x1)) (g60J13 A n kk x0 x1) := by
  unfold g60J13
  exact st.g (pc (SxY05api _ (SxY05api _ (pf _) (pf _)) pn) (by kernel_rfl))
theorem g60L5_go (m : Nat) : ∀ (x0 : List Nat) (x1 : Int) (x2 x3 : List Nat), Prs (fun k => tb k (pth 244) (g60L5s x0 x1 x2 x3)) (g60L5 A n kk m x0 x1 x2 x3) := by
  induction m with
  | zero => intro x0 x1 x2 x3; exact pn0
  | succ m ih =>
    intro x0 x1 x2 x3; rw [g60L5]
    exact st.g (pc (SxY05api _ (g60J6_go st ih) (g60J13_go st)) (by kernel_rfl))
theorem g60J3_go {x0 : List Nat} {x1 : List Nat} : Prs (fun k => tb k (pth 7) (g60J3s x0 x1)) (g60J3 A n kk x0 x1) := by
  unfold g60J3
  exact st.g (pc (g60L5_go st n _ _ _ _) (by kernel_rfl))
theorem g60_go {a : List Nat} : Prs (fun k => funN A gtys (g60O A) g60an g60cut (bodyOf Try.f60) g60res [(tS a)] [] kk (tb k)) (g60 A n kk a) := by
  unfold g60
  exact pc (SxY05api _ (pf _) (g60J3_go st)) (by kernel_rfl)
end
def g60is (o : Option AV) : Bool := match o with
  | some (.tup [.agg [.nums .u64 4 _], .cell (.bool _)]) => true
  | _ => false
def g60g0 (o : Option AV) : List Nat := match o with
  | some (.tup [.agg [.nums .u64 4 x], .cell (.bool _)]) => x
  | _ => []
def g60g1 (o : Option AV) : Bool := match o with
  | some (.tup [.agg [.nums .u64 4 _], .cell (.bool x)]) => x
  | _ => false
theorem g60is_spec {o : Option AV} (h : g60is o = true) : o = some (.tup [.agg [.nums .u64 4 (g60g0 o)], .cell (.bool (g60g1 o))]) := by
  unfold g60is at h
  split at h
  · rfl
  · cases h
def g60v (A : Ar) (a : List Nat) : Option AV := g60 A (100000) (fun v _ => some v) a
def g60ok (A : Ar) (a : List Nat) : Bool := g60is (g60v A a)
def g60r0 (A : Ar) (a : List Nat) : List Nat := g60g0 (g60v A a)
def g60r1 (A : Ar) (a : List Nat) : Bool := g60g1 (g60v A a)
theorem g60ok_spec {A : Ar} {a} (h : g60ok A a = true) : g60v A a = some (.tup [.agg [.nums .u64 4 (g60r0 A a)], .cell (.bool (g60r1 A a))]) := g60is_spec h
def g60o (A : Ar) (args : List AV) : Option (Bool × AV) := match args with
  | [.v (.cell (.str a))] => some (g60ok A a, .tup [.agg [.nums .u64 4 (g60r0 A a)], .cell (.bool (g60r1 A a))])
  | _ => none
theorem g60o_sound : ∀ args v, g60o realA args = some (true, v) → Fn1 Try.prog 60 args v := by
  intro args v h
  unfold g60o at h
  split at h
  · rename_i a
    simp only [Option.some.injEq, Prod.mk.injEq] at h
    obtain ⟨hc, h⟩ := h
    subst h
    · skip
      exact fn1_ofG mixed gtysOK g60O_sound g60O_det (an := g60an) (cut := g60cut) Try.func60 (c := bodyOf Try.f60) rfl (by kernel_rfl) Try.call60 (Nat.le_of_ble_eq_true rfl) (fun b => rfl) (fun _ => (show g60v realA a = _ from g60ok_spec hc)) fun _ st => g60_go st
  · cases h
attribute [local irreducible] g60ok g60r0 g60r1
def g71O (A : Ar) : Orc := orcOf []
theorem g71O_sound : OSound Try.prog (g71O realA) := orc_sound fun f g hm args v hv => by
  cases hm
theorem g71O_det : ODet (g71O realA) := orc_det _
def g71an : Ann := [(0, ([], [])), (1, ([0], [1000]))]
def g71res : List ResultVar := [.cell 0 77]
def g71cut : List Nat := []
noncomputable def g71N {R : Type} (A : Ar) (kk : AV → Heap → Option R) (t : List Bool → St → Option R) (p : List Bool) (s : St) : Option R := nodeN A gtys (g71O A) g71an g71cut t (bodyOf Try.f71) (finD gtys g71res kk) p s
def g71 {R : Type} (A : Ar) (n : Nat) (kk : AV → Heap → Option R)  : Option R :=
  kk (aN .u32 8 (((((((([0, 0, 0, 0, 0, 0, 0, 0].set 0 4294967277).set 1 4294967295).set 2 4294967295).set 3 4294967295).set 4 4294967295).set 5 4294967295).set 6 4294967295).set 7 2147483647)) [(1000, (bW 8 (((((((([0, 0, 0, 0, 0, 0, 0, 0].set 0 4294967277).set 1 4294967295).set 2 4294967295).set 3 4294967295).set 4 4294967295).set 5 4294967295).set 6 4294967295).set 7 2147483647) 77))]
section
variable {R : Type} {A : Ar} {n : Nat} {kk : AV → Heap → Option R} {tb : Nat → List Bool → St → Option R} (st : Stp (g71N A kk) tb)
include st
theorem g71_go  : Prs (fun k => funN A gtys (g71O A) g71an g71cut (bodyOf Try.f71) g71res [] [] kk (tb k)) (g71 A n kk ) := by
  unfold g71
  exact pc (pf _) (by kernel_rfl)
end
def g71is (o : Option AV) : Bool := match o with
  | some (aN .u32 8 _) => true
  | _ => false
def g71g0 (o : Option AV) : List Nat := match o with
  | some (aN .u32 8 x) => x
  | _ => []
theorem g71is_spec {o : Option AV} (h : g71is o = true) : o = some (aN .u32 8 (g71g0 o)) := by
  unfold g71is at h
  split at h
  · rfl
  · cases h
def g71v (A : Ar)  : Option AV := g71 A (100000) (fun v _ => some v) 
def g71ok (A : Ar)  : Bool := g71is (g71v A )
def g71r0 (A : Ar)  : List Nat := g71g0 (g71v A )
theorem g71ok_spec {A : Ar} (h : g71ok A = true) : g71v A = some (aN .u32 8 (g71r0 A)) := g71is_spec h
def g71o (A : Ar) (args : List AV) : Option (Bool × AV) := match args with
  | [] => some (g71ok A , .v (.agg [.nums .u32 8 (g71r0 A)]))
  | _ => none
theorem g71o_sound : ∀ args v, g71o realA args = some (true, v) → Fn1 Try.prog 71 args v := by
  intro args v h
  unfold g71o at h
  split at h
  · simp only [Option.some.injEq, Prod.mk.injEq] at h
    obtain ⟨hc, h⟩ := h
    subst h
    · skip
      exact fn1_ofG mixed gtysOK g71O_sound g71O_det (an := g71an) (cut := g71cut) Try.func71 (c := bodyOf Try.f71) rfl (by kernel_rfl) Try.call71 (Nat.le_of_ble_eq_true rfl) (fun b => rfl) (fun _ => (show g71v realA  = _ from g71ok_spec hc)) fun _ st => g71_go st
  · cases h
attribute [local irreducible] g71ok g71r0
def g79O (A : Ar) : Orc := orcOf []
theorem g79O_sound : OSound Try.prog (g79O realA) := orc_sound fun f g hm args v hv => by
  cases hm
theorem g79O_det : ODet (g79O realA) := orc_det _
def g79an : Ann := [(0, ([0, 1], [])), (1, ([2, 3], [1000, 1001])), (2, ([2, 3, 5], [1000, 1001])), (3, ([2, 3, 5], [1000, 1001])), (4, ([2, 3, 5], [1000, 1001])), (5, ([2, 3, 5], [1000, 1001])), (6, ([], []))]
def g79res : List ResultVar := [.tmp 4]
def g79cut : List Nat := [4]
noncomputable def g79N {R : Type} (A : Ar) (kk : AV → Heap → Option R) (t : List Bool → St → Option R) (p : List Bool) (s : St) : Option R := nodeN A gtys (g79O A) g79an g79cut t (bodyOf Try.f79) (finD gtys g79res kk) p s
def g79J4s (x0 : Int) (x1 x2 : List Nat) : St := ⟨[(2, (pT 1000 0)), (3, (pT 1001 0)), (5, (i6 x0))], [(1000, (bW 8 x1 77)), (1001, (bW 8 x2 77))]⟩
def g79J4 {R : Type} (A : Ar) (n : Nat) (kk : AV → Heap → Option R) (lg79L2 : Int → List Nat → List Nat → Option R) (x0 : Int) (x1 x2 : List Nat) : Option R :=
  match A.neg x0 with
  | true => none
  | false => match A.lt (A.toN x0) 8 with
    | true => match A.neg x0 with
      | true => none
      | false => match A.lt (A.toN x0) 8 with
        | true => match A.nc .neq (x1.getD (A.toN x0) 0) (x2.getD (A.toN x0) 0) with
          | true => match A.neg x0 with
            | true => none
            | false => match A.lt (A.toN x0) 8 with
              | true => match A.neg x0 with
                | true => none
                | false => match A.lt (A.toN x0) 8 with
                  | true => kk (bO (A.nc .lss (x1.getD (A.toN x0) 0) (x2.getD (A.toN x0) 0))) [(1000, (bW 8 x1 77)), (1001, (bW 8 x2 77))]
                  | false => none
              | false => none
          | false => lg79L2 (A.ib .sub .i64 x0 1) x1 x2
        | false => none
    | false => none
def g79L2s (x0 : Int) (x1 x2 : List Nat) : St := ⟨[(2, (pT 1000 0)), (3, (pT 1001 0)), (5, (i6 x0))], [(1000, (bW 8 x1 77)), (1001, (bW 8 x2 77))]⟩
def g79L2 {R : Type} (A : Ar) (n : Nat) (kk : AV → Heap → Option R)  : Nat → Int → List Nat → List Nat → Option R
  | 0, _, _, _ => none
  | m + 1, x0, x1, x2 => match A.ic .geq x0 0 with
  | true => g79J4 A n kk (g79L2 A n kk  m) x0 x1 x2
  | false => kk (bO false) []
def g79 {R : Type} (A : Ar) (n : Nat) (kk : AV → Heap → Option R) (a b : List Nat) : Option R :=
  g79L2 A n kk  n 7 a b
section
variable {R : Type} {A : Ar} {n : Nat} {kk : AV → Heap → Option R} {tb : Nat → List Bool → St → Option R} (st : Stp (g79N A kk) tb)
include st
theorem g79J4_go {lg79L2 : Int → List Nat → List Nat → Option R} (hg79L2 : ∀ (x0 : Int) (x1 x2 : List Nat), Prs (fun k => tb k (pth 52) (g79L2s x0 x1 x2)) (lg79L2 x0 x1 x2)) {x0 : Int} {x1 : List Nat} {x2 : List Nat} : Prs (fun k => tb k (pth 105) (g79J4s x0 x1 x2)) (g79J4 A n kk lg79L2 x0 x1 x2) := by
  unfold g79J4
  exact st.g (pc (SxY05api _ pn (SxY05api _ (SxY05api _ pn (SxY05api _ (SxY05api _ (SxY05api _ pn (SxY05api _ (SxY05api _ pn (SxY05api _ (pf _) pn)) pn)) (hg79L2 _ _ _)) pn)) pn)) (by kernel_rfl))
theorem g79L2_go (m : Nat) : ∀ (x0 : Int) (x1 x2 : List Nat), Prs (fun k => tb k (pth 52) (g79L2s x0 x1 x2)) (g79L2 A n kk m x0 x1 x2) := by
  induction m with
  | zero => intro x0 x1 x2; exact pn0
  | succ m ih =>
    intro x0 x1 x2; rw [g79L2]
    exact st.g (pc (SxY05api _ (g79J4_go st ih) (pf _)) (by kernel_rfl))
theorem g79_go {a : List Nat} {b : List Nat} : Prs (fun k => funN A gtys (g79O A) g79an g79cut (bodyOf Try.f79) g79res [(aN .u32 8 a), (aN .u32 8 b)] [] kk (tb k)) (g79 A n kk a b) := by
  unfold g79
  exact pc (g79L2_go st n _ _ _) (by kernel_rfl)
end
def g79is (o : Option AV) : Bool := match o with
  | some (.v (.cell (.bool _))) => true
  | _ => false
def g79g0 (o : Option AV) : Bool := match o with
  | some (.v (.cell (.bool x))) => x
  | _ => false
theorem g79is_spec {o : Option AV} (h : g79is o = true) : o = some (.v (.cell (.bool (g79g0 o)))) := by
  unfold g79is at h
  split at h
  · rfl
  · cases h
def g79v (A : Ar) (a b : List Nat) : Option AV := g79 A (100000) (fun v _ => some v) a b
def g79ok (A : Ar) (a b : List Nat) : Bool := g79is (g79v A a b)
def g79r0 (A : Ar) (a b : List Nat) : Bool := g79g0 (g79v A a b)
theorem g79ok_spec {A : Ar} {a b} (h : g79ok A a b = true) : g79v A a b = some (.v (.cell (.bool (g79r0 A a b)))) := g79is_spec h
def g79o (A : Ar) (args : List AV) : Option (Bool × AV) := match args with
  | [.v (.agg [.nums .u32 n0 a]), .v (.agg [.nums .u32 n1 b])] => some (Nat.beq n0 8 && (Nat.beq n1 8 && (g79ok A a b)), .v (.cell (.bool (g79r0 A a b))))
  | _ => none
theorem g79o_sound : ∀ args v, g79o realA args = some (true, v) → Fn1 Try.prog 79 args v := by
  intro args v h
  unfold g79o at h
  split at h
  · rename_i n0 a n1 b
    simp only [Option.some.injEq, Prod.mk.injEq] at h
    obtain ⟨hc, h⟩ := h
    subst h
    · skip
      simp only [Bool.and_eq_true] at hc
      have en0 := beq_true hc.1
      subst en0
      replace hc := hc.2
      have en1 := beq_true hc.1
      subst en1
      replace hc := hc.2
      exact fn1_ofG mixed gtysOK g79O_sound g79O_det (an := g79an) (cut := g79cut) Try.func79 (c := bodyOf Try.f79) rfl (by kernel_rfl) Try.call79 (Nat.le_of_ble_eq_true rfl) (fun b => rfl) (fun _ => (show g79v realA a b = _ from g79ok_spec hc)) fun _ st => g79_go st
  · cases h
attribute [local irreducible] g79ok g79r0
def g70O (A : Ar) : Orc := orcOf []
theorem g70O_sound : OSound Try.prog (g70O realA) := orc_sound fun f g hm args v hv => by
  cases hm
theorem g70O_det : ODet (g70O realA) := orc_det _
def g70an : Ann := [(0, ([0, 1], [])), (1, ([2, 3, 4], [1000, 1001, 1002])), (2, ([2, 3, 4, 5], [1000, 1001, 1002, 2000])), (3, ([2, 3, 4, 5, 6], [1000, 1001, 1002, 2000])), (4, ([2, 3, 4, 5, 6, 7], [1000, 1001, 1002, 2000])), (5, ([2, 3, 4, 5, 6, 7], [1000, 1001, 1002, 2000])), (6, ([2, 3, 4, 5, 6, 7], [1000, 1001, 1002, 2000])), (7, ([2, 3, 4, 5, 7, 8], [1000, 1001, 1002, 2000])), (8, ([2, 3, 4, 5, 7, 8], [1000, 1001, 1002, 2000])), (9, ([4, 5], [1002, 2000]))]
def g70res : List ResultVar := [.cell 4 77]
def g70cut : List Nat := [6]
noncomputable def g70N {R : Type} (A : Ar) (kk : AV → Heap → Option R) (t : List Bool → St → Option R) (p : List Bool) (s : St) : Option R := nodeN A gtys (g70O A) g70an g70cut t (bodyOf Try.f70) (finD gtys g70res kk) p s
def g70J6s (x0 : Nat) (x1 : Int) (x2 x3 : List Nat) (x4 x5 : List Nat) : St := ⟨[(2, (pT 1000 0)), (3, (pT 1001 0)), (4, (pT 1002 0)), (5, (pT 2000 0)), (6, (u64v x0)), (7, (i6 x1))], [(1000, (bW 8 x2 77)), (1001, (bW 8 x3 77)), (1002, (bW 8 x4 77)), (2000, (bW 8 x5 77))]⟩
def g70J6 {R : Type} (A : Ar) (n : Nat) (kk : AV → Heap → Option R) (lg70L4 : Nat → Int → List Nat → List Nat → List Nat → List Nat → Option R) (x0 : Nat) (x1 : Int) (x2 x3 : List Nat) (x4 x5 : List Nat) : Option R :=
  match A.neg x1 with
  | true => none
  | false => match A.lt (A.toN x1) 8 with
    | true => match A.neg x1 with
      | true => none
      | false => match A.lt (A.toN x1) 8 with
        | true => match A.neg x1 with
          | true => none
          | false => match A.lt (A.toN x1) 8 with
            | true => lg70L4 (A.nb .sub .u64 1 (A.nsh .shr .u64 (A.nb .sub .u64 (A.nb .sub .u64 (A.nb .add .u64 (x2.getD (A.toN x1) 0) 4294967296) (x3.getD (A.toN x1) 0)) x0) 32)) (A.ib .add .i64 x1 1) x2 x3 x4 (x5.set (A.toN x1) (A.n2n .u32 (A.nb .sub .u64 (A.nb .sub .u64 (A.nb .add .u64 (x2.getD (A.toN x1) 0) 4294967296) (x3.getD (A.toN x1) 0)) x0)))
            | false => none
        | false => none
    | false => none
def g70L4s (x0 : Nat) (x1 : Int) (x2 x3 : List Nat) (x4 x5 : List Nat) : St := ⟨[(2, (pT 1000 0)), (3, (pT 1001 0)), (4, (pT 1002 0)), (5, (pT 2000 0)), (6, (u64v x0)), (7, (i6 x1))], [(1000, (bW 8 x2 77)), (1001, (bW 8 x3 77)), (1002, (bW 8 x4 77)), (2000, (bW 8 x5 77))]⟩
def g70L4 {R : Type} (A : Ar) (n : Nat) (kk : AV → Heap → Option R)  : Nat → Nat → Int → List Nat → List Nat → List Nat → List Nat → Option R
  | 0, _, _, _, _, _, _ => none
  | m + 1, x0, x1, x2, x3, x4, x5 => match A.ic .lss x1 8 with
  | true => g70J6 A n kk (g70L4 A n kk  m) x0 x1 x2 x3 x4 x5
  | false => kk (aN .u32 8 x5) [(1002, (bW 8 x5 77)), (2000, (bW 8 x5 77))]
def g70 {R : Type} (A : Ar) (n : Nat) (kk : AV → Heap → Option R) (a b : List Nat) : Option R :=
  g70L4 A n kk  n 0 0 a b [0, 0, 0, 0, 0, 0, 0, 0] [0, 0, 0, 0, 0, 0, 0, 0]
section
variable {R : Type} {A : Ar} {n : Nat} {kk : AV → Heap → Option R} {tb : Nat → List Bool → St → Option R} (st : Stp (g70N A kk) tb)
include st
theorem g70J6_go {lg70L4 : Nat → Int → List Nat → List Nat → List Nat → List Nat → Option R} (hg70L4 : ∀ (x0 : Nat) (x1 : Int) (x2 x3 : List Nat) (x4 x5 : List Nat), Prs (fun k => tb k (pth 244) (g70L4s x0 x1 x2 x3 x4 x5)) (lg70L4 x0 x1 x2 x3 x4 x5)) {x0 : Nat} {x1 : Int} {x2 : List Nat} {x3 : List Nat} {x4 : List Nat} {x5 : List Nat} : Prs (fun k => tb k (pth 489) (g70J6s x0 x1 x2 x3 x4 x5)) (g70J6 A n kk lg70L4 x0 x1 x2 x3 x4 x5) := by
  unfold g70J6
  exact st.g (pc (SxY05api _ pn (SxY05api _ (SxY05api _ pn (SxY05api _ (SxY05api _ pn (SxY05api _ (hg70L4 _ _ _ _ _ _) pn)) pn)) pn)) (by kernel_rfl))
theorem g70L4_go (m : Nat) : ∀ (x0 : Nat) (x1 : Int) (x2 x3 : List Nat) (x4 x5 : List Nat), Prs (fun k => tb k (pth 244) (g70L4s x0 x1 x2 x3 x4 x5)) (g70L4 A n kk m x0 x1 x2 x3 x4 x5) := by
  induction m with
  | zero => intro x0 x1 x2 x3 x4 x5; exact pn0
  | succ m ih =>
    intro x0 x1 x2 x3 x4 x5; rw [g70L4]
    exact st.g (pc (SxY05api _ (g70J6_go st ih) (pf _)) (by kernel_rfl))
theorem g70_go {a : List Nat} {b : List Nat} : Prs (fun k => funN A gtys (g70O A) g70an g70cut (bodyOf Try.f70) g70res [(aN .u32 8 a), (aN .u32 8 b)] [] kk (tb k)) (g70 A n kk a b) := by
  unfold g70
  exact pc (g70L4_go st n _ _ _ _ _ _) (by kernel_rfl)
end
def g70is (o : Option AV) : Bool := match o with
  | some (aN .u32 8 _) => true
  | _ => false
def g70g0 (o : Option AV) : List Nat := match o with
  | some (aN .u32 8 x) => x
  | _ => []
theorem g70is_spec {o : Option AV} (h : g70is o = true) : o = some (aN .u32 8 (g70g0 o)) := by
  unfold g70is at h
  split at h
  · rfl
  · cases h
def g70v (A : Ar) (a b : List Nat) : Option AV := g70 A (100000) (fun v _ => some v) a b
def g70ok (A : Ar) (a b : List Nat) : Bool := g70is (g70v A a b)
def g70r0 (A : Ar) (a b : List Nat) : List Nat := g70g0 (g70v A a b)
theorem g70ok_spec {A : Ar} {a b} (h : g70ok A a b = true) : g70v A a b = some (aN .u32 8 (g70r0 A a b)) := g70is_spec h
def g70o (A : Ar) (args : List AV) : Option (Bool × AV) := match args with
  | [.v (.agg [.nums .u32 n0 a]), .v (.agg [.nums .u32 n1 b])] => some (Nat.beq n0 8 && (Nat.beq n1 8 && (g70ok A a b)), .v (.agg [.nums .u32 8 (g70r0 A a b)]))
  | _ => none
theorem g70o_sound : ∀ args v, g70o realA args = some (true, v) → Fn1 Try.prog 70 args v := by
  intro args v h
  unfold g70o at h
  split at h
  · rename_i n0 a n1 b
    simp only [Option.some.injEq, Prod.mk.injEq] at h
    obtain ⟨hc, h⟩ := h
    subst h
    · skip
      simp only [Bool.and_eq_true] at hc
      have en0 := beq_true hc.1
      subst en0
      replace hc := hc.2
      have en1 := beq_true hc.1
      subst en1
      replace hc := hc.2
      exact fn1_ofG mixed gtysOK g70O_sound g70O_det (an := g70an) (cut := g70cut) Try.func70 (c := bodyOf Try.f70) rfl (by kernel_rfl) Try.call70 (Nat.le_of_ble_eq_true rfl) (fun b => rfl) (fun _ => (show g70v realA a b = _ from g70ok_spec hc)) fun _ st => g70_go st
  · cases h
attribute [local irreducible] g70ok g70r0
def g69O (A : Ar) : Orc := orcOf [(71, g71o A), (79, g79o A), (70, g70o A)]
theorem g69O_sound : OSound Try.prog (g69O realA) := orc_sound fun f g hm args v hv => by
  simp only [List.mem_cons, List.not_mem_nil, or_false, Prod.mk.injEq] at hm
  rcases hm with ⟨rfl, rfl⟩ | ⟨rfl, rfl⟩ | ⟨rfl, rfl⟩
  · exact g71o_sound _ _ hv
  · exact g79o_sound _ _ hv
  · exact g70o_sound _ _ hv
theorem g69O_det : ODet (g69O realA) := orc_det _
def g69an : Ann := [(0, ([0], [])), (1, ([1, 2], [1000, 1001])), (2, ([1, 2], [1000, 1001])), (3, ([1, 2], [1000, 1001]))]
def g69res : List ResultVar := [.cell 2 77]
def g69cut : List Nat := []
noncomputable def g69N {R : Type} (A : Ar) (kk : AV → Heap → Option R) (t : List Bool → St → Option R) (p : List Bool) (s : St) : Option R := nodeN A gtys (g69O A) g69an g69cut t (bodyOf Try.f69) (finD gtys g69res kk) p s
def g69L1s (x0 x1 : List Nat) : St := ⟨[(1, (pT 1000 0)), (2, (pT 1001 0))], [(1000, (bW 8 x0 77)), (1001, (bW 8 x1 77))]⟩
def g69L1 {R : Type} (A : Ar) (n : Nat) (kk : AV → Heap → Option R)  : Nat → List Nat → List Nat → Option R
  | 0, _, _ => none
  | m + 1, x0, x1 => match g71ok A with
  | true => match g79ok A x0 (g71r0 A) with
    | true => match !(g79r0 A x0 (g71r0 A)) with
      | true => match g71ok A with
        | true => match g70ok A x0 (g71r0 A) with
          | true => g69L1 A n kk  m (g70r0 A x0 (g71r0 A)) x1
          | false => none
        | false => none
      | false => kk (aN .u32 8 x0) [(1000, (bW 8 x0 77)), (1001, (bW 8 x0 77))]
    | false => none
  | false => none
def g69 {R : Type} (A : Ar) (n : Nat) (kk : AV → Heap → Option R) (a : List Nat) : Option R :=
  g69L1 A n kk  n a [0, 0, 0, 0, 0, 0, 0, 0]
section
variable {R : Type} {A : Ar} {n : Nat} {kk : AV → Heap → Option R} {tb : Nat → List Bool → St → Option R} (st : Stp (g69N A kk) tb)
include st
theorem g69L1_go (m : Nat) : ∀ (x0 x1 : List Nat), Prs (fun k => tb k (pth 24) (g69L1s x0 x1)) (g69L1 A n kk m x0 x1) := by
  induction m with
  | zero => intro x0 x1; exact pn0
  | succ m ih =>
    intro x0 x1; rw [g69L1]
    exact st.g (pc (SxY05api _ (SxY05api _ (SxY05api _ (SxY05api _ (SxY05api _ (ih _ _) pn) pn) (pf _)) pn) pn) (by kernel_rfl))
theorem g69_go {a : List Nat} : Prs (fun k => funN A gtys (g69O A) g69an g69cut (bodyOf Try.f69) g69res [(aN .u32 8 a)] [] kk (tb k)) (g69 A n kk a) := by
  unfold g69
  exact pc (g69L1_go st n _ _) (by kernel_rfl)
end
def g69is (o : Option AV) : Bool := match o with
  | some (aN .u32 8 _) => true
  | _ => false
def g69g0 (o : Option AV) : List Nat := match o with
  | some (aN .u32 8 x) => x
  | _ => []
theorem g69is_spec {o : Option AV} (h : g69is o = true) : o = some (aN .u32 8 (g69g0 o)) := by
  unfold g69is at h
  split at h
  · rfl
  · cases h
def g69v (A : Ar) (a : List Nat) : Option AV := g69 A (100000) (fun v _ => some v) a
def g69ok (A : Ar) (a : List Nat) : Bool := g69is (g69v A a)
def g69r0 (A : Ar) (a : List Nat) : List Nat := g69g0 (g69v A a)
theorem g69ok_spec {A : Ar} {a} (h : g69ok A a = true) : g69v A a = some (aN .u32 8 (g69r0 A a)) := g69is_spec h
def g69o (A : Ar) (args : List AV) : Option (Bool × AV) := match args with
  | [.v (.agg [.nums .u32 n0 a])] => some (Nat.beq n0 8 && (g69ok A a), .v (.agg [.nums .u32 8 (g69r0 A a)]))
  | _ => none
theorem g69o_sound : ∀ args v, g69o realA args = some (true, v) → Fn1 Try.prog 69 args v := by
  intro args v h
  unfold g69o at h
  split at h
  · rename_i n0 a
    simp only [Option.some.injEq, Prod.mk.injEq] at h
    obtain ⟨hc, h⟩ := h
    subst h
    · skip
      simp only [Bool.and_eq_true] at hc
      have en0 := beq_true hc.1
      subst en0
      replace hc := hc.2
      exact fn1_ofG mixed gtysOK g69O_sound g69O_det (an := g69an) (cut := g69cut) Try.func69 (c := bodyOf Try.f69) rfl (by kernel_rfl) Try.call69 (Nat.le_of_ble_eq_true rfl) (fun b => rfl) (fun _ => (show g69v realA a = _ from g69ok_spec hc)) fun _ st => g69_go st
  · cases h
attribute [local irreducible] g69ok g69r0
def g65O (A : Ar) : Orc := orcOf [(69, g69o A)]
theorem g65O_sound : OSound Try.prog (g65O realA) := orc_sound fun f g hm args v hv => by
  simp only [List.mem_cons, List.not_mem_nil, or_false, Prod.mk.injEq] at hm
  rcases hm with ⟨rfl, rfl⟩
  · exact g69o_sound _ _ hv
theorem g65O_det : ODet (g65O realA) := orc_det _
def g65an : Ann := [(0, ([0], [])), (1, ([1, 2], [1000, 1001])), (2, ([1, 2, 3], [1000, 1001, 2000])), (3, ([1, 2, 3, 4], [1000, 1001, 2000])), (4, ([1, 2, 3, 4], [1000, 1001, 2000])), (5, ([1, 2, 3, 4], [1000, 1001, 2000])), (6, ([1, 2, 3, 4], [1000, 1001, 2000])), (7, ([2, 3], [1001, 2000]))]
def g65res : List ResultVar := [.cell 2 77]
def g65cut : List Nat := [5]
noncomputable def g65N {R : Type} (A : Ar) (kk : AV → Heap → Option R) (t : List Bool → St → Option R) (p : List Bool) (s : St) : Option R := nodeN A gtys (g65O A) g65an g65cut t (bodyOf Try.f65) (finD gtys g65res kk) p s
def g65J5s (x0 : Int) (x1 x2 x3 : List Nat) : St := ⟨[(1, (pT 1000 0)), (2, (pT 1001 0)), (3, (pT 2000 0)), (4, (i6 x0))], [(1000, (bU 4 x1 24)), (1001, (bW 8 x2 77)), (2000, (bW 8 x3 77))]⟩
def g65J5 {R : Type} (A : Ar) (n : Nat) (kk : AV → Heap → Option R) (lg65L3 : Int → List Nat → List Nat → List Nat → Option R) (x0 : Int) (x1 x2 x3 : List Nat) : Option R :=
  match A.neg x0 with
  | true => none
  | false => match A.lt (A.toN x0) 4 with
    | true => match A.neg (A.ib .mul .i64 2 x0) with
      | true => none
      | false => match A.lt (A.toN (A.ib .mul .i64 2 x0)) 8 with
        | true => match A.neg x0 with
          | true => none
          | false => match A.lt (A.toN x0) 4 with
            | true => match A.neg (A.ib .add .i64 (A.ib .mul .i64 2 x0) 1) with
              | true => none
              | false => match A.lt (A.toN (A.ib .add .i64 (A.ib .mul .i64 2 x0) 1)) 8 with
                | true => lg65L3 (A.ib .add .i64 x0 1) x1 x2 ((x3.set (A.toN (A.ib .mul .i64 2 x0)) (A.n2n .u32 (x1.getD (A.toN x0) 0))).set (A.toN (A.ib .add .i64 (A.ib .mul .i64 2 x0) 1)) (A.n2n .u32 (A.nsh .shr .u64 (x1.getD (A.toN x0) 0) 32)))
                | false => none
            | false => none
        | false => none
    | false => none
def g65L3s (x0 : Int) (x1 x2 x3 : List Nat) : St := ⟨[(1, (pT 1000 0)), (2, (pT 1001 0)), (3, (pT 2000 0)), (4, (i6 x0))], [(1000, (bU 4 x1 24)), (1001, (bW 8 x2 77)), (2000, (bW 8 x3 77))]⟩
def g65L3 {R : Type} (A : Ar) (n : Nat) (kk : AV → Heap → Option R)  : Nat → Int → List Nat → List Nat → List Nat → Option R
  | 0, _, _, _, _ => none
  | m + 1, x0, x1, x2, x3 => match A.ic .lss x0 4 with
  | true => g65J5 A n kk (g65L3 A n kk  m) x0 x1 x2 x3
  | false => match g69ok A x3 with
    | true => kk (aN .u32 8 (g69r0 A x3)) [(1001, (bW 8 (g69r0 A x3) 77)), (2000, (bW 8 x3 77))]
    | false => none
def g65 {R : Type} (A : Ar) (n : Nat) (kk : AV → Heap → Option R) (a : List Nat) : Option R :=
  g65L3 A n kk  n 0 a [0, 0, 0, 0, 0, 0, 0, 0] [0, 0, 0, 0, 0, 0, 0, 0]
section
variable {R : Type} {A : Ar} {n : Nat} {kk : AV → Heap → Option R} {tb : Nat → List Bool → St → Option R} (st : Stp (g65N A kk) tb)
include st
theorem g65J5_go {lg65L3 : Int → List Nat → List Nat → List Nat → Option R} (hg65L3 : ∀ (x0 : Int) (x1 x2 x3 : List Nat), Prs (fun k => tb k (pth 116) (g65L3s x0 x1 x2 x3)) (lg65L3 x0 x1 x2 x3)) {x0 : Int} {x1 : List Nat} {x2 : List Nat} {x3 : List Nat} : Prs (fun k => tb k (pth 233) (g65J5s x0 x1 x2 x3)) (g65J5 A n kk lg65L3 x0 x1 x2 x3) := by
  unfold g65J5
  exact st.g (pc (SxY05api _ pn (SxY05api _ (SxY05api _ pn (SxY05api _ (SxY05api _ pn (SxY05api _ (SxY05api _ pn (SxY05api _ (hg65L3 _ _ _ _) pn)) pn)) pn)) pn)) (by kernel_rfl))
theorem g65L3_go (m : Nat) : ∀ (x0 : Int) (x1 x2 x3 : List Nat), Prs (fun k => tb k (pth 116) (g65L3s x0 x1 x2 x3)) (g65L3 A n kk m x0 x1 x2 x3) := by
  induction m with
  | zero => intro x0 x1 x2 x3; exact pn0
  | succ m ih =>
    intro x0 x1 x2 x3; rw [g65L3]
    exact st.g (pc (SxY05api _ (g65J5_go st ih) (SxY05api _ (pf _) pn)) (by kernel_rfl))
theorem g65_go {a : List Nat} : Prs (fun k => funN A gtys (g65O A) g65an g65cut (bodyOf Try.f65) g65res [(aN .u64 4 a)] [] kk (tb k)) (g65 A n kk a) := by
  unfold g65
  exact pc (g65L3_go st n _ _ _ _) (by kernel_rfl)
end
def g65is (o : Option AV) : Bool := match o with
  | some (aN .u32 8 _) => true
  | _ => false
def g65g0 (o : Option AV) : List Nat := match o with
  | some (aN .u32 8 x) => x
  | _ => []
theorem g65is_spec {o : Option AV} (h : g65is o = true) : o = some (aN .u32 8 (g65g0 o)) := by
  unfold g65is at h
  split at h
  · rfl
  · cases h
def g65v (A : Ar) (a : List Nat) : Option AV := g65 A (100000) (fun v _ => some v) a
def g65ok (A : Ar) (a : List Nat) : Bool := g65is (g65v A a)
def g65r0 (A : Ar) (a : List Nat) : List Nat := g65g0 (g65v A a)
theorem g65ok_spec {A : Ar} {a} (h : g65ok A a = true) : g65v A a = some (aN .u32 8 (g65r0 A a)) := g65is_spec h
def g65o (A : Ar) (args : List AV) : Option (Bool × AV) := match args with
  | [.v (.agg [.nums .u64 n0 a])] => some (Nat.beq n0 4 && (g65ok A a), .v (.agg [.nums .u32 8 (g65r0 A a)]))
  | _ => none
theorem g65o_sound : ∀ args v, g65o realA args = some (true, v) → Fn1 Try.prog 65 args v := by
  intro args v h
  unfold g65o at h
  split at h
  · rename_i n0 a
    simp only [Option.some.injEq, Prod.mk.injEq] at h
    obtain ⟨hc, h⟩ := h
    subst h
    · skip
      simp only [Bool.and_eq_true] at hc
      have en0 := beq_true hc.1
      subst en0
      replace hc := hc.2
      exact fn1_ofG mixed gtysOK g65O_sound g65O_det (an := g65an) (cut := g65cut) Try.func65 (c := bodyOf Try.f65) rfl (by kernel_rfl) Try.call65 (Nat.le_of_ble_eq_true rfl) (fun b => rfl) (fun _ => (show g65v realA a = _ from g65ok_spec hc)) fun _ st => g65_go st
  · cases h
attribute [local irreducible] g65ok g65r0
def g64O (A : Ar) : Orc := orcOf []
theorem g64O_sound : OSound Try.prog (g64O realA) := orc_sound fun f g hm args v hv => by
  cases hm
theorem g64O_det : ODet (g64O realA) := orc_det _
def g64an : Ann := [(0, ([0], [])), (1, ([1, 2], [1000, 1001])), (2, ([1, 2, 3], [1000, 1001, 2000])), (3, ([1, 2, 3, 4], [1000, 1001, 2000])), (4, ([1, 2, 3, 4], [1000, 1001, 2000])), (5, ([1, 2, 3, 4], [1000, 1001, 2000])), (6, ([2, 3], [1001, 2000]))]
def g64res : List ResultVar := [.cell 2 24]
def g64cut : List Nat := [5]
noncomputable def g64N {R : Type} (A : Ar) (kk : AV → Heap → Option R) (t : List Bool → St → Option R) (p : List Bool) (s : St) : Option R := nodeN A gtys (g64O A) g64an g64cut t (bodyOf Try.f64) (finD gtys g64res kk) p s
def g64J5s (x0 : Int) (x1 x2 x3 : List Nat) : St := ⟨[(1, (pT 1000 0)), (2, (pT 1001 0)), (3, (pT 2000 0)), (4, (i6 x0))], [(1000, (bW 8 x1 77)), (1001, (bU 4 x2 24)), (2000, (bU 4 x3 24))]⟩
def g64J5 {R : Type} (A : Ar) (n : Nat) (kk : AV → Heap → Option R) (lg64L3 : Int → List Nat → List Nat → List Nat → Option R) (x0 : Int) (x1 x2 x3 : List Nat) : Option R :=
  match A.neg (A.ib .mul .i64 2 x0) with
  | true => none
  | false => match A.lt (A.toN (A.ib .mul .i64 2 x0)) 8 with
    | true => match A.neg (A.ib .add .i64 (A.ib .mul .i64 2 x0) 1) with
      | true => none
      | false => match A.lt (A.toN (A.ib .add .i64 (A.ib .mul .i64 2 x0) 1)) 8 with
        | true => match A.neg x0 with
          | true => none
          | false => match A.lt (A.toN x0) 4 with
            | true => lg64L3 (A.ib .add .i64 x0 1) x1 x2 (x3.set (A.toN x0) (A.nb .or .u64 (x1.getD (A.toN (A.ib .mul .i64 2 x0)) 0) (A.nsh .shl .u64 (x1.getD (A.toN (A.ib .add .i64 (A.ib .mul .i64 2 x0) 1)) 0) 32)))
            | false => none
        | false => none
    | false => none
def g64L3s (x0 : Int) (x1 x2 x3 : List Nat) : St := ⟨[(1, (pT 1000 0)), (2, (pT 1001 0)), (3, (pT 2000 0)), (4, (i6 x0))], [(1000, (bW 8 x1 77)), (1001, (bU 4 x2 24)), (2000, (bU 4 x3 24))]⟩
def g64L3 {R : Type} (A : Ar) (n : Nat) (kk : AV → Heap → Option R)  : Nat → Int → List Nat → List Nat → List Nat → Option R
  | 0, _, _, _, _ => none
  | m + 1, x0, x1, x2, x3 => match A.ic .lss x0 4 with
  | true => g64J5 A n kk (g64L3 A n kk  m) x0 x1 x2 x3
  | false => kk (aN .u64 4 x3) [(1001, (bU 4 x3 24)), (2000, (bU 4 x3 24))]
def g64 {R : Type} (A : Ar) (n : Nat) (kk : AV → Heap → Option R) (a : List Nat) : Option R :=
  g64L3 A n kk  n 0 a [0, 0, 0, 0] [0, 0, 0, 0]
section
variable {R : Type} {A : Ar} {n : Nat} {kk : AV → Heap → Option R} {tb : Nat → List Bool → St → Option R} (st : Stp (g64N A kk) tb)
include st
theorem g64J5_go {lg64L3 : Int → List Nat → List Nat → List Nat → Option R} (hg64L3 : ∀ (x0 : Int) (x1 x2 x3 : List Nat), Prs (fun k => tb k (pth 116) (g64L3s x0 x1 x2 x3)) (lg64L3 x0 x1 x2 x3)) {x0 : Int} {x1 : List Nat} {x2 : List Nat} {x3 : List Nat} : Prs (fun k => tb k (pth 233) (g64J5s x0 x1 x2 x3)) (g64J5 A n kk lg64L3 x0 x1 x2 x3) := by
  unfold g64J5
  exact st.g (pc (SxY05api _ pn (SxY05api _ (SxY05api _ pn (SxY05api _ (SxY05api _ pn (SxY05api _ (hg64L3 _ _ _ _) pn)) pn)) pn)) (by kernel_rfl))
theorem g64L3_go (m : Nat) : ∀ (x0 : Int) (x1 x2 x3 : List Nat), Prs (fun k => tb k (pth 116) (g64L3s x0 x1 x2 x3)) (g64L3 A n kk m x0 x1 x2 x3) := by
  induction m with
  | zero => intro x0 x1 x2 x3; exact pn0
  | succ m ih =>
    intro x0 x1 x2 x3; rw [g64L3]
    exact st.g (pc (SxY05api _ (g64J5_go st ih) (pf _)) (by kernel_rfl))
theorem g64_go {a : List Nat} : Prs (fun k => funN A gtys (g64O A) g64an g64cut (bodyOf Try.f64) g64res [(aN .u32 8 a)] [] kk (tb k)) (g64 A n kk a) := by
  unfold g64
  exact pc (g64L3_go st n _ _ _ _) (by kernel_rfl)
end
def g64is (o : Option AV) : Bool := match o with
  | some (aN .u64 4 _) => true
  | _ => false
def g64g0 (o : Option AV) : List Nat := match o with
  | some (aN .u64 4 x) => x
  | _ => []
theorem g64is_spec {o : Option AV} (h : g64is o = true) : o = some (aN .u64 4 (g64g0 o)) := by
  unfold g64is at h
  split at h
  · rfl
  · cases h
def g64v (A : Ar) (a : List Nat) : Option AV := g64 A (100000) (fun v _ => some v) a
def g64ok (A : Ar) (a : List Nat) : Bool := g64is (g64v A a)
def g64r0 (A : Ar) (a : List Nat) : List Nat := g64g0 (g64v A a)
theorem g64ok_spec {A : Ar} {a} (h : g64ok A a = true) : g64v A a = some (aN .u64 4 (g64r0 A a)) := g64is_spec h
def g64o (A : Ar) (args : List AV) : Option (Bool × AV) := match args with
  | [.v (.agg [.nums .u32 n0 a])] => some (Nat.beq n0 8 && (g64ok A a), .v (.agg [.nums .u64 4 (g64r0 A a)]))
  | _ => none
theorem g64o_sound : ∀ args v, g64o realA args = some (true, v) → Fn1 Try.prog 64 args v := by
  intro args v h
  unfold g64o at h
  split at h
  · rename_i n0 a
    simp only [Option.some.injEq, Prod.mk.injEq] at h
    obtain ⟨hc, h⟩ := h
    subst h
    · skip
      simp only [Bool.and_eq_true] at hc
      have en0 := beq_true hc.1
      subst en0
      replace hc := hc.2
      exact fn1_ofG mixed gtysOK g64O_sound g64O_det (an := g64an) (cut := g64cut) Try.func64 (c := bodyOf Try.f64) rfl (by kernel_rfl) Try.call64 (Nat.le_of_ble_eq_true rfl) (fun b => rfl) (fun _ => (show g64v realA a = _ from g64ok_spec hc)) fun _ st => g64_go st
  · cases h
attribute [local irreducible] g64ok g64r0
def g75O (A : Ar) : Orc := orcOf [(69, g69o A)]
theorem g75O_sound : OSound Try.prog (g75O realA) := orc_sound fun f g hm args v hv => by
  simp only [List.mem_cons, List.not_mem_nil, or_false, Prod.mk.injEq] at hm
  rcases hm with ⟨rfl, rfl⟩
  · exact g69o_sound _ _ hv
theorem g75O_det : ODet (g75O realA) := orc_det _
def g75an : Ann := [(0, ([0], [0])), (1, ([0, 2], [0, 1000])), (2, ([0, 2, 3], [0, 1000, 2000])), (3, ([0, 2, 3, 4], [0, 1000, 2000])), (4, ([0, 2, 3, 4, 5], [0, 1000, 2000])), (5, ([0, 2, 3, 4, 5], [0, 1000, 2000])), (6, ([0, 2, 3, 4, 5], [0, 1000, 2000])), (7, ([0, 2, 3, 5, 6], [0, 1000, 2000])), (8, ([0, 2, 3, 5, 6], [0, 1000, 2000])), (9, ([2, 3, 4], [0, 1000, 2000])), (10, ([2, 3, 4], [0, 1000, 2000])), (11, ([2, 3, 7], [0, 1000, 2000])), (12, ([2, 3, 7], [0, 1000, 2000])), (13, ([2, 3, 7, 8], [0, 1000, 2000])), (14, ([2, 3, 7, 8], [0, 1000, 2000])), (15, ([2, 3, 7, 8], [0, 1000, 2000])), (16, ([2, 3, 7, 8], [0, 1000, 2000])), (17, ([2, 3, 7, 8], [0, 1000, 2000])), (18, ([2, 3, 7], [0, 1000, 2000])), (19, ([2, 3], [0, 1000, 2000]))]
def g75res : List ResultVar := [.cell 2 77]
def g75cut : List Nat := [6, 9, 10, 15]
noncomputable def g75N {R : Type} (A : Ar) (kk : AV → Heap → Option R) (t : List Bool → St → Option R) (p : List Bool) (s : St) : Option R := nodeN A gtys (g75O A) g75an g75cut t (bodyOf Try.f75) (finD gtys g75res kk) p s
def g75J6s (x0 x1 : Nat) (x2 : Int) (x3 : Nat) (x4 x5 x6 : List Nat) : St := ⟨[(0, (sL 0 none x0 1)), (2, (pT 1000 0)), (3, (pT 2000 0)), (4, (u64v x1)), (5, (i6 x2))], [(0, ⟨[.nums .u64 x3 x4], 22, 2⟩), (1000, (bW 8 x5 77)), (2000, (bW 8 x6 77))]⟩
def g75J6 {R : Type} (A : Ar) (n : Nat) (kk : AV → Heap → Option R) (lg75L4 : Nat → Nat → Int → Nat → List Nat → List Nat → List Nat → Option R) (x0 x1 : Nat) (x2 : Int) (x3 : Nat) (x4 x5 x6 : List Nat) : Option R :=
  match A.neg x2 with
  | true => none
  | false => match A.lt (A.toN x2) x0 with
    | true => match A.neg (A.ib .add .i64 x2 8) with
      | true => none
      | false => match A.lt (A.toN (A.ib .add .i64 x2 8)) x0 with
        | true => match A.neg x2 with
          | true => none
          | false => match A.lt (A.toN x2) 8 with
            | true => lg75L4 x0 (A.nsh .shr .u64 (A.nb .add .u64 (A.nb .add .u64 (x4.getD (A.toN x2) 0) (A.nb .mul .u64 38 (x4.getD (A.toN (A.ib .add .i64 x2 8)) 0))) x1) 32) (A.ib .add .i64 x2 1) x3 x4 x5 (x6.set (A.toN x2) (A.n2n .u32 (A.nb .add .u64 (A.nb .add .u64 (x4.getD (A.toN x2) 0) (A.nb .mul .u64 38 (x4.getD (A.toN (A.ib .add .i64 x2 8)) 0))) x1)))
            | false => none
        | false => none
    | false => none
def g75J15s (x0 : Nat) (x1 : Int) (x2 : Nat) (x3 x4 x5 : List Nat) : St := ⟨[(2, (pT 1000 0)), (3, (pT 2000 0)), (7, (u64v x0)), (8, (i6 x1))], [(0, ⟨[.nums .u64 x2 x3], 22, 2⟩), (1000, (bW 8 x4 77)), (2000, (bW 8 x5 77))]⟩
def g75J15 {R : Type} (A : Ar) (n : Nat) (kk : AV → Heap → Option R) (lg75L9 : Nat → Nat → List Nat → List Nat → List Nat → Option R) (lg75L13 : Nat → Int → Nat → List Nat → List Nat → List Nat → Option R) (x0 : Nat) (x1 : Int) (x2 : Nat) (x3 x4 x5 : List Nat) : Option R :=
  match A.neg x1 with
  | true => none
  | false => match A.lt (A.toN x1) 8 with
    | true => match A.neg x1 with
      | true => none
      | false => match A.lt (A.toN x1) 8 with
        | true => lg75L13 (A.nsh .shr .u64 (A.nb .add .u64 x0 (x5.getD (A.toN x1) 0)) 32) (A.ib .add .i64 x1 1) x2 x3 x4 (x5.set (A.toN x1) (A.n2n .u32 (A.nb .add .u64 x0 (x5.getD (A.toN x1) 0))))
        | false => none
    | false => none
def g75L13s (x0 : Nat) (x1 : Int) (x2 : Nat) (x3 x4 x5 : List Nat) : St := ⟨[(2, (pT 1000 0)), (3, (pT 2000 0)), (7, (u64v x0)), (8, (i6 x1))], [(0, ⟨[.nums .u64 x2 x3], 22, 2⟩), (1000, (bW 8 x4 77)), (2000, (bW 8 x5 77))]⟩
def g75L13 {R : Type} (A : Ar) (n : Nat) (kk : AV → Heap → Option R) (lg75L9 : Nat → Nat → List Nat → List Nat → List Nat → Option R) : Nat → Nat → Int → Nat → List Nat → List Nat → List Nat → Option R
  | 0, _, _, _, _, _, _ => none
  | m + 1, x0, x1, x2, x3, x4, x5 => match A.ic .lss x1 8 with
  | true => g75J15 A n kk lg75L9 (g75L13 A n kk lg75L9 m) x0 x1 x2 x3 x4 x5
  | false => lg75L9 x0 x2 x3 x4 x5
def g75J10s (x0 x1 : Nat) (x2 x3 x4 : List Nat) : St := ⟨[(2, (pT 1000 0)), (3, (pT 2000 0)), (4, (u64v x0))], [(0, ⟨[.nums .u64 x1 x2], 22, 2⟩), (1000, (bW 8 x3 77)), (2000, (bW 8 x4 77))]⟩
def g75J10 {R : Type} (A : Ar) (n : Nat) (kk : AV → Heap → Option R) (lg75L9 : Nat → Nat → List Nat → List Nat → List Nat → Option R) (x0 x1 : Nat) (x2 x3 x4 : List Nat) : Option R :=
  g75L13 A n kk lg75L9 n (A.nb .mul .u64 x0 38) 0 x1 x2 x3 x4
def g75L9s (x0 x1 : Nat) (x2 x3 x4 : List Nat) : St := ⟨[(2, (pT 1000 0)), (3, (pT 2000 0)), (4, (u64v x0))], [(0, ⟨[.nums .u64 x1 x2], 22, 2⟩), (1000, (bW 8 x3 77)), (2000, (bW 8 x4 77))]⟩
def g75L9 {R : Type} (A : Ar) (n : Nat) (kk : AV → Heap → Option R)  : Nat → Nat → Nat → List Nat → List Nat → List Nat → Option R
  | 0, _, _, _, _, _ => none
  | m + 1, x0, x1, x2, x3, x4 => match A.nc .gtr x0 0 with
  | true => g75J10 A n kk (g75L9 A n kk  m) x0 x1 x2 x3 x4
  | false => match g69ok A x4 with
    | true => kk (aN .u32 8 (g69r0 A x4)) [(0, ⟨[.nums .u64 x1 x2], 22, 2⟩), (1000, (bW 8 (g69r0 A x4) 77)), (2000, (bW 8 x4 77))]
    | false => none
def g75J9s (x0 x1 : Nat) (x2 x3 x4 : List Nat) : St := ⟨[(2, (pT 1000 0)), (3, (pT 2000 0)), (4, (u64v x0))], [(0, ⟨[.nums .u64 x1 x2], 22, 2⟩), (1000, (bW 8 x3 77)), (2000, (bW 8 x4 77))]⟩
def g75J9 {R : Type} (A : Ar) (n : Nat) (kk : AV → Heap → Option R)  (x0 x1 : Nat) (x2 x3 x4 : List Nat) : Option R :=
  g75L9 A n kk  n x0 x1 x2 x3 x4
def g75L4s (x0 x1 : Nat) (x2 : Int) (x3 : Nat) (x4 x5 x6 : List Nat) : St := ⟨[(0, (sL 0 none x0 1)), (2, (pT 1000 0)), (3, (pT 2000 0)), (4, (u64v x1)), (5, (i6 x2))], [(0, ⟨[.nums .u64 x3 x4], 22, 2⟩), (1000, (bW 8 x5 77)), (2000, (bW 8 x6 77))]⟩
def g75L4 {R : Type} (A : Ar) (n : Nat) (kk : AV → Heap → Option R)  : Nat → Nat → Nat → Int → Nat → List Nat → List Nat → List Nat → Option R
  | 0, _, _, _, _, _, _, _ => none
  | m + 1, x0, x1, x2, x3, x4, x5, x6 => match A.ic .lss x2 8 with
  | true => g75J6 A n kk (g75L4 A n kk  m) x0 x1 x2 x3 x4 x5 x6
  | false => g75J9 A n kk  x1 x3 x4 x5 x6
def g75 {R : Type} (A : Ar) (n : Nat) (kk : AV → Heap → Option R) (x0 x1 : Nat) (x2 : List Nat) : Option R :=
  g75L4 A n kk  n x0 0 0 x1 x2 [0, 0, 0, 0, 0, 0, 0, 0] [0, 0, 0, 0, 0, 0, 0, 0]
section
variable {R : Type} {A : Ar} {n : Nat} {kk : AV → Heap → Option R} {tb : Nat → List Bool → St → Option R} (st : Stp (g75N A kk) tb)
include st
theorem g75J6_go {lg75L4 : Nat → Nat → Int → Nat → List Nat → List Nat → List Nat → Option R} (hg75L4 : ∀ (x0 x1 : Nat) (x2 : Int) (x3 : Nat) (x4 x5 x6 : List Nat), Prs (fun k => tb k (pth 244) (g75L4s x0 x1 x2 x3 x4 x5 x6)) (lg75L4 x0 x1 x2 x3 x4 x5 x6)) {x0 : Nat} {x1 : Nat} {x2 : Int} {x3 : Nat} {x4 : List Nat} {x5 : List Nat} {x6 : List Nat} : Prs (fun k => tb k (pth 489) (g75J6s x0 x1 x2 x3 x4 x5 x6)) (g75J6 A n kk lg75L4 x0 x1 x2 x3 x4 x5 x6) := by
  unfold g75J6
  exact st.g (pc (SxY05api _ pn (SxY05api _ (SxY05api _ pn (SxY05api _ (SxY05api _ pn (SxY05api _ (hg75L4 _ _ _ _ _ _ _) pn)) pn)) pn)) (by kernel_rfl))
theorem g75J15_go {lg75L9 : Nat → Nat → List Nat → List Nat → List Nat → Option R} {lg75L13 : Nat → Int → Nat → List Nat → List Nat → List Nat → Option R} (hg75L9 : ∀ (x0 x1 : Nat) (x2 x3 x4 : List Nat), Prs (fun k => tb k (pth 248) (g75L9s x0 x1 x2 x3 x4)) (lg75L9 x0 x1 x2 x3 x4)) (hg75L13 : ∀ (x0 : Nat) (x1 : Int) (x2 : Nat) (x3 x4 x5 : List Nat), Prs (fun k => tb k (pth 63668) (g75L13s x0 x1 x2 x3 x4 x5)) (lg75L13 x0 x1 x2 x3 x4 x5)) {x0 : Nat} {x1 : Int} {x2 : Nat} {x3 : List Nat} {x4 : List Nat} {x5 : List Nat} : Prs (fun k => tb k (pth 127337) (g75J15s x0 x1 x2 x3 x4 x5)) (g75J15 A n kk lg75L9 lg75L13 x0 x1 x2 x3 x4 x5) := by
  unfold g75J15
  exact st.g (pc (SxY05api _ pn (SxY05api _ (SxY05api _ pn (SxY05api _ (hg75L13 _ _ _ _ _ _) pn)) pn)) (by kernel_rfl))
theorem g75L13_go {lg75L9 : Nat → Nat → List Nat → List Nat → List Nat → Option R} (hg75L9 : ∀ (x0 x1 : Nat) (x2 x3 x4 : List Nat), Prs (fun k => tb k (pth 248) (g75L9s x0 x1 x2 x3 x4)) (lg75L9 x0 x1 x2 x3 x4)) (m : Nat) : ∀ (x0 : Nat) (x1 : Int) (x2 : Nat) (x3 x4 x5 : List Nat), Prs (fun k => tb k (pth 63668) (g75L13s x0 x1 x2 x3 x4 x5)) (g75L13 A n kk lg75L9 m x0 x1 x2 x3 x4 x5) := by
  induction m with
  | zero => intro x0 x1 x2 x3 x4 x5; exact pn0
  | succ m ih =>
    intro x0 x1 x2 x3 x4 x5; rw [g75L13]
    exact st.g (pc (SxY05api _ (g75J15_go st hg75L9 ih) (hg75L9 _ _ _ _ _)) (by kernel_rfl))
theorem g75J10_go {lg75L9 : Nat → Nat → List Nat → List Nat → List Nat → Option R} (hg75L9 : ∀ (x0 x1 : Nat) (x2 x3 x4 : List Nat), Prs (fun k => tb k (pth 248) (g75L9s x0 x1 x2 x3 x4)) (lg75L9 x0 x1 x2 x3 x4)) {x0 : Nat} {x1 : Nat} {x2 : List Nat} {x3 : List Nat} {x4 : List Nat} : Prs (fun k => tb k (pth 497) (g75J10s x0 x1 x2 x3 x4)) (g75J10 A n kk lg75L9 x0 x1 x2 x3 x4) := by
  unfold g75J10
  exact st.g (pc (g75L13_go st hg75L9 n _ _ _ _ _ _) (by kernel_rfl))
theorem g75L9_go (m : Nat) : ∀ (x0 x1 : Nat) (x2 x3 x4 : List Nat), Prs (fun k => tb k (pth 248) (g75L9s x0 x1 x2 x3 x4)) (g75L9 A n kk m x0 x1 x2 x3 x4) := by
  induction m with
  | zero => intro x0 x1 x2 x3 x4; exact pn0
  | succ m ih =>
    intro x0 x1 x2 x3 x4; rw [g75L9]
    exact st.g (pc (SxY05api _ (g75J10_go st ih) (SxY05api _ (pf _) pn)) (by kernel_rfl))
theorem g75J9_go {x0 : Nat} {x1 : Nat} {x2 : List Nat} {x3 : List Nat} {x4 : List Nat} : Prs (fun k => tb k (pth 31) (g75J9s x0 x1 x2 x3 x4)) (g75J9 A n kk x0 x1 x2 x3 x4) := by
  unfold g75J9
  exact st.g (pc (g75L9_go st n _ _ _ _ _) (by kernel_rfl))
theorem g75L4_go (m : Nat) : ∀ (x0 x1 : Nat) (x2 : Int) (x3 : Nat) (x4 x5 x6 : List Nat), Prs (fun k => tb k (pth 244) (g75L4s x0 x1 x2 x3 x4 x5 x6)) (g75L4 A n kk m x0 x1 x2 x3 x4 x5 x6) := by
  induction m with
  | zero => intro x0 x1 x2 x3 x4 x5 x6; exact pn0
  | succ m ih =>
    intro x0 x1 x2 x3 x4 x5 x6; rw [g75L4]
    exact st.g (pc (SxY05api _ (g75J6_go st ih) (g75J9_go st)) (by kernel_rfl))
theorem g75_go {x0 : Nat} {x1 : Nat} {x2 : List Nat} : Prs (fun k => funN A gtys (g75O A) g75an g75cut (bodyOf Try.f75) g75res [(sL 0 none x0 1)] [(0, ⟨[.nums .u64 x1 x2], 22, 2⟩)] kk (tb k)) (g75 A n kk x0 x1 x2) := by
  unfold g75
  exact pc (g75L4_go st n _ _ _ _ _ _ _) (by kernel_rfl)
end
def g75is (o : Option (AV × Heap)) : Bool := match o with
  | some (.v (.agg [.nums .u32 n0 _]), [(n1, ⟨[.nums .u64 _ _], n2, n3⟩)]) => Nat.beq n0 8 && (Nat.beq n1 0 && (Nat.beq n2 22 && (Nat.beq n3 2)))
  | _ => false
def g75g0 (o : Option (AV × Heap)) : List Nat := match o with
  | some (.v (.agg [.nums .u32 _ x]), [(_, ⟨[.nums .u64 _ _], _, _⟩)]) => x
  | _ => []
def g75g1 (o : Option (AV × Heap)) : Nat := match o with
  | some (.v (.agg [.nums .u32 _ _]), [(_, ⟨[.nums .u64 x _], _, _⟩)]) => x
  | _ => 0
def g75g2 (o : Option (AV × Heap)) : List Nat := match o with
  | some (.v (.agg [.nums .u32 _ _]), [(_, ⟨[.nums .u64 _ x], _, _⟩)]) => x
  | _ => []
theorem g75is_spec {o : Option (AV × Heap)} (h : g75is o = true) : o = some ((aN .u32 8 (g75g0 o)), [(0, ⟨[.nums .u64 (g75g1 o) (g75g2 o)], 22, 2⟩)]) := by
  unfold g75is at h
  split at h
  · rename_i n0 z1 n1 z3 z4 n2 n3
    simp only [Bool.and_eq_true] at h
    have en0 := beq_true h.1
    subst en0
    replace h := h.2
    have en1 := beq_true h.1
    subst en1
    replace h := h.2
    have en2 := beq_true h.1
    subst en2
    replace h := h.2
    have en3 := beq_true h
    subst en3
    rfl
  · cases h
def g75v (A : Ar) (x0 x1 : Nat) (x2 : List Nat) : Option (AV × Heap) := g75 A (100000) (outH [0] none) x0 x1 x2
def g75ok (A : Ar) (x0 x1 : Nat) (x2 : List Nat) : Bool := g75is (g75v A x0 x1 x2)
def g75r0 (A : Ar) (x0 x1 : Nat) (x2 : List Nat) : List Nat := g75g0 (g75v A x0 x1 x2)
def g75r1 (A : Ar) (x0 x1 : Nat) (x2 : List Nat) : Nat := g75g1 (g75v A x0 x1 x2)
def g75r2 (A : Ar) (x0 x1 : Nat) (x2 : List Nat) : List Nat := g75g2 (g75v A x0 x1 x2)
theorem g75ok_spec {A : Ar} {x0 x1 x2} (h : g75ok A x0 x1 x2 = true) : g75v A x0 x1 x2 = some ((aN .u32 8 (g75r0 A x0 x1 x2)), [(0, ⟨[.nums .u64 (g75r1 A x0 x1 x2) (g75r2 A x0 x1 x2)], 22, 2⟩)]) := g75is_spec h
def g75o (A : Ar) (args : List AV) (h : Heap) : Option (Bool × AV × Heap) := match args, h with
  | [.v (.cell (.sl n0 none x0 n1))], [(n2, ⟨[.nums .u64 x1 x2], n3, n4⟩)] => match Nat.beq n0 0 && (Nat.beq n1 1 && (Nat.beq n2 0 && (Nat.beq n3 22 && (Nat.beq n4 2)))) with
    | true => some (g75ok A x0 x1 x2, (aN .u32 8 (g75r0 A x0 x1 x2)), [(0, ⟨[.nums .u64 (g75r1 A x0 x1 x2) (g75r2 A x0 x1 x2)], 22, 2⟩)])
    | false => none
  | _, _ => none
theorem g75o_sound : ∀ args h v h', g75o realA args h = some (true, v, h') → FnH Try.prog 75 args h v h' := by
  intro args h v h' hh
  unfold g75o at hh
  split at hh
  · rename_i n0 x0 n1 n2 x1 x2 n3 n4
    split at hh
    case h_2 => cases hh
    rename_i hc0
    simp only [Option.some.injEq, Prod.mk.injEq] at hh
    obtain ⟨hc, hv, hh⟩ := hh
    subst hv
    subst hh
    simp only [Bool.and_eq_true] at hc0
    have en0 := beq_true hc0.1
    subst en0
    replace hc0 := hc0.2
    have en1 := beq_true hc0.1
    subst en1
    replace hc0 := hc0.2
    have en2 := beq_true hc0.1
    subst en2
    replace hc0 := hc0.2
    have en3 := beq_true hc0.1
    subst en3
    replace hc0 := hc0.2
    have en4 := beq_true hc0
    subst en4
    exact fnh_ofG mixed gtysOK g75O_sound g75O_det (an := g75an) (cut := g75cut) Try.func75 (c := bodyOf Try.f75) rfl (by kernel_rfl) Try.call75 (Nat.le_of_ble_eq_true rfl) (pins := [0]) (nilr := none) (fun _ => (show g75v realA x0 x1 x2 = _ from g75ok_spec hc)) fun _ st => g75_go st
  · cases hh
attribute [local irreducible] g75ok g75r0 g75r1 g75r2
def g56O (A : Ar) : Orc := orcH [(65, g65o A), (64, g64o A)] [(75, ⟨[], none, (g75o A)⟩)]
theorem g56O_sound : OSound Try.prog (g56O realA) := orcH_sound (fun f g hm args v hv => by
    simp only [List.mem_cons, List.not_mem_nil, or_false, Prod.mk.injEq] at hm
    rcases hm with ⟨rfl, rfl⟩ | ⟨rfl, rfl⟩
    · exact g65o_sound _ _ hv
    · exact g64o_sound _ _ hv) (fun f e hm args h v h' hv => by
    simp only [List.mem_cons, List.not_mem_nil, or_false, Prod.mk.injEq] at hm
    rcases hm with ⟨rfl, rfl⟩
    · exact g75o_sound _ _ _ _ hv)
theorem g56O_det : ODet (g56O realA) := orcH_det _ _
def g56an : Ann := [(0, ([0, 1], [])), (1, ([2, 3, 4], [1000, 1001, 1002])), (2, ([3, 4, 5], [1001, 1002, 2002])), (3, ([4, 5, 6], [1002, 2002, 3002])), (4, ([4, 5, 6, 7], [1002, 2002, 3002, 4000])), (5, ([4, 5, 6, 7, 8], [1002, 2002, 3002, 4000])), (6, ([4, 5, 6, 7, 8], [1002, 2002, 3002, 4000])), (7, ([4, 5, 6, 7, 8], [1002, 2002, 3002, 4000])), (8, ([4, 5, 6, 7, 8, 9], [1002, 2002, 3002, 4000])), (9, ([4, 5, 6, 7, 8, 9, 10], [1002, 2002, 3002, 4000])), (10, ([4, 5, 6, 7, 8, 9, 10], [1002, 2002, 3002, 4000])), (11, ([4, 5, 6, 7, 8, 9, 10], [1002, 2002, 3002, 4000])), (12, ([4, 5, 6, 7, 8, 10, 11], [1002, 2002, 3002, 4000])), (13, ([4, 5, 6, 7, 8, 10, 11], [1002, 2002, 3002, 4000])), (14, ([4, 5, 6, 7, 8, 9], [1002, 2002, 3002, 4000])), (15, ([4, 7], [1002, 4000]))]
def g56res : List ResultVar := [.cell 4 24]
def g56cut : List Nat := [7, 11, 14]
noncomputable def g56N {R : Type} (A : Ar) (kk : AV → Heap → Option R) (t : List Bool → St → Option R) (p : List Bool) (s : St) : Option R := nodeN A gtys (g56O A) g56an g56cut t (bodyOf Try.f56) (finD gtys g56res kk) p s
def g56J11s (x0 : Nat) (x1 : Int) (x2 : Nat) (x3 : Int) (x4 x5 x6 : List Nat) (x7 : Nat) (x8 : List Nat) : St := ⟨[(4, (pT 1002 0)), (5, (pT 2002 0)), (6, (pT 3002 0)), (7, (sL 4000 none x0 1)), (8, (i6 x1)), (9, (u64v x2)), (10, (i6 x3))], [(1002, (bU 4 x4 24)), (2002, (bW 8 x5 77)), (3002, (bW 8 x6 77)), (4000, ⟨[.nums .u64 x7 x8], 22, 2⟩)]⟩
def g56J11 {R : Type} (A : Ar) (n : Nat) (kk : AV → Heap → Option R) (lg56L5 : Nat → Int → List Nat → List Nat → List Nat → Nat → List Nat → Option R) (lg56L9 : Nat → Int → Nat → Int → List Nat → List Nat → List Nat → Nat → List Nat → Option R) (x0 : Nat) (x1 : Int) (x2 : Nat) (x3 : Int) (x4 x5 x6 : List Nat) (x7 : Nat) (x8 : List Nat) : Option R :=
  match A.neg (A.ib .add .i64 x1 x3) with
  | true => none
  | false => match A.lt (A.toN (A.ib .add .i64 x1 x3)) x0 with
    | true => match A.neg x1 with
      | true => none
      | false => match A.lt (A.toN x1) 8 with
        | true => match A.neg x3 with
          | true => none
          | false => match A.lt (A.toN x3) 8 with
            | true => match A.neg (A.ib .add .i64 x1 x3) with
              | true => none
              | false => match A.lt (A.toN (A.ib .add .i64 x1 x3)) x0 with
                | true => lg56L9 x0 x1 (A.nsh .shr .u64 (A.nb .add .u64 (A.nb .add .u64 (x8.getD (A.toN (A.ib .add .i64 x1 x3)) 0) (A.nb .mul .u64 (x5.getD (A.toN x1) 0) (x6.getD (A.toN x3) 0))) x2) 32) (A.ib .add .i64 x3 1) x4 x5 x6 x7 (x8.set (A.toN (A.ib .add .i64 x1 x3)) (A.nb .and .u64 (A.nb .add .u64 (A.nb .add .u64 (x8.getD (A.toN (A.ib .add .i64 x1 x3)) 0) (A.nb .mul .u64 (x5.getD (A.toN x1) 0) (x6.getD (A.toN x3) 0))) x2) 4294967295))
                | false => none
            | false => none
        | false => none
    | false => none
def g56J14s (x0 : Nat) (x1 : Int) (x2 : Nat) (x3 x4 x5 : List Nat) (x6 : Nat) (x7 : List Nat) : St := ⟨[(4, (pT 1002 0)), (5, (pT 2002 0)), (6, (pT 3002 0)), (7, (sL 4000 none x0 1)), (8, (i6 x1)), (9, (u64v x2))], [(1002, (bU 4 x3 24)), (2002, (bW 8 x4 77)), (3002, (bW 8 x5 77)), (4000, ⟨[.nums .u64 x6 x7], 22, 2⟩)]⟩
def g56J14 {R : Type} (A : Ar) (n : Nat) (kk : AV → Heap → Option R) (lg56L5 : Nat → Int → List Nat → List Nat → List Nat → Nat → List Nat → Option R) (x0 : Nat) (x1 : Int) (x2 : Nat) (x3 x4 x5 : List Nat) (x6 : Nat) (x7 : List Nat) : Option R :=
  match A.neg (A.ib .add .i64 x1 8) with
  | true => none
  | false => match A.lt (A.toN (A.ib .add .i64 x1 8)) x0 with
    | true => lg56L5 x0 (A.ib .add .i64 x1 1) x3 x4 x5 x6 (x7.set (A.toN (A.ib .add .i64 x1 8)) x2)
    | false => none
def g56L9s (x0 : Nat) (x1 : Int) (x2 : Nat) (x3 : Int) (x4 x5 x6 : List Nat) (x7 : Nat) (x8 : List Nat) : St := ⟨[(4, (pT 1002 0)), (5, (pT 2002 0)), (6, (pT 3002 0)), (7, (sL 4000 none x0 1)), (8, (i6 x1)), (9, (u64v x2)), (10, (i6 x3))], [(1002, (bU 4 x4 24)), (2002, (bW 8 x5 77)), (3002, (bW 8 x6 77)), (4000, ⟨[.nums .u64 x7 x8], 22, 2⟩)]⟩
def g56L9 {R : Type} (A : Ar) (n : Nat) (kk : AV → Heap → Option R) (lg56L5 : Nat → Int → List Nat → List Nat → List Nat → Nat → List Nat → Option R) : Nat → Nat → Int → Nat → Int → List Nat → List Nat → List Nat → Nat → List Nat → Option R
  | 0, _, _, _, _, _, _, _, _, _ => none
  | m + 1, x0, x1, x2, x3, x4, x5, x6, x7, x8 => match A.ic .lss x3 8 with
  | true => g56J11 A n kk lg56L5 (g56L9 A n kk lg56L5 m) x0 x1 x2 x3 x4 x5 x6 x7 x8
  | false => g56J14 A n kk lg56L5 x0 x1 x2 x4 x5 x6 x7 x8
def g56J7s (x0 : Nat) (x1 : Int) (x2 x3 x4 : List Nat) (x5 : Nat) (x6 : List Nat) : St := ⟨[(4, (pT 1002 0)), (5, (pT 2002 0)), (6, (pT 3002 0)), (7, (sL 4000 none x0 1)), (8, (i6 x1))], [(1002, (bU 4 x2 24)), (2002, (bW 8 x3 77)), (3002, (bW 8 x4 77)), (4000, ⟨[.nums .u64 x5 x6], 22, 2⟩)]⟩
def g56J7 {R : Type} (A : Ar) (n : Nat) (kk : AV → Heap → Option R) (lg56L5 : Nat → Int → List Nat → List Nat → List Nat → Nat → List Nat → Option R) (x0 : Nat) (x1 : Int) (x2 x3 x4 : List Nat) (x5 : Nat) (x6 : List Nat) : Option R :=
  g56L9 A n kk lg56L5 n x0 x1 0 0 x2 x3 x4 x5 x6
def g56L5s (x0 : Nat) (x1 : Int) (x2 x3 x4 : List Nat) (x5 : Nat) (x6 : List Nat) : St := ⟨[(4, (pT 1002 0)), (5, (pT 2002 0)), (6, (pT 3002 0)), (7, (sL 4000 none x0 1)), (8, (i6 x1))], [(1002, (bU 4 x2 24)), (2002, (bW 8 x3 77)), (3002, (bW 8 x4 77)), (4000, ⟨[.nums .u64 x5 x6], 22, 2⟩)]⟩
def g56L5 {R : Type} (A : Ar) (n : Nat) (kk : AV → Heap → Option R)  : Nat → Nat → Int → List Nat → List Nat → List Nat → Nat → List Nat → Option R
  | 0, _, _, _, _, _, _, _ => none
  | m + 1, x0, x1, x2, x3, x4, x5, x6 => match A.ic .lss x1 8 with
  | true => g56J7 A n kk (g56L5 A n kk  m) x0 x1 x2 x3 x4 x5 x6
  | false => match g75ok A x0 x5 x6 with
    | true => match g64ok A (g75r0 A x0 x5 x6) with
      | true => kk (aN .u64 4 (g64r0 A (g75r0 A x0 x5 x6))) [(1002, (bU 4 (g64r0 A (g75r0 A x0 x5 x6)) 24)), (4000, ⟨[.nums .u64 (g75r1 A x0 x5 x6) (g75r2 A x0 x5 x6)], 22, 2⟩)]
      | false => none
    | false => none
def g56 {R : Type} (A : Ar) (n : Nat) (kk : AV → Heap → Option R) (a b : List Nat) : Option R :=
  match g65ok A a with
  | true => match g65ok A b with
    | true => match A.le 16 16 with
      | true => match A.le 128 140737488355328 with
        | true => g56L5 A n kk  n 16 0 [0, 0, 0, 0] (g65r0 A a) (g65r0 A b) 16 (List.replicate 16 0)
        | false => none
      | false => none
    | false => none
  | false => none
section
variable {R : Type} {A : Ar} {n : Nat} {kk : AV → Heap → Option R} {tb : Nat → List Bool → St → Option R} (st : Stp (g56N A kk) tb)
include st
theorem g56J11_go {lg56L5 : Nat → Int → List Nat → List Nat → List Nat → Nat → List Nat → Option R} {lg56L9 : Nat → Int → Nat → Int → List Nat → List Nat → List Nat → Nat → List Nat → Option R} (hg56L5 : ∀ (x0 : Nat) (x1 : Int) (x2 x3 x4 : List Nat) (x5 : Nat) (x6 : List Nat), Prs (fun k => tb k (pth 500) (g56L5s x0 x1 x2 x3 x4 x5 x6)) (lg56L5 x0 x1 x2 x3 x4 x5 x6)) (hg56L9 : ∀ (x0 : Nat) (x1 : Int) (x2 : Nat) (x3 : Int) (x4 x5 x6 : List Nat) (x7 : Nat) (x8 : List Nat), Prs (fun k => tb k (pth 128148) (g56L9s x0 x1 x2 x3 x4 x5 x6 x7 x8)) (lg56L9 x0 x1 x2 x3 x4 x5 x6 x7 x8)) {x0 : Nat} {x1 : Int} {x2 : Nat} {x3 : Int} {x4 : List Nat} {x5 : List Nat} {x6 : List Nat} {x7 : Nat} {x8 : List Nat} : Prs (fun k => tb k (pth 256297) (g56J11s x0 x1 x2 x3 x4 x5 x6 x7 x8)) (g56J11 A n kk lg56L5 lg56L9 x0 x1 x2 x3 x4 x5 x6 x7 x8) := by
  unfold g56J11
  exact st.g (pc (SxY05api _ pn (SxY05api _ (SxY05api _ pn (SxY05api _ (SxY05api _ pn (SxY05api _ (SxY05api _ pn (SxY05api _ (hg56L9 _ _ _ _ _ _ _ _ _) pn)) pn)) pn)) pn)) (by kernel_rfl))
theorem g56J14_go {lg56L5 : Nat → Int → List Nat → List Nat → List Nat → Nat → List Nat → Option R} (hg56L5 : ∀ (x0 : Nat) (x1 : Int) (x2 x3 x4 : List Nat) (x5 : Nat) (x6 : List Nat), Prs (fun k => tb k (pth 500) (g56L5s x0 x1 x2 x3 x4 x5 x6)) (lg56L5 x0 x1 x2 x3 x4 x5 x6)) {x0 : Nat} {x1 : Int} {x2 : Nat} {x3 : List Nat} {x4 : List Nat} {x5 : List Nat} {x6 : Nat} {x7 : List Nat} : Prs (fun k => tb k (pth 16019) (g56J14s x0 x1 x2 x3 x4 x5 x6 x7)) (g56J14 A n kk lg56L5 x0 x1 x2 x3 x4 x5 x6 x7) := by
  unfold g56J14
  exact st.g (pc (SxY05api _ pn (SxY05api _ (hg56L5 _ _ _ _ _ _ _) pn)) (by kernel_rfl))
theorem g56L9_go {lg56L5 : Nat → Int → List Nat → List Nat → List Nat → Nat → List Nat → Option R} (hg56L5 : ∀ (x0 : Nat) (x1 : Int) (x2 x3 x4 : List Nat) (x5 : Nat) (x6 : List Nat), Prs (fun k => tb k (pth 500) (g56L5s x0 x1 x2 x3 x4 x5 x6)) (lg56L5 x0 x1 x2 x3 x4 x5 x6)) (m : Nat) : ∀ (x0 : Nat) (x1 : Int) (x2 : Nat) (x3 : Int) (x4 x5 x6 : List Nat) (x7 : Nat) (x8 : List Nat), Prs (fun k => tb k (pth 128148) (g56L9s x0 x1 x2 x3 x4 x5 x6 x7 x8)) (g56L9 A n kk lg56L5 m x0 x1 x2 x3 x4 x5 x6 x7 x8) := by
  induction m with
  | zero => intro x0 x1 x2 x3 x4 x5 x6 x7 x8; exact pn0
  | succ m ih =>
    intro x0 x1 x2 x3 x4 x5 x6 x7 x8; rw [g56L9]
    exact st.g (pc (SxY05api _ (g56J11_go st hg56L5 ih) (g56J14_go st hg56L5)) (by kernel_rfl))
theorem g56J7_go {lg56L5 : Nat → Int → List Nat → List Nat → List Nat → Nat → List Nat → Option R} (hg56L5 : ∀ (x0 : Nat) (x1 : Int) (x2 x3 x4 : List Nat) (x5 : Nat) (x6 : List Nat), Prs (fun k => tb k (pth 500) (g56L5s x0 x1 x2 x3 x4 x5 x6)) (lg56L5 x0 x1 x2 x3 x4 x5 x6)) {x0 : Nat} {x1 : Int} {x2 : List Nat} {x3 : List Nat} {x4 : List Nat} {x5 : Nat} {x6 : List Nat} : Prs (fun k => tb k (pth 1001) (g56J7s x0 x1 x2 x3 x4 x5 x6)) (g56J7 A n kk lg56L5 x0 x1 x2 x3 x4 x5 x6) := by
  unfold g56J7
  exact st.g (pc (g56L9_go st hg56L5 n _ _ _ _ _ _ _ _ _) (by kernel_rfl))
theorem g56L5_go (m : Nat) : ∀ (x0 : Nat) (x1 : Int) (x2 x3 x4 : List Nat) (x5 : Nat) (x6 : List Nat), Prs (fun k => tb k (pth 500) (g56L5s x0 x1 x2 x3 x4 x5 x6)) (g56L5 A n kk m x0 x1 x2 x3 x4 x5 x6) := by
  induction m with
  | zero => intro x0 x1 x2 x3 x4 x5 x6; exact pn0
  | succ m ih =>
    intro x0 x1 x2 x3 x4 x5 x6; rw [g56L5]
    exact st.g (pc (SxY05api _ (g56J7_go st ih) (SxY05api _ (SxY05api _ (pf _) pn) pn)) (by kernel_rfl))
theorem g56_go {a : List Nat} {b : List Nat} : Prs (fun k => funN A gtys (g56O A) g56an g56cut (bodyOf Try.f56) g56res [(aN .u64 4 a), (aN .u64 4 b)] [] kk (tb k)) (g56 A n kk a b) := by
  unfold g56
  exact pc (SxY05api _ (SxY05api _ (SxY05api _ (SxY05api _ (g56L5_go st n _ _ _ _ _ _ _) pn) pn) pn) pn) (by kernel_rfl)
end
def g56is (o : Option AV) : Bool := match o with
  | some (aN .u64 4 _) => true
  | _ => false
def g56g0 (o : Option AV) : List Nat := match o with
  | some (aN .u64 4 x) => x
  | _ => []
theorem g56is_spec {o : Option AV} (h : g56is o = true) : o = some (aN .u64 4 (g56g0 o)) := by
  unfold g56is at h
  split at h
  · rfl
  · cases h
def g56v (A : Ar) (a b : List Nat) : Option AV := g56 A (100000) (fun v _ => some v) a b
def g56ok (A : Ar) (a b : List Nat) : Bool := g56is (g56v A a b)
def g56r0 (A : Ar) (a b : List Nat) : List Nat := g56g0 (g56v A a b)
theorem g56ok_spec {A : Ar} {a b} (h : g56ok A a b = true) : g56v A a b = some (aN .u64 4 (g56r0 A a b)) := g56is_spec h
def g56o (A : Ar) (args : List AV) : Option (Bool × AV) := match args with
  | [.v (.agg [.nums .u64 n0 a]), .v (.agg [.nums .u64 n1 b])] => some (Nat.beq n0 4 && (Nat.beq n1 4 && (g56ok A a b)), .v (.agg [.nums .u64 4 (g56r0 A a b)]))
  | _ => none
theorem g56o_sound : ∀ args v, g56o realA args = some (true, v) → Fn1 Try.prog 56 args v := by
  intro args v h
  unfold g56o at h
  split at h
  · rename_i n0 a n1 b
    simp only [Option.some.injEq, Prod.mk.injEq] at h
    obtain ⟨hc, h⟩ := h
    subst h
    · skip
      simp only [Bool.and_eq_true] at hc
      have en0 := beq_true hc.1
      subst en0
      replace hc := hc.2
      have en1 := beq_true hc.1
      subst en1
      replace hc := hc.2
      exact fn1_ofG mixed gtysOK g56O_sound g56O_det (an := g56an) (cut := g56cut) Try.func56 (c := bodyOf Try.f56) rfl (by kernel_rfl) Try.call56 (Nat.le_of_ble_eq_true rfl) (fun b => rfl) (fun _ => (show g56v realA a b = _ from g56ok_spec hc)) fun _ st => g56_go st
  · cases h
attribute [local irreducible] g56ok g56r0
def g57O (A : Ar) : Orc := orcOf []
theorem g57O_sound : OSound Try.prog (g57O realA) := orc_sound fun f g hm args v hv => by
  cases hm
theorem g57O_det : ODet (g57O realA) := orc_det _
def g57an : Ann := [(0, ([0], [])), (1, ([0, 2], [1000]))]
def g57res : List ResultVar := [.cell 2 24]
def g57cut : List Nat := []
noncomputable def g57N {R : Type} (A : Ar) (kk : AV → Heap → Option R) (t : List Bool → St → Option R) (p : List Bool) (s : St) : Option R := nodeN A gtys (g57O A) g57an g57cut t (bodyOf Try.f57) (finD gtys g57res kk) p s
def g57 {R : Type} (A : Ar) (n : Nat) (kk : AV → Heap → Option R) (a : Nat) : Option R :=
  kk (aN .u64 4 ([0, 0, 0, 0].set 0 a)) [(1000, (bU 4 ([0, 0, 0, 0].set 0 a) 24))]
section
variable {R : Type} {A : Ar} {n : Nat} {kk : AV → Heap → Option R} {tb : Nat → List Bool → St → Option R} (st : Stp (g57N A kk) tb)
include st
theorem g57_go {a : Nat} : Prs (fun k => funN A gtys (g57O A) g57an g57cut (bodyOf Try.f57) g57res [(u64v a)] [] kk (tb k)) (g57 A n kk a) := by
  unfold g57
  exact pc (pf _) (by kernel_rfl)
end
def g57is (o : Option AV) : Bool := match o with
  | some (aN .u64 4 _) => true
  | _ => false
def g57g0 (o : Option AV) : List Nat := match o with
  | some (aN .u64 4 x) => x
  | _ => []
theorem g57is_spec {o : Option AV} (h : g57is o = true) : o = some (aN .u64 4 (g57g0 o)) := by
  unfold g57is at h
  split at h
  · rfl
  · cases h
def g57v (A : Ar) (a : Nat) : Option AV := g57 A (100000) (fun v _ => some v) a
def g57ok (A : Ar) (a : Nat) : Bool := g57is (g57v A a)
def g57r0 (A : Ar) (a : Nat) : List Nat := g57g0 (g57v A a)
theorem g57ok_spec {A : Ar} {a} (h : g57ok A a = true) : g57v A a = some (aN .u64 4 (g57r0 A a)) := g57is_spec h
def g57o (A : Ar) (args : List AV) : Option (Bool × AV) := match args with
  | [.v (.cell (.nat .u64 a))] => some (g57ok A a, .v (.agg [.nums .u64 4 (g57r0 A a)]))
  | _ => none
theorem g57o_sound : ∀ args v, g57o realA args = some (true, v) → Fn1 Try.prog 57 args v := by
  intro args v h
  unfold g57o at h
  split at h
  · rename_i a
    simp only [Option.some.injEq, Prod.mk.injEq] at h
    obtain ⟨hc, h⟩ := h
    subst h
    · skip
      exact fn1_ofG mixed gtysOK g57O_sound g57O_det (an := g57an) (cut := g57cut) Try.func57 (c := bodyOf Try.f57) rfl (by kernel_rfl) Try.call57 (Nat.le_of_ble_eq_true rfl) (fun b => rfl) (fun _ => (show g57v realA a = _ from g57ok_spec hc)) fun _ st => g57_go st
  · cases h
attribute [local irreducible] g57ok g57r0
def g76O (A : Ar) : Orc := orcOf [(57, g57o A), (56, g56o A)]
theorem g76O_sound : OSound Try.prog (g76O realA) := orc_sound fun f g hm args v hv => by
  simp only [List.mem_cons, List.not_mem_nil, or_false, Prod.mk.injEq] at hm
  rcases hm with ⟨rfl, rfl⟩ | ⟨rfl, rfl⟩
  · exact g57o_sound _ _ hv
  · exact g56o_sound _ _ hv
theorem g76O_det : ODet (g76O realA) := orc_det _
def g76an : Ann := [(0, ([0, 1], [])), (1, ([2, 3, 4], [1000, 1001, 1002])), (2, ([2, 3, 4, 5], [1000, 1001, 1002, 2001])), (3, ([2, 3, 4, 5, 6], [1000, 1001, 1002, 2001])), (4, ([2, 3, 4, 5, 6], [1000, 1001, 1002, 2001])), (5, ([2, 3, 4, 5, 6], [1000, 1001, 1002, 2001])), (6, ([2, 3, 4, 5, 6], [1000, 1001, 1002, 2001])), (7, ([2, 3, 4, 5, 6], [1000, 1001, 1002, 2001])), (8, ([4, 5], [1002, 2001]))]
def g76res : List ResultVar := [.cell 4 24]
def g76cut : List Nat := [5]
noncomputable def g76N {R : Type} (A : Ar) (kk : AV → Heap → Option R) (t : List Bool → St → Option R) (p : List Bool) (s : St) : Option R := nodeN A gtys (g76O A) g76an g76cut t (bodyOf Try.f76) (finD gtys g76res kk) p s
def g76J5s (x0 : Int) (x1 x2 : List Nat) (x3 x4 : List Nat) : St := ⟨[(2, (pT 1000 0)), (3, (pT 1001 0)), (4, (pT 1002 0)), (5, (pT 2001 0)), (6, (i6 x0))], [(1000, (bU 4 x1 24)), (1001, (bU 4 x2 23)), (1002, (bU 4 x3 24)), (2001, (bU 4 x4 24))]⟩
def g76J5 {R : Type} (A : Ar) (n : Nat) (kk : AV → Heap → Option R) (lg76L3 : Int → List Nat → List Nat → List Nat → List Nat → Option R) (x0 : Int) (x1 x2 : List Nat) (x3 x4 : List Nat) : Option R :=
  match g56ok A x4 x4 with
  | true => match A.neg (A.ib .quo .i64 x0 64) with
    | true => none
    | false => match A.lt (A.toN (A.ib .quo .i64 x0 64)) 4 with
      | true => match A.neg (A.ib .rem .i64 x0 64) with
        | true => none
        | false => match A.nc .eql (A.nb .and .u64 (A.nsh .shr .u64 (x2.getD (A.toN (A.ib .quo .i64 x0 64)) 0) (A.toN (A.ib .rem .i64 x0 64))) 1) 1 with
          | true => match g56ok A (g56r0 A x4 x4) x1 with
            | true => lg76L3 (A.ib .sub .i64 x0 1) x1 x2 x3 (g56r0 A (g56r0 A x4 x4) x1)
            | false => none
          | false => lg76L3 (A.ib .sub .i64 x0 1) x1 x2 x3 (g56r0 A x4 x4)
      | false => none
  | false => none
def g76L3s (x0 : Int) (x1 x2 : List Nat) (x3 x4 : List Nat) : St := ⟨[(2, (pT 1000 0)), (3, (pT 1001 0)), (4, (pT 1002 0)), (5, (pT 2001 0)), (6, (i6 x0))], [(1000, (bU 4 x1 24)), (1001, (bU 4 x2 23)), (1002, (bU 4 x3 24)), (2001, (bU 4 x4 24))]⟩
def g76L3 {R : Type} (A : Ar) (n : Nat) (kk : AV → Heap → Option R)  : Nat → Int → List Nat → List Nat → List Nat → List Nat → Option R
  | 0, _, _, _, _, _ => none
  | m + 1, x0, x1, x2, x3, x4 => match A.ic .geq x0 0 with
  | true => g76J5 A n kk (g76L3 A n kk  m) x0 x1 x2 x3 x4
  | false => kk (aN .u64 4 x4) [(1002, (bU 4 x4 24)), (2001, (bU 4 x4 24))]
def g76 {R : Type} (A : Ar) (n : Nat) (kk : AV → Heap → Option R) (a b : List Nat) : Option R :=
  match g57ok A 1 with
  | true => g76L3 A n kk  n 255 a b [0, 0, 0, 0] (g57r0 A 1)
  | false => none
section
variable {R : Type} {A : Ar} {n : Nat} {kk : AV → Heap → Option R} {tb : Nat → List Bool → St → Option R} (st : Stp (g76N A kk) tb)
include st
theorem g76J5_go {lg76L3 : Int → List Nat → List Nat → List Nat → List Nat → Option R} (hg76L3 : ∀ (x0 : Int) (x1 x2 : List Nat) (x3 x4 : List Nat), Prs (fun k => tb k (pth 116) (g76L3s x0 x1 x2 x3 x4)) (lg76L3 x0 x1 x2 x3 x4)) {x0 : Int} {x1 : List Nat} {x2 : List Nat} {x3 : List Nat} {x4 : List Nat} : Prs (fun k => tb k (pth 233) (g76J5s x0 x1 x2 x3 x4)) (g76J5 A n kk lg76L3 x0 x1 x2 x3 x4) := by
  unfold g76J5
  exact st.g (pc (SxY05api _ (SxY05api _ pn (SxY05api _ (SxY05api _ pn (SxY05api _ (SxY05api _ (hg76L3 _ _ _ _ _) pn) (hg76L3 _ _ _ _ _))) pn)) pn) (by kernel_rfl))
theorem g76L3_go (m : Nat) : ∀ (x0 : Int) (x1 x2 : List Nat) (x3 x4 : List Nat), Prs (fun k => tb k (pth 116) (g76L3s x0 x1 x2 x3 x4)) (g76L3 A n kk m x0 x1 x2 x3 x4) := by
  induction m with
  | zero => intro x0 x1 x2 x3 x4; exact pn0
  | succ m ih =>
    intro x0 x1 x2 x3 x4; rw [g76L3]
    exact st.g (pc (SxY05api _ (g76J5_go st ih) (pf _)) (by kernel_rfl))
theorem g76_go {a : List Nat} {b : List Nat} : Prs (fun k => funN A gtys (g76O A) g76an g76cut (bodyOf Try.f76) g76res [(aN .u64 4 a), (aN .u64 4 b)] [] kk (tb k)) (g76 A n kk a b) := by
  unfold g76
  exact pc (SxY05api _ (g76L3_go st n _ _ _ _ _) pn) (by kernel_rfl)
end
def g76is (o : Option AV) : Bool := match o with
  | some (aN .u64 4 _) => true
  | _ => false
def g76g0 (o : Option AV) : List Nat := match o with
  | some (aN .u64 4 x) => x
  | _ => []
theorem g76is_spec {o : Option AV} (h : g76is o = true) : o = some (aN .u64 4 (g76g0 o)) := by
  unfold g76is at h
  split at h
  · rfl
  · cases h
def g76v (A : Ar) (a b : List Nat) : Option AV := g76 A (100000) (fun v _ => some v) a b
def g76ok (A : Ar) (a b : List Nat) : Bool := g76is (g76v A a b)
def g76r0 (A : Ar) (a b : List Nat) : List Nat := g76g0 (g76v A a b)
theorem g76ok_spec {A : Ar} {a b} (h : g76ok A a b = true) : g76v A a b = some (aN .u64 4 (g76r0 A a b)) := g76is_spec h
def g76o (A : Ar) (args : List AV) : Option (Bool × AV) := match args with
  | [.v (.agg [.nums .u64 n0 a]), .v (.agg [.nums .u64 n1 b])] => some (Nat.beq n0 4 && (Nat.beq n1 4 && (g76ok A a b)), .v (.agg [.nums .u64 4 (g76r0 A a b)]))
  | _ => none
theorem g76o_sound : ∀ args v, g76o realA args = some (true, v) → Fn1 Try.prog 76 args v := by
  intro args v h
  unfold g76o at h
  split at h
  · rename_i n0 a n1 b
    simp only [Option.some.injEq, Prod.mk.injEq] at h
    obtain ⟨hc, h⟩ := h
    subst h
    · skip
      simp only [Bool.and_eq_true] at hc
      have en0 := beq_true hc.1
      subst en0
      replace hc := hc.2
      have en1 := beq_true hc.1
      subst en1
      replace hc := hc.2
      exact fn1_ofG mixed gtysOK g76O_sound g76O_det (an := g76an) (cut := g76cut) Try.func76 (c := bodyOf Try.f76) rfl (by kernel_rfl) Try.call76 (Nat.le_of_ble_eq_true rfl) (fun b => rfl) (fun _ => (show g76v realA a b = _ from g76ok_spec hc)) fun _ st => g76_go st
  · cases h
attribute [local irreducible] g76ok g76r0
def g58O (A : Ar) : Orc := orcOf [(76, g76o A)]
theorem g58O_sound : OSound Try.prog (g58O realA) := orc_sound fun f g hm args v hv => by
  simp only [List.mem_cons, List.not_mem_nil, or_false, Prod.mk.injEq] at hm
  rcases hm with ⟨rfl, rfl⟩
  · exact g76o_sound _ _ hv
theorem g58O_det : ODet (g58O realA) := orc_det _
def g58an : Ann := [(0, ([0], [])), (1, ([1, 2], [1000, 1001]))]
def g58res : List ResultVar := [.cell 2 24]
def g58cut : List Nat := []
noncomputable def g58N {R : Type} (A : Ar) (kk : AV → Heap → Option R) (t : List Bool → St → Option R) (p : List Bool) (s : St) : Option R := nodeN A gtys (g58O A) g58an g58cut t (bodyOf Try.f58) (finD gtys g58res kk) p s
def g58 {R : Type} (A : Ar) (n : Nat) (kk : AV → Heap → Option R) (a : List Nat) : Option R :=
  match g76ok A a (((([0, 0, 0, 0].set 0 18446744073709551595).set 1 18446744073709551615).set 2 18446744073709551615).set 3 9223372036854775807) with
  | true => kk (aN .u64 4 (g76r0 A a (((([0, 0, 0, 0].set 0 18446744073709551595).set 1 18446744073709551615).set 2 18446744073709551615).set 3 9223372036854775807))) [(1000, (bU 4 a 24)), (1001, (bU 4 (g76r0 A a (((([0, 0, 0, 0].set 0 18446744073709551595).set 1 18446744073709551615).set 2 18446744073709551615).set 3 9223372036854775807)) 24))]
  | false => none
section
variable {R : Type} {A : Ar} {n : Nat} {kk : AV → Heap → Option R} {tb : Nat → List Bool → St → Option R} (st : Stp (g58N A kk) tb)
include st
theorem g58_go {a : List Nat} : Prs (fun k => funN A gtys (g58O A) g58an g58cut (bodyOf Try.f58) g58res [(aN .u64 4 a)] [] kk (tb k)) (g58 A n kk a) := by
  unfold g58
  exact pc (SxY05api _ (pf _) pn) (by kernel_rfl)
end
def g58is (o : Option AV) : Bool := match o with
  | some (aN .u64 4 _) => true
  | _ => false
def g58g0 (o : Option AV) : List Nat := match o with
  | some (aN .u64 4 x) => x
  | _ => []
theorem g58is_spec {o : Option AV} (h : g58is o = true) : o = some (aN .u64 4 (g58g0 o)) := by
  unfold g58is at h
  split at h
  · rfl
  · cases h
def g58v (A : Ar) (a : List Nat) : Option AV := g58 A (100000) (fun v _ => some v) a
def g58ok (A : Ar) (a : List Nat) : Bool := g58is (g58v A a)
def g58r0 (A : Ar) (a : List Nat) : List Nat := g58g0 (g58v A a)
theorem g58ok_spec {A : Ar} {a} (h : g58ok A a = true) : g58v A a = some (aN .u64 4 (g58r0 A a)) := g58is_spec h
def g58o (A : Ar) (args : List AV) : Option (Bool × AV) := match args with
  | [.v (.agg [.nums .u64 n0 a])] => some (Nat.beq n0 4 && (g58ok A a), .v (.agg [.nums .u64 4 (g58r0 A a)]))
  | _ => none
theorem g58o_sound : ∀ args v, g58o realA args = some (true, v) → Fn1 Try.prog 58 args v := by
  intro args v h
  unfold g58o at h
  split at h
  · rename_i n0 a
    simp only [Option.some.injEq, Prod.mk.injEq] at h
    obtain ⟨hc, h⟩ := h
    subst h
    · skip
      simp only [Bool.and_eq_true] at hc
      have en0 := beq_true hc.1
      subst en0
      replace hc := hc.2
      exact fn1_ofG mixed gtysOK g58O_sound g58O_det (an := g58an) (cut := g58cut) Try.func58 (c := bodyOf Try.f58) rfl (by kernel_rfl) Try.call58 (Nat.le_of_ble_eq_true rfl) (fun b => rfl) (fun _ => (show g58v realA a = _ from g58ok_spec hc)) fun _ st => g58_go st
  · cases h
attribute [local irreducible] g58ok g58r0
def g67O (A : Ar) : Orc := orcOf [(65, g65o A), (69, g69o A), (64, g64o A)]
def g67an : Ann := [(0, ([0, 1], [])), (1, ([2, 3, 4], [1000, 1001, 1002])), (2, ([3, 4, 5], [1001, 1002, 2002])), (3, ([4, 5, 6], [1002, 2002, 3002])), (4, ([4, 5, 6, 7], [1002, 2002, 3002, 4000])), (5, ([4, 5, 6, 7, 8], [1002, 2002, 3002, 4000])), (6, ([4, 5, 6, 7, 8, 9], [1002, 2002, 3002, 4000])), (7, ([4, 5, 6, 7, 8, 9], [1002, 2002, 3002, 4000])), (8, ([4, 5, 6, 7, 8, 9], [1002, 2002, 3002, 4000])), (9, ([4, 5, 6, 7, 9, 10], [1002, 2002, 3002, 4000])), (10, ([4, 5, 6, 7, 9, 10], [1002, 2002, 3002, 4000])), (11, ([4, 7], [1002, 4000]))]
def g67res : List ResultVar := [.cell 4 24]
def g67cut : List Nat := [8]
noncomputable def g67N {R : Type} (A : Ar) (kk : AV → Heap → Option R) (t : List Bool → St → Option R) (p : List Bool) (s : St) : Option R := nodeN A gtys (g67O A) g67an g67cut t (bodyOf Try.f67) (finD gtys g67res kk) p s
def g67J8 {R : Type} (A : Ar) (n : Nat) (kk : AV → Heap → Option R) (lg67L6 : Nat → Int → List Nat → List Nat → List Nat → List Nat → Option R) (x0 : Nat) (x1 : Int) (x2 x3 : List Nat) (x4 x5 : List Nat) : Option R :=
  match A.neg x1 with
  | true => none
  | false => match A.lt (A.toN x1) 8 with
    | true => match A.neg x1 with
      | true => none
      | false => match A.lt (A.toN x1) 8 with
        | true => match A.neg x1 with
          | true => none
          | false => match A.lt (A.toN x1) 8 with
            | true => lg67L6 (A.nsh .shr .u64 (A.nb .add .u64 (A.nb .add .u64 (x3.getD (A.toN x1) 0) (x4.getD (A.toN x1) 0)) x0) 32) (A.ib .add .i64 x1 1) x2 x3 x4 (x5.set (A.toN x1) (A.n2n .u32 (A.nb .add .u64 (A.nb .add .u64 (x3.getD (A.toN x1) 0) (x4.getD (A.toN x1) 0)) x0)))
            | false => none
        | false => none
    | false => none
def g67L6 {R : Type} (A : Ar) (n : Nat) (kk : AV → Heap → Option R)  : Nat → Nat → Int → List Nat → List Nat → List Nat → List Nat → Option R
  | 0, _, _, _, _, _, _ => none
  | m + 1, x0, x1, x2, x3, x4, x5 => match A.ic .lss x1 8 with
  | true => g67J8 A n kk (g67L6 A n kk  m) x0 x1 x2 x3 x4 x5
  | false => match g69ok A x5 with
    | true => match g64ok A (g69r0 A x5) with
      | true => kk (aN .u64 4 (g64r0 A (g69r0 A x5))) [(1002, (bU 4 (g64r0 A (g69r0 A x5)) 24)), (4000, (bW 8 x5 77))]
      | false => none
    | false => none
def g67 {R : Type} (A : Ar) (n : Nat) (kk : AV → Heap → Option R) (a b : List Nat) : Option R :=
  match g65ok A a with
  | true => match g65ok A b with
    | true => g67L6 A n kk  n 0 0 [0, 0, 0, 0] (g65r0 A a) (g65r0 A b) [0, 0, 0, 0, 0, 0, 0, 0]
    | false => none
  | false => none
section
variable {R : Type} {A : Ar} {n : Nat} {kk : AV → Heap → Option R} {tb : Nat → List Bool → St → Option R} (st : Stp (g67N A kk) tb)
include st
end
def g67is (o : Option AV) : Bool := match o with
  | some (aN .u64 4 _) => true
  | _ => false
def g67g0 (o : Option AV) : List Nat := match o with
  | some (aN .u64 4 x) => x
  | _ => []
def g67v (A : Ar) (a b : List Nat) : Option AV := g67 A (100000) (fun v _ => some v) a b
def g67ok (A : Ar) (a b : List Nat) : Bool := g67is (g67v A a b)
def g67r0 (A : Ar) (a b : List Nat) : List Nat := g67g0 (g67v A a b)
def g67o (A : Ar) (args : List AV) : Option (Bool × AV) := match args with
  | [.v (.agg [.nums .u64 n0 a]), .v (.agg [.nums .u64 n1 b])] => some (Nat.beq n0 4 && (Nat.beq n1 4 && (g67ok A a b)), .v (.agg [.nums .u64 4 (g67r0 A a b)]))
  | _ => none
attribute [local irreducible] g67ok g67r0
def g44O (A : Ar) : Orc := orcOf [(71, g71o A), (65, g65o A), (70, g70o A), (69, g69o A), (64, g64o A)]
theorem g44O_sound : OSound Try.prog (g44O realA) := orc_sound fun f g hm args v hv => by
  simp only [List.mem_cons, List.not_mem_nil, or_false, Prod.mk.injEq] at hm
  rcases hm with ⟨rfl, rfl⟩ | ⟨rfl, rfl⟩ | ⟨rfl, rfl⟩ | ⟨rfl, rfl⟩ | ⟨rfl, rfl⟩
  · exact g71o_sound _ _ hv
  · exact g65o_sound _ _ hv
  · exact g70o_sound _ _ hv
  · exact g69o_sound _ _ hv
  · exact g64o_sound _ _ hv
theorem g44O_det : ODet (g44O realA) := orc_det _
def g44an : Ann := [(0, ([0], [])), (1, ([1, 2], [1000, 1001]))]
def g44res : List ResultVar := [.cell 2 24]
def g44cut : List Nat := []
noncomputable def g44N {R : Type} (A : Ar) (kk : AV → Heap → Option R) (t : List Bool → St → Option R) (p : List Bool) (s : St) : Option R := nodeN A gtys (g44O A) g44an g44cut t (bodyOf Try.f44) (finD gtys g44res kk) p s
def g44 {R : Type} (A : Ar) (n : Nat) (kk : AV → Heap → Option R) (a : List Nat) : Option R :=
  match g71ok A with
  | true => match g65ok A a with
    | true => match g70ok A (g71r0 A) (g65r0 A a) with
      | true => match g69ok A (g70r0 A (g71r0 A) (g65r0 A a)) with
        | true => match g64ok A (g69r0 A (g70r0 A (g71r0 A) (g65r0 A a))) with
          | true => kk (aN .u64 4 (g64r0 A (g69r0 A (g70r0 A (g71r0 A) (g65r0 A a))))) [(1000, (bU 4 a 24)), (1001, (bU 4 (g64r0 A (g69r0 A (g70r0 A (g71r0 A) (g65r0 A a)))) 24))]
          | false => none
        | false => none
      | false => none
    | false => none
  | false => none
section
variable {R : Type} {A : Ar} {n : Nat} {kk : AV → Heap → Option R} {tb : Nat → List Bool → St → Option R} (st : Stp (g44N A kk) tb)
include st
theorem g44_go {a : List Nat} : Prs (fun k => funN A gtys (g44O A) g44an g44cut (bodyOf Try.f44) g44res [(aN .u64 4 a)] [] kk (tb k)) (g44 A n kk a) := by
  unfold g44
  exact pc (SxY05api _ (SxY05api _ (SxY05api _ (SxY05api _ (SxY05api _ (pf _) pn) pn) pn) pn) pn) (by kernel_rfl)
end
def g44is (o : Option AV) : Bool := match o with
  | some (aN .u64 4 _) => true
  | _ => false
def g44g0 (o : Option AV) : List Nat := match o with
  | some (aN .u64 4 x) => x
  | _ => []
theorem g44is_spec {o : Option AV} (h : g44is o = true) : o = some (aN .u64 4 (g44g0 o)) := by
  unfold g44is at h
  split at h
  · rfl
  · cases h
def g44v (A : Ar) (a : List Nat) : Option AV := g44 A (100000) (fun v _ => some v) a
def g44ok (A : Ar) (a : List Nat) : Bool := g44is (g44v A a)
def g44r0 (A : Ar) (a : List Nat) : List Nat := g44g0 (g44v A a)
theorem g44ok_spec {A : Ar} {a} (h : g44ok A a = true) : g44v A a = some (aN .u64 4 (g44r0 A a)) := g44is_spec h
def g44o (A : Ar) (args : List AV) : Option (Bool × AV) := match args with
  | [.v (.agg [.nums .u64 n0 a])] => some (Nat.beq n0 4 && (g44ok A a), .v (.agg [.nums .u64 4 (g44r0 A a)]))
  | _ => none
theorem g44o_sound : ∀ args v, g44o realA args = some (true, v) → Fn1 Try.prog 44 args v := by
  intro args v h
  unfold g44o at h
  split at h
  · rename_i n0 a
    simp only [Option.some.injEq, Prod.mk.injEq] at h
    obtain ⟨hc, h⟩ := h
    subst h
    · skip
      simp only [Bool.and_eq_true] at hc
      have en0 := beq_true hc.1
      subst en0
      replace hc := hc.2
      exact fn1_ofG mixed gtysOK g44O_sound g44O_det (an := g44an) (cut := g44cut) Try.func44 (c := bodyOf Try.f44) rfl (by kernel_rfl) Try.call44 (Nat.le_of_ble_eq_true rfl) (fun b => rfl) (fun _ => (show g44v realA a = _ from g44ok_spec hc)) fun _ st => g44_go st
  · cases h
attribute [local irreducible] g44ok g44r0
def g68O (A : Ar) : Orc := orcOf [(44, g44o A), (67, g67o A)]
def g68an : Ann := [(0, ([0, 1], [])), (1, ([2, 3, 4], [1000, 1001, 1002]))]
def g68res : List ResultVar := [.cell 4 24]
def g68cut : List Nat := []
noncomputable def g68N {R : Type} (A : Ar) (kk : AV → Heap → Option R) (t : List Bool → St → Option R) (p : List Bool) (s : St) : Option R := nodeN A gtys (g68O A) g68an g68cut t (bodyOf Try.f68) (finD gtys g68res kk) p s
def g68 {R : Type} (A : Ar) (n : Nat) (kk : AV → Heap → Option R) (a b : List Nat) : Option R :=
  match g44ok A b with
  | true => match g67ok A a (g44r0 A b) with
    | true => kk (aN .u64 4 (g67r0 A a (g44r0 A b))) [(1000, (bU 4 a 24)), (1001, (bU 4 b 24)), (1002, (bU 4 (g67r0 A a (g44r0 A b)) 24))]
    | false => none
  | false => none
section
variable {R : Type} {A : Ar} {n : Nat} {kk : AV → Heap → Option R} {tb : Nat → List Bool → St → Option R} (st : Stp (g68N A kk) tb)
include st
end
def g68is (o : Option AV) : Bool := match o with
  | some (aN .u64 4 _) => true
  | _ => false
def g68g0 (o : Option AV) : List Nat := match o with
  | some (aN .u64 4 x) => x
  | _ => []
def g68v (A : Ar) (a b : List Nat) : Option AV := g68 A (100000) (fun v _ => some v) a b
def g68ok (A : Ar) (a b : List Nat) : Bool := g68is (g68v A a b)
def g68r0 (A : Ar) (a b : List Nat) : List Nat := g68g0 (g68v A a b)
def g68o (A : Ar) (args : List AV) : Option (Bool × AV) := match args with
  | [.v (.agg [.nums .u64 n0 a]), .v (.agg [.nums .u64 n1 b])] => some (Nat.beq n0 4 && (Nat.beq n1 4 && (g68ok A a b)), .v (.agg [.nums .u64 4 (g68r0 A a b)]))
  | _ => none
attribute [local irreducible] g68ok g68r0
def g49O (A : Ar) : Orc := orcOf [(65, g65o A), (64, g64o A)]
def g49an : Ann := [(0, ([0], [])), (1, ([1], [1000]))]
def g49res : List ResultVar := [.tmp 2]
def g49cut : List Nat := []
noncomputable def g49N {R : Type} (A : Ar) (kk : AV → Heap → Option R) (t : List Bool → St → Option R) (p : List Bool) (s : St) : Option R := nodeN A gtys (g49O A) g49an g49cut t (bodyOf Try.f49) (finD gtys g49res kk) p s
def g49 {R : Type} (A : Ar) (n : Nat) (kk : AV → Heap → Option R) (a : List Nat) : Option R :=
  match g65ok A a with
  | true => match g64ok A (g65r0 A a) with
    | true => kk (bO ((A.lq (g64r0 A (g65r0 A a)) a) && true)) [(1000, (bU 4 a 24))]
    | false => none
  | false => none
section
variable {R : Type} {A : Ar} {n : Nat} {kk : AV → Heap → Option R} {tb : Nat → List Bool → St → Option R} (st : Stp (g49N A kk) tb)
include st
end
def g49is (o : Option AV) : Bool := match o with
  | some (.v (.cell (.bool _))) => true
  | _ => false
def g49g0 (o : Option AV) : Bool := match o with
  | some (.v (.cell (.bool x))) => x
  | _ => false
def g49v (A : Ar) (a : List Nat) : Option AV := g49 A (100000) (fun v _ => some v) a
def g49ok (A : Ar) (a : List Nat) : Bool := g49is (g49v A a)
def g49r0 (A : Ar) (a : List Nat) : Bool := g49g0 (g49v A a)
def g49o (A : Ar) (args : List AV) : Option (Bool × AV) := match args with
  | [.v (.agg [.nums .u64 n0 a])] => some (Nat.beq n0 4 && (g49ok A a), .v (.cell (.bool (g49r0 A a))))
  | _ => none
attribute [local irreducible] g49ok g49r0
def g35O (A : Ar) : Orc := orcOf [(65, g65o A)]
def g35an : Ann := [(0, ([0], [])), (1, ([1], [1000]))]
def g35res : List ResultVar := [.tmp 2]
def g35cut : List Nat := []
noncomputable def g35N {R : Type} (A : Ar) (kk : AV → Heap → Option R) (t : List Bool → St → Option R) (p : List Bool) (s : St) : Option R := nodeN A gtys (g35O A) g35an g35cut t (bodyOf Try.f35) (finD gtys g35res kk) p s
def g35 {R : Type} (A : Ar) (n : Nat) (kk : AV → Heap → Option R) (a : List Nat) : Option R :=
  match g65ok A a with
  | true => kk (bO (A.nc .eql (A.nb .rem .u32 ((g65r0 A a).getD 0 0) 2) 1)) [(1000, (bU 4 a 24))]
  | false => none
section
variable {R : Type} {A : Ar} {n : Nat} {kk : AV → Heap → Option R} {tb : Nat → List Bool → St → Option R} (st : Stp (g35N A kk) tb)
include st
end
def g35is (o : Option AV) : Bool := match o with
  | some (.v (.cell (.bool _))) => true
  | _ => false
def g35g0 (o : Option AV) : Bool := match o with
  | some (.v (.cell (.bool x))) => x
  | _ => false
def g35v (A : Ar) (a : List Nat) : Option AV := g35 A (100000) (fun v _ => some v) a
def g35ok (A : Ar) (a : List Nat) : Bool := g35is (g35v A a)
def g35r0 (A : Ar) (a : List Nat) : Bool := g35g0 (g35v A a)
def g35o (A : Ar) (args : List AV) : Option (Bool × AV) := match args with
  | [.v (.agg [.nums .u64 n0 a])] => some (Nat.beq n0 4 && (g35ok A a), .v (.cell (.bool (g35r0 A a))))
  | _ => none
attribute [local irreducible] g35ok g35r0
def g77O (A : Ar) : Orc := orcOf [(58, g58o A), (56, g56o A), (76, g76o A), (57, g57o A), (65, g65o A), (64, g64o A), (35, g35o A), (44, g44o A)]
def g77an : Ann := [(0, ([0, 1], [])), (1, ([2, 3, 4], [1000, 1001, 1002])), (2, ([2, 3, 4, 6], [1000, 1001, 1002, 2004])), (3, ([2, 3, 4, 7], [1000, 1001, 1002, 3003])), (4, ([2, 3, 4, 7, 8], [1000, 1001, 1002, 3003, 4003])), (5, ([3, 4, 7, 8, 9], [1001, 1002, 3003, 4003, 5003])), (6, ([3, 4, 7, 8, 9, 10], [1001, 1002, 3003, 4003, 5003])), (7, ([3, 4, 7, 8, 9, 10], [1001, 1002, 3003, 4003, 5003])), (8, ([3, 4, 7, 8, 9, 10], [1001, 1002, 3003, 4003, 5003])), (9, ([4, 7], [1002, 3003])), (10, ([4, 7], [1002, 3003])), (11, ([4, 7], [1002, 3003])), (12, ([3, 4, 7, 8, 9, 10], [1001, 1002, 3003, 4003, 5003])), (13, ([4], [1002]))]
def g77res : List ResultVar := [.cell 4 24, .tmp 5]
def g77cut : List Nat := [8]
noncomputable def g77N {R : Type} (A : Ar) (kk : AV → Heap → Option R) (t : List Bool → St → Option R) (p : List Bool) (s : St) : Option R := nodeN A gtys (g77O A) g77an g77cut t (bodyOf Try.f77) (finD gtys g77res kk) p s
def g77J8 {R : Type} (A : Ar) (n : Nat) (kk : AV → Heap → Option R) (lg77L6 : Int → List Nat → List Nat → List Nat → List Nat → List Nat → Option R) (x0 : Int) (x1 x2 : List Nat) (x3 x4 x5 : List Nat) : Option R :=
  match g56ok A x3 x3 with
  | true => match g56ok A x1 (g56r0 A x3 x3) with
    | true => match (A.lq (g56r0 A x1 (g56r0 A x3 x3)) x5) && true with
      | true => match g35ok A x3 with
        | true => match g35r0 A x3 with
          | true => match g44ok A x3 with
            | true => kk (.tup [(.agg [.nums .u64 4 (g44r0 A x3)]), (.cell (.bool true))]) [(1002, (bU 4 (g44r0 A x3) 24)), (3003, (bU 4 (g44r0 A x3) 24))]
            | false => none
          | false => kk (.tup [(.agg [.nums .u64 4 x3]), (.cell (.bool true))]) [(1002, (bU 4 x3 24)), (3003, (bU 4 x3 24))]
        | false => none
      | false => match g56ok A x3 x4 with
        | true => lg77L6 (A.ib .add .i64 x0 1) x1 x2 (g56r0 A x3 x4) x4 x5
        | false => none
    | false => none
  | false => none
def g77L6 {R : Type} (A : Ar) (n : Nat) (kk : AV → Heap → Option R)  : Nat → Int → List Nat → List Nat → List Nat → List Nat → List Nat → Option R
  | 0, _, _, _, _, _, _ => none
  | m + 1, x0, x1, x2, x3, x4, x5 => match A.ic .lss x0 2 with
  | true => g77J8 A n kk (g77L6 A n kk  m) x0 x1 x2 x3 x4 x5
  | false => kk (.tup [(.agg [.nums .u64 4 [0, 0, 0, 0]]), (.cell (.bool false))]) [(1002, (bU 4 [0, 0, 0, 0] 24))]
def g77 {R : Type} (A : Ar) (n : Nat) (kk : AV → Heap → Option R) (a b : List Nat) : Option R :=
  match g58ok A b with
  | true => match g56ok A a (g58r0 A b) with
    | true => match g76ok A (g56r0 A a (g58r0 A b)) (((([0, 0, 0, 0].set 0 18446744073709551614).set 1 18446744073709551615).set 2 18446744073709551615).set 3 1152921504606846975) with
      | true => match g57ok A 2 with
        | true => match g76ok A (g57r0 A 2) (((([0, 0, 0, 0].set 0 18446744073709551611).set 1 18446744073709551615).set 2 18446744073709551615).set 3 2305843009213693951) with
          | true => match g65ok A a with
            | true => match g64ok A (g65r0 A a) with
              | true => g77L6 A n kk  n 0 b [0, 0, 0, 0] (g76r0 A (g56r0 A a (g58r0 A b)) (((([0, 0, 0, 0].set 0 18446744073709551614).set 1 18446744073709551615).set 2 18446744073709551615).set 3 1152921504606846975)) (g76r0 A (g57r0 A 2) (((([0, 0, 0, 0].set 0 18446744073709551611).set 1 18446744073709551615).set 2 18446744073709551615).set 3 2305843009213693951)) (g64r0 A (g65r0 A a))
              | false => none
            | false => none
          | false => none
        | false => none
      | false => none
    | false => none
  | false => none
section
variable {R : Type} {A : Ar} {n : Nat} {kk : AV → Heap → Option R} {tb : Nat → List Bool → St → Option R} (st : Stp (g77N A kk) tb)
include st
end
def g77is (o : Option AV) : Bool := match o with
  | some (.tup [.agg [.nums .u64 4 _], .cell (.bool _)]) => true
  | _ => false
def g77g0 (o : Option AV) : List Nat := match o with
  | some (.tup [.agg [.nums .u64 4 x], .cell (.bool _)]) => x
  | _ => []
def g77g1 (o : Option AV) : Bool := match o with
  | some (.tup [.agg [.nums .u64 4 _], .cell (.bool x)]) => x
  | _ => false
def g77v (A : Ar) (a b : List Nat) : Option AV := g77 A (100000) (fun v _ => some v) a b
def g77ok (A : Ar) (a b : List Nat) : Bool := g77is (g77v A a b)
def g77r0 (A : Ar) (a b : List Nat) : List Nat := g77g0 (g77v A a b)
def g77r1 (A : Ar) (a b : List Nat) : Bool := g77g1 (g77v A a b)
def g77o (A : Ar) (args : List AV) : Option (Bool × AV) := match args with
  | [.v (.agg [.nums .u64 n0 a]), .v (.agg [.nums .u64 n1 b])] => some (Nat.beq n0 4 && (Nat.beq n1 4 && (g77ok A a b)), .tup [.agg [.nums .u64 4 (g77r0 A a b)], .cell (.bool (g77r1 A a b))])
  | _ => none
attribute [local irreducible] g77ok g77r0 g77r1
def g34O (A : Ar) : Orc := orcOf [(65, g65o A), (64, g64o A)]
def g34an : Ann := [(0, ([0], [])), (1, ([1], [1000])), (2, ([3], [2003])), (3, ([3, 4], [2003, 3000])), (4, ([3, 4, 5], [2003, 3000])), (5, ([3, 4, 5], [2003, 3000])), (6, ([3, 4, 5], [2003, 3000])), (7, ([4], [3000]))]
def g34res : List ResultVar := [.tmp 2]
def g34cut : List Nat := [6]
noncomputable def g34N {R : Type} (A : Ar) (kk : AV → Heap → Option R) (t : List Bool → St → Option R) (p : List Bool) (s : St) : Option R := nodeN A gtys (g34O A) g34an g34cut t (bodyOf Try.f34) (finD gtys g34res kk) p s
def g34J6 {R : Type} (A : Ar) (n : Nat) (kk : AV → Heap → Option R) (lg34L4 : Nat → Int → List Nat → Nat → List Nat → Option R) (x0 : Nat) (x1 : Int) (x2 : List Nat) (x3 : Nat) (x4 : List Nat) : Option R :=
  match A.neg (A.ib .quo .i64 x1 8) with
  | true => none
  | false => match A.lt (A.toN (A.ib .quo .i64 x1 8)) 4 with
    | true => match A.neg (A.ib .mul .i64 8 (A.ib .rem .i64 x1 8)) with
      | true => none
      | false => match A.neg x1 with
        | true => none
        | false => match A.lt (A.toN x1) x0 with
          | true => lg34L4 x0 (A.ib .add .i64 x1 1) x2 x3 (x4.set (A.toN x1) (A.n2n .u8 (A.nsh .shr .u64 (x2.getD (A.toN (A.ib .quo .i64 x1 8)) 0) (A.toN (A.ib .mul .i64 8 (A.ib .rem .i64 x1 8))))))
          | false => none
    | false => none
def g34L4 {R : Type} (A : Ar) (n : Nat) (kk : AV → Heap → Option R)  : Nat → Nat → Int → List Nat → Nat → List Nat → Option R
  | 0, _, _, _, _, _ => none
  | m + 1, x0, x1, x2, x3, x4 => match A.ic .lss x1 32 with
  | true => g34J6 A n kk (g34L4 A n kk  m) x0 x1 x2 x3 x4
  | false => kk (tS (x4.take x0)) [(3000, ⟨[.nums .u8 x3 x4], 5, 2⟩)]
def g34 {R : Type} (A : Ar) (n : Nat) (kk : AV → Heap → Option R) (a : List Nat) : Option R :=
  match g65ok A a with
  | true => match g64ok A (g65r0 A a) with
    | true => match A.le 32 32 with
      | true => match A.le 32 140737488355328 with
        | true => g34L4 A n kk  n 32 0 (g64r0 A (g65r0 A a)) 32 (List.replicate 32 0)
        | false => none
      | false => none
    | false => none
  | false => none
section
variable {R : Type} {A : Ar} {n : Nat} {kk : AV → Heap → Option R} {tb : Nat → List Bool → St → Option R} (st : Stp (g34N A kk) tb)
include st
end
def g34is (o : Option AV) : Bool := match o with
  | some (.v (.cell (.str _))) => true
  | _ => false
def g34g0 (o : Option AV) : List Nat := match o with
  | some (.v (.cell (.str x))) => x
  | _ => []
def g34v (A : Ar) (a : List Nat) : Option AV := g34 A (100000) (fun v _ => some v) a
def g34ok (A : Ar) (a : List Nat) : Bool := g34is (g34v A a)
def g34r0 (A : Ar) (a : List Nat) : List Nat := g34g0 (g34v A a)
def g34o (A : Ar) (args : List AV) : Option (Bool × AV) := match args with
  | [.v (.agg [.nums .u64 n0 a])] => some (Nat.beq n0 4 && (g34ok A a), .v (.cell (.str (g34r0 A a))))
  | _ => none
attribute [local irreducible] g34ok g34r0
def g61O (A : Ar) : Orc := orcOf [(49, g49o A)]
def g61an : Ann := [(0, ([0], [])), (1, ([0, 2], [1000])), (2, ([2], [1000])), (3, ([0, 2], [1000])), (4, ([0, 2, 4], [1000, 4000])), (5, ([0, 2, 4, 5], [1000, 4000])), (6, ([0, 2, 4, 5], [1000, 4000])), (7, ([0, 2, 4, 5], [1000, 4000])), (8, ([2, 4], [1000, 4000])), (9, ([2], [1000])), (10, ([2, 4], [1000, 4000]))]
def g61res : List ResultVar := [.cell 2 24, .tmp 3]
def g61cut : List Nat := [3, 7, 8]
noncomputable def g61N {R : Type} (A : Ar) (kk : AV → Heap → Option R) (t : List Bool → St → Option R) (p : List Bool) (s : St) : Option R := nodeN A gtys (g61O A) g61an g61cut t (bodyOf Try.f61) (finD gtys g61res kk) p s
def g61J7 {R : Type} (A : Ar) (n : Nat) (kk : AV → Heap → Option R) (lg61L5 : List Nat → Int → List Nat → List Nat → Option R) (x0 : List Nat) (x1 : Int) (x2 x3 : List Nat) : Option R :=
  match A.neg (A.ib .quo .i64 x1 8) with
  | true => none
  | false => match A.lt (A.toN (A.ib .quo .i64 x1 8)) 4 with
    | true => match A.neg x1 with
      | true => none
      | false => match A.lt (A.toN x1) x0.length with
        | true => match A.neg (A.ib .mul .i64 8 (A.ib .rem .i64 x1 8)) with
          | true => none
          | false => match A.neg (A.ib .quo .i64 x1 8) with
            | true => none
            | false => match A.lt (A.toN (A.ib .quo .i64 x1 8)) 4 with
              | true => lg61L5 x0 (A.ib .add .i64 x1 1) x2 (x3.set (A.toN (A.ib .quo .i64 x1 8)) (A.nb .or .u64 (x3.getD (A.toN (A.ib .quo .i64 x1 8)) 0) (A.nsh .shl .u64 (x0.getD (A.toN x1) 0) (A.toN (A.ib .mul .i64 8 (A.ib .rem .i64 x1 8))))))
              | false => none
        | false => none
    | false => none
def g61J8 {R : Type} (A : Ar) (n : Nat) (kk : AV → Heap → Option R)  (x0 x1 : List Nat) : Option R :=
  match g49ok A x1 with
  | true => match !(g49r0 A x1) with
    | true => kk (.tup [(.agg [.nums .u64 4 [0, 0, 0, 0]]), (.cell (.bool false))]) [(1000, (bU 4 [0, 0, 0, 0] 24))]
    | false => kk (.tup [(.agg [.nums .u64 4 x1]), (.cell (.bool true))]) [(1000, (bU 4 x1 24)), (4000, (bU 4 x1 24))]
  | false => none
def g61L5 {R : Type} (A : Ar) (n : Nat) (kk : AV → Heap → Option R)  : Nat → List Nat → Int → List Nat → List Nat → Option R
  | 0, _, _, _, _ => none
  | m + 1, x0, x1, x2, x3 => match A.ic .lss x1 32 with
  | true => g61J7 A n kk (g61L5 A n kk  m) x0 x1 x2 x3
  | false => g61J8 A n kk  x2 x3
def g61J3 {R : Type} (A : Ar) (n : Nat) (kk : AV → Heap → Option R)  (x0 x1 : List Nat) : Option R :=
  g61L5 A n kk  n x0 0 x1 [0, 0, 0, 0]
def g61 {R : Type} (A : Ar) (n : Nat) (kk : AV → Heap → Option R) (a : List Nat) : Option R :=
  match A.ic .neq (A.ofN a.length) 32 with
  | true => kk (.tup [(.agg [.nums .u64 4 [0, 0, 0, 0]]), (.cell (.bool false))]) [(1000, (bU 4 [0, 0, 0, 0] 24))]
  | false => g61J3 A n kk  a [0, 0, 0, 0]
section
variable {R : Type} {A : Ar} {n : Nat} {kk : AV → Heap → Option R} {tb : Nat → List Bool → St → Option R} (st : Stp (g61N A kk) tb)
include st
end
def g61is (o : Option AV) : Bool := match o with
  | some (.tup [.agg [.nums .u64 4 _], .cell (.bool _)]) => true
  | _ => false
def g61g0 (o : Option AV) : List Nat := match o with
  | some (.tup [.agg [.nums .u64 4 x], .cell (.bool _)]) => x
  | _ => []
def g61g1 (o : Option AV) : Bool := match o with
  | some (.tup [.agg [.nums .u64 4 _], .cell (.bool x)]) => x
  | _ => false
def g61v (A : Ar) (a : List Nat) : Option AV := g61 A (100000) (fun v _ => some v) a
def g61ok (A : Ar) (a : List Nat) : Bool := g61is (g61v A a)
def g61r0 (A : Ar) (a : List Nat) : List Nat := g61g0 (g61v A a)
def g61r1 (A : Ar) (a : List Nat) : Bool := g61g1 (g61v A a)
def g61o (A : Ar) (args : List AV) : Option (Bool × AV) := match args with
  | [.v (.cell (.str a))] => some (g61ok A a, .tup [.agg [.nums .u64 4 (g61r0 A a)], .cell (.bool (g61r1 A a))])
  | _ => none
attribute [local irreducible] g61ok g61r0 g61r1
def g51O (A : Ar) : Orc := orcOf []
theorem g51O_sound : OSound Try.prog (g51O realA) := orc_sound fun f g hm args v hv => by
  cases hm
theorem g51O_det : ODet (g51O realA) := orc_det _
def g51an : Ann := [(0, ([0, 1], [])), (1, ([0, 1], [])), (2, ([], [])), (3, ([0, 1], []))]
def g51res : List ResultVar := [.tmp 4]
def g51cut : List Nat := [3]
noncomputable def g51N {R : Type} (A : Ar) (kk : AV → Heap → Option R) (t : List Bool → St → Option R) (p : List Bool) (s : St) : Option R := nodeN A gtys (g51O A) g51an g51cut t (bodyOf Try.f51) (finD gtys g51res kk) p s
def g51J3s (x0 : List Nat) (x1 : Int) : St := ⟨[(0, (tS x0)), (1, (i6 x1))], []⟩
def g51J3 {R : Type} (A : Ar) (n : Nat) (kk : AV → Heap → Option R)  (x0 : List Nat) (x1 : Int) : Option R :=
  match A.neg (A.ib .quo .i64 x1 8) with
  | true => none
  | false => match A.lt (A.toN (A.ib .quo .i64 x1 8)) x0.length with
    | true => match A.neg (A.ib .rem .i64 x1 8) with
      | true => none
      | false => kk (i6 (A.ib .and .i64 (A.ofN (A.nsh .shr .u8 (x0.getD (A.toN (A.ib .quo .i64 x1 8)) 0) (A.toN (A.ib .rem .i64 x1 8)))) 1)) []
    | false => none
def g51 {R : Type} (A : Ar) (n : Nat) (kk : AV → Heap → Option R) (a : List Nat) (b : Int) : Option R :=
  match A.ic .lss b 0 with
  | true => kk (i6 0) []
  | false => match A.ic .geq (A.ib .quo .i64 b 8) (A.ofN a.length) with
    | true => kk (i6 0) []
    | false => g51J3 A n kk  a b
section
variable {R : Type} {A : Ar} {n : Nat} {kk : AV → Heap → Option R} {tb : Nat → List Bool → St → Option R} (st : Stp (g51N A kk) tb)
include st
theorem g51J3_go {x0 : List Nat} {x1 : Int} : Prs (fun k => tb k (pth 7) (g51J3s x0 x1)) (g51J3 A n kk x0 x1) := by
  unfold g51J3
  exact st.g (pc (SxY05api _ pn (SxY05api _ (SxY05api _ pn (pf _)) pn)) (by kernel_rfl))
theorem g51_go {a : List Nat} {b : Int} : Prs (fun k => funN A gtys (g51O A) g51an g51cut (bodyOf Try.f51) g51res [(tS a), (i6 b)] [] kk (tb k)) (g51 A n kk a b) := by
  unfold g51
  exact pc (SxY05api _ (pf _) (SxY05api _ (pf _) (g51J3_go st))) (by kernel_rfl)
end
def g51is (o : Option AV) : Bool := match o with
  | some (.v (.cell (.int .i64 _))) => true
  | _ => false
def g51g0 (o : Option AV) : Int := match o with
  | some (.v (.cell (.int .i64 x))) => x
  | _ => 0
theorem g51is_spec {o : Option AV} (h : g51is o = true) : o = some (.v (.cell (.int .i64 (g51g0 o)))) := by
  unfold g51is at h
  split at h
  · rfl
  · cases h
def g51v (A : Ar) (a : List Nat) (b : Int) : Option AV := g51 A (100000) (fun v _ => some v) a b
def g51ok (A : Ar) (a : List Nat) (b : Int) : Bool := g51is (g51v A a b)
def g51r0 (A : Ar) (a : List Nat) (b : Int) : Int := g51g0 (g51v A a b)
theorem g51ok_spec {A : Ar} {a b} (h : g51ok A a b = true) : g51v A a b = some (.v (.cell (.int .i64 (g51r0 A a b)))) := g51is_spec h
def g51o (A : Ar) (args : List AV) : Option (Bool × AV) := match args with
  | [.v (.cell (.str a)), .v (.cell (.int .i64 b))] => some (g51ok A a b, .v (.cell (.int .i64 (g51r0 A a b))))
  | _ => none
theorem g51o_sound : ∀ args v, g51o realA args = some (true, v) → Fn1 Try.prog 51 args v := by
  intro args v h
  unfold g51o at h
  split at h
  · rename_i a b
    simp only [Option.some.injEq, Prod.mk.injEq] at h
    obtain ⟨hc, h⟩ := h
    subst h
    · skip
      exact fn1_ofG mixed gtysOK g51O_sound g51O_det (an := g51an) (cut := g51cut) Try.func51 (c := bodyOf Try.f51) rfl (by kernel_rfl) Try.call51 (Nat.le_of_ble_eq_true rfl) (fun b => rfl) (fun _ => (show g51v realA a b = _ from g51ok_spec hc)) fun _ st => g51_go st
  · cases h
attribute [local irreducible] g51ok g51r0
def g53O (A : Ar) : Orc := orcOf []
def g53an : Ann := [(0, ([0, 1], [])), (1, ([0, 1], [])), (2, ([], [])), (3, ([0, 1], []))]
def g53res : List ResultVar := [.tmp 4]
def g53cut : List Nat := [3]
noncomputable def g53N {R : Type} (A : Ar) (kk : AV → Heap → Option R) (t : List Bool → St → Option R) (p : List Bool) (s : St) : Option R := nodeN A gtys (g53O A) g53an g53cut t (bodyOf Try.f53) (finD gtys g53res kk) p s
def g53J3 {R : Type} (A : Ar) (n : Nat) (kk : AV → Heap → Option R)  (x0 : List Nat) (x1 : Int) : Option R :=
  match A.neg (A.ib .quo .i64 x1 8) with
  | true => none
  | false => match A.lt (A.toN (A.ib .quo .i64 x1 8)) x0.length with
    | true => match A.neg (A.ib .rem .i64 x1 8) with
      | true => none
      | false => kk (i6 (A.ib .and .i64 (A.ofN (A.nsh .shr .u8 (x0.getD (A.toN (A.ib .quo .i64 x1 8)) 0) (A.toN (A.ib .rem .i64 x1 8)))) 1)) []
    | false => none
def g53 {R : Type} (A : Ar) (n : Nat) (kk : AV → Heap → Option R) (a : List Nat) (b : Int) : Option R :=
  match A.ic .lss b 0 with
  | true => kk (i6 0) []
  | false => match A.ic .geq (A.ib .quo .i64 b 8) (A.ofN a.length) with
    | true => kk (i6 0) []
    | false => g53J3 A n kk  a b
section
variable {R : Type} {A : Ar} {n : Nat} {kk : AV → Heap → Option R} {tb : Nat → List Bool → St → Option R} (st : Stp (g53N A kk) tb)
include st
end
def g53is (o : Option AV) : Bool := match o with
  | some (.v (.cell (.int .i64 _))) => true
  | _ => false
def g53g0 (o : Option AV) : Int := match o with
  | some (.v (.cell (.int .i64 x))) => x
  | _ => 0
def g53v (A : Ar) (a : List Nat) (b : Int) : Option AV := g53 A (100000) (fun v _ => some v) a b
def g53ok (A : Ar) (a : List Nat) (b : Int) : Bool := g53is (g53v A a b)
def g53r0 (A : Ar) (a : List Nat) (b : Int) : Int := g53g0 (g53v A a b)
def g53o (A : Ar) (args : List AV) : Option (Bool × AV) := match args with
  | [.v (.cell (.str a)), .v (.cell (.int .i64 b))] => some (g53ok A a b, .v (.cell (.int .i64 (g53r0 A a b))))
  | _ => none
attribute [local irreducible] g53ok g53r0
end Go.Sx
