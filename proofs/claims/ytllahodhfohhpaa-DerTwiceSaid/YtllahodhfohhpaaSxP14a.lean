import Derived.Test.YtllahodhfohhpaaChecked
import Derived.Test.YtllahodhfohhpaaSxK3
import Derived.Test.YtllahodhfohhpaaSxNi
import Derived.Test.YtllahodhfohhpaaSxTn
import Derived.Test.YtllahodhfohhpaaSxEx
import Derived.Test.YtllahodhfohhpaaSxRo
namespace Go.Sx
set_option linter.unusedSectionVars false
open Go.Proofs
set_option linter.unusedVariables false
set_option maxRecDepth 100000
theorem mixed : Try.prog.follows .mixedOrders = true := Try.checked.mixed
def gtyList : List (Nat × Ty) := [(3, ⟨.int .i64, 1, 8, (.cell (.int .i64 0)), [], 0, 0, false⟩),
  (4, ⟨.bool, 1, 1, (.cell (.bool false)), [], 0, 0, false⟩),
  (5, ⟨.int .u8, 1, 1, (.cell (.nat .u8 0)), [], 0, 0, false⟩),
  (9, ⟨.string, 1, 16, (.cell (.str [])), [], 0, 0, false⟩),
  (24, ⟨.struct, 3, 40, (.agg [.one (.int .i64 0), .one (.str []), .one (.str [])]), [(0, 3), (1, 9), (2, 9)], 0, 0, true⟩),
  (25, ⟨.int .i64, 1, 8, (.cell (.int .i64 0)), [], 0, 0, false⟩),
  (28, ⟨.struct, 3, 40, (.agg [.one (.int .i64 0), .one (.str []), .one (.str [])]), [(0, 3), (1, 9), (2, 9)], 0, 0, true⟩),
  (35, ⟨.slice, 1, 24, (.cell .nils), [], 0, 24, false⟩),
  (38, ⟨.slice, 1, 24, (.cell .nils), [], 0, 28, false⟩),
  (42, ⟨.slice, 1, 24, (.cell .nils), [], 0, 9, false⟩),
  (43, ⟨.slice, 1, 24, (.cell .nils), [], 0, 5, false⟩),
  (44, ⟨.slice, 1, 24, (.cell .nils), [], 0, 3, false⟩),
  (47, ⟨.struct, 5, 72, (.agg [.one (.str []), .one (.str []), .one (.bool false), .one .nils, .one (.int .i64 0)]), [(0, 9), (1, 9), (2, 4), (3, 42), (4, 3)], 0, 0, false⟩),
  (54, ⟨.int .u32, 1, 4, (.cell (.nat .u32 0)), [], 0, 0, false⟩)]
def gtys : Tys := fun t => lk t gtyList
theorem gtysOK0 : allL (fun p => tyB Try.prog p.1 p.2) gtyList = true := by kernel_rfl
theorem gtysOK : TyOK Try.prog gtys := tyOK_of gtysOK0 (eqB_spec (by kernel_rfl))
theorem SxP14api {R : Type} (c : Bool) {f1 f2 : Nat → Option R} {a1 a2 : Option R} (h1 : Prs f1 a1) (h2 : Prs f2 a2) : Prs (fun k => match c with | true => f1 k | false => f2 k) (match c with | true => a1 | false => a2) := by cases c <;> assumption
def g19O (A : Ar) : Orc := orcOf []
theorem g19O_sound : OSound Try.prog (g19O realA) := orc_sound fun f g hm args v hv => by
  cases hm
theorem g19O_det : ODet (g19O realA) := orc_det _
def g19an : Ann := [(0, ([0], [])), (1, ([0], [])), (2, ([0], [])), (3, ([0], [])), (4, ([0, 3], [4000, 7002])), (5, ([0, 3], [7002])), (6, ([0, 3], [500, 4000, 7002])), (7, ([3], [4000, 7002])), (1000006, ([7002], [500]))]
def g19res : List ResultVar := [.tmp 2]
def g19cut : List Nat := [3, 6, 7]
noncomputable def g19N {R : Type} (A : Ar) (kk : AV → Heap → Option R) (t : List Bool → St → Option R) (p : List Bool) (s : St) : Option R := nodeN A gtys (g19O A) g19an g19cut t (bodyOf Try.f19) (finD gtys g19res kk) p s
def g19J6as (x0 : Int) (x1 x2 : Nat) (x3 : List Nat) : St := ⟨[(0, (i6 x0)), (3, (sL 500 none x1 1))], [(500, ⟨[.nums .u8 x2 x3], 5, 2⟩)]⟩
def g19J6a {R : Type} (A : Ar) (n : Nat) (kk : AV → Heap → Option R) (lg19L4a : Int → Nat → Nat → List Nat → Option R) (x0 : Int) (x1 x2 : Nat) (x3 : List Nat) : Option R :=
  match A.eq 1 1 with
  | true => match A.le (([A.i2n .u8 x0] ++ (x3.take x1)).length) 140737488355328 with
    | true => lg19L4a (A.ish .shr .i64 x0 8) (([A.i2n .u8 x0] ++ (x3.take x1)).length) (([A.i2n .u8 x0] ++ (x3.take x1)).length) ([A.i2n .u8 x0] ++ (x3.take x1))
    | false => none
  | false => none
def g19J7s (x0 x1 : Nat) (x2 : List Nat) : St := ⟨[(3, (sL 7002 none x0 1))], [(7002, ⟨[.nums .u8 x1 x2], 5, 2⟩)]⟩
def g19J7 {R : Type} (A : Ar) (n : Nat) (kk : AV → Heap → Option R)  (x0 x1 : Nat) (x2 : List Nat) : Option R :=
  match A.le (([A.i2n .u8 (A.ib .add .i64 128 (A.ofN x0))].take 1).length + (x2.take x0).length) 9223372036854775807 with
  | true => kk (tS (([A.i2n .u8 (A.ib .add .i64 128 (A.ofN x0))].take 1) ++ (x2.take x0))) [(8004, ⟨[.nums .u8 1 [A.i2n .u8 (A.ib .add .i64 128 (A.ofN x0))]], 5, 2⟩), (7002, ⟨[.nums .u8 x1 x2], 5, 2⟩)]
  | false => none
def g19L4as (x0 : Int) (x1 x2 : Nat) (x3 : List Nat) : St := ⟨[(0, (i6 x0)), (3, (sL 7002 none x1 1))], [(7002, ⟨[.nums .u8 x2 x3], 5, 2⟩)]⟩
def g19L4a {R : Type} (A : Ar) (n : Nat) (kk : AV → Heap → Option R)  : Nat → Int → Nat → Nat → List Nat → Option R
  | 0, _, _, _, _ => none
  | m + 1, x0, x1, x2, x3 => match A.ic .gtr x0 0 with
  | true => g19J6a A n kk (g19L4a A n kk  m) x0 x1 x2 x3
  | false => g19J7 A n kk  x1 x2 x3
def g19J6s (x0 : Int) (x1 x2 : Nat) (x3 : List Nat) : St := ⟨[(0, (i6 x0)), (3, (sL 4000 none x1 1))], [(4000, ⟨[.nums .u8 x2 x3], 5, 2⟩)]⟩
def g19J6 {R : Type} (A : Ar) (n : Nat) (kk : AV → Heap → Option R) (lg19L4a : Int → Nat → Nat → List Nat → Option R) (x0 : Int) (x1 x2 : Nat) (x3 : List Nat) : Option R :=
  match A.eq 1 1 with
  | true => match A.le (([A.i2n .u8 x0] ++ (x3.take x1)).length) 140737488355328 with
    | true => lg19L4a (A.ish .shr .i64 x0 8) (([A.i2n .u8 x0] ++ (x3.take x1)).length) (([A.i2n .u8 x0] ++ (x3.take x1)).length) ([A.i2n .u8 x0] ++ (x3.take x1))
    | false => none
  | false => none
def g19J7as (x0 x1 : Nat) (x2 : List Nat) : St := ⟨[(3, (sL 4000 none x0 1))], [(4000, ⟨[.nums .u8 x1 x2], 5, 2⟩)]⟩
def g19J7a {R : Type} (A : Ar) (n : Nat) (kk : AV → Heap → Option R)  (x0 x1 : Nat) (x2 : List Nat) : Option R :=
  match A.le (([A.i2n .u8 (A.ib .add .i64 128 (A.ofN x0))].take 1).length + (x2.take x0).length) 9223372036854775807 with
  | true => kk (tS (([A.i2n .u8 (A.ib .add .i64 128 (A.ofN x0))].take 1) ++ (x2.take x0))) [(8004, ⟨[.nums .u8 1 [A.i2n .u8 (A.ib .add .i64 128 (A.ofN x0))]], 5, 2⟩), (4000, ⟨[.nums .u8 x1 x2], 5, 2⟩)]
  | false => none
def g19L4s (x0 : Int) (x1 x2 : Nat) (x3 : List Nat) : St := ⟨[(0, (i6 x0)), (3, (sL 4000 none x1 1))], [(4000, ⟨[.nums .u8 x2 x3], 5, 2⟩)]⟩
def g19L4 {R : Type} (A : Ar) (n : Nat) (kk : AV → Heap → Option R)  : Nat → Int → Nat → Nat → List Nat → Option R
  | 0, _, _, _, _ => none
  | m + 1, x0, x1, x2, x3 => match A.ic .gtr x0 0 with
  | true => g19J6 A n kk (g19L4a A n kk  m) x0 x1 x2 x3
  | false => g19J7a A n kk  x1 x2 x3
def g19J3s (x0 : Int) : St := ⟨[(0, (i6 x0))], []⟩
def g19J3 {R : Type} (A : Ar) (n : Nat) (kk : AV → Heap → Option R)  (x0 : Int) : Option R :=
  g19L4 A n kk  n x0 0 0 []
def g19 {R : Type} (A : Ar) (n : Nat) (kk : AV → Heap → Option R) (a : Int) : Option R :=
  match A.ic .lss a 128 with
  | true => kk (tS ([A.i2n .u8 a].take 1)) [(3002, ⟨[.nums .u8 1 [A.i2n .u8 a]], 5, 2⟩)]
  | false => g19J3 A n kk  a
section
variable {R : Type} {A : Ar} {n : Nat} {kk : AV → Heap → Option R} {tb : Nat → List Bool → St → Option R} (st : Stp (g19N A kk) tb)
include st
theorem g19J6a_go {lg19L4a : Int → Nat → Nat → List Nat → Option R} (hg19L4a : ∀ (x0 : Int) (x1 x2 : Nat) (x3 : List Nat), Prs (fun k => tb k (pth 120) (g19L4as x0 x1 x2 x3)) (lg19L4a x0 x1 x2 x3)) {x0 : Int} {x1 : Nat} {x2 : Nat} {x3 : List Nat} : Prs (fun k => tb k (pth 241) (g19J6as x0 x1 x2 x3)) (g19J6a A n kk lg19L4a x0 x1 x2 x3) := by
  unfold g19J6a
  exact st.g (pc (SxP14api _ (SxP14api _ (hg19L4a _ _ _ _) pn) pn) (by kernel_rfl))
theorem g19J7_go {x0 : Nat} {x1 : Nat} {x2 : List Nat} : Prs (fun k => tb k (pth 31) (g19J7s x0 x1 x2)) (g19J7 A n kk x0 x1 x2) := by
  unfold g19J7
  exact st.g (pc (SxP14api _ (pf _) pn) (by kernel_rfl))
theorem g19L4a_go (m : Nat) : ∀ (x0 : Int) (x1 x2 : Nat) (x3 : List Nat), Prs (fun k => tb k (pth 120) (g19L4as x0 x1 x2 x3)) (g19L4a A n kk m x0 x1 x2 x3) := by
  induction m with
  | zero => intro x0 x1 x2 x3; exact pn0
  | succ m ih =>
    intro x0 x1 x2 x3; rw [g19L4a]
    exact st.g (pc (SxP14api _ (g19J6a_go st ih) (g19J7_go st)) (by kernel_rfl))
theorem g19J6_go {lg19L4a : Int → Nat → Nat → List Nat → Option R} (hg19L4a : ∀ (x0 : Int) (x1 x2 : Nat) (x3 : List Nat), Prs (fun k => tb k (pth 120) (g19L4as x0 x1 x2 x3)) (lg19L4a x0 x1 x2 x3)) {x0 : Int} {x1 : Nat} {x2 : Nat} {x3 : List Nat} : Prs (fun k => tb k (pth 241) (g19J6s x0 x1 x2 x3)) (g19J6 A n kk lg19L4a x0 x1 x2 x3) := by
  unfold g19J6
  exact st.g (pc (SxP14api _ (SxP14api _ (hg19L4a _ _ _ _) pn) pn) (by kernel_rfl))
theorem g19J7a_go {x0 : Nat} {x1 : Nat} {x2 : List Nat} : Prs (fun k => tb k (pth 31) (g19J7as x0 x1 x2)) (g19J7a A n kk x0 x1 x2) := by
  unfold g19J7a
  exact st.g (pc (SxP14api _ (pf _) pn) (by kernel_rfl))
theorem g19L4_go (m : Nat) : ∀ (x0 : Int) (x1 x2 : Nat) (x3 : List Nat), Prs (fun k => tb k (pth 120) (g19L4s x0 x1 x2 x3)) (g19L4 A n kk m x0 x1 x2 x3) := by
  induction m with
  | zero => intro x0 x1 x2 x3; exact pn0
  | succ m ih =>
    intro x0 x1 x2 x3; rw [g19L4]
    exact st.g (pc (SxP14api _ (g19J6_go st (g19L4a_go st m)) (g19J7a_go st)) (by kernel_rfl))
theorem g19J3_go {x0 : Int} : Prs (fun k => tb k (pth 7) (g19J3s x0)) (g19J3 A n kk x0) := by
  unfold g19J3
  exact st.g (pc (g19L4_go st n _ _ _ _) (by kernel_rfl))
theorem g19_go {a : Int} : Prs (fun k => funN A gtys (g19O A) g19an g19cut (bodyOf Try.f19) g19res [(i6 a)] [] kk (tb k)) (g19 A n kk a) := by
  unfold g19
  exact pc (SxP14api _ (pf _) (g19J3_go st)) (by kernel_rfl)
end
def g19is (o : Option AV) : Bool := match o with
  | some (.v (.cell (.str _))) => true
  | _ => false
def g19g0 (o : Option AV) : List Nat := match o with
  | some (.v (.cell (.str x))) => x
  | _ => []
theorem g19is_spec {o : Option AV} (h : g19is o = true) : o = some (.v (.cell (.str (g19g0 o)))) := by
  unfold g19is at h
  split at h
  · rfl
  · cases h
def g19v (A : Ar) (a : Int) : Option AV := g19 A (100000) (fun v _ => some v) a
def g19ok (A : Ar) (a : Int) : Bool := g19is (g19v A a)
def g19r0 (A : Ar) (a : Int) : List Nat := g19g0 (g19v A a)
theorem g19ok_spec {A : Ar} {a} (h : g19ok A a = true) : g19v A a = some (.v (.cell (.str (g19r0 A a)))) := g19is_spec h
def g19o (A : Ar) (args : List AV) : Option (Bool × AV) := match args with
  | [.v (.cell (.int .i64 a))] => some (g19ok A a, .v (.cell (.str (g19r0 A a))))
  | _ => none
theorem g19o_sound : ∀ args v, g19o realA args = some (true, v) → Fn1 Try.prog 19 args v := by
  intro args v h
  unfold g19o at h
  split at h
  · rename_i a
    simp only [Option.some.injEq, Prod.mk.injEq] at h
    obtain ⟨hc, h⟩ := h
    subst h
    · skip
      exact fn1_ofG mixed gtysOK g19O_sound g19O_det (an := g19an) (cut := g19cut) Try.func19 (c := bodyOf Try.f19) rfl (by kernel_rfl) Try.call19 (Nat.le_of_ble_eq_true rfl) (fun b => rfl) (fun _ => (show g19v realA a = _ from g19ok_spec hc)) fun _ st => g19_go st
  · cases h
attribute [local irreducible] g19ok g19r0
def g8O (A : Ar) : Orc := orcOf [(19, g19o A)]
theorem g8O_sound : OSound Try.prog (g8O realA) := orc_sound fun f g hm args v hv => by
  simp only [List.mem_cons, List.not_mem_nil, or_false, Prod.mk.injEq] at hm
  rcases hm with ⟨rfl, rfl⟩
  · exact g19o_sound _ _ hv
theorem g8O_det : ODet (g8O realA) := orc_det _
def g8an : Ann := [(0, ([0], [])), (1, ([0, 2], [1000])), (2, ([2], [1000])), (3, ([0, 2], [1000])), (4, ([0, 2, 4, 5], [1000])), (5, ([0, 2, 4, 5], [1000])), (6, ([0, 2, 5], [1000])), (7, ([2], [1000])), (8, ([0, 2, 5], [1000])), (9, ([0, 2, 4, 5], [1000])), (10, ([0, 2, 4, 5, 41, 42, 43], [1000, 10004])), (11, ([0, 2, 4, 5, 41, 42, 43], [1000, 10004])), (12, ([0, 2, 4, 5, 7, 41, 42, 43], [1000, 10004])), (13, ([0, 2, 4, 5, 41, 42, 43], [1000, 10004])), (14, ([0, 2, 4, 5], [1000])), (15, ([0, 2, 4, 5, 8], [1000])), (16, ([2], [1000])), (17, ([0, 2, 4, 8], [1000]))]
def g8res : List ResultVar := [.cell 2 24, .tmp 3]
def g8cut : List Nat := [3, 8, 11, 14, 17]
noncomputable def g8N {R : Type} (A : Ar) (kk : AV → Heap → Option R) (t : List Bool → St → Option R) (p : List Bool) (s : St) : Option R := nodeN A gtys (g8O A) g8an g8cut t (bodyOf Try.f8) (finD gtys g8res kk) p s
def g8J11s (x0 : List Nat) (x1 x2 : Int) (x3 : Nat) (x4 x5 x6 : Int) (x7 x8 : List Nat) (x9 : Nat) (x10 : List Nat) : St := ⟨[(0, (tS x0)), (2, (pT 1000 0)), (4, (i6 x1)), (5, (i6 x2)), (41, (sL 10004 none x3 1)), (42, (i6 x4)), (43, (i6 x5))], [(1000, ⟨[.one (.int .i64 x6), .one (.str x7), .one (.str x8)], 24, 1⟩), (10004, ⟨[.nums .u8 x9 x10], 5, 1⟩)]⟩
def g8J11 {R : Type} (A : Ar) (n : Nat) (kk : AV → Heap → Option R) (lg8L10 : List Nat → Int → Int → Nat → Int → Int → Int → List Nat → List Nat → Nat → List Nat → Option R) (x0 : List Nat) (x1 x2 : Int) (x3 : Nat) (x4 x5 x6 : Int) (x7 x8 : List Nat) (x9 : Nat) (x10 : List Nat) : Option R :=
  match A.neg x5 with
  | true => none
  | false => match A.lt (A.toN x5) x3 with
    | true => lg8L10 x0 (A.ib .or .i64 (A.ish .shl .i64 x1 8) (A.ofN (x10.getD (A.toN x5) 0))) x2 x3 x4 (A.ib .add .i64 x5 1) x6 x7 x8 x9 x10
    | false => none
def g8J17s (x0 : List Nat) (x1 : Int) (x2 : List Nat) (x3 : Int) (x4 x5 : List Nat) : St := ⟨[(0, (tS x0)), (2, (pT 1000 0)), (4, (i6 x1)), (8, (tS x2))], [(1000, ⟨[.one (.int .i64 x3), .one (.str x4), .one (.str x5)], 24, 1⟩)]⟩
def g8J17 {R : Type} (A : Ar) (n : Nat) (kk : AV → Heap → Option R)  (x0 : List Nat) (x1 : Int) (x2 : List Nat) (x3 : Int) (x4 x5 : List Nat) : Option R :=
  match Nat.blt 0 x0.length with
  | true => match A.neg x1 with
    | true => none
    | false => match A.le (A.toN x1) x2.length with
      | true => match A.neg x1 with
        | true => none
        | false => match A.le (A.toN x1) x2.length with
          | true => kk (.tup [(.agg [.one (.int .i64 (A.ofN (x0.getD 0 0))), .one (.str ((x2.take (A.toN x1)).drop 0)), .one (.str ((x2.take x2.length).drop (A.toN x1)))]), (.cell (.int .i64 0))]) [(1000, ⟨[.one (.int .i64 (A.ofN (x0.getD 0 0))), .one (.str ((x2.take (A.toN x1)).drop 0)), .one (.str ((x2.take x2.length).drop (A.toN x1)))], 24, 1⟩)]
          | false => none
      | false => none
  | false => none
def g8J14s (x0 : List Nat) (x1 x2 x3 : Int) (x4 x5 : List Nat) : St := ⟨[(0, (tS x0)), (2, (pT 1000 0)), (4, (i6 x1)), (5, (i6 x2))], [(1000, ⟨[.one (.int .i64 x3), .one (.str x4), .one (.str x5)], 24, 1⟩)]⟩
def g8J14 {R : Type} (A : Ar) (n : Nat) (kk : AV → Heap → Option R)  (x0 : List Nat) (x1 x2 x3 : Int) (x4 x5 : List Nat) : Option R :=
  match A.neg (A.ib .add .i64 1 x2) with
  | true => none
  | false => match A.le (A.toN (A.ib .add .i64 1 x2)) x0.length with
    | true => match g19ok A x1 with
      | true => match A.neg (A.ib .add .i64 1 x2) with
        | true => none
        | false => match A.le (A.toN (A.ib .add .i64 1 x2)) x0.length with
          | true => match A.le 1 (A.toN (A.ib .add .i64 1 x2)) with
            | true => match A.sc .neq (g19r0 A x1) ((x0.take (A.toN (A.ib .add .i64 1 x2))).drop 1) with
              | true => kk (.tup [(.agg [.one (.int .i64 0), .one (.str []), .one (.str [])]), (.cell (.int .i64 2))]) [(1000, ⟨[.one (.int .i64 0), .one (.str []), .one (.str [])], 24, 1⟩)]
              | false => match A.ic .lss (A.ofN (((x0.take x0.length).drop (A.toN (A.ib .add .i64 1 x2))).length)) x1 with
                | true => kk (.tup [(.agg [.one (.int .i64 0), .one (.str []), .one (.str [])]), (.cell (.int .i64 2))]) [(1000, ⟨[.one (.int .i64 0), .one (.str []), .one (.str [])], 24, 1⟩)]
                | false => g8J17 A n kk  x0 x1 ((x0.take x0.length).drop (A.toN (A.ib .add .i64 1 x2))) x3 x4 x5
            | false => none
          | false => none
      | false => none
    | false => none
def g8L10s (x0 : List Nat) (x1 x2 : Int) (x3 : Nat) (x4 x5 x6 : Int) (x7 x8 : List Nat) (x9 : Nat) (x10 : List Nat) : St := ⟨[(0, (tS x0)), (2, (pT 1000 0)), (4, (i6 x1)), (5, (i6 x2)), (41, (sL 10004 none x3 1)), (42, (i6 x4)), (43, (i6 x5))], [(1000, ⟨[.one (.int .i64 x6), .one (.str x7), .one (.str x8)], 24, 1⟩), (10004, ⟨[.nums .u8 x9 x10], 5, 1⟩)]⟩
def g8L10 {R : Type} (A : Ar) (n : Nat) (kk : AV → Heap → Option R)  : Nat → List Nat → Int → Int → Nat → Int → Int → Int → List Nat → List Nat → Nat → List Nat → Option R
  | 0, _, _, _, _, _, _, _, _, _, _, _ => none
  | m + 1, x0, x1, x2, x3, x4, x5, x6, x7, x8, x9, x10 => match A.ic .lss x5 x4 with
  | true => g8J11 A n kk (g8L10 A n kk  m) x0 x1 x2 x3 x4 x5 x6 x7 x8 x9 x10
  | false => g8J14 A n kk  x0 x1 x2 x6 x7 x8
def g8J8s (x0 : List Nat) (x1 x2 : Int) (x3 x4 : List Nat) : St := ⟨[(0, (tS x0)), (2, (pT 1000 0)), (5, (i6 x1))], [(1000, ⟨[.one (.int .i64 x2), .one (.str x3), .one (.str x4)], 24, 1⟩)]⟩
def g8J8 {R : Type} (A : Ar) (n : Nat) (kk : AV → Heap → Option R)  (x0 : List Nat) (x1 x2 : Int) (x3 x4 : List Nat) : Option R :=
  match A.neg (A.ib .add .i64 1 x1) with
  | true => none
  | false => match A.le (A.toN (A.ib .add .i64 1 x1)) x0.length with
    | true => match A.le 2 (A.toN (A.ib .add .i64 1 x1)) with
      | true => match A.le (((x0.take (A.toN (A.ib .add .i64 1 x1))).drop 2).length) 9223372036854775807 with
        | true => g8L10 A n kk  n x0 0 x1 (((x0.take (A.toN (A.ib .add .i64 1 x1))).drop 2).length) (A.ofN (((x0.take (A.toN (A.ib .add .i64 1 x1))).drop 2).length)) 0 x2 x3 x4 (((x0.take (A.toN (A.ib .add .i64 1 x1))).drop 2).length) ((x0.take (A.toN (A.ib .add .i64 1 x1))).drop 2)
        | false => none
      | false => none
    | false => none
def g8J3s (x0 : List Nat) (x1 : Int) (x2 x3 : List Nat) : St := ⟨[(0, (tS x0)), (2, (pT 1000 0))], [(1000, ⟨[.one (.int .i64 x1), .one (.str x2), .one (.str x3)], 24, 1⟩)]⟩
def g8J3 {R : Type} (A : Ar) (n : Nat) (kk : AV → Heap → Option R)  (x0 : List Nat) (x1 : Int) (x2 x3 : List Nat) : Option R :=
  match Nat.blt 1 x0.length with
  | true => match A.ic .geq (A.ofN (x0.getD 1 0)) 128 with
    | true => match A.ic .gtr (A.ib .add .i64 1 (A.ib .sub .i64 (A.ofN (x0.getD 1 0)) 128)) 4 with
      | true => kk (.tup [(.agg [.one (.int .i64 0), .one (.str []), .one (.str [])]), (.cell (.int .i64 2))]) [(1000, ⟨[.one (.int .i64 0), .one (.str []), .one (.str [])], 24, 1⟩)]
      | false => match A.ic .leq (A.ofN x0.length) (A.ib .add .i64 1 (A.ib .sub .i64 (A.ofN (x0.getD 1 0)) 128)) with
        | true => kk (.tup [(.agg [.one (.int .i64 0), .one (.str []), .one (.str [])]), (.cell (.int .i64 2))]) [(1000, ⟨[.one (.int .i64 0), .one (.str []), .one (.str [])], 24, 1⟩)]
        | false => g8J8 A n kk  x0 (A.ib .add .i64 1 (A.ib .sub .i64 (A.ofN (x0.getD 1 0)) 128)) x1 x2 x3
    | false => g8J14 A n kk  x0 (A.ofN (x0.getD 1 0)) 1 x1 x2 x3
  | false => none
def g8 {R : Type} (A : Ar) (n : Nat) (kk : AV → Heap → Option R) (a : List Nat) : Option R :=
  match A.ic .lss (A.ofN a.length) 2 with
  | true => kk (.tup [(.agg [.one (.int .i64 0), .one (.str []), .one (.str [])]), (.cell (.int .i64 2))]) [(1000, ⟨[.one (.int .i64 0), .one (.str []), .one (.str [])], 24, 1⟩)]
  | false => match Nat.blt 0 a.length with
    | true => match A.nc .eql (A.nb .and .u8 (a.getD 0 0) 31) 31 with
      | true => kk (.tup [(.agg [.one (.int .i64 0), .one (.str []), .one (.str [])]), (.cell (.int .i64 2))]) [(1000, ⟨[.one (.int .i64 0), .one (.str []), .one (.str [])], 24, 1⟩)]
      | false => g8J3 A n kk  a 0 [] []
    | false => none
section
variable {R : Type} {A : Ar} {n : Nat} {kk : AV → Heap → Option R} {tb : Nat → List Bool → St → Option R} (st : Stp (g8N A kk) tb)
include st
theorem g8J11_go {lg8L10 : List Nat → Int → Int → Nat → Int → Int → Int → List Nat → List Nat → Nat → List Nat → Option R} (hg8L10 : ∀ (x0 : List Nat) (x1 x2 : Int) (x3 : Nat) (x4 x5 x6 : Int) (x7 x8 : List Nat) (x9 : Nat) (x10 : List Nat), Prs (fun k => tb k (pth 7868) (g8L10s x0 x1 x2 x3 x4 x5 x6 x7 x8 x9 x10)) (lg8L10 x0 x1 x2 x3 x4 x5 x6 x7 x8 x9 x10)) {x0 : List Nat} {x1 : Int} {x2 : Int} {x3 : Nat} {x4 : Int} {x5 : Int} {x6 : Int} {x7 : List Nat} {x8 : List Nat} {x9 : Nat} {x10 : List Nat} : Prs (fun k => tb k (pth 31475) (g8J11s x0 x1 x2 x3 x4 x5 x6 x7 x8 x9 x10)) (g8J11 A n kk lg8L10 x0 x1 x2 x3 x4 x5 x6 x7 x8 x9 x10) := by
  unfold g8J11
  exact st.g (pc (SxP14api _ pn (SxP14api _ (hg8L10 _ _ _ _ _ _ _ _ _ _ _) pn)) (by kernel_rfl))
theorem g8J17_go {x0 : List Nat} {x1 : Int} {x2 : List Nat} {x3 : Int} {x4 : List Nat} {x5 : List Nat} : Prs (fun k => tb k (pth 127) (g8J17s x0 x1 x2 x3 x4 x5)) (g8J17 A n kk x0 x1 x2 x3 x4 x5) := by
  unfold g8J17
  exact st.g (pc (SxP14api _ (SxP14api _ pn (SxP14api _ (SxP14api _ pn (SxP14api _ (pf _) pn)) pn)) pn) (by kernel_rfl))
theorem g8J14_go {x0 : List Nat} {x1 : Int} {x2 : Int} {x3 : Int} {x4 : List Nat} {x5 : List Nat} : Prs (fun k => tb k (pth 31) (g8J14s x0 x1 x2 x3 x4 x5)) (g8J14 A n kk x0 x1 x2 x3 x4 x5) := by
  unfold g8J14
  exact st.g (pc (SxP14api _ pn (SxP14api _ (SxP14api _ (SxP14api _ pn (SxP14api _ (SxP14api _ (SxP14api _ (pf _) (SxP14api _ (pf _) (g8J17_go st))) pn) pn)) pn) pn)) (by kernel_rfl))
theorem g8L10_go (m : Nat) : ∀ (x0 : List Nat) (x1 x2 : Int) (x3 : Nat) (x4 x5 x6 : Int) (x7 x8 : List Nat) (x9 : Nat) (x10 : List Nat), Prs (fun k => tb k (pth 7868) (g8L10s x0 x1 x2 x3 x4 x5 x6 x7 x8 x9 x10)) (g8L10 A n kk m x0 x1 x2 x3 x4 x5 x6 x7 x8 x9 x10) := by
  induction m with
  | zero => intro x0 x1 x2 x3 x4 x5 x6 x7 x8 x9 x10; exact pn0
  | succ m ih =>
    intro x0 x1 x2 x3 x4 x5 x6 x7 x8 x9 x10; rw [g8L10]
    exact st.g (pc (SxP14api _ (g8J11_go st ih) (g8J14_go st)) (by kernel_rfl))
theorem g8J8_go {x0 : List Nat} {x1 : Int} {x2 : Int} {x3 : List Nat} {x4 : List Nat} : Prs (fun k => tb k (pth 491) (g8J8s x0 x1 x2 x3 x4)) (g8J8 A n kk x0 x1 x2 x3 x4) := by
  unfold g8J8
  exact st.g (pc (SxP14api _ pn (SxP14api _ (SxP14api _ (SxP14api _ (g8L10_go st n _ _ _ _ _ _ _ _ _ _ _) pn) pn) pn)) (by kernel_rfl))
theorem g8J3_go {x0 : List Nat} {x1 : Int} {x2 : List Nat} {x3 : List Nat} : Prs (fun k => tb k (pth 7) (g8J3s x0 x1 x2 x3)) (g8J3 A n kk x0 x1 x2 x3) := by
  unfold g8J3
  exact st.g (pc (SxP14api _ (SxP14api _ (SxP14api _ (pf _) (SxP14api _ (pf _) (g8J8_go st))) (g8J14_go st)) pn) (by kernel_rfl))
theorem g8_go {a : List Nat} : Prs (fun k => funN A gtys (g8O A) g8an g8cut (bodyOf Try.f8) g8res [(tS a)] [] kk (tb k)) (g8 A n kk a) := by
  unfold g8
  exact pc (SxP14api _ (pf _) (SxP14api _ (SxP14api _ (pf _) (g8J3_go st)) pn)) (by kernel_rfl)
end
def g8is (o : Option AV) : Bool := match o with
  | some (.tup [.agg [.one (.int .i64 _), .one (.str _), .one (.str _)], .cell (.int .i64 _)]) => true
  | _ => false
def g8g0 (o : Option AV) : Int := match o with
  | some (.tup [.agg [.one (.int .i64 x), .one (.str _), .one (.str _)], .cell (.int .i64 _)]) => x
  | _ => 0
def g8g1 (o : Option AV) : List Nat := match o with
  | some (.tup [.agg [.one (.int .i64 _), .one (.str x), .one (.str _)], .cell (.int .i64 _)]) => x
  | _ => []
def g8g2 (o : Option AV) : List Nat := match o with
  | some (.tup [.agg [.one (.int .i64 _), .one (.str _), .one (.str x)], .cell (.int .i64 _)]) => x
  | _ => []
def g8g3 (o : Option AV) : Int := match o with
  | some (.tup [.agg [.one (.int .i64 _), .one (.str _), .one (.str _)], .cell (.int .i64 x)]) => x
  | _ => 0
theorem g8is_spec {o : Option AV} (h : g8is o = true) : o = some (.tup [.agg [.one (.int .i64 (g8g0 o)), .one (.str (g8g1 o)), .one (.str (g8g2 o))], .cell (.int .i64 (g8g3 o))]) := by
  unfold g8is at h
  split at h
  · rfl
  · cases h
def g8v (A : Ar) (a : List Nat) : Option AV := g8 A (100000) (fun v _ => some v) a
def g8ok (A : Ar) (a : List Nat) : Bool := g8is (g8v A a)
def g8r0 (A : Ar) (a : List Nat) : Int := g8g0 (g8v A a)
def g8r1 (A : Ar) (a : List Nat) : List Nat := g8g1 (g8v A a)
def g8r2 (A : Ar) (a : List Nat) : List Nat := g8g2 (g8v A a)
def g8r3 (A : Ar) (a : List Nat) : Int := g8g3 (g8v A a)
theorem g8ok_spec {A : Ar} {a} (h : g8ok A a = true) : g8v A a = some (.tup [.agg [.one (.int .i64 (g8r0 A a)), .one (.str (g8r1 A a)), .one (.str (g8r2 A a))], .cell (.int .i64 (g8r3 A a))]) := g8is_spec h
def g8o (A : Ar) (args : List AV) : Option (Bool × AV) := match args with
  | [.v (.cell (.str a))] => some (g8ok A a, .tup [.agg [.one (.int .i64 (g8r0 A a)), .one (.str (g8r1 A a)), .one (.str (g8r2 A a))], .cell (.int .i64 (g8r3 A a))])
  | _ => none
theorem g8o_sound : ∀ args v, g8o realA args = some (true, v) → Fn1 Try.prog 8 args v := by
  intro args v h
  unfold g8o at h
  split at h
  · rename_i a
    simp only [Option.some.injEq, Prod.mk.injEq] at h
    obtain ⟨hc, h⟩ := h
    subst h
    · skip
      exact fn1_ofG mixed gtysOK g8O_sound g8O_det (an := g8an) (cut := g8cut) Try.func8 (c := bodyOf Try.f8) rfl (by kernel_rfl) Try.call8 (Nat.le_of_ble_eq_true rfl) (fun b => rfl) (fun _ => (show g8v realA a = _ from g8ok_spec hc)) fun _ st => g8_go st
  · cases h
attribute [local irreducible] g8ok g8r0 g8r1 g8r2 g8r3
def g10O (A : Ar) : Orc := orcOf [(19, g19o A)]
theorem g10O_sound : OSound Try.prog (g10O realA) := orc_sound fun f g hm args v hv => by
  simp only [List.mem_cons, List.not_mem_nil, or_false, Prod.mk.injEq] at hm
  rcases hm with ⟨rfl, rfl⟩
  · exact g19o_sound _ _ hv
theorem g10O_det : ODet (g10O realA) := orc_det _
def g10an : Ann := [(0, ([0, 1], [])), (1, ([0, 1], [])), (2, ([], [])), (3, ([0, 1], [])), (4, ([], [])), (5, ([0, 1], []))]
def g10res : List ResultVar := [.tmp 4, .tmp 5]
def g10cut : List Nat := [5]
noncomputable def g10N {R : Type} (A : Ar) (kk : AV → Heap → Option R) (t : List Bool → St → Option R) (p : List Bool) (s : St) : Option R := nodeN A gtys (g10O A) g10an g10cut t (bodyOf Try.f10) (finD gtys g10res kk) p s
def g10J5s (x0 : Int) (x1 : List Nat) : St := ⟨[(0, (i6 x0)), (1, (tS x1))], []⟩
def g10J5 {R : Type} (A : Ar) (n : Nat) (kk : AV → Heap → Option R)  (x0 : Int) (x1 : List Nat) : Option R :=
  match g19ok A (A.ofN x1.length) with
  | true => match A.le (([A.i2n .u8 x0].take 1).length + (g19r0 A (A.ofN x1.length)).length) 9223372036854775807 with
    | true => match A.le ((([A.i2n .u8 x0].take 1) ++ (g19r0 A (A.ofN x1.length))).length + x1.length) 9223372036854775807 with
      | true => kk (.tup [(.cell (.str ((([A.i2n .u8 x0].take 1) ++ (g19r0 A (A.ofN x1.length))) ++ x1))), (.cell (.int .i64 0))]) [(6002, ⟨[.nums .u8 1 [A.i2n .u8 x0]], 5, 2⟩)]
      | false => none
    | false => none
  | false => none
def g10 {R : Type} (A : Ar) (n : Nat) (kk : AV → Heap → Option R) (a : Int) (b : List Nat) : Option R :=
  match A.ic .lss a 0 with
  | true => kk (.tup [(.cell (.str [])), (.cell (.int .i64 1))]) []
  | false => match A.ic .gtr a 255 with
    | true => kk (.tup [(.cell (.str [])), (.cell (.int .i64 1))]) []
    | false => match A.ic .eql (A.ib .and .i64 a 31) 31 with
      | true => kk (.tup [(.cell (.str [])), (.cell (.int .i64 1))]) []
      | false => match A.ic .geq (A.ofN b.length) 16777216 with
        | true => kk (.tup [(.cell (.str [])), (.cell (.int .i64 9))]) []
        | false => g10J5 A n kk  a b
section
variable {R : Type} {A : Ar} {n : Nat} {kk : AV → Heap → Option R} {tb : Nat → List Bool → St → Option R} (st : Stp (g10N A kk) tb)
include st
theorem g10J5_go {x0 : Int} {x1 : List Nat} : Prs (fun k => tb k (pth 7) (g10J5s x0 x1)) (g10J5 A n kk x0 x1) := by
  unfold g10J5
  exact st.g (pc (SxP14api _ (SxP14api _ (SxP14api _ (pf _) pn) pn) pn) (by kernel_rfl))
theorem g10_go {a : Int} {b : List Nat} : Prs (fun k => funN A gtys (g10O A) g10an g10cut (bodyOf Try.f10) g10res [(i6 a), (tS b)] [] kk (tb k)) (g10 A n kk a b) := by
  unfold g10
  exact pc (SxP14api _ (pf _) (SxP14api _ (pf _) (SxP14api _ (pf _) (SxP14api _ (pf _) (g10J5_go st))))) (by kernel_rfl)
end
def g10is (o : Option AV) : Bool := match o with
  | some (.tup [.cell (.str _), .cell (.int .i64 _)]) => true
  | _ => false
def g10g0 (o : Option AV) : List Nat := match o with
  | some (.tup [.cell (.str x), .cell (.int .i64 _)]) => x
  | _ => []
def g10g1 (o : Option AV) : Int := match o with
  | some (.tup [.cell (.str _), .cell (.int .i64 x)]) => x
  | _ => 0
theorem g10is_spec {o : Option AV} (h : g10is o = true) : o = some (.tup [.cell (.str (g10g0 o)), .cell (.int .i64 (g10g1 o))]) := by
  unfold g10is at h
  split at h
  · rfl
  · cases h
def g10v (A : Ar) (a : Int) (b : List Nat) : Option AV := g10 A (100000) (fun v _ => some v) a b
def g10ok (A : Ar) (a : Int) (b : List Nat) : Bool := g10is (g10v A a b)
def g10r0 (A : Ar) (a : Int) (b : List Nat) : List Nat := g10g0 (g10v A a b)
def g10r1 (A : Ar) (a : Int) (b : List Nat) : Int := g10g1 (g10v A a b)
theorem g10ok_spec {A : Ar} {a b} (h : g10ok A a b = true) : g10v A a b = some (.tup [.cell (.str (g10r0 A a b)), .cell (.int .i64 (g10r1 A a b))]) := g10is_spec h
def g10o (A : Ar) (args : List AV) : Option (Bool × AV) := match args with
  | [.v (.cell (.int .i64 a)), .v (.cell (.str b))] => some (g10ok A a b, .tup [.cell (.str (g10r0 A a b)), .cell (.int .i64 (g10r1 A a b))])
  | _ => none
theorem g10o_sound : ∀ args v, g10o realA args = some (true, v) → Fn1 Try.prog 10 args v := by
  intro args v h
  unfold g10o at h
  split at h
  · rename_i a b
    simp only [Option.some.injEq, Prod.mk.injEq] at h
    obtain ⟨hc, h⟩ := h
    subst h
    · skip
      exact fn1_ofG mixed gtysOK g10O_sound g10O_det (an := g10an) (cut := g10cut) Try.func10 (c := bodyOf Try.f10) rfl (by kernel_rfl) Try.call10 (Nat.le_of_ble_eq_true rfl) (fun b => rfl) (fun _ => (show g10v realA a b = _ from g10ok_spec hc)) fun _ st => g10_go st
  · cases h
attribute [local irreducible] g10ok g10r0 g10r1
def g14O (A : Ar) : Orc := orcOf []
theorem g14O_sound : OSound Try.prog (g14O realA) := orc_sound fun f g hm args v hv => by
  cases hm
theorem g14O_det : ODet (g14O realA) := orc_det _
def g14an : Ann := [(0, ([0, 1], [])), (1, ([0, 1], [])), (2, ([0, 1, 5], [])), (3, ([1, 5, 6], [3002])), (4, ([1, 5, 6], [3002])), (5, ([1, 5, 6], [3002])), (6, ([1, 5, 6], [3002])), (7, ([1, 5, 6], [3002])), (8, ([1, 6], [3002]))]
def g14res : List ResultVar := [.tmp 4]
def g14cut : List Nat := [8]
noncomputable def g14N {R : Type} (A : Ar) (kk : AV → Heap → Option R) (t : List Bool → St → Option R) (p : List Bool) (s : St) : Option R := nodeN A gtys (g14O A) g14an g14cut t (bodyOf Try.f14) (finD gtys g14res kk) p s
def g14J8s (x0 : List Nat) (x1 x2 : Nat) (x3 : List Nat) : St := ⟨[(1, (tS x0)), (6, (sL 3002 none x1 1))], [(3002, ⟨[.nums .u8 x2 x3], 5, 2⟩)]⟩
def g14J8 {R : Type} (A : Ar) (n : Nat) (kk : AV → Heap → Option R)  (x0 : List Nat) (x1 x2 : Nat) (x3 : List Nat) : Option R :=
  match A.le ((x3.take x1).length + x0.length) 9223372036854775807 with
  | true => kk (tS ((x3.take x1) ++ x0)) [(3002, ⟨[.nums .u8 x2 x3], 5, 2⟩)]
  | false => none
def g14 {R : Type} (A : Ar) (n : Nat) (kk : AV → Heap → Option R) (a : Int) (b : List Nat) : Option R :=
  match A.ic .geq (A.ofN b.length) 256 with
  | true => match A.eq 1 1 with
    | true => match A.le (([A.i2n .u8 a] ++ ([130, A.i2n .u8 (A.ish .shr .i64 (A.ofN b.length) 8), A.i2n .u8 (A.ofN b.length)].take 3)).length) 140737488355328 with
      | true => g14J8 A n kk  b (([A.i2n .u8 a] ++ ([130, A.i2n .u8 (A.ish .shr .i64 (A.ofN b.length) 8), A.i2n .u8 (A.ofN b.length)].take 3)).length) (([A.i2n .u8 a] ++ ([130, A.i2n .u8 (A.ish .shr .i64 (A.ofN b.length) 8), A.i2n .u8 (A.ofN b.length)].take 3)).length) ([A.i2n .u8 a] ++ ([130, A.i2n .u8 (A.ish .shr .i64 (A.ofN b.length) 8), A.i2n .u8 (A.ofN b.length)].take 3))
      | false => none
    | false => none
  | false => match A.ic .geq (A.ofN b.length) 128 with
    | true => match A.eq 1 1 with
      | true => match A.le (([A.i2n .u8 a] ++ ([129, A.i2n .u8 (A.ofN b.length)].take 2)).length) 140737488355328 with
        | true => g14J8 A n kk  b (([A.i2n .u8 a] ++ ([129, A.i2n .u8 (A.ofN b.length)].take 2)).length) (([A.i2n .u8 a] ++ ([129, A.i2n .u8 (A.ofN b.length)].take 2)).length) ([A.i2n .u8 a] ++ ([129, A.i2n .u8 (A.ofN b.length)].take 2))
        | false => none
      | false => none
    | false => match A.eq 1 1 with
      | true => match A.le (([A.i2n .u8 a] ++ ([A.i2n .u8 (A.ofN b.length)].take 1)).length) 140737488355328 with
        | true => g14J8 A n kk  b (([A.i2n .u8 a] ++ ([A.i2n .u8 (A.ofN b.length)].take 1)).length) (([A.i2n .u8 a] ++ ([A.i2n .u8 (A.ofN b.length)].take 1)).length) ([A.i2n .u8 a] ++ ([A.i2n .u8 (A.ofN b.length)].take 1))
        | false => none
      | false => none
section
variable {R : Type} {A : Ar} {n : Nat} {kk : AV → Heap → Option R} {tb : Nat → List Bool → St → Option R} (st : Stp (g14N A kk) tb)
include st
theorem g14J8_go {x0 : List Nat} {x1 : Nat} {x2 : Nat} {x3 : List Nat} : Prs (fun k => tb k (pth 31) (g14J8s x0 x1 x2 x3)) (g14J8 A n kk x0 x1 x2 x3) := by
  unfold g14J8
  exact st.g (pc (SxP14api _ (pf _) pn) (by kernel_rfl))
theorem g14_go {a : Int} {b : List Nat} : Prs (fun k => funN A gtys (g14O A) g14an g14cut (bodyOf Try.f14) g14res [(i6 a), (tS b)] [] kk (tb k)) (g14 A n kk a b) := by
  unfold g14
  exact pc (SxP14api _ (SxP14api _ (SxP14api _ (g14J8_go st) pn) pn) (SxP14api _ (SxP14api _ (SxP14api _ (g14J8_go st) pn) pn) (SxP14api _ (SxP14api _ (g14J8_go st) pn) pn))) (by kernel_rfl)
end
def g14is (o : Option AV) : Bool := match o with
  | some (.v (.cell (.str _))) => true
  | _ => false
def g14g0 (o : Option AV) : List Nat := match o with
  | some (.v (.cell (.str x))) => x
  | _ => []
theorem g14is_spec {o : Option AV} (h : g14is o = true) : o = some (.v (.cell (.str (g14g0 o)))) := by
  unfold g14is at h
  split at h
  · rfl
  · cases h
def g14v (A : Ar) (a : Int) (b : List Nat) : Option AV := g14 A (100000) (fun v _ => some v) a b
def g14ok (A : Ar) (a : Int) (b : List Nat) : Bool := g14is (g14v A a b)
def g14r0 (A : Ar) (a : Int) (b : List Nat) : List Nat := g14g0 (g14v A a b)
theorem g14ok_spec {A : Ar} {a b} (h : g14ok A a b = true) : g14v A a b = some (.v (.cell (.str (g14r0 A a b)))) := g14is_spec h
def g14o (A : Ar) (args : List AV) : Option (Bool × AV) := match args with
  | [.v (.cell (.int .i64 a)), .v (.cell (.str b))] => some (g14ok A a b, .v (.cell (.str (g14r0 A a b))))
  | _ => none
theorem g14o_sound : ∀ args v, g14o realA args = some (true, v) → Fn1 Try.prog 14 args v := by
  intro args v h
  unfold g14o at h
  split at h
  · rename_i a b
    simp only [Option.some.injEq, Prod.mk.injEq] at h
    obtain ⟨hc, h⟩ := h
    subst h
    · skip
      exact fn1_ofG mixed gtysOK g14O_sound g14O_det (an := g14an) (cut := g14cut) Try.func14 (c := bodyOf Try.f14) rfl (by kernel_rfl) Try.call14 (Nat.le_of_ble_eq_true rfl) (fun b => rfl) (fun _ => (show g14v realA a b = _ from g14ok_spec hc)) fun _ st => g14_go st
  · cases h
attribute [local irreducible] g14ok g14r0
def g16O (A : Ar) : Orc := orcOf []
theorem g16O_sound : OSound Try.prog (g16O realA) := orc_sound fun f g hm args v hv => by
  cases hm
theorem g16O_det : ODet (g16O realA) := orc_det _
def g16an : Ann := [(0, ([0], [])), (1, ([0], []))]
def g16res : List ResultVar := [.tmp 2]
def g16cut : List Nat := []
noncomputable def g16N {R : Type} (A : Ar) (kk : AV → Heap → Option R) (t : List Bool → St → Option R) (p : List Bool) (s : St) : Option R := nodeN A gtys (g16O A) g16an g16cut t (bodyOf Try.f16) (finD gtys g16res kk) p s
def g16 {R : Type} (A : Ar) (n : Nat) (kk : AV → Heap → Option R) (a : List Nat) : Option R :=
  match A.neg (A.mn (A.ofN a.length) 60) with
  | true => none
  | false => match A.le (A.toN (A.mn (A.ofN a.length) 60)) a.length with
    | true => kk (tS ((a.take (A.toN (A.mn (A.ofN a.length) 60))).drop 0)) []
    | false => none
section
variable {R : Type} {A : Ar} {n : Nat} {kk : AV → Heap → Option R} {tb : Nat → List Bool → St → Option R} (st : Stp (g16N A kk) tb)
include st
theorem g16_go {a : List Nat} : Prs (fun k => funN A gtys (g16O A) g16an g16cut (bodyOf Try.f16) g16res [(tS a)] [] kk (tb k)) (g16 A n kk a) := by
  unfold g16
  exact pc (SxP14api _ pn (SxP14api _ (pf _) pn)) (by kernel_rfl)
end
def g16is (o : Option AV) : Bool := match o with
  | some (.v (.cell (.str _))) => true
  | _ => false
def g16g0 (o : Option AV) : List Nat := match o with
  | some (.v (.cell (.str x))) => x
  | _ => []
theorem g16is_spec {o : Option AV} (h : g16is o = true) : o = some (.v (.cell (.str (g16g0 o)))) := by
  unfold g16is at h
  split at h
  · rfl
  · cases h
def g16v (A : Ar) (a : List Nat) : Option AV := g16 A (100000) (fun v _ => some v) a
def g16ok (A : Ar) (a : List Nat) : Bool := g16is (g16v A a)
def g16r0 (A : Ar) (a : List Nat) : List Nat := g16g0 (g16v A a)
theorem g16ok_spec {A : Ar} {a} (h : g16ok A a = true) : g16v A a = some (.v (.cell (.str (g16r0 A a)))) := g16is_spec h
def g16o (A : Ar) (args : List AV) : Option (Bool × AV) := match args with
  | [.v (.cell (.str a))] => some (g16ok A a, .v (.cell (.str (g16r0 A a))))
  | _ => none
theorem g16o_sound : ∀ args v, g16o realA args = some (true, v) → Fn1 Try.prog 16 args v := by
  intro args v h
  unfold g16o at h
  split at h
  · rename_i a
    simp only [Option.some.injEq, Prod.mk.injEq] at h
    obtain ⟨hc, h⟩ := h
    subst h
    · skip
      exact fn1_ofG mixed gtysOK g16O_sound g16O_det (an := g16an) (cut := g16cut) Try.func16 (c := bodyOf Try.f16) rfl (by kernel_rfl) Try.call16 (Nat.le_of_ble_eq_true rfl) (fun b => rfl) (fun _ => (show g16v realA a = _ from g16ok_spec hc)) fun _ st => g16_go st
  · cases h
attribute [local irreducible] g16ok g16r0
def g15O (A : Ar) : Orc := orcOf [(14, g14o A)]
theorem g15O_sound : OSound Try.prog (g15O realA) := orc_sound fun f g hm args v hv => by
  simp only [List.mem_cons, List.not_mem_nil, or_false, Prod.mk.injEq] at hm
  rcases hm with ⟨rfl, rfl⟩
  · exact g14o_sound _ _ hv
theorem g15O_det : ODet (g15O realA) := orc_det _
def g15an : Ann := [(0, ([], [])), (1, ([], []))]
def g15res : List ResultVar := [.tmp 0]
def g15cut : List Nat := []
noncomputable def g15N {R : Type} (A : Ar) (kk : AV → Heap → Option R) (t : List Bool → St → Option R) (p : List Bool) (s : St) : Option R := nodeN A gtys (g15O A) g15an g15cut t (bodyOf Try.f15) (finD gtys g15res kk) p s
def g15 {R : Type} (A : Ar) (n : Nat) (kk : AV → Heap → Option R)  : Option R :=
  match g14ok A 1 [255] with
  | true => match A.le ([6, 10, 43, 6, 1, 4, 1, 214, 121, 2, 4, 3].length + (g14r0 A 1 [255]).length) 9223372036854775807 with
    | true => match g14ok A 4 [5, 0] with
      | true => match A.le (([6, 10, 43, 6, 1, 4, 1, 214, 121, 2, 4, 3] ++ (g14r0 A 1 [255])).length + (g14r0 A 4 [5, 0]).length) 9223372036854775807 with
        | true => match g14ok A 48 (([6, 10, 43, 6, 1, 4, 1, 214, 121, 2, 4, 3] ++ (g14r0 A 1 [255])) ++ (g14r0 A 4 [5, 0])) with
          | true => kk (tS (g14r0 A 48 (([6, 10, 43, 6, 1, 4, 1, 214, 121, 2, 4, 3] ++ (g14r0 A 1 [255])) ++ (g14r0 A 4 [5, 0])))) []
          | false => none
        | false => none
      | false => none
    | false => none
  | false => none
section
variable {R : Type} {A : Ar} {n : Nat} {kk : AV → Heap → Option R} {tb : Nat → List Bool → St → Option R} (st : Stp (g15N A kk) tb)
include st
theorem g15_go  : Prs (fun k => funN A gtys (g15O A) g15an g15cut (bodyOf Try.f15) g15res [] [] kk (tb k)) (g15 A n kk ) := by
  unfold g15
  exact pc (SxP14api _ (SxP14api _ (SxP14api _ (SxP14api _ (SxP14api _ (pf _) pn) pn) pn) pn) pn) (by kernel_rfl)
end
def g15is (o : Option AV) : Bool := match o with
  | some (.v (.cell (.str _))) => true
  | _ => false
def g15g0 (o : Option AV) : List Nat := match o with
  | some (.v (.cell (.str x))) => x
  | _ => []
theorem g15is_spec {o : Option AV} (h : g15is o = true) : o = some (.v (.cell (.str (g15g0 o)))) := by
  unfold g15is at h
  split at h
  · rfl
  · cases h
def g15v (A : Ar)  : Option AV := g15 A (100000) (fun v _ => some v) 
def g15ok (A : Ar)  : Bool := g15is (g15v A )
def g15r0 (A : Ar)  : List Nat := g15g0 (g15v A )
theorem g15ok_spec {A : Ar} (h : g15ok A = true) : g15v A = some (.v (.cell (.str (g15r0 A)))) := g15is_spec h
def g15o (A : Ar) (args : List AV) : Option (Bool × AV) := match args with
  | [] => some (g15ok A , .v (.cell (.str (g15r0 A))))
  | _ => none
theorem g15o_sound : ∀ args v, g15o realA args = some (true, v) → Fn1 Try.prog 15 args v := by
  intro args v h
  unfold g15o at h
  split at h
  · simp only [Option.some.injEq, Prod.mk.injEq] at h
    obtain ⟨hc, h⟩ := h
    subst h
    · skip
      exact fn1_ofG mixed gtysOK g15O_sound g15O_det (an := g15an) (cut := g15cut) Try.func15 (c := bodyOf Try.f15) rfl (by kernel_rfl) Try.call15 (Nat.le_of_ble_eq_true rfl) (fun b => rfl) (fun _ => (show g15v realA  = _ from g15ok_spec hc)) fun _ st => g15_go st
  · cases h
attribute [local irreducible] g15ok g15r0
def g22O (A : Ar) : Orc := orcOf [(10, g10o A)]
theorem g22O_sound : OSound Try.prog (g22O realA) := orc_sound fun f g hm args v hv => by
  simp only [List.mem_cons, List.not_mem_nil, or_false, Prod.mk.injEq] at hm
  rcases hm with ⟨rfl, rfl⟩
  · exact g10o_sound _ _ hv
theorem g22O_det : ODet (g22O realA) := orc_det _
def g22an : Ann := [(0, ([0, 1], [])), (1, ([0, 1], [])), (2, ([5], []))]
def g22res : List ResultVar := [.tmp 4]
def g22cut : List Nat := []
noncomputable def g22N {R : Type} (A : Ar) (kk : AV → Heap → Option R) (t : List Bool → St → Option R) (p : List Bool) (s : St) : Option R := nodeN A gtys (g22O A) g22an g22cut t (bodyOf Try.f22) (finD gtys g22res kk) p s
def g22 {R : Type} (A : Ar) (n : Nat) (kk : AV → Heap → Option R) (a : Int) (b : List Nat) : Option R :=
  match g10ok A a b with
  | true => kk (tS (g10r0 A a b)) []
  | false => none
section
variable {R : Type} {A : Ar} {n : Nat} {kk : AV → Heap → Option R} {tb : Nat → List Bool → St → Option R} (st : Stp (g22N A kk) tb)
include st
theorem g22_go {a : Int} {b : List Nat} : Prs (fun k => funN A gtys (g22O A) g22an g22cut (bodyOf Try.f22) g22res [(i6 a), (tS b)] [] kk (tb k)) (g22 A n kk a b) := by
  unfold g22
  exact pc (SxP14api _ (pf _) pn) (by kernel_rfl)
end
def g22is (o : Option AV) : Bool := match o with
  | some (.v (.cell (.str _))) => true
  | _ => false
def g22g0 (o : Option AV) : List Nat := match o with
  | some (.v (.cell (.str x))) => x
  | _ => []
theorem g22is_spec {o : Option AV} (h : g22is o = true) : o = some (.v (.cell (.str (g22g0 o)))) := by
  unfold g22is at h
  split at h
  · rfl
  · cases h
def g22v (A : Ar) (a : Int) (b : List Nat) : Option AV := g22 A (100000) (fun v _ => some v) a b
def g22ok (A : Ar) (a : Int) (b : List Nat) : Bool := g22is (g22v A a b)
def g22r0 (A : Ar) (a : Int) (b : List Nat) : List Nat := g22g0 (g22v A a b)
theorem g22ok_spec {A : Ar} {a b} (h : g22ok A a b = true) : g22v A a b = some (.v (.cell (.str (g22r0 A a b)))) := g22is_spec h
def g22o (A : Ar) (args : List AV) : Option (Bool × AV) := match args with
  | [.v (.cell (.int .i64 a)), .v (.cell (.str b))] => some (g22ok A a b, .v (.cell (.str (g22r0 A a b))))
  | _ => none
theorem g22o_sound : ∀ args v, g22o realA args = some (true, v) → Fn1 Try.prog 22 args v := by
  intro args v h
  unfold g22o at h
  split at h
  · rename_i a b
    simp only [Option.some.injEq, Prod.mk.injEq] at h
    obtain ⟨hc, h⟩ := h
    subst h
    · skip
      exact fn1_ofG mixed gtysOK g22O_sound g22O_det (an := g22an) (cut := g22cut) Try.func22 (c := bodyOf Try.f22) rfl (by kernel_rfl) Try.call22 (Nat.le_of_ble_eq_true rfl) (fun b => rfl) (fun _ => (show g22v realA a b = _ from g22ok_spec hc)) fun _ st => g22_go st
  · cases h
attribute [local irreducible] g22ok g22r0
def g27O (A : Ar) : Orc := orcOf []
theorem g27O_sound : OSound Try.prog (g27O realA) := orc_sound fun f g hm args v hv => by
  cases hm
theorem g27O_det : ODet (g27O realA) := orc_det _
def g27an : Ann := [(0, ([0, 1], [])), (1, ([0, 1], []))]
def g27res : List ResultVar := [.tmp 4]
def g27cut : List Nat := []
noncomputable def g27N {R : Type} (A : Ar) (kk : AV → Heap → Option R) (t : List Bool → St → Option R) (p : List Bool) (s : St) : Option R := nodeN A gtys (g27O A) g27an g27cut t (bodyOf Try.f27) (finD gtys g27res kk) p s
def g27 {R : Type} (A : Ar) (n : Nat) (kk : AV → Heap → Option R) (a b : List Nat) : Option R :=
  match A.ic .geq (A.ofN a.length) (A.ofN b.length) with
  | true => match A.neg (A.ofN b.length) with
    | true => none
    | false => match A.le (A.toN (A.ofN b.length)) a.length with
      | true => kk (bO (A.sc .eql ((a.take (A.toN (A.ofN b.length))).drop 0) b)) []
      | false => none
  | false => kk (bO false) []
section
variable {R : Type} {A : Ar} {n : Nat} {kk : AV → Heap → Option R} {tb : Nat → List Bool → St → Option R} (st : Stp (g27N A kk) tb)
include st
theorem g27_go {a : List Nat} {b : List Nat} : Prs (fun k => funN A gtys (g27O A) g27an g27cut (bodyOf Try.f27) g27res [(tS a), (tS b)] [] kk (tb k)) (g27 A n kk a b) := by
  unfold g27
  exact pc (SxP14api _ (SxP14api _ pn (SxP14api _ (pf _) pn)) (pf _)) (by kernel_rfl)
end
def g27is (o : Option AV) : Bool := match o with
  | some (.v (.cell (.bool _))) => true
  | _ => false
def g27g0 (o : Option AV) : Bool := match o with
  | some (.v (.cell (.bool x))) => x
  | _ => false
theorem g27is_spec {o : Option AV} (h : g27is o = true) : o = some (.v (.cell (.bool (g27g0 o)))) := by
  unfold g27is at h
  split at h
  · rfl
  · cases h
def g27v (A : Ar) (a b : List Nat) : Option AV := g27 A (100000) (fun v _ => some v) a b
def g27ok (A : Ar) (a b : List Nat) : Bool := g27is (g27v A a b)
def g27r0 (A : Ar) (a b : List Nat) : Bool := g27g0 (g27v A a b)
theorem g27ok_spec {A : Ar} {a b} (h : g27ok A a b = true) : g27v A a b = some (.v (.cell (.bool (g27r0 A a b)))) := g27is_spec h
def g27o (A : Ar) (args : List AV) : Option (Bool × AV) := match args with
  | [.v (.cell (.str a)), .v (.cell (.str b))] => some (g27ok A a b, .v (.cell (.bool (g27r0 A a b))))
  | _ => none
theorem g27o_sound : ∀ args v, g27o realA args = some (true, v) → Fn1 Try.prog 27 args v := by
  intro args v h
  unfold g27o at h
  split at h
  · rename_i a b
    simp only [Option.some.injEq, Prod.mk.injEq] at h
    obtain ⟨hc, h⟩ := h
    subst h
    · skip
      exact fn1_ofG mixed gtysOK g27O_sound g27O_det (an := g27an) (cut := g27cut) Try.func27 (c := bodyOf Try.f27) rfl (by kernel_rfl) Try.call27 (Nat.le_of_ble_eq_true rfl) (fun b => rfl) (fun _ => (show g27v realA a b = _ from g27ok_spec hc)) fun _ st => g27_go st
  · cases h
attribute [local irreducible] g27ok g27r0
def g26O (A : Ar) : Orc := orcOf [(27, g27o A)]
theorem g26O_sound : OSound Try.prog (g26O realA) := orc_sound fun f g hm args v hv => by
  simp only [List.mem_cons, List.not_mem_nil, or_false, Prod.mk.injEq] at hm
  rcases hm with ⟨rfl, rfl⟩
  · exact g27o_sound _ _ hv
theorem g26O_det : ODet (g26O realA) := orc_det _
def g26an : Ann := [(0, ([0, 1], [])), (1, ([0, 1], []))]
def g26res : List ResultVar := [.tmp 4]
def g26cut : List Nat := []
noncomputable def g26N {R : Type} (A : Ar) (kk : AV → Heap → Option R) (t : List Bool → St → Option R) (p : List Bool) (s : St) : Option R := nodeN A gtys (g26O A) g26an g26cut t (bodyOf Try.f26) (finD gtys g26res kk) p s
def g26 {R : Type} (A : Ar) (n : Nat) (kk : AV → Heap → Option R) (a b : List Nat) : Option R :=
  match g27ok A a b with
  | true => kk (bO (g27r0 A a b)) []
  | false => none
section
variable {R : Type} {A : Ar} {n : Nat} {kk : AV → Heap → Option R} {tb : Nat → List Bool → St → Option R} (st : Stp (g26N A kk) tb)
include st
theorem g26_go {a : List Nat} {b : List Nat} : Prs (fun k => funN A gtys (g26O A) g26an g26cut (bodyOf Try.f26) g26res [(tS a), (tS b)] [] kk (tb k)) (g26 A n kk a b) := by
  unfold g26
  exact pc (SxP14api _ (pf _) pn) (by kernel_rfl)
end
def g26is (o : Option AV) : Bool := match o with
  | some (.v (.cell (.bool _))) => true
  | _ => false
def g26g0 (o : Option AV) : Bool := match o with
  | some (.v (.cell (.bool x))) => x
  | _ => false
theorem g26is_spec {o : Option AV} (h : g26is o = true) : o = some (.v (.cell (.bool (g26g0 o)))) := by
  unfold g26is at h
  split at h
  · rfl
  · cases h
def g26v (A : Ar) (a b : List Nat) : Option AV := g26 A (100000) (fun v _ => some v) a b
def g26ok (A : Ar) (a b : List Nat) : Bool := g26is (g26v A a b)
def g26r0 (A : Ar) (a b : List Nat) : Bool := g26g0 (g26v A a b)
theorem g26ok_spec {A : Ar} {a b} (h : g26ok A a b = true) : g26v A a b = some (.v (.cell (.bool (g26r0 A a b)))) := g26is_spec h
def g26o (A : Ar) (args : List AV) : Option (Bool × AV) := match args with
  | [.v (.cell (.str a)), .v (.cell (.str b))] => some (g26ok A a b, .v (.cell (.bool (g26r0 A a b))))
  | _ => none
theorem g26o_sound : ∀ args v, g26o realA args = some (true, v) → Fn1 Try.prog 26 args v := by
  intro args v h
  unfold g26o at h
  split at h
  · rename_i a b
    simp only [Option.some.injEq, Prod.mk.injEq] at h
    obtain ⟨hc, h⟩ := h
    subst h
    · skip
      exact fn1_ofG mixed gtysOK g26O_sound g26O_det (an := g26an) (cut := g26cut) Try.func26 (c := bodyOf Try.f26) rfl (by kernel_rfl) Try.call26 (Nat.le_of_ble_eq_true rfl) (fun b => rfl) (fun _ => (show g26v realA a b = _ from g26ok_spec hc)) fun _ st => g26_go st
  · cases h
attribute [local irreducible] g26ok g26r0
def g20O (A : Ar) : Orc := orcOf []
theorem g20O_sound : OSound Try.prog (g20O realA) := orc_sound fun f g hm args v hv => by
  cases hm
theorem g20O_det : ODet (g20O realA) := orc_det _
def g20an : Ann := [(0, ([0], [])), (1, ([1], [1000]))]
def g20res : List ResultVar := [.tmp 2]
def g20cut : List Nat := []
noncomputable def g20N {R : Type} (A : Ar) (kk : AV → Heap → Option R) (t : List Bool → St → Option R) (p : List Bool) (s : St) : Option R := nodeN A gtys (g20O A) g20an g20cut t (bodyOf Try.f20) (finD gtys g20res kk) p s
def g20 {R : Type} (A : Ar) (n : Nat) (kk : AV → Heap → Option R) (x0 : List Nat) : Option R :=
  kk (.fn 24 [] [(.cell (.ptr 1000 0 none))]) [(1000, ⟨[.one (.str x0)], 9, 1⟩)]
section
variable {R : Type} {A : Ar} {n : Nat} {kk : AV → Heap → Option R} {tb : Nat → List Bool → St → Option R} (st : Stp (g20N A kk) tb)
include st
theorem g20_go {x0 : List Nat} : Prs (fun k => funN A gtys (g20O A) g20an g20cut (bodyOf Try.f20) g20res [(tS x0)] [] kk (tb k)) (g20 A n kk x0) := by
  unfold g20
  exact pc (pf _) (by kernel_rfl)
end
def g20is (o : Option (AV × Heap)) : Bool := match o with
  | some (.fn n0 [] [(.cell (.ptr n1 n2 none))], [(n3, ⟨[.one (.str _)], n4, n5⟩)]) => Nat.beq n0 24 && (Nat.beq n1 700 && (Nat.beq n2 0 && (Nat.beq n3 700 && (Nat.beq n4 9 && (Nat.beq n5 1)))))
  | _ => false
def g20g0 (o : Option (AV × Heap)) : List Nat := match o with
  | some (.fn _ [] [(.cell (.ptr _ _ none))], [(_, ⟨[.one (.str x)], _, _⟩)]) => x
  | _ => []
theorem g20is_spec {o : Option (AV × Heap)} (h : g20is o = true) : o = some ((.fn 24 [] [(.cell (.ptr 700 0 none))]), [(700, ⟨[.one (.str (g20g0 o))], 9, 1⟩)]) := by
  unfold g20is at h
  split at h
  · rename_i n0 n1 n2 n3 z4 n4 n5
    simp only [Bool.and_eq_true] at h
    have en0 := beq_true h.1
    subst en0
    replace h := h.2
    have en1 := beq_true h.1
    subst en1
    replace h := h.2
    have en2 := beq_true h.1
    subst en2
    replace h := h.2
    have en3 := beq_true h.1
    subst en3
    replace h := h.2
    have en4 := beq_true h.1
    subst en4
    replace h := h.2
    have en5 := beq_true h
    subst en5
    rfl
  · cases h
def g20v (A : Ar) (x0 : List Nat) : Option (AV × Heap) := g20 A (100000) (outH [] none) x0
def g20ok (A : Ar) (x0 : List Nat) : Bool := g20is (g20v A x0)
def g20r0 (A : Ar) (x0 : List Nat) : List Nat := g20g0 (g20v A x0)
theorem g20ok_spec {A : Ar} {x0} (h : g20ok A x0 = true) : g20v A x0 = some ((.fn 24 [] [(.cell (.ptr 700 0 none))]), [(700, ⟨[.one (.str (g20r0 A x0))], 9, 1⟩)]) := g20is_spec h
def g20o (A : Ar) (args : List AV) (h : Heap) : Option (Bool × AV × Heap) := match args, h with
  | [.v (.cell (.str x0))], [] => some (g20ok A x0, (.fn 24 [] [(.cell (.ptr 700 0 none))]), [(700, ⟨[.one (.str (g20r0 A x0))], 9, 1⟩)])
  | _, _ => none
theorem g20o_sound : ∀ args h v h', g20o realA args h = some (true, v, h') → FnH Try.prog 20 args h v h' := by
  intro args h v h' hh
  unfold g20o at hh
  split at hh
  · rename_i x0
    simp only [Option.some.injEq, Prod.mk.injEq] at hh
    obtain ⟨hc, hv, hh⟩ := hh
    subst hv
    subst hh
    exact fnh_ofG mixed gtysOK g20O_sound g20O_det (an := g20an) (cut := g20cut) Try.func20 (c := bodyOf Try.f20) rfl (by kernel_rfl) Try.call20 (Nat.le_of_ble_eq_true rfl) (pins := []) (nilr := none) (fun _ => (show g20v realA x0 = _ from g20ok_spec hc)) fun _ st => g20_go st
  · cases hh
attribute [local irreducible] g20ok g20r0
noncomputable abbrev g12C3 : Code := .seq (rfAs (rfOf 0 (bodyOf Try.f12))) (rfBd (rfOf 0 (bodyOf Try.f12)))
def g12b3O (A : Ar) : Orc := orcOf []
theorem g12b3O_sound : OSound Try.prog (g12b3O realA) := orc_sound fun f g hm args v hv => by
  cases hm
theorem g12b3O_det : ODet (g12b3O realA) := orc_det _
def g12b3an : Ann := [(3, ([2, 3, 4, 9, 10], [410, 411, 412])), (4, ([2, 3, 4, 5, 10], [410, 411, 412, 4000])), (5, ([2, 3, 4, 5, 6], [410, 411, 412, 4000])), (6, ([2, 3, 6], [410, 411, 412])), (7, ([2, 3, 4, 5], [410, 411, 412, 4000])), (8, ([2, 3], [410, 411, 412])), (9, ([4, 5], [410, 411, 412, 4000])), (3000003, ([1000, 1001, 2000, 3001], [410, 411, 412, 413]))]
def g12b3cut : List Nat := [7, 9]
noncomputable def g12b3N {R : Type} (A : Ar) (kk : Ex → Heap → Option R) (t : List Bool → St → Option R) (p : List Bool) (s : St) : Option R := nodeN A gtys (g12b3O A) g12b3an g12b3cut t g12C3 (bdP [410, 411, 412, 10003] kk) p s
def g12b3J9s (x0 x1 : Int) (x2 x3 : List Nat) : St := ⟨[(4, (pT 412 0)), (5, (pT 4000 0))], [(410, ⟨[.one .nils], 35, 1⟩), (411, ⟨[.one (.int .i64 x0)], 25, 1⟩), (412, ⟨[.one .nils], 35, 1⟩), (4000, ⟨[.one (.int .i64 x1), .one (.str x2), .one (.str x3)], 24, 1⟩)]⟩
def g12b3J9 {R : Type} (A : Ar) (n : Nat) (kk : Ex → Heap → Option R)  (x0 x1 : Int) (x2 x3 : List Nat) : Option R :=
  match A.eq 0 0 with
  | true => match A.le 40 140737488355328 with
    | true => kk .normal [(410, ⟨[.one .nils], 35, 1⟩), (411, ⟨[.one (.int .i64 x0)], 25, 1⟩), (412, ⟨[.one (.sl 10003 none 1 3)], 35, 1⟩), (10003, ⟨[.recs 1 [.ints .i64 ([] ++ [x1]), .strs ([] ++ [x2]), .strs ([] ++ [x3])]], 24, 2⟩)]
    | false => none
  | false => none
def g12b3J7s (x0 x1 : Int) (x2 x3 : List Nat) : St := ⟨[(2, (pT 410 0)), (3, (pT 411 0)), (4, (pT 412 0)), (5, (pT 4000 0))], [(410, ⟨[.one .nils], 35, 1⟩), (411, ⟨[.one (.int .i64 x0)], 25, 1⟩), (412, ⟨[.one .nils], 35, 1⟩), (4000, ⟨[.one (.int .i64 x1), .one (.str x2), .one (.str x3)], 24, 1⟩)]⟩
def g12b3J7 {R : Type} (A : Ar) (n : Nat) (kk : Ex → Heap → Option R)  (x0 x1 : Int) (x2 x3 : List Nat) : Option R :=
  match A.ic .eql (A.ofN 0) 100 with
  | true => kk .ret [(410, ⟨[.one .nils], 35, 1⟩), (411, ⟨[.one (.int .i64 9)], 25, 1⟩), (412, ⟨[.one .nils], 35, 1⟩)]
  | false => g12b3J9 A n kk  x0 x1 x2 x3
def g12b3 {R : Type} (A : Ar) (n : Nat) (kk : Ex → Heap → Option R) (x0 : Int) (x1 x2 : List Nat) (x3 x4 : Int) : Option R :=
  match A.ic .neq x3 0 with
  | true => kk .ret [(410, ⟨[.one .nils], 35, 1⟩), (411, ⟨[.one (.int .i64 x3)], 25, 1⟩), (412, ⟨[.one .nils], 35, 1⟩)]
  | false => g12b3J7 A n kk  x4 x0 x1 x2
section
variable {R : Type} {A : Ar} {n : Nat} {kk : Ex → Heap → Option R} {tb : Nat → List Bool → St → Option R} (st : Stp (g12b3N A kk) tb)
include st
theorem g12b3J9_go {x0 : Int} {x1 : Int} {x2 : List Nat} {x3 : List Nat} : Prs (fun k => tb k (pth 27) (g12b3J9s x0 x1 x2 x3)) (g12b3J9 A n kk x0 x1 x2 x3) := by
  unfold g12b3J9
  exact st.g (pc (SxP14api _ (SxP14api _ (pf _) pn) pn) (by kernel_rfl))
theorem g12b3J7_go {x0 : Int} {x1 : Int} {x2 : List Nat} {x3 : List Nat} : Prs (fun k => tb k (pth 13) (g12b3J7s x0 x1 x2 x3)) (g12b3J7 A n kk x0 x1 x2 x3) := by
  unfold g12b3J7
  exact st.g (pc (SxP14api _ (pf _) (g12b3J9_go st)) (by kernel_rfl))
theorem g12b3_go {x0 : Int} {x1 : List Nat} {x2 : List Nat} {x3 : Int} {x4 : Int} : Prs (fun k => codeN A gtys (g12b3O A) g12b3an g12b3cut (tb k) [] g12C3 (bdP [410, 411, 412, 10003] kk) ⟨zipS [9, 10] [(.v (.agg [.one (.int .i64 x0), .one (.str x1), .one (.str x2)])), (i6 x3)] ++ [(2, (pT 410 0)), (3, (pT 411 0)), (4, (pT 412 0)), (8, (.fn 24 [] [(.cell (.ptr 413 0 none))]))], [(410, ⟨[.one .nils], 35, 1⟩), (411, ⟨[.one (.int .i64 x4)], 25, 1⟩), (412, ⟨[.one .nils], 35, 1⟩)]⟩ ) (g12b3 A n kk x0 x1 x2 x3 x4) := by
  unfold g12b3
  exact pc (SxP14api _ (pf _) (g12b3J7_go st)) (by kernel_rfl)
end
def g12b3v (A : Ar) (x0 : Int) (x1 x2 : List Nat) (x3 x4 : Int) : Option (Ex × Heap) := g12b3 A (100000) (fun ex h => some (ex, h)) x0 x1 x2 x3 x4
def g12b3is0 (o : Option (Ex × Heap)) : Bool := match o with
  | some (.normal, [(n0, ⟨[.one .nils], n1, n2⟩), (n3, ⟨[.one (.int .i64 _)], n4, n5⟩), (n6, ⟨[.one (.sl n7 none _ n8)], n9, n10⟩), (n11, ⟨[.recs _ [.ints .i64 _, .strs _, .strs _]], n12, n13⟩)]) => Nat.beq n0 410 && (Nat.beq n1 35 && (Nat.beq n2 1 && (Nat.beq n3 411 && (Nat.beq n4 25 && (Nat.beq n5 1 && (Nat.beq n6 412 && (Nat.beq n7 10003 && (Nat.beq n8 3 && (Nat.beq n9 35 && (Nat.beq n10 1 && (Nat.beq n11 10003 && (Nat.beq n12 24 && (Nat.beq n13 2)))))))))))))
  | _ => false
def g12b3g0_0 (o : Option (Ex × Heap)) : Int := match o with
  | some (.normal, [(_, ⟨[.one .nils], _, _⟩), (_, ⟨[.one (.int .i64 x)], _, _⟩), (_, ⟨[.one (.sl _ none _ _)], _, _⟩), (_, ⟨[.recs _ [.ints .i64 _, .strs _, .strs _]], _, _⟩)]) => x
  | _ => 0
def g12b3g0_1 (o : Option (Ex × Heap)) : Nat := match o with
  | some (.normal, [(_, ⟨[.one .nils], _, _⟩), (_, ⟨[.one (.int .i64 _)], _, _⟩), (_, ⟨[.one (.sl _ none x _)], _, _⟩), (_, ⟨[.recs _ [.ints .i64 _, .strs _, .strs _]], _, _⟩)]) => x
  | _ => 0
def g12b3g0_2 (o : Option (Ex × Heap)) : Nat := match o with
  | some (.normal, [(_, ⟨[.one .nils], _, _⟩), (_, ⟨[.one (.int .i64 _)], _, _⟩), (_, ⟨[.one (.sl _ none _ _)], _, _⟩), (_, ⟨[.recs x [.ints .i64 _, .strs _, .strs _]], _, _⟩)]) => x
  | _ => 0
def g12b3g0_3 (o : Option (Ex × Heap)) : List Int := match o with
  | some (.normal, [(_, ⟨[.one .nils], _, _⟩), (_, ⟨[.one (.int .i64 _)], _, _⟩), (_, ⟨[.one (.sl _ none _ _)], _, _⟩), (_, ⟨[.recs _ [.ints .i64 x, .strs _, .strs _]], _, _⟩)]) => x
  | _ => []
def g12b3g0_4 (o : Option (Ex × Heap)) : List (List Nat) := match o with
  | some (.normal, [(_, ⟨[.one .nils], _, _⟩), (_, ⟨[.one (.int .i64 _)], _, _⟩), (_, ⟨[.one (.sl _ none _ _)], _, _⟩), (_, ⟨[.recs _ [.ints .i64 _, .strs x, .strs _]], _, _⟩)]) => x
  | _ => []
def g12b3g0_5 (o : Option (Ex × Heap)) : List (List Nat) := match o with
  | some (.normal, [(_, ⟨[.one .nils], _, _⟩), (_, ⟨[.one (.int .i64 _)], _, _⟩), (_, ⟨[.one (.sl _ none _ _)], _, _⟩), (_, ⟨[.recs _ [.ints .i64 _, .strs _, .strs x]], _, _⟩)]) => x
  | _ => []
theorem g12b3is0_spec {o : Option (Ex × Heap)} (h : g12b3is0 o = true) : o = some (.normal, [(410, ⟨[.one .nils], 35, 1⟩), (411, ⟨[.one (.int .i64 (g12b3g0_0 o))], 25, 1⟩), (412, ⟨[.one (.sl 10003 none (g12b3g0_1 o) 3)], 35, 1⟩), (10003, ⟨[.recs (g12b3g0_2 o) [.ints .i64 (g12b3g0_3 o), .strs (g12b3g0_4 o), .strs (g12b3g0_5 o)]], 24, 2⟩)]) := by
  unfold g12b3is0 at h
  split at h
  · rename_i n0 n1 n2 n3 z4 n4 n5 n6 n7 z9 n8 n9 n10 n11 z14 z15 z16 z17 n12 n13
    simp only [Bool.and_eq_true] at h
    have en0 := beq_true h.1
    subst en0
    replace h := h.2
    have en1 := beq_true h.1
    subst en1
    replace h := h.2
    have en2 := beq_true h.1
    subst en2
    replace h := h.2
    have en3 := beq_true h.1
    subst en3
    replace h := h.2
    have en4 := beq_true h.1
    subst en4
    replace h := h.2
    have en5 := beq_true h.1
    subst en5
    replace h := h.2
    have en6 := beq_true h.1
    subst en6
    replace h := h.2
    have en7 := beq_true h.1
    subst en7
    replace h := h.2
    have en8 := beq_true h.1
    subst en8
    replace h := h.2
    have en9 := beq_true h.1
    subst en9
    replace h := h.2
    have en10 := beq_true h.1
    subst en10
    replace h := h.2
    have en11 := beq_true h.1
    subst en11
    replace h := h.2
    have en12 := beq_true h.1
    subst en12
    replace h := h.2
    have en13 := beq_true h
    subst en13
    rfl
  · cases h
def g12b3c0 (A : Ar) (x0 : Int) (x1 x2 : List Nat) (x3 x4 : Int) : Bool := g12b3is0 (g12b3v A x0 x1 x2 x3 x4)
def g12b3r0_0 (A : Ar) (x0 : Int) (x1 x2 : List Nat) (x3 x4 : Int) : Int := g12b3g0_0 (g12b3v A x0 x1 x2 x3 x4)
def g12b3r0_1 (A : Ar) (x0 : Int) (x1 x2 : List Nat) (x3 x4 : Int) : Nat := g12b3g0_1 (g12b3v A x0 x1 x2 x3 x4)
def g12b3r0_2 (A : Ar) (x0 : Int) (x1 x2 : List Nat) (x3 x4 : Int) : Nat := g12b3g0_2 (g12b3v A x0 x1 x2 x3 x4)
def g12b3r0_3 (A : Ar) (x0 : Int) (x1 x2 : List Nat) (x3 x4 : Int) : List Int := g12b3g0_3 (g12b3v A x0 x1 x2 x3 x4)
def g12b3r0_4 (A : Ar) (x0 : Int) (x1 x2 : List Nat) (x3 x4 : Int) : List (List Nat) := g12b3g0_4 (g12b3v A x0 x1 x2 x3 x4)
def g12b3r0_5 (A : Ar) (x0 : Int) (x1 x2 : List Nat) (x3 x4 : Int) : List (List Nat) := g12b3g0_5 (g12b3v A x0 x1 x2 x3 x4)
def g12b3is1 (o : Option (Ex × Heap)) : Bool := match o with
  | some (.ret, [(n0, ⟨[.one .nils], n1, n2⟩), (n3, ⟨[.one (.int .i64 _)], n4, n5⟩), (n6, ⟨[.one .nils], n7, n8⟩)]) => Nat.beq n0 410 && (Nat.beq n1 35 && (Nat.beq n2 1 && (Nat.beq n3 411 && (Nat.beq n4 25 && (Nat.beq n5 1 && (Nat.beq n6 412 && (Nat.beq n7 35 && (Nat.beq n8 1))))))))
  | _ => false
def g12b3g1_0 (o : Option (Ex × Heap)) : Int := match o with
  | some (.ret, [(_, ⟨[.one .nils], _, _⟩), (_, ⟨[.one (.int .i64 x)], _, _⟩), (_, ⟨[.one .nils], _, _⟩)]) => x
  | _ => 0
theorem g12b3is1_spec {o : Option (Ex × Heap)} (h : g12b3is1 o = true) : o = some (.ret, [(410, ⟨[.one .nils], 35, 1⟩), (411, ⟨[.one (.int .i64 (g12b3g1_0 o))], 25, 1⟩), (412, ⟨[.one .nils], 35, 1⟩)]) := by
  unfold g12b3is1 at h
  split at h
  · rename_i n0 n1 n2 n3 z4 n4 n5 n6 n7 n8
    simp only [Bool.and_eq_true] at h
    have en0 := beq_true h.1
    subst en0
    replace h := h.2
    have en1 := beq_true h.1
    subst en1
    replace h := h.2
    have en2 := beq_true h.1
    subst en2
    replace h := h.2
    have en3 := beq_true h.1
    subst en3
    replace h := h.2
    have en4 := beq_true h.1
    subst en4
    replace h := h.2
    have en5 := beq_true h.1
    subst en5
    replace h := h.2
    have en6 := beq_true h.1
    subst en6
    replace h := h.2
    have en7 := beq_true h.1
    subst en7
    replace h := h.2
    have en8 := beq_true h
    subst en8
    rfl
  · cases h
def g12b3c1 (A : Ar) (x0 : Int) (x1 x2 : List Nat) (x3 x4 : Int) : Bool := g12b3is1 (g12b3v A x0 x1 x2 x3 x4)
def g12b3r1_0 (A : Ar) (x0 : Int) (x1 x2 : List Nat) (x3 x4 : Int) : Int := g12b3g1_0 (g12b3v A x0 x1 x2 x3 x4)
def g12b3G (A : Ar) (sl : Slots) (vs : List AV) (h : Heap) : Option (GL (Ex × Heap)) := match sl, vs, h with
  | [(n0, .v (.cell (.ptr n1 n2 none))), (n3, .v (.cell (.ptr n4 n5 none))), (n6, .v (.cell (.ptr n7 n8 none))), (n9, .fn n10 [] [(.cell (.ptr n11 n12 none))])], [.v (.agg [.one (.int .i64 x0), .one (.str x1), .one (.str x2)]), .v (.cell (.int .i64 x3))], [(n13, ⟨[.one .nils], n14, n15⟩), (n16, ⟨[.one (.int .i64 x4)], n17, n18⟩), (n19, ⟨[.one .nils], n20, n21⟩)] => match Nat.beq n0 2 && (Nat.beq n1 410 && (Nat.beq n2 0 && (Nat.beq n3 3 && (Nat.beq n4 411 && (Nat.beq n5 0 && (Nat.beq n6 4 && (Nat.beq n7 412 && (Nat.beq n8 0 && (Nat.beq n9 8 && (Nat.beq n10 24 && (Nat.beq n11 413 && (Nat.beq n12 0 && (Nat.beq n13 410 && (Nat.beq n14 35 && (Nat.beq n15 1 && (Nat.beq n16 411 && (Nat.beq n17 25 && (Nat.beq n18 1 && (Nat.beq n19 412 && (Nat.beq n20 35 && (Nat.beq n21 1))))))))))))))))))))) with
    | true => some [(g12b3c0 A x0 x1 x2 x3 x4, some (.normal, [(410, ⟨[.one .nils], 35, 1⟩), (411, ⟨[.one (.int .i64 (g12b3r0_0 A x0 x1 x2 x3 x4))], 25, 1⟩), (412, ⟨[.one (.sl 10003 none (g12b3r0_1 A x0 x1 x2 x3 x4) 3)], 35, 1⟩), (10003, ⟨[.recs (g12b3r0_2 A x0 x1 x2 x3 x4) [.ints .i64 (g12b3r0_3 A x0 x1 x2 x3 x4), .strs (g12b3r0_4 A x0 x1 x2 x3 x4), .strs (g12b3r0_5 A x0 x1 x2 x3 x4)]], 24, 2⟩)])),
    (g12b3c1 A x0 x1 x2 x3 x4, some (.ret, [(410, ⟨[.one .nils], 35, 1⟩), (411, ⟨[.one (.int .i64 (g12b3r1_0 A x0 x1 x2 x3 x4))], 25, 1⟩), (412, ⟨[.one .nils], 35, 1⟩)]))]
    | false => none
  | _, _, _ => none
theorem g12b3G_sound {sl : Slots} {vs : List AV} {h : Heap} {l : GL (Ex × Heap)} (hg : g12b3G realA sl vs h = some l) {ex : Ex} {g' : Heap} (hl : pickG l = some (ex, g')) : BodyH Try.prog Try.f12.ntmps (rfAs (rfOf 0 (bodyOf Try.f12))) (rfBd (rfOf 0 (bodyOf Try.f12))) (rfPs (rfOf 0 (bodyOf Try.f12))).toList sl vs h ex g' := by
  unfold g12b3G at hg
  split at hg
  · rename_i n0 n1 n2 n3 n4 n5 n6 n7 n8 n9 n10 n11 n12 x0 x1 x2 x3 n13 n14 n15 n16 x4 n17 n18 n19 n20 n21
    split at hg
    case h_2 => cases hg
    rename_i hc0
    simp only [Bool.and_eq_true] at hc0
    have en0 := beq_true hc0.1
    subst en0
    replace hc0 := hc0.2
    have en1 := beq_true hc0.1
    subst en1
    replace hc0 := hc0.2
    have en2 := beq_true hc0.1
    subst en2
    replace hc0 := hc0.2
    have en3 := beq_true hc0.1
    subst en3
    replace hc0 := hc0.2
    have en4 := beq_true hc0.1
    subst en4
    replace hc0 := hc0.2
    have en5 := beq_true hc0.1
    subst en5
    replace hc0 := hc0.2
    have en6 := beq_true hc0.1
    subst en6
    replace hc0 := hc0.2
    have en7 := beq_true hc0.1
    subst en7
    replace hc0 := hc0.2
    have en8 := beq_true hc0.1
    subst en8
    replace hc0 := hc0.2
    have en9 := beq_true hc0.1
    subst en9
    replace hc0 := hc0.2
    have en10 := beq_true hc0.1
    subst en10
    replace hc0 := hc0.2
    have en11 := beq_true hc0.1
    subst en11
    replace hc0 := hc0.2
    have en12 := beq_true hc0.1
    subst en12
    replace hc0 := hc0.2
    have en13 := beq_true hc0.1
    subst en13
    replace hc0 := hc0.2
    have en14 := beq_true hc0.1
    subst en14
    replace hc0 := hc0.2
    have en15 := beq_true hc0.1
    subst en15
    replace hc0 := hc0.2
    have en16 := beq_true hc0.1
    subst en16
    replace hc0 := hc0.2
    have en17 := beq_true hc0.1
    subst en17
    replace hc0 := hc0.2
    have en18 := beq_true hc0.1
    subst en18
    replace hc0 := hc0.2
    have en19 := beq_true hc0.1
    subst en19
    replace hc0 := hc0.2
    have en20 := beq_true hc0.1
    subst en20
    replace hc0 := hc0.2
    have en21 := beq_true hc0
    subst en21
    simp only [Option.some.injEq] at hg
    subst hg
    rcases pickG_cons hl with ⟨hc, hl⟩ | hl
    · simp only [Option.some.injEq, Prod.mk.injEq] at hl
      obtain ⟨rfl, rfl⟩ := hl
      exact bodyH_of2 mixed gtysOK g12b3O_sound g12b3O_det (an := g12b3an) (cut := g12b3cut) (bs := [410, 411, 412, 10003]) (by kernel_rfl) (by kernel_rfl) (by kernel_rfl) (by kernel_rfl) (by kernel_rfl) (by kernel_rfl) (show g12b3v realA x0 x1 x2 x3 x4 = _ from g12b3is0_spec hc) fun _ st => g12b3_go st
    rcases pickG_cons hl with ⟨hc, hl⟩ | hl
    · simp only [Option.some.injEq, Prod.mk.injEq] at hl
      obtain ⟨rfl, rfl⟩ := hl
      exact bodyH_of2 mixed gtysOK g12b3O_sound g12b3O_det (an := g12b3an) (cut := g12b3cut) (bs := [410, 411, 412, 10003]) (by kernel_rfl) (by kernel_rfl) (by kernel_rfl) (by kernel_rfl) (by kernel_rfl) (by kernel_rfl) (show g12b3v realA x0 x1 x2 x3 x4 = _ from g12b3is1_spec hc) fun _ st => g12b3_go st
    cases hl
  · cases hg
def g12b3a_O (A : Ar) : Orc := orcOf []
theorem g12b3a_O_sound : OSound Try.prog (g12b3a_O realA) := orc_sound fun f g hm args v hv => by
  cases hm
theorem g12b3a_O_det : ODet (g12b3a_O realA) := orc_det _
def g12b3a_an : Ann := [(3, ([2, 3, 4, 9, 10], [410, 411, 412, 500])), (4, ([2, 3, 4, 5, 10], [410, 411, 412, 500, 4000])), (5, ([2, 3, 4, 5, 6], [410, 411, 412, 500, 4000])), (6, ([2, 3, 6], [410, 411, 412, 500])), (7, ([2, 3, 4, 5], [410, 411, 412, 500, 4000])), (8, ([2, 3], [410, 411, 412, 500])), (9, ([4, 5], [410, 411, 412, 500, 4000])), (3000003, ([1000, 1001, 2000, 3001], [410, 411, 412, 413]))]
def g12b3a_cut : List Nat := [7, 9]
noncomputable def g12b3a_N {R : Type} (A : Ar) (kk : Ex → Heap → Option R) (t : List Bool → St → Option R) (p : List Bool) (s : St) : Option R := nodeN A gtys (g12b3a_O A) g12b3a_an g12b3a_cut t g12C3 (bdP [410, 411, 412, 500] kk) p s
def g12b3a_J9s (x0 : Int) (x1 x2 : Nat) (x3 : List Int) (x4 : List (List Nat)) (x5 : List (List Nat)) (x6 : Int) (x7 x8 : List Nat) : St := ⟨[(4, (pT 412 0)), (5, (pT 4000 0))], [(410, ⟨[.one .nils], 35, 1⟩), (411, ⟨[.one (.int .i64 x0)], 25, 1⟩), (412, ⟨[.one (.sl 500 none x1 3)], 35, 1⟩), (500, ⟨[.recs x2 [.ints .i64 x3, .strs x4, .strs x5]], 24, 2⟩), (4000, ⟨[.one (.int .i64 x6), .one (.str x7), .one (.str x8)], 24, 1⟩)]⟩
def g12b3a_J9 {R : Type} (A : Ar) (n : Nat) (kk : Ex → Heap → Option R)  (x0 : Int) (x1 x2 : Nat) (x3 : List Int) (x4 : List (List Nat)) (x5 : List (List Nat)) (x6 : Int) (x7 x8 : List Nat) : Option R :=
  match A.eq (x1 * 3) ((x2 * 3) + 0) with
  | true => match A.le ((x2 + 1) * 40) 140737488355328 with
    | true => kk .normal [(410, ⟨[.one .nils], 35, 1⟩), (411, ⟨[.one (.int .i64 x0)], 25, 1⟩), (412, ⟨[.one (.sl 500 none (x2 + 1) 3)], 35, 1⟩), (500, ⟨[.recs (x2 + 1) [.ints .i64 (x3 ++ [x6]), .strs (x4 ++ [x7]), .strs (x5 ++ [x8])]], 24, 2⟩)]
    | false => none
  | false => none
def g12b3a_J7s (x0 : Int) (x1 x2 : Nat) (x3 : List Int) (x4 : List (List Nat)) (x5 : List (List Nat)) (x6 : Int) (x7 x8 : List Nat) : St := ⟨[(2, (pT 410 0)), (3, (pT 411 0)), (4, (pT 412 0)), (5, (pT 4000 0))], [(410, ⟨[.one .nils], 35, 1⟩), (411, ⟨[.one (.int .i64 x0)], 25, 1⟩), (412, ⟨[.one (.sl 500 none x1 3)], 35, 1⟩), (500, ⟨[.recs x2 [.ints .i64 x3, .strs x4, .strs x5]], 24, 2⟩), (4000, ⟨[.one (.int .i64 x6), .one (.str x7), .one (.str x8)], 24, 1⟩)]⟩
def g12b3a_J7 {R : Type} (A : Ar) (n : Nat) (kk : Ex → Heap → Option R)  (x0 : Int) (x1 x2 : Nat) (x3 : List Int) (x4 : List (List Nat)) (x5 : List (List Nat)) (x6 : Int) (x7 x8 : List Nat) : Option R :=
  match A.ic .eql (A.ofN x1) 100 with
  | true => kk .ret [(410, ⟨[.one .nils], 35, 1⟩), (411, ⟨[.one (.int .i64 9)], 25, 1⟩), (412, ⟨[.one (.sl 500 none x1 3)], 35, 1⟩), (500, ⟨[.recs x2 [.ints .i64 x3, .strs x4, .strs x5]], 24, 2⟩)]
  | false => g12b3a_J9 A n kk  x0 x1 x2 x3 x4 x5 x6 x7 x8
def g12b3a_ {R : Type} (A : Ar) (n : Nat) (kk : Ex → Heap → Option R) (x0 : Int) (x1 x2 : List Nat) (x3 x4 : Int) (x5 x6 : Nat) (x7 : List Int) (x8 : List (List Nat)) (x9 : List (List Nat)) : Option R :=
  match A.ic .neq x3 0 with
  | true => kk .ret [(410, ⟨[.one .nils], 35, 1⟩), (411, ⟨[.one (.int .i64 x3)], 25, 1⟩), (412, ⟨[.one (.sl 500 none x5 3)], 35, 1⟩), (500, ⟨[.recs x6 [.ints .i64 x7, .strs x8, .strs x9]], 24, 2⟩)]
  | false => g12b3a_J7 A n kk  x4 x5 x6 x7 x8 x9 x0 x1 x2
section
variable {R : Type} {A : Ar} {n : Nat} {kk : Ex → Heap → Option R} {tb : Nat → List Bool → St → Option R} (st : Stp (g12b3a_N A kk) tb)
include st
theorem g12b3a_J9_go {x0 : Int} {x1 : Nat} {x2 : Nat} {x3 : List Int} {x4 : List (List Nat)} {x5 : List (List Nat)} {x6 : Int} {x7 : List Nat} {x8 : List Nat} : Prs (fun k => tb k (pth 27) (g12b3a_J9s x0 x1 x2 x3 x4 x5 x6 x7 x8)) (g12b3a_J9 A n kk x0 x1 x2 x3 x4 x5 x6 x7 x8) := by
  unfold g12b3a_J9
  exact st.g (pc (SxP14api _ (SxP14api _ (pf _) pn) pn) (by kernel_rfl))
theorem g12b3a_J7_go {x0 : Int} {x1 : Nat} {x2 : Nat} {x3 : List Int} {x4 : List (List Nat)} {x5 : List (List Nat)} {x6 : Int} {x7 : List Nat} {x8 : List Nat} : Prs (fun k => tb k (pth 13) (g12b3a_J7s x0 x1 x2 x3 x4 x5 x6 x7 x8)) (g12b3a_J7 A n kk x0 x1 x2 x3 x4 x5 x6 x7 x8) := by
  unfold g12b3a_J7
  exact st.g (pc (SxP14api _ (pf _) (g12b3a_J9_go st)) (by kernel_rfl))
theorem g12b3a__go {x0 : Int} {x1 : List Nat} {x2 : List Nat} {x3 : Int} {x4 : Int} {x5 : Nat} {x6 : Nat} {x7 : List Int} {x8 : List (List Nat)} {x9 : List (List Nat)} : Prs (fun k => codeN A gtys (g12b3a_O A) g12b3a_an g12b3a_cut (tb k) [] g12C3 (bdP [410, 411, 412, 500] kk) ⟨zipS [9, 10] [(.v (.agg [.one (.int .i64 x0), .one (.str x1), .one (.str x2)])), (i6 x3)] ++ [(2, (pT 410 0)), (3, (pT 411 0)), (4, (pT 412 0)), (8, (.fn 24 [] [(.cell (.ptr 413 0 none))]))], [(410, ⟨[.one .nils], 35, 1⟩), (411, ⟨[.one (.int .i64 x4)], 25, 1⟩), (412, ⟨[.one (.sl 500 none x5 3)], 35, 1⟩), (500, ⟨[.recs x6 [.ints .i64 x7, .strs x8, .strs x9]], 24, 2⟩)]⟩ ) (g12b3a_ A n kk x0 x1 x2 x3 x4 x5 x6 x7 x8 x9) := by
  unfold g12b3a_
  exact pc (SxP14api _ (pf _) (g12b3a_J7_go st)) (by kernel_rfl)
end
def g12b3a_v (A : Ar) (x0 : Int) (x1 x2 : List Nat) (x3 x4 : Int) (x5 x6 : Nat) (x7 : List Int) (x8 : List (List Nat)) (x9 : List (List Nat)) : Option (Ex × Heap) := g12b3a_ A (100000) (fun ex h => some (ex, h)) x0 x1 x2 x3 x4 x5 x6 x7 x8 x9
def g12b3a_is0 (o : Option (Ex × Heap)) : Bool := match o with
  | some (.normal, [(n0, ⟨[.one .nils], n1, n2⟩), (n3, ⟨[.one (.int .i64 _)], n4, n5⟩), (n6, ⟨[.one (.sl n7 none _ n8)], n9, n10⟩), (n11, ⟨[.recs _ [.ints .i64 _, .strs _, .strs _]], n12, n13⟩)]) => Nat.beq n0 410 && (Nat.beq n1 35 && (Nat.beq n2 1 && (Nat.beq n3 411 && (Nat.beq n4 25 && (Nat.beq n5 1 && (Nat.beq n6 412 && (Nat.beq n7 500 && (Nat.beq n8 3 && (Nat.beq n9 35 && (Nat.beq n10 1 && (Nat.beq n11 500 && (Nat.beq n12 24 && (Nat.beq n13 2)))))))))))))
  | _ => false
def g12b3a_g0_0 (o : Option (Ex × Heap)) : Int := match o with
  | some (.normal, [(_, ⟨[.one .nils], _, _⟩), (_, ⟨[.one (.int .i64 x)], _, _⟩), (_, ⟨[.one (.sl _ none _ _)], _, _⟩), (_, ⟨[.recs _ [.ints .i64 _, .strs _, .strs _]], _, _⟩)]) => x
  | _ => 0
def g12b3a_g0_1 (o : Option (Ex × Heap)) : Nat := match o with
  | some (.normal, [(_, ⟨[.one .nils], _, _⟩), (_, ⟨[.one (.int .i64 _)], _, _⟩), (_, ⟨[.one (.sl _ none x _)], _, _⟩), (_, ⟨[.recs _ [.ints .i64 _, .strs _, .strs _]], _, _⟩)]) => x
  | _ => 0
def g12b3a_g0_2 (o : Option (Ex × Heap)) : Nat := match o with
  | some (.normal, [(_, ⟨[.one .nils], _, _⟩), (_, ⟨[.one (.int .i64 _)], _, _⟩), (_, ⟨[.one (.sl _ none _ _)], _, _⟩), (_, ⟨[.recs x [.ints .i64 _, .strs _, .strs _]], _, _⟩)]) => x
  | _ => 0
def g12b3a_g0_3 (o : Option (Ex × Heap)) : List Int := match o with
  | some (.normal, [(_, ⟨[.one .nils], _, _⟩), (_, ⟨[.one (.int .i64 _)], _, _⟩), (_, ⟨[.one (.sl _ none _ _)], _, _⟩), (_, ⟨[.recs _ [.ints .i64 x, .strs _, .strs _]], _, _⟩)]) => x
  | _ => []
def g12b3a_g0_4 (o : Option (Ex × Heap)) : List (List Nat) := match o with
  | some (.normal, [(_, ⟨[.one .nils], _, _⟩), (_, ⟨[.one (.int .i64 _)], _, _⟩), (_, ⟨[.one (.sl _ none _ _)], _, _⟩), (_, ⟨[.recs _ [.ints .i64 _, .strs x, .strs _]], _, _⟩)]) => x
  | _ => []
def g12b3a_g0_5 (o : Option (Ex × Heap)) : List (List Nat) := match o with
  | some (.normal, [(_, ⟨[.one .nils], _, _⟩), (_, ⟨[.one (.int .i64 _)], _, _⟩), (_, ⟨[.one (.sl _ none _ _)], _, _⟩), (_, ⟨[.recs _ [.ints .i64 _, .strs _, .strs x]], _, _⟩)]) => x
  | _ => []
theorem g12b3a_is0_spec {o : Option (Ex × Heap)} (h : g12b3a_is0 o = true) : o = some (.normal, [(410, ⟨[.one .nils], 35, 1⟩), (411, ⟨[.one (.int .i64 (g12b3a_g0_0 o))], 25, 1⟩), (412, ⟨[.one (.sl 500 none (g12b3a_g0_1 o) 3)], 35, 1⟩), (500, ⟨[.recs (g12b3a_g0_2 o) [.ints .i64 (g12b3a_g0_3 o), .strs (g12b3a_g0_4 o), .strs (g12b3a_g0_5 o)]], 24, 2⟩)]) := by
  unfold g12b3a_is0 at h
  split at h
  · rename_i n0 n1 n2 n3 z4 n4 n5 n6 n7 z9 n8 n9 n10 n11 z14 z15 z16 z17 n12 n13
    simp only [Bool.and_eq_true] at h
    have en0 := beq_true h.1
    subst en0
    replace h := h.2
    have en1 := beq_true h.1
    subst en1
    replace h := h.2
    have en2 := beq_true h.1
    subst en2
    replace h := h.2
    have en3 := beq_true h.1
    subst en3
    replace h := h.2
    have en4 := beq_true h.1
    subst en4
    replace h := h.2
    have en5 := beq_true h.1
    subst en5
    replace h := h.2
    have en6 := beq_true h.1
    subst en6
    replace h := h.2
    have en7 := beq_true h.1
    subst en7
    replace h := h.2
    have en8 := beq_true h.1
    subst en8
    replace h := h.2
    have en9 := beq_true h.1
    subst en9
    replace h := h.2
    have en10 := beq_true h.1
    subst en10
    replace h := h.2
    have en11 := beq_true h.1
    subst en11
    replace h := h.2
    have en12 := beq_true h.1
    subst en12
    replace h := h.2
    have en13 := beq_true h
    subst en13
    rfl
  · cases h
def g12b3a_c0 (A : Ar) (x0 : Int) (x1 x2 : List Nat) (x3 x4 : Int) (x5 x6 : Nat) (x7 : List Int) (x8 : List (List Nat)) (x9 : List (List Nat)) : Bool := g12b3a_is0 (g12b3a_v A x0 x1 x2 x3 x4 x5 x6 x7 x8 x9)
def g12b3a_r0_0 (A : Ar) (x0 : Int) (x1 x2 : List Nat) (x3 x4 : Int) (x5 x6 : Nat) (x7 : List Int) (x8 : List (List Nat)) (x9 : List (List Nat)) : Int := g12b3a_g0_0 (g12b3a_v A x0 x1 x2 x3 x4 x5 x6 x7 x8 x9)
def g12b3a_r0_1 (A : Ar) (x0 : Int) (x1 x2 : List Nat) (x3 x4 : Int) (x5 x6 : Nat) (x7 : List Int) (x8 : List (List Nat)) (x9 : List (List Nat)) : Nat := g12b3a_g0_1 (g12b3a_v A x0 x1 x2 x3 x4 x5 x6 x7 x8 x9)
def g12b3a_r0_2 (A : Ar) (x0 : Int) (x1 x2 : List Nat) (x3 x4 : Int) (x5 x6 : Nat) (x7 : List Int) (x8 : List (List Nat)) (x9 : List (List Nat)) : Nat := g12b3a_g0_2 (g12b3a_v A x0 x1 x2 x3 x4 x5 x6 x7 x8 x9)
def g12b3a_r0_3 (A : Ar) (x0 : Int) (x1 x2 : List Nat) (x3 x4 : Int) (x5 x6 : Nat) (x7 : List Int) (x8 : List (List Nat)) (x9 : List (List Nat)) : List Int := g12b3a_g0_3 (g12b3a_v A x0 x1 x2 x3 x4 x5 x6 x7 x8 x9)
def g12b3a_r0_4 (A : Ar) (x0 : Int) (x1 x2 : List Nat) (x3 x4 : Int) (x5 x6 : Nat) (x7 : List Int) (x8 : List (List Nat)) (x9 : List (List Nat)) : List (List Nat) := g12b3a_g0_4 (g12b3a_v A x0 x1 x2 x3 x4 x5 x6 x7 x8 x9)
def g12b3a_r0_5 (A : Ar) (x0 : Int) (x1 x2 : List Nat) (x3 x4 : Int) (x5 x6 : Nat) (x7 : List Int) (x8 : List (List Nat)) (x9 : List (List Nat)) : List (List Nat) := g12b3a_g0_5 (g12b3a_v A x0 x1 x2 x3 x4 x5 x6 x7 x8 x9)
def g12b3a_is1 (o : Option (Ex × Heap)) : Bool := match o with
  | some (.ret, [(n0, ⟨[.one .nils], n1, n2⟩), (n3, ⟨[.one (.int .i64 _)], n4, n5⟩), (n6, ⟨[.one (.sl n7 none _ n8)], n9, n10⟩), (n11, ⟨[.recs _ [.ints .i64 _, .strs _, .strs _]], n12, n13⟩)]) => Nat.beq n0 410 && (Nat.beq n1 35 && (Nat.beq n2 1 && (Nat.beq n3 411 && (Nat.beq n4 25 && (Nat.beq n5 1 && (Nat.beq n6 412 && (Nat.beq n7 500 && (Nat.beq n8 3 && (Nat.beq n9 35 && (Nat.beq n10 1 && (Nat.beq n11 500 && (Nat.beq n12 24 && (Nat.beq n13 2)))))))))))))
  | _ => false
def g12b3a_g1_0 (o : Option (Ex × Heap)) : Int := match o with
  | some (.ret, [(_, ⟨[.one .nils], _, _⟩), (_, ⟨[.one (.int .i64 x)], _, _⟩), (_, ⟨[.one (.sl _ none _ _)], _, _⟩), (_, ⟨[.recs _ [.ints .i64 _, .strs _, .strs _]], _, _⟩)]) => x
  | _ => 0
def g12b3a_g1_1 (o : Option (Ex × Heap)) : Nat := match o with
  | some (.ret, [(_, ⟨[.one .nils], _, _⟩), (_, ⟨[.one (.int .i64 _)], _, _⟩), (_, ⟨[.one (.sl _ none x _)], _, _⟩), (_, ⟨[.recs _ [.ints .i64 _, .strs _, .strs _]], _, _⟩)]) => x
  | _ => 0
def g12b3a_g1_2 (o : Option (Ex × Heap)) : Nat := match o with
  | some (.ret, [(_, ⟨[.one .nils], _, _⟩), (_, ⟨[.one (.int .i64 _)], _, _⟩), (_, ⟨[.one (.sl _ none _ _)], _, _⟩), (_, ⟨[.recs x [.ints .i64 _, .strs _, .strs _]], _, _⟩)]) => x
  | _ => 0
def g12b3a_g1_3 (o : Option (Ex × Heap)) : List Int := match o with
  | some (.ret, [(_, ⟨[.one .nils], _, _⟩), (_, ⟨[.one (.int .i64 _)], _, _⟩), (_, ⟨[.one (.sl _ none _ _)], _, _⟩), (_, ⟨[.recs _ [.ints .i64 x, .strs _, .strs _]], _, _⟩)]) => x
  | _ => []
def g12b3a_g1_4 (o : Option (Ex × Heap)) : List (List Nat) := match o with
  | some (.ret, [(_, ⟨[.one .nils], _, _⟩), (_, ⟨[.one (.int .i64 _)], _, _⟩), (_, ⟨[.one (.sl _ none _ _)], _, _⟩), (_, ⟨[.recs _ [.ints .i64 _, .strs x, .strs _]], _, _⟩)]) => x
  | _ => []
def g12b3a_g1_5 (o : Option (Ex × Heap)) : List (List Nat) := match o with
  | some (.ret, [(_, ⟨[.one .nils], _, _⟩), (_, ⟨[.one (.int .i64 _)], _, _⟩), (_, ⟨[.one (.sl _ none _ _)], _, _⟩), (_, ⟨[.recs _ [.ints .i64 _, .strs _, .strs x]], _, _⟩)]) => x
  | _ => []
theorem g12b3a_is1_spec {o : Option (Ex × Heap)} (h : g12b3a_is1 o = true) : o = some (.ret, [(410, ⟨[.one .nils], 35, 1⟩), (411, ⟨[.one (.int .i64 (g12b3a_g1_0 o))], 25, 1⟩), (412, ⟨[.one (.sl 500 none (g12b3a_g1_1 o) 3)], 35, 1⟩), (500, ⟨[.recs (g12b3a_g1_2 o) [.ints .i64 (g12b3a_g1_3 o), .strs (g12b3a_g1_4 o), .strs (g12b3a_g1_5 o)]], 24, 2⟩)]) := by
  unfold g12b3a_is1 at h
  split at h
  · rename_i n0 n1 n2 n3 z4 n4 n5 n6 n7 z9 n8 n9 n10 n11 z14 z15 z16 z17 n12 n13
    simp only [Bool.and_eq_true] at h
    have en0 := beq_true h.1
    subst en0
    replace h := h.2
    have en1 := beq_true h.1
    subst en1
    replace h := h.2
    have en2 := beq_true h.1
    subst en2
    replace h := h.2
    have en3 := beq_true h.1
    subst en3
    replace h := h.2
    have en4 := beq_true h.1
    subst en4
    replace h := h.2
    have en5 := beq_true h.1
    subst en5
    replace h := h.2
    have en6 := beq_true h.1
    subst en6
    replace h := h.2
    have en7 := beq_true h.1
    subst en7
    replace h := h.2
    have en8 := beq_true h.1
    subst en8
    replace h := h.2
    have en9 := beq_true h.1
    subst en9
    replace h := h.2
    have en10 := beq_true h.1
    subst en10
    replace h := h.2
    have en11 := beq_true h.1
    subst en11
    replace h := h.2
    have en12 := beq_true h.1
    subst en12
    replace h := h.2
    have en13 := beq_true h
    subst en13
    rfl
  · cases h
def g12b3a_c1 (A : Ar) (x0 : Int) (x1 x2 : List Nat) (x3 x4 : Int) (x5 x6 : Nat) (x7 : List Int) (x8 : List (List Nat)) (x9 : List (List Nat)) : Bool := g12b3a_is1 (g12b3a_v A x0 x1 x2 x3 x4 x5 x6 x7 x8 x9)
def g12b3a_r1_0 (A : Ar) (x0 : Int) (x1 x2 : List Nat) (x3 x4 : Int) (x5 x6 : Nat) (x7 : List Int) (x8 : List (List Nat)) (x9 : List (List Nat)) : Int := g12b3a_g1_0 (g12b3a_v A x0 x1 x2 x3 x4 x5 x6 x7 x8 x9)
def g12b3a_r1_1 (A : Ar) (x0 : Int) (x1 x2 : List Nat) (x3 x4 : Int) (x5 x6 : Nat) (x7 : List Int) (x8 : List (List Nat)) (x9 : List (List Nat)) : Nat := g12b3a_g1_1 (g12b3a_v A x0 x1 x2 x3 x4 x5 x6 x7 x8 x9)
def g12b3a_r1_2 (A : Ar) (x0 : Int) (x1 x2 : List Nat) (x3 x4 : Int) (x5 x6 : Nat) (x7 : List Int) (x8 : List (List Nat)) (x9 : List (List Nat)) : Nat := g12b3a_g1_2 (g12b3a_v A x0 x1 x2 x3 x4 x5 x6 x7 x8 x9)
def g12b3a_r1_3 (A : Ar) (x0 : Int) (x1 x2 : List Nat) (x3 x4 : Int) (x5 x6 : Nat) (x7 : List Int) (x8 : List (List Nat)) (x9 : List (List Nat)) : List Int := g12b3a_g1_3 (g12b3a_v A x0 x1 x2 x3 x4 x5 x6 x7 x8 x9)
def g12b3a_r1_4 (A : Ar) (x0 : Int) (x1 x2 : List Nat) (x3 x4 : Int) (x5 x6 : Nat) (x7 : List Int) (x8 : List (List Nat)) (x9 : List (List Nat)) : List (List Nat) := g12b3a_g1_4 (g12b3a_v A x0 x1 x2 x3 x4 x5 x6 x7 x8 x9)
def g12b3a_r1_5 (A : Ar) (x0 : Int) (x1 x2 : List Nat) (x3 x4 : Int) (x5 x6 : Nat) (x7 : List Int) (x8 : List (List Nat)) (x9 : List (List Nat)) : List (List Nat) := g12b3a_g1_5 (g12b3a_v A x0 x1 x2 x3 x4 x5 x6 x7 x8 x9)
def g12b3a_G (A : Ar) (sl : Slots) (vs : List AV) (h : Heap) : Option (GL (Ex × Heap)) := match sl, vs, h with
  | [(n0, .v (.cell (.ptr n1 n2 none))), (n3, .v (.cell (.ptr n4 n5 none))), (n6, .v (.cell (.ptr n7 n8 none))), (n9, .fn n10 [] [(.cell (.ptr n11 n12 none))])], [.v (.agg [.one (.int .i64 x0), .one (.str x1), .one (.str x2)]), .v (.cell (.int .i64 x3))], [(n13, ⟨[.one .nils], n14, n15⟩), (n16, ⟨[.one (.int .i64 x4)], n17, n18⟩), (n19, ⟨[.one (.sl n20 none x5 n21)], n22, n23⟩), (n24, ⟨[.recs x6 [.ints .i64 x7, .strs x8, .strs x9]], n25, n26⟩)] => match Nat.beq n0 2 && (Nat.beq n1 410 && (Nat.beq n2 0 && (Nat.beq n3 3 && (Nat.beq n4 411 && (Nat.beq n5 0 && (Nat.beq n6 4 && (Nat.beq n7 412 && (Nat.beq n8 0 && (Nat.beq n9 8 && (Nat.beq n10 24 && (Nat.beq n11 413 && (Nat.beq n12 0 && (Nat.beq n13 410 && (Nat.beq n14 35 && (Nat.beq n15 1 && (Nat.beq n16 411 && (Nat.beq n17 25 && (Nat.beq n18 1 && (Nat.beq n19 412 && (Nat.beq n20 500 && (Nat.beq n21 3 && (Nat.beq n22 35 && (Nat.beq n23 1 && (Nat.beq n24 500 && (Nat.beq n25 24 && (Nat.beq n26 2)))))))))))))))))))))))))) with
    | true => some [(g12b3a_c0 A x0 x1 x2 x3 x4 x5 x6 x7 x8 x9, some (.normal, [(410, ⟨[.one .nils], 35, 1⟩), (411, ⟨[.one (.int .i64 (g12b3a_r0_0 A x0 x1 x2 x3 x4 x5 x6 x7 x8 x9))], 25, 1⟩), (412, ⟨[.one (.sl 500 none (g12b3a_r0_1 A x0 x1 x2 x3 x4 x5 x6 x7 x8 x9) 3)], 35, 1⟩), (500, ⟨[.recs (g12b3a_r0_2 A x0 x1 x2 x3 x4 x5 x6 x7 x8 x9) [.ints .i64 (g12b3a_r0_3 A x0 x1 x2 x3 x4 x5 x6 x7 x8 x9), .strs (g12b3a_r0_4 A x0 x1 x2 x3 x4 x5 x6 x7 x8 x9), .strs (g12b3a_r0_5 A x0 x1 x2 x3 x4 x5 x6 x7 x8 x9)]], 24, 2⟩)])),
    (g12b3a_c1 A x0 x1 x2 x3 x4 x5 x6 x7 x8 x9, some (.ret, [(410, ⟨[.one .nils], 35, 1⟩), (411, ⟨[.one (.int .i64 (g12b3a_r1_0 A x0 x1 x2 x3 x4 x5 x6 x7 x8 x9))], 25, 1⟩), (412, ⟨[.one (.sl 500 none (g12b3a_r1_1 A x0 x1 x2 x3 x4 x5 x6 x7 x8 x9) 3)], 35, 1⟩), (500, ⟨[.recs (g12b3a_r1_2 A x0 x1 x2 x3 x4 x5 x6 x7 x8 x9) [.ints .i64 (g12b3a_r1_3 A x0 x1 x2 x3 x4 x5 x6 x7 x8 x9), .strs (g12b3a_r1_4 A x0 x1 x2 x3 x4 x5 x6 x7 x8 x9), .strs (g12b3a_r1_5 A x0 x1 x2 x3 x4 x5 x6 x7 x8 x9)]], 24, 2⟩)]))]
    | false => none
  | _, _, _ => none
theorem g12b3a_G_sound {sl : Slots} {vs : List AV} {h : Heap} {l : GL (Ex × Heap)} (hg : g12b3a_G realA sl vs h = some l) {ex : Ex} {g' : Heap} (hl : pickG l = some (ex, g')) : BodyH Try.prog Try.f12.ntmps (rfAs (rfOf 0 (bodyOf Try.f12))) (rfBd (rfOf 0 (bodyOf Try.f12))) (rfPs (rfOf 0 (bodyOf Try.f12))).toList sl vs h ex g' := by
  unfold g12b3a_G at hg
  split at hg
  · rename_i n0 n1 n2 n3 n4 n5 n6 n7 n8 n9 n10 n11 n12 x0 x1 x2 x3 n13 n14 n15 n16 x4 n17 n18 n19 n20 x5 n21 n22 n23 n24 x6 x7 x8 x9 n25 n26
    split at hg
    case h_2 => cases hg
    rename_i hc0
    simp only [Bool.and_eq_true] at hc0
    have en0 := beq_true hc0.1
    subst en0
    replace hc0 := hc0.2
    have en1 := beq_true hc0.1
    subst en1
    replace hc0 := hc0.2
    have en2 := beq_true hc0.1
    subst en2
    replace hc0 := hc0.2
    have en3 := beq_true hc0.1
    subst en3
    replace hc0 := hc0.2
    have en4 := beq_true hc0.1
    subst en4
    replace hc0 := hc0.2
    have en5 := beq_true hc0.1
    subst en5
    replace hc0 := hc0.2
    have en6 := beq_true hc0.1
    subst en6
    replace hc0 := hc0.2
    have en7 := beq_true hc0.1
    subst en7
    replace hc0 := hc0.2
    have en8 := beq_true hc0.1
    subst en8
    replace hc0 := hc0.2
    have en9 := beq_true hc0.1
    subst en9
    replace hc0 := hc0.2
    have en10 := beq_true hc0.1
    subst en10
    replace hc0 := hc0.2
    have en11 := beq_true hc0.1
    subst en11
    replace hc0 := hc0.2
    have en12 := beq_true hc0.1
    subst en12
    replace hc0 := hc0.2
    have en13 := beq_true hc0.1
    subst en13
    replace hc0 := hc0.2
    have en14 := beq_true hc0.1
    subst en14
    replace hc0 := hc0.2
    have en15 := beq_true hc0.1
    subst en15
    replace hc0 := hc0.2
    have en16 := beq_true hc0.1
    subst en16
    replace hc0 := hc0.2
    have en17 := beq_true hc0.1
    subst en17
    replace hc0 := hc0.2
    have en18 := beq_true hc0.1
    subst en18
    replace hc0 := hc0.2
    have en19 := beq_true hc0.1
    subst en19
    replace hc0 := hc0.2
    have en20 := beq_true hc0.1
    subst en20
    replace hc0 := hc0.2
    have en21 := beq_true hc0.1
    subst en21
    replace hc0 := hc0.2
    have en22 := beq_true hc0.1
    subst en22
    replace hc0 := hc0.2
    have en23 := beq_true hc0.1
    subst en23
    replace hc0 := hc0.2
    have en24 := beq_true hc0.1
    subst en24
    replace hc0 := hc0.2
    have en25 := beq_true hc0.1
    subst en25
    replace hc0 := hc0.2
    have en26 := beq_true hc0
    subst en26
    simp only [Option.some.injEq] at hg
    subst hg
    rcases pickG_cons hl with ⟨hc, hl⟩ | hl
    · simp only [Option.some.injEq, Prod.mk.injEq] at hl
      obtain ⟨rfl, rfl⟩ := hl
      exact bodyH_of2 mixed gtysOK g12b3a_O_sound g12b3a_O_det (an := g12b3a_an) (cut := g12b3a_cut) (bs := [410, 411, 412, 500]) (by kernel_rfl) (by kernel_rfl) (by kernel_rfl) (by kernel_rfl) (by kernel_rfl) (by kernel_rfl) (show g12b3a_v realA x0 x1 x2 x3 x4 x5 x6 x7 x8 x9 = _ from g12b3a_is0_spec hc) fun _ st => g12b3a__go st
    rcases pickG_cons hl with ⟨hc, hl⟩ | hl
    · simp only [Option.some.injEq, Prod.mk.injEq] at hl
      obtain ⟨rfl, rfl⟩ := hl
      exact bodyH_of2 mixed gtysOK g12b3a_O_sound g12b3a_O_det (an := g12b3a_an) (cut := g12b3a_cut) (bs := [410, 411, 412, 500]) (by kernel_rfl) (by kernel_rfl) (by kernel_rfl) (by kernel_rfl) (by kernel_rfl) (by kernel_rfl) (show g12b3a_v realA x0 x1 x2 x3 x4 x5 x6 x7 x8 x9 = _ from g12b3a_is1_spec hc) fun _ st => g12b3a__go st
    cases hl
  · cases hg
def g12B3 (A : Ar) (sl : Slots) (vs : List AV) (h : Heap) : GL (Ex × Heap) := match g12b3G A sl vs h with
    | some l => l
    | none => match g12b3a_G A sl vs h with
    | some l => l
    | none => []
theorem g12B3_sound {sl : Slots} {vs : List AV} {h : Heap} {ex : Ex} {g' : Heap} (hl : pickG (g12B3 realA sl vs h) = some (ex, g')) : BodyH Try.prog Try.f12.ntmps (rfAs (rfOf 0 (bodyOf Try.f12))) (rfBd (rfOf 0 (bodyOf Try.f12))) (rfPs (rfOf 0 (bodyOf Try.f12))).toList sl vs h ex g' := by
  unfold g12B3 at hl
  split at hl
  · rename_i l hg
    exact g12b3G_sound hg hl
  split at hl
  · rename_i l hg
    exact g12b3a_G_sound hg hl
  cases hl
def g12i3BO (A : Ar) : Orc := orcOf [(8, g8o A)]
theorem g12i3BO_sound : OSound Try.prog (g12i3BO realA) := orc_sound fun f g hm args v hv => by
  simp only [List.mem_cons, List.not_mem_nil, or_false, Prod.mk.injEq] at hm
  rcases hm with ⟨rfl, rfl⟩
  · exact g8o_sound _ _ hv
theorem g12i3BO_det : ODet (g12i3BO realA) := orc_det _
def g12i3U (A : Ar) (sl : Slots) : Orc := { g12i3BO A with ylg := yRoundG [413, 448, 450] 2 (g12B3 A sl), tk := true, pb := 450 }
def g12i3O (A : Ar) : Orc := g12i3U A [(2, (pT 410 0)), (3, (pT 411 0)), (4, (pT 412 0)), (8, (.fn 24 [] [(.cell (.ptr 413 0 none))]))]
def g12i3an : Ann := [(0, ([0, 1], [410, 411, 412, 413, 448, 500, 10003])), (1, ([0, 1], [410, 411, 412, 413, 448, 500, 10003])), (2, ([0, 1, 3, 4], [410, 411, 412, 413, 448, 450, 500, 2005])), (3, ([0, 1, 3], [410, 411, 412, 413, 448, 450, 500, 10003])), (1000001, ([10003], [500])), (1000002, ([2005], [450]))]
def g12i3res : List ResultVar := []
def g12i3cut : List Nat := [1]
noncomputable def g12i3N {R : Type} (A : Ar) (kk : AV → Heap → Option R) (t : List Bool → St → Option R) (p : List Bool) (s : St) : Option R := nodeN A gtys (g12i3O A) g12i3an g12i3cut t (bodyOf Try.f24) (finD gtys g12i3res kk) p s
def g12i3J1as (x0 : Int) (x1 : Nat) (x2 : List Nat) (x3 : Nat) (x4 : List Int) (x5 : List (List Nat)) (x6 : List (List Nat)) : St := ⟨[(0, (.yld 449)), (1, (pT 413 0))], [(410, ⟨[.one .nils], 35, 1⟩), (411, ⟨[.one (.int .i64 x0)], 25, 1⟩), (412, ⟨[.one (.sl 500 none x1 3)], 35, 1⟩), (413, ⟨[.one (.str x2)], 9, 1⟩), (448, ⟨[], 0, 0⟩), (500, ⟨[.recs x3 [.ints .i64 x4, .strs x5, .strs x6]], 24, 2⟩)]⟩
def g12i3J1a {R : Type} (A : Ar) (n : Nat) (kk : AV → Heap → Option R) (lg12i3L0b : Int → Nat → List Nat → Nat → List Int → List (List Nat) → List (List Nat) → Option R) (x0 : Int) (x1 : Nat) (x2 : List Nat) (x3 : Nat) (x4 : List Int) (x5 : List (List Nat)) (x6 : List (List Nat)) : Option R :=
  match g8ok A x2 with
  | true => match g12b3a_c0 A (g8r0 A x2) (g8r1 A x2) (g8r2 A x2) (g8r3 A x2) x0 x1 x3 x4 x5 x6 with
    | true => match A.ic .neq (g8r3 A x2) 0 with
      | true => kk (.tup []) [(413, ⟨[.one (.str x2)], 9, 1⟩), (448, ⟨[], 0, 0⟩), (450, ⟨[.one (.int .i64 (g8r0 A x2)), .one (.str (g8r1 A x2)), .one (.str (g8r2 A x2))], 24, 1⟩), (410, ⟨[.one .nils], 35, 1⟩), (411, ⟨[.one (.int .i64 (g12b3a_r0_0 A (g8r0 A x2) (g8r1 A x2) (g8r2 A x2) (g8r3 A x2) x0 x1 x3 x4 x5 x6))], 25, 1⟩), (412, ⟨[.one (.sl 500 none (g12b3a_r0_1 A (g8r0 A x2) (g8r1 A x2) (g8r2 A x2) (g8r3 A x2) x0 x1 x3 x4 x5 x6) 3)], 35, 1⟩), (500, ⟨[.recs (g12b3a_r0_2 A (g8r0 A x2) (g8r1 A x2) (g8r2 A x2) (g8r3 A x2) x0 x1 x3 x4 x5 x6) [.ints .i64 (g12b3a_r0_3 A (g8r0 A x2) (g8r1 A x2) (g8r2 A x2) (g8r3 A x2) x0 x1 x3 x4 x5 x6), .strs (g12b3a_r0_4 A (g8r0 A x2) (g8r1 A x2) (g8r2 A x2) (g8r3 A x2) x0 x1 x3 x4 x5 x6), .strs (g12b3a_r0_5 A (g8r0 A x2) (g8r1 A x2) (g8r2 A x2) (g8r3 A x2) x0 x1 x3 x4 x5 x6)]], 24, 2⟩)]
      | false => lg12i3L0b (g12b3a_r0_0 A (g8r0 A x2) (g8r1 A x2) (g8r2 A x2) (g8r3 A x2) x0 x1 x3 x4 x5 x6) (g12b3a_r0_1 A (g8r0 A x2) (g8r1 A x2) (g8r2 A x2) (g8r3 A x2) x0 x1 x3 x4 x5 x6) (g8r2 A x2) (g12b3a_r0_2 A (g8r0 A x2) (g8r1 A x2) (g8r2 A x2) (g8r3 A x2) x0 x1 x3 x4 x5 x6) (g12b3a_r0_3 A (g8r0 A x2) (g8r1 A x2) (g8r2 A x2) (g8r3 A x2) x0 x1 x3 x4 x5 x6) (g12b3a_r0_4 A (g8r0 A x2) (g8r1 A x2) (g8r2 A x2) (g8r3 A x2) x0 x1 x3 x4 x5 x6) (g12b3a_r0_5 A (g8r0 A x2) (g8r1 A x2) (g8r2 A x2) (g8r3 A x2) x0 x1 x3 x4 x5 x6)
    | false => match g12b3a_c1 A (g8r0 A x2) (g8r1 A x2) (g8r2 A x2) (g8r3 A x2) x0 x1 x3 x4 x5 x6 with
      | true => kk (.tup []) [(413, ⟨[.one (.str x2)], 9, 1⟩), (448, ⟨[], 1, 0⟩), (450, ⟨[.one (.int .i64 (g8r0 A x2)), .one (.str (g8r1 A x2)), .one (.str (g8r2 A x2))], 24, 1⟩), (410, ⟨[.one .nils], 35, 1⟩), (411, ⟨[.one (.int .i64 (g12b3a_r1_0 A (g8r0 A x2) (g8r1 A x2) (g8r2 A x2) (g8r3 A x2) x0 x1 x3 x4 x5 x6))], 25, 1⟩), (412, ⟨[.one (.sl 500 none (g12b3a_r1_1 A (g8r0 A x2) (g8r1 A x2) (g8r2 A x2) (g8r3 A x2) x0 x1 x3 x4 x5 x6) 3)], 35, 1⟩), (500, ⟨[.recs (g12b3a_r1_2 A (g8r0 A x2) (g8r1 A x2) (g8r2 A x2) (g8r3 A x2) x0 x1 x3 x4 x5 x6) [.ints .i64 (g12b3a_r1_3 A (g8r0 A x2) (g8r1 A x2) (g8r2 A x2) (g8r3 A x2) x0 x1 x3 x4 x5 x6), .strs (g12b3a_r1_4 A (g8r0 A x2) (g8r1 A x2) (g8r2 A x2) (g8r3 A x2) x0 x1 x3 x4 x5 x6), .strs (g12b3a_r1_5 A (g8r0 A x2) (g8r1 A x2) (g8r2 A x2) (g8r3 A x2) x0 x1 x3 x4 x5 x6)]], 24, 2⟩)]
      | false => none
  | false => none
def g12i3L0bs (x0 : Int) (x1 : Nat) (x2 : List Nat) (x3 : Nat) (x4 : List Int) (x5 : List (List Nat)) (x6 : List (List Nat)) : St := ⟨[(0, (.yld 449)), (1, (pT 413 0))], [(410, ⟨[.one .nils], 35, 1⟩), (411, ⟨[.one (.int .i64 x0)], 25, 1⟩), (412, ⟨[.one (.sl 500 none x1 3)], 35, 1⟩), (413, ⟨[.one (.str x2)], 9, 1⟩), (448, ⟨[], 0, 0⟩), (500, ⟨[.recs x3 [.ints .i64 x4, .strs x5, .strs x6]], 24, 2⟩)]⟩
def g12i3L0b {R : Type} (A : Ar) (n : Nat) (kk : AV → Heap → Option R)  : Nat → Int → Nat → List Nat → Nat → List Int → List (List Nat) → List (List Nat) → Option R
  | 0, _, _, _, _, _, _, _ => none
  | m + 1, x0, x1, x2, x3, x4, x5, x6 => match A.sc .neq x2 [] with
  | true => g12i3J1a A n kk (g12i3L0b A n kk  m) x0 x1 x2 x3 x4 x5 x6
  | false => kk (.tup []) [(410, ⟨[.one .nils], 35, 1⟩), (411, ⟨[.one (.int .i64 x0)], 25, 1⟩), (412, ⟨[.one (.sl 500 none x1 3)], 35, 1⟩), (413, ⟨[.one (.str x2)], 9, 1⟩), (448, ⟨[], 0, 0⟩), (500, ⟨[.recs x3 [.ints .i64 x4, .strs x5, .strs x6]], 24, 2⟩)]
def g12i3L0as (x0 : Int) (x1 : Nat) (x2 : List Nat) (x3 : Nat) (x4 : List Int) (x5 : List (List Nat)) (x6 : List (List Nat)) : St := ⟨[(0, (.yld 449)), (1, (pT 413 0))], [(410, ⟨[.one .nils], 35, 1⟩), (411, ⟨[.one (.int .i64 x0)], 25, 1⟩), (412, ⟨[.one (.sl 10003 none x1 3)], 35, 1⟩), (413, ⟨[.one (.str x2)], 9, 1⟩), (448, ⟨[], 0, 0⟩), (10003, ⟨[.recs x3 [.ints .i64 x4, .strs x5, .strs x6]], 24, 2⟩)]⟩
def g12i3L0a {R : Type} (A : Ar) (n : Nat) (kk : AV → Heap → Option R)  : Nat → Int → Nat → List Nat → Nat → List Int → List (List Nat) → List (List Nat) → Option R
  | 0, _, _, _, _, _, _, _ => none
  | m + 1, x0, x1, x2, x3, x4, x5, x6 => match A.sc .neq x2 [] with
  | true => g12i3J1a A n kk (g12i3L0b A n kk  m) x0 x1 x2 x3 x4 x5 x6
  | false => kk (.tup []) [(410, ⟨[.one .nils], 35, 1⟩), (411, ⟨[.one (.int .i64 x0)], 25, 1⟩), (412, ⟨[.one (.sl 10003 none x1 3)], 35, 1⟩), (413, ⟨[.one (.str x2)], 9, 1⟩), (448, ⟨[], 0, 0⟩), (10003, ⟨[.recs x3 [.ints .i64 x4, .strs x5, .strs x6]], 24, 2⟩)]
def g12i3J1s (x0 : Int) (x1 : List Nat) : St := ⟨[(0, (.yld 449)), (1, (pT 413 0))], [(410, ⟨[.one .nils], 35, 1⟩), (411, ⟨[.one (.int .i64 x0)], 25, 1⟩), (412, ⟨[.one .nils], 35, 1⟩), (413, ⟨[.one (.str x1)], 9, 1⟩), (448, ⟨[], 0, 0⟩)]⟩
def g12i3J1 {R : Type} (A : Ar) (n : Nat) (kk : AV → Heap → Option R) (lg12i3L0a : Int → Nat → List Nat → Nat → List Int → List (List Nat) → List (List Nat) → Option R) (x0 : Int) (x1 : List Nat) : Option R :=
  match g8ok A x1 with
  | true => match g12b3c0 A (g8r0 A x1) (g8r1 A x1) (g8r2 A x1) (g8r3 A x1) x0 with
    | true => match A.ic .neq (g8r3 A x1) 0 with
      | true => kk (.tup []) [(413, ⟨[.one (.str x1)], 9, 1⟩), (448, ⟨[], 0, 0⟩), (450, ⟨[.one (.int .i64 (g8r0 A x1)), .one (.str (g8r1 A x1)), .one (.str (g8r2 A x1))], 24, 1⟩), (410, ⟨[.one .nils], 35, 1⟩), (411, ⟨[.one (.int .i64 (g12b3r0_0 A (g8r0 A x1) (g8r1 A x1) (g8r2 A x1) (g8r3 A x1) x0))], 25, 1⟩), (412, ⟨[.one (.sl 10003 none (g12b3r0_1 A (g8r0 A x1) (g8r1 A x1) (g8r2 A x1) (g8r3 A x1) x0) 3)], 35, 1⟩), (10003, ⟨[.recs (g12b3r0_2 A (g8r0 A x1) (g8r1 A x1) (g8r2 A x1) (g8r3 A x1) x0) [.ints .i64 (g12b3r0_3 A (g8r0 A x1) (g8r1 A x1) (g8r2 A x1) (g8r3 A x1) x0), .strs (g12b3r0_4 A (g8r0 A x1) (g8r1 A x1) (g8r2 A x1) (g8r3 A x1) x0), .strs (g12b3r0_5 A (g8r0 A x1) (g8r1 A x1) (g8r2 A x1) (g8r3 A x1) x0)]], 24, 2⟩)]
      | false => lg12i3L0a (g12b3r0_0 A (g8r0 A x1) (g8r1 A x1) (g8r2 A x1) (g8r3 A x1) x0) (g12b3r0_1 A (g8r0 A x1) (g8r1 A x1) (g8r2 A x1) (g8r3 A x1) x0) (g8r2 A x1) (g12b3r0_2 A (g8r0 A x1) (g8r1 A x1) (g8r2 A x1) (g8r3 A x1) x0) (g12b3r0_3 A (g8r0 A x1) (g8r1 A x1) (g8r2 A x1) (g8r3 A x1) x0) (g12b3r0_4 A (g8r0 A x1) (g8r1 A x1) (g8r2 A x1) (g8r3 A x1) x0) (g12b3r0_5 A (g8r0 A x1) (g8r1 A x1) (g8r2 A x1) (g8r3 A x1) x0)
    | false => match g12b3c1 A (g8r0 A x1) (g8r1 A x1) (g8r2 A x1) (g8r3 A x1) x0 with
      | true => kk (.tup []) [(413, ⟨[.one (.str x1)], 9, 1⟩), (448, ⟨[], 1, 0⟩), (450, ⟨[.one (.int .i64 (g8r0 A x1)), .one (.str (g8r1 A x1)), .one (.str (g8r2 A x1))], 24, 1⟩), (410, ⟨[.one .nils], 35, 1⟩), (411, ⟨[.one (.int .i64 (g12b3r1_0 A (g8r0 A x1) (g8r1 A x1) (g8r2 A x1) (g8r3 A x1) x0))], 25, 1⟩), (412, ⟨[.one .nils], 35, 1⟩)]
      | false => none
  | false => none
def g12i3L0s (x0 : Int) (x1 : List Nat) : St := ⟨[(0, (.yld 449)), (1, (pT 413 0))], [(410, ⟨[.one .nils], 35, 1⟩), (411, ⟨[.one (.int .i64 x0)], 25, 1⟩), (412, ⟨[.one .nils], 35, 1⟩), (413, ⟨[.one (.str x1)], 9, 1⟩), (448, ⟨[], 0, 0⟩)]⟩
def g12i3L0 {R : Type} (A : Ar) (n : Nat) (kk : AV → Heap → Option R)  : Nat → Int → List Nat → Option R
  | 0, _, _ => none
  | m + 1, x0, x1 => match A.sc .neq x1 [] with
  | true => g12i3J1 A n kk (g12i3L0a A n kk  m) x0 x1
  | false => kk (.tup []) [(410, ⟨[.one .nils], 35, 1⟩), (411, ⟨[.one (.int .i64 x0)], 25, 1⟩), (412, ⟨[.one .nils], 35, 1⟩), (413, ⟨[.one (.str x1)], 9, 1⟩), (448, ⟨[], 0, 0⟩)]
def g12i3 {R : Type} (A : Ar) (n : Nat) (kk : AV → Heap → Option R) (x0 : Int) (x1 : List Nat) : Option R :=
  g12i3L0 A n kk  n x0 x1
section
variable {R : Type} {A : Ar} {n : Nat} {kk : AV → Heap → Option R} {tb : Nat → List Bool → St → Option R} (st : Stp (g12i3N A kk) tb)
include st
theorem g12i3J1a_go {lg12i3L0b : Int → Nat → List Nat → Nat → List Int → List (List Nat) → List (List Nat) → Option R} (hg12i3L0b : ∀ (x0 : Int) (x1 : Nat) (x2 : List Nat) (x3 : Nat) (x4 : List Int) (x5 : List (List Nat)) (x6 : List (List Nat)), Prs (fun k => tb k (pth 4) (g12i3L0bs x0 x1 x2 x3 x4 x5 x6)) (lg12i3L0b x0 x1 x2 x3 x4 x5 x6)) {x0 : Int} {x1 : Nat} {x2 : List Nat} {x3 : Nat} {x4 : List Int} {x5 : List (List Nat)} {x6 : List (List Nat)} : Prs (fun k => tb k (pth 9) (g12i3J1as x0 x1 x2 x3 x4 x5 x6)) (g12i3J1a A n kk lg12i3L0b x0 x1 x2 x3 x4 x5 x6) := by
  unfold g12i3J1a
  exact st.g (pc (SxP14api _ (SxP14api _ (SxP14api _ (pf _) (hg12i3L0b _ _ _ _ _ _ _)) (SxP14api _ (pf _) pn)) pn) (by kernel_rfl))
theorem g12i3L0b_go (m : Nat) : ∀ (x0 : Int) (x1 : Nat) (x2 : List Nat) (x3 : Nat) (x4 : List Int) (x5 : List (List Nat)) (x6 : List (List Nat)), Prs (fun k => tb k (pth 4) (g12i3L0bs x0 x1 x2 x3 x4 x5 x6)) (g12i3L0b A n kk m x0 x1 x2 x3 x4 x5 x6) := by
  induction m with
  | zero => intro x0 x1 x2 x3 x4 x5 x6; exact pn0
  | succ m ih =>
    intro x0 x1 x2 x3 x4 x5 x6; rw [g12i3L0b]
    exact st.g (pc (SxP14api _ (g12i3J1a_go st ih) (pf _)) (by kernel_rfl))
theorem g12i3L0a_go (m : Nat) : ∀ (x0 : Int) (x1 : Nat) (x2 : List Nat) (x3 : Nat) (x4 : List Int) (x5 : List (List Nat)) (x6 : List (List Nat)), Prs (fun k => tb k (pth 4) (g12i3L0as x0 x1 x2 x3 x4 x5 x6)) (g12i3L0a A n kk m x0 x1 x2 x3 x4 x5 x6) := by
  induction m with
  | zero => intro x0 x1 x2 x3 x4 x5 x6; exact pn0
  | succ m ih =>
    intro x0 x1 x2 x3 x4 x5 x6; rw [g12i3L0a]
    exact st.g (pc (SxP14api _ (g12i3J1a_go st (g12i3L0b_go st m)) (pf _)) (by kernel_rfl))
theorem g12i3J1_go {lg12i3L0a : Int → Nat → List Nat → Nat → List Int → List (List Nat) → List (List Nat) → Option R} (hg12i3L0a : ∀ (x0 : Int) (x1 : Nat) (x2 : List Nat) (x3 : Nat) (x4 : List Int) (x5 : List (List Nat)) (x6 : List (List Nat)), Prs (fun k => tb k (pth 4) (g12i3L0as x0 x1 x2 x3 x4 x5 x6)) (lg12i3L0a x0 x1 x2 x3 x4 x5 x6)) {x0 : Int} {x1 : List Nat} : Prs (fun k => tb k (pth 9) (g12i3J1s x0 x1)) (g12i3J1 A n kk lg12i3L0a x0 x1) := by
  unfold g12i3J1
  exact st.g (pc (SxP14api _ (SxP14api _ (SxP14api _ (pf _) (hg12i3L0a _ _ _ _ _ _ _)) (SxP14api _ (pf _) pn)) pn) (by kernel_rfl))
theorem g12i3L0_go (m : Nat) : ∀ (x0 : Int) (x1 : List Nat), Prs (fun k => tb k (pth 4) (g12i3L0s x0 x1)) (g12i3L0 A n kk m x0 x1) := by
  induction m with
  | zero => intro x0 x1; exact pn0
  | succ m ih =>
    intro x0 x1; rw [g12i3L0]
    exact st.g (pc (SxP14api _ (g12i3J1_go st (g12i3L0a_go st m)) (pf _)) (by kernel_rfl))
theorem g12i3_go {x0 : Int} {x1 : List Nat} : Prs (fun k => funN A gtys (g12i3O A) g12i3an g12i3cut (bodyOf Try.f24) g12i3res [(.yld 449), (pT 413 0)] [(448, ⟨[], 0, 0⟩), (410, ⟨[.one .nils], 35, 1⟩), (411, ⟨[.one (.int .i64 x0)], 25, 1⟩), (412, ⟨[.one .nils], 35, 1⟩), (413, ⟨[.one (.str x1)], 9, 1⟩)] kk (tb k)) (g12i3 A n kk x0 x1) := by
  unfold g12i3
  exact pc (g12i3L0_go st n _ _) (by kernel_rfl)
end
def g12i3v (A : Ar) (x0 : Int) (x1 : List Nat) : Option Heap := g12i3 A (100000) (fun _ h => some (pick h [410, 411, 412, 413, 448, 500, 10003])) x0 x1
def g12i3is0 (o : Option Heap) : Bool := match o with
  | some [(n0, ⟨[.one .nils], n1, n2⟩), (n3, ⟨[.one (.int .i64 _)], n4, n5⟩), (n6, ⟨[.one (.sl n7 none _ n8)], n9, n10⟩), (n11, ⟨[.one (.str _)], n12, n13⟩), (n14, ⟨[], n15, n16⟩), (n17, ⟨[.recs _ [.ints .i64 _, .strs _, .strs _]], n18, n19⟩)] => Nat.beq n0 410 && (Nat.beq n1 35 && (Nat.beq n2 1 && (Nat.beq n3 411 && (Nat.beq n4 25 && (Nat.beq n5 1 && (Nat.beq n6 412 && (Nat.beq n7 500 && (Nat.beq n8 3 && (Nat.beq n9 35 && (Nat.beq n10 1 && (Nat.beq n11 413 && (Nat.beq n12 9 && (Nat.beq n13 1 && (Nat.beq n14 448 && (Nat.beq n15 0 && (Nat.beq n16 0 && (Nat.beq n17 500 && (Nat.beq n18 24 && (Nat.beq n19 2)))))))))))))))))))
  | _ => false
def g12i3g0_0 (o : Option Heap) : Int := match o with
  | some [(_, ⟨[.one .nils], _, _⟩), (_, ⟨[.one (.int .i64 x)], _, _⟩), (_, ⟨[.one (.sl _ none _ _)], _, _⟩), (_, ⟨[.one (.str _)], _, _⟩), (_, ⟨[], _, _⟩), (_, ⟨[.recs _ [.ints .i64 _, .strs _, .strs _]], _, _⟩)] => x
  | _ => 0
def g12i3g0_1 (o : Option Heap) : Nat := match o with
  | some [(_, ⟨[.one .nils], _, _⟩), (_, ⟨[.one (.int .i64 _)], _, _⟩), (_, ⟨[.one (.sl _ none x _)], _, _⟩), (_, ⟨[.one (.str _)], _, _⟩), (_, ⟨[], _, _⟩), (_, ⟨[.recs _ [.ints .i64 _, .strs _, .strs _]], _, _⟩)] => x
  | _ => 0
def g12i3g0_2 (o : Option Heap) : List Nat := match o with
  | some [(_, ⟨[.one .nils], _, _⟩), (_, ⟨[.one (.int .i64 _)], _, _⟩), (_, ⟨[.one (.sl _ none _ _)], _, _⟩), (_, ⟨[.one (.str x)], _, _⟩), (_, ⟨[], _, _⟩), (_, ⟨[.recs _ [.ints .i64 _, .strs _, .strs _]], _, _⟩)] => x
  | _ => []
def g12i3g0_3 (o : Option Heap) : Nat := match o with
  | some [(_, ⟨[.one .nils], _, _⟩), (_, ⟨[.one (.int .i64 _)], _, _⟩), (_, ⟨[.one (.sl _ none _ _)], _, _⟩), (_, ⟨[.one (.str _)], _, _⟩), (_, ⟨[], _, _⟩), (_, ⟨[.recs x [.ints .i64 _, .strs _, .strs _]], _, _⟩)] => x
  | _ => 0
def g12i3g0_4 (o : Option Heap) : List Int := match o with
  | some [(_, ⟨[.one .nils], _, _⟩), (_, ⟨[.one (.int .i64 _)], _, _⟩), (_, ⟨[.one (.sl _ none _ _)], _, _⟩), (_, ⟨[.one (.str _)], _, _⟩), (_, ⟨[], _, _⟩), (_, ⟨[.recs _ [.ints .i64 x, .strs _, .strs _]], _, _⟩)] => x
  | _ => []
def g12i3g0_5 (o : Option Heap) : List (List Nat) := match o with
  | some [(_, ⟨[.one .nils], _, _⟩), (_, ⟨[.one (.int .i64 _)], _, _⟩), (_, ⟨[.one (.sl _ none _ _)], _, _⟩), (_, ⟨[.one (.str _)], _, _⟩), (_, ⟨[], _, _⟩), (_, ⟨[.recs _ [.ints .i64 _, .strs x, .strs _]], _, _⟩)] => x
  | _ => []
def g12i3g0_6 (o : Option Heap) : List (List Nat) := match o with
  | some [(_, ⟨[.one .nils], _, _⟩), (_, ⟨[.one (.int .i64 _)], _, _⟩), (_, ⟨[.one (.sl _ none _ _)], _, _⟩), (_, ⟨[.one (.str _)], _, _⟩), (_, ⟨[], _, _⟩), (_, ⟨[.recs _ [.ints .i64 _, .strs _, .strs x]], _, _⟩)] => x
  | _ => []
theorem g12i3is0_spec {o : Option Heap} (h : g12i3is0 o = true) : o = some [(410, ⟨[.one .nils], 35, 1⟩), (411, ⟨[.one (.int .i64 (g12i3g0_0 o))], 25, 1⟩), (412, ⟨[.one (.sl 500 none (g12i3g0_1 o) 3)], 35, 1⟩), (413, ⟨[.one (.str (g12i3g0_2 o))], 9, 1⟩), (448, ⟨[], 0, 0⟩), (500, ⟨[.recs (g12i3g0_3 o) [.ints .i64 (g12i3g0_4 o), .strs (g12i3g0_5 o), .strs (g12i3g0_6 o)]], 24, 2⟩)] := by
  unfold g12i3is0 at h
  split at h
  · rename_i n0 n1 n2 n3 z4 n4 n5 n6 n7 z9 n8 n9 n10 n11 z14 n12 n13 n14 n15 n16 n17 z21 z22 z23 z24 n18 n19
    simp only [Bool.and_eq_true] at h
    have en0 := beq_true h.1
    subst en0
    replace h := h.2
    have en1 := beq_true h.1
    subst en1
    replace h := h.2
    have en2 := beq_true h.1
    subst en2
    replace h := h.2
    have en3 := beq_true h.1
    subst en3
    replace h := h.2
    have en4 := beq_true h.1
    subst en4
    replace h := h.2
    have en5 := beq_true h.1
    subst en5
    replace h := h.2
    have en6 := beq_true h.1
    subst en6
    replace h := h.2
    have en7 := beq_true h.1
    subst en7
    replace h := h.2
    have en8 := beq_true h.1
    subst en8
    replace h := h.2
    have en9 := beq_true h.1
    subst en9
    replace h := h.2
    have en10 := beq_true h.1
    subst en10
    replace h := h.2
    have en11 := beq_true h.1
    subst en11
    replace h := h.2
    have en12 := beq_true h.1
    subst en12
    replace h := h.2
    have en13 := beq_true h.1
    subst en13
    replace h := h.2
    have en14 := beq_true h.1
    subst en14
    replace h := h.2
    have en15 := beq_true h.1
    subst en15
    replace h := h.2
    have en16 := beq_true h.1
    subst en16
    replace h := h.2
    have en17 := beq_true h.1
    subst en17
    replace h := h.2
    have en18 := beq_true h.1
    subst en18
    replace h := h.2
    have en19 := beq_true h
    subst en19
    rfl
  · cases h
def g12i3c0 (A : Ar) (x0 : Int) (x1 : List Nat) : Bool := g12i3is0 (g12i3v A x0 x1)
def g12i3r0_0 (A : Ar) (x0 : Int) (x1 : List Nat) : Int := g12i3g0_0 (g12i3v A x0 x1)
def g12i3r0_1 (A : Ar) (x0 : Int) (x1 : List Nat) : Nat := g12i3g0_1 (g12i3v A x0 x1)
def g12i3r0_2 (A : Ar) (x0 : Int) (x1 : List Nat) : List Nat := g12i3g0_2 (g12i3v A x0 x1)
def g12i3r0_3 (A : Ar) (x0 : Int) (x1 : List Nat) : Nat := g12i3g0_3 (g12i3v A x0 x1)
def g12i3r0_4 (A : Ar) (x0 : Int) (x1 : List Nat) : List Int := g12i3g0_4 (g12i3v A x0 x1)
def g12i3r0_5 (A : Ar) (x0 : Int) (x1 : List Nat) : List (List Nat) := g12i3g0_5 (g12i3v A x0 x1)
def g12i3r0_6 (A : Ar) (x0 : Int) (x1 : List Nat) : List (List Nat) := g12i3g0_6 (g12i3v A x0 x1)
def g12i3is1 (o : Option Heap) : Bool := match o with
  | some [(n0, ⟨[.one .nils], n1, n2⟩), (n3, ⟨[.one (.int .i64 _)], n4, n5⟩), (n6, ⟨[.one (.sl n7 none _ n8)], n9, n10⟩), (n11, ⟨[.one (.str _)], n12, n13⟩), (n14, ⟨[], n15, n16⟩), (n17, ⟨[.recs _ [.ints .i64 _, .strs _, .strs _]], n18, n19⟩)] => Nat.beq n0 410 && (Nat.beq n1 35 && (Nat.beq n2 1 && (Nat.beq n3 411 && (Nat.beq n4 25 && (Nat.beq n5 1 && (Nat.beq n6 412 && (Nat.beq n7 500 && (Nat.beq n8 3 && (Nat.beq n9 35 && (Nat.beq n10 1 && (Nat.beq n11 413 && (Nat.beq n12 9 && (Nat.beq n13 1 && (Nat.beq n14 448 && (Nat.beq n15 1 && (Nat.beq n16 0 && (Nat.beq n17 500 && (Nat.beq n18 24 && (Nat.beq n19 2)))))))))))))))))))
  | _ => false
def g12i3g1_0 (o : Option Heap) : Int := match o with
  | some [(_, ⟨[.one .nils], _, _⟩), (_, ⟨[.one (.int .i64 x)], _, _⟩), (_, ⟨[.one (.sl _ none _ _)], _, _⟩), (_, ⟨[.one (.str _)], _, _⟩), (_, ⟨[], _, _⟩), (_, ⟨[.recs _ [.ints .i64 _, .strs _, .strs _]], _, _⟩)] => x
  | _ => 0
def g12i3g1_1 (o : Option Heap) : Nat := match o with
  | some [(_, ⟨[.one .nils], _, _⟩), (_, ⟨[.one (.int .i64 _)], _, _⟩), (_, ⟨[.one (.sl _ none x _)], _, _⟩), (_, ⟨[.one (.str _)], _, _⟩), (_, ⟨[], _, _⟩), (_, ⟨[.recs _ [.ints .i64 _, .strs _, .strs _]], _, _⟩)] => x
  | _ => 0
def g12i3g1_2 (o : Option Heap) : List Nat := match o with
  | some [(_, ⟨[.one .nils], _, _⟩), (_, ⟨[.one (.int .i64 _)], _, _⟩), (_, ⟨[.one (.sl _ none _ _)], _, _⟩), (_, ⟨[.one (.str x)], _, _⟩), (_, ⟨[], _, _⟩), (_, ⟨[.recs _ [.ints .i64 _, .strs _, .strs _]], _, _⟩)] => x
  | _ => []
def g12i3g1_3 (o : Option Heap) : Nat := match o with
  | some [(_, ⟨[.one .nils], _, _⟩), (_, ⟨[.one (.int .i64 _)], _, _⟩), (_, ⟨[.one (.sl _ none _ _)], _, _⟩), (_, ⟨[.one (.str _)], _, _⟩), (_, ⟨[], _, _⟩), (_, ⟨[.recs x [.ints .i64 _, .strs _, .strs _]], _, _⟩)] => x
  | _ => 0
def g12i3g1_4 (o : Option Heap) : List Int := match o with
  | some [(_, ⟨[.one .nils], _, _⟩), (_, ⟨[.one (.int .i64 _)], _, _⟩), (_, ⟨[.one (.sl _ none _ _)], _, _⟩), (_, ⟨[.one (.str _)], _, _⟩), (_, ⟨[], _, _⟩), (_, ⟨[.recs _ [.ints .i64 x, .strs _, .strs _]], _, _⟩)] => x
  | _ => []
def g12i3g1_5 (o : Option Heap) : List (List Nat) := match o with
  | some [(_, ⟨[.one .nils], _, _⟩), (_, ⟨[.one (.int .i64 _)], _, _⟩), (_, ⟨[.one (.sl _ none _ _)], _, _⟩), (_, ⟨[.one (.str _)], _, _⟩), (_, ⟨[], _, _⟩), (_, ⟨[.recs _ [.ints .i64 _, .strs x, .strs _]], _, _⟩)] => x
  | _ => []
def g12i3g1_6 (o : Option Heap) : List (List Nat) := match o with
  | some [(_, ⟨[.one .nils], _, _⟩), (_, ⟨[.one (.int .i64 _)], _, _⟩), (_, ⟨[.one (.sl _ none _ _)], _, _⟩), (_, ⟨[.one (.str _)], _, _⟩), (_, ⟨[], _, _⟩), (_, ⟨[.recs _ [.ints .i64 _, .strs _, .strs x]], _, _⟩)] => x
  | _ => []
theorem g12i3is1_spec {o : Option Heap} (h : g12i3is1 o = true) : o = some [(410, ⟨[.one .nils], 35, 1⟩), (411, ⟨[.one (.int .i64 (g12i3g1_0 o))], 25, 1⟩), (412, ⟨[.one (.sl 500 none (g12i3g1_1 o) 3)], 35, 1⟩), (413, ⟨[.one (.str (g12i3g1_2 o))], 9, 1⟩), (448, ⟨[], 1, 0⟩), (500, ⟨[.recs (g12i3g1_3 o) [.ints .i64 (g12i3g1_4 o), .strs (g12i3g1_5 o), .strs (g12i3g1_6 o)]], 24, 2⟩)] := by
  unfold g12i3is1 at h
  split at h
  · rename_i n0 n1 n2 n3 z4 n4 n5 n6 n7 z9 n8 n9 n10 n11 z14 n12 n13 n14 n15 n16 n17 z21 z22 z23 z24 n18 n19
    simp only [Bool.and_eq_true] at h
    have en0 := beq_true h.1
    subst en0
    replace h := h.2
    have en1 := beq_true h.1
    subst en1
    replace h := h.2
    have en2 := beq_true h.1
    subst en2
    replace h := h.2
    have en3 := beq_true h.1
    subst en3
    replace h := h.2
    have en4 := beq_true h.1
    subst en4
    replace h := h.2
    have en5 := beq_true h.1
    subst en5
    replace h := h.2
    have en6 := beq_true h.1
    subst en6
    replace h := h.2
    have en7 := beq_true h.1
    subst en7
    replace h := h.2
    have en8 := beq_true h.1
    subst en8
    replace h := h.2
    have en9 := beq_true h.1
    subst en9
    replace h := h.2
    have en10 := beq_true h.1
    subst en10
    replace h := h.2
    have en11 := beq_true h.1
    subst en11
    replace h := h.2
    have en12 := beq_true h.1
    subst en12
    replace h := h.2
    have en13 := beq_true h.1
    subst en13
    replace h := h.2
    have en14 := beq_true h.1
    subst en14
    replace h := h.2
    have en15 := beq_true h.1
    subst en15
    replace h := h.2
    have en16 := beq_true h.1
    subst en16
    replace h := h.2
    have en17 := beq_true h.1
    subst en17
    replace h := h.2
    have en18 := beq_true h.1
    subst en18
    replace h := h.2
    have en19 := beq_true h
    subst en19
    rfl
  · cases h
def g12i3c1 (A : Ar) (x0 : Int) (x1 : List Nat) : Bool := g12i3is1 (g12i3v A x0 x1)
def g12i3r1_0 (A : Ar) (x0 : Int) (x1 : List Nat) : Int := g12i3g1_0 (g12i3v A x0 x1)
def g12i3r1_1 (A : Ar) (x0 : Int) (x1 : List Nat) : Nat := g12i3g1_1 (g12i3v A x0 x1)
def g12i3r1_2 (A : Ar) (x0 : Int) (x1 : List Nat) : List Nat := g12i3g1_2 (g12i3v A x0 x1)
def g12i3r1_3 (A : Ar) (x0 : Int) (x1 : List Nat) : Nat := g12i3g1_3 (g12i3v A x0 x1)
def g12i3r1_4 (A : Ar) (x0 : Int) (x1 : List Nat) : List Int := g12i3g1_4 (g12i3v A x0 x1)
def g12i3r1_5 (A : Ar) (x0 : Int) (x1 : List Nat) : List (List Nat) := g12i3g1_5 (g12i3v A x0 x1)
def g12i3r1_6 (A : Ar) (x0 : Int) (x1 : List Nat) : List (List Nat) := g12i3g1_6 (g12i3v A x0 x1)
def g12i3is2 (o : Option Heap) : Bool := match o with
  | some [(n0, ⟨[.one .nils], n1, n2⟩), (n3, ⟨[.one (.int .i64 _)], n4, n5⟩), (n6, ⟨[.one (.sl n7 none _ n8)], n9, n10⟩), (n11, ⟨[.one (.str _)], n12, n13⟩), (n14, ⟨[], n15, n16⟩), (n17, ⟨[.recs _ [.ints .i64 _, .strs _, .strs _]], n18, n19⟩)] => Nat.beq n0 410 && (Nat.beq n1 35 && (Nat.beq n2 1 && (Nat.beq n3 411 && (Nat.beq n4 25 && (Nat.beq n5 1 && (Nat.beq n6 412 && (Nat.beq n7 10003 && (Nat.beq n8 3 && (Nat.beq n9 35 && (Nat.beq n10 1 && (Nat.beq n11 413 && (Nat.beq n12 9 && (Nat.beq n13 1 && (Nat.beq n14 448 && (Nat.beq n15 0 && (Nat.beq n16 0 && (Nat.beq n17 10003 && (Nat.beq n18 24 && (Nat.beq n19 2)))))))))))))))))))
  | _ => false
def g12i3g2_0 (o : Option Heap) : Int := match o with
  | some [(_, ⟨[.one .nils], _, _⟩), (_, ⟨[.one (.int .i64 x)], _, _⟩), (_, ⟨[.one (.sl _ none _ _)], _, _⟩), (_, ⟨[.one (.str _)], _, _⟩), (_, ⟨[], _, _⟩), (_, ⟨[.recs _ [.ints .i64 _, .strs _, .strs _]], _, _⟩)] => x
  | _ => 0
def g12i3g2_1 (o : Option Heap) : Nat := match o with
  | some [(_, ⟨[.one .nils], _, _⟩), (_, ⟨[.one (.int .i64 _)], _, _⟩), (_, ⟨[.one (.sl _ none x _)], _, _⟩), (_, ⟨[.one (.str _)], _, _⟩), (_, ⟨[], _, _⟩), (_, ⟨[.recs _ [.ints .i64 _, .strs _, .strs _]], _, _⟩)] => x
  | _ => 0
def g12i3g2_2 (o : Option Heap) : List Nat := match o with
  | some [(_, ⟨[.one .nils], _, _⟩), (_, ⟨[.one (.int .i64 _)], _, _⟩), (_, ⟨[.one (.sl _ none _ _)], _, _⟩), (_, ⟨[.one (.str x)], _, _⟩), (_, ⟨[], _, _⟩), (_, ⟨[.recs _ [.ints .i64 _, .strs _, .strs _]], _, _⟩)] => x
  | _ => []
def g12i3g2_3 (o : Option Heap) : Nat := match o with
  | some [(_, ⟨[.one .nils], _, _⟩), (_, ⟨[.one (.int .i64 _)], _, _⟩), (_, ⟨[.one (.sl _ none _ _)], _, _⟩), (_, ⟨[.one (.str _)], _, _⟩), (_, ⟨[], _, _⟩), (_, ⟨[.recs x [.ints .i64 _, .strs _, .strs _]], _, _⟩)] => x
  | _ => 0
def g12i3g2_4 (o : Option Heap) : List Int := match o with
  | some [(_, ⟨[.one .nils], _, _⟩), (_, ⟨[.one (.int .i64 _)], _, _⟩), (_, ⟨[.one (.sl _ none _ _)], _, _⟩), (_, ⟨[.one (.str _)], _, _⟩), (_, ⟨[], _, _⟩), (_, ⟨[.recs _ [.ints .i64 x, .strs _, .strs _]], _, _⟩)] => x
  | _ => []
def g12i3g2_5 (o : Option Heap) : List (List Nat) := match o with
  | some [(_, ⟨[.one .nils], _, _⟩), (_, ⟨[.one (.int .i64 _)], _, _⟩), (_, ⟨[.one (.sl _ none _ _)], _, _⟩), (_, ⟨[.one (.str _)], _, _⟩), (_, ⟨[], _, _⟩), (_, ⟨[.recs _ [.ints .i64 _, .strs x, .strs _]], _, _⟩)] => x
  | _ => []
def g12i3g2_6 (o : Option Heap) : List (List Nat) := match o with
  | some [(_, ⟨[.one .nils], _, _⟩), (_, ⟨[.one (.int .i64 _)], _, _⟩), (_, ⟨[.one (.sl _ none _ _)], _, _⟩), (_, ⟨[.one (.str _)], _, _⟩), (_, ⟨[], _, _⟩), (_, ⟨[.recs _ [.ints .i64 _, .strs _, .strs x]], _, _⟩)] => x
  | _ => []
theorem g12i3is2_spec {o : Option Heap} (h : g12i3is2 o = true) : o = some [(410, ⟨[.one .nils], 35, 1⟩), (411, ⟨[.one (.int .i64 (g12i3g2_0 o))], 25, 1⟩), (412, ⟨[.one (.sl 10003 none (g12i3g2_1 o) 3)], 35, 1⟩), (413, ⟨[.one (.str (g12i3g2_2 o))], 9, 1⟩), (448, ⟨[], 0, 0⟩), (10003, ⟨[.recs (g12i3g2_3 o) [.ints .i64 (g12i3g2_4 o), .strs (g12i3g2_5 o), .strs (g12i3g2_6 o)]], 24, 2⟩)] := by
  unfold g12i3is2 at h
  split at h
  · rename_i n0 n1 n2 n3 z4 n4 n5 n6 n7 z9 n8 n9 n10 n11 z14 n12 n13 n14 n15 n16 n17 z21 z22 z23 z24 n18 n19
    simp only [Bool.and_eq_true] at h
    have en0 := beq_true h.1
    subst en0
    replace h := h.2
    have en1 := beq_true h.1
    subst en1
    replace h := h.2
    have en2 := beq_true h.1
    subst en2
    replace h := h.2
    have en3 := beq_true h.1
    subst en3
    replace h := h.2
    have en4 := beq_true h.1
    subst en4
    replace h := h.2
    have en5 := beq_true h.1
    subst en5
    replace h := h.2
    have en6 := beq_true h.1
    subst en6
    replace h := h.2
    have en7 := beq_true h.1
    subst en7
    replace h := h.2
    have en8 := beq_true h.1
    subst en8
    replace h := h.2
    have en9 := beq_true h.1
    subst en9
    replace h := h.2
    have en10 := beq_true h.1
    subst en10
    replace h := h.2
    have en11 := beq_true h.1
    subst en11
    replace h := h.2
    have en12 := beq_true h.1
    subst en12
    replace h := h.2
    have en13 := beq_true h.1
    subst en13
    replace h := h.2
    have en14 := beq_true h.1
    subst en14
    replace h := h.2
    have en15 := beq_true h.1
    subst en15
    replace h := h.2
    have en16 := beq_true h.1
    subst en16
    replace h := h.2
    have en17 := beq_true h.1
    subst en17
    replace h := h.2
    have en18 := beq_true h.1
    subst en18
    replace h := h.2
    have en19 := beq_true h
    subst en19
    rfl
  · cases h
def g12i3c2 (A : Ar) (x0 : Int) (x1 : List Nat) : Bool := g12i3is2 (g12i3v A x0 x1)
def g12i3r2_0 (A : Ar) (x0 : Int) (x1 : List Nat) : Int := g12i3g2_0 (g12i3v A x0 x1)
def g12i3r2_1 (A : Ar) (x0 : Int) (x1 : List Nat) : Nat := g12i3g2_1 (g12i3v A x0 x1)
def g12i3r2_2 (A : Ar) (x0 : Int) (x1 : List Nat) : List Nat := g12i3g2_2 (g12i3v A x0 x1)
def g12i3r2_3 (A : Ar) (x0 : Int) (x1 : List Nat) : Nat := g12i3g2_3 (g12i3v A x0 x1)
def g12i3r2_4 (A : Ar) (x0 : Int) (x1 : List Nat) : List Int := g12i3g2_4 (g12i3v A x0 x1)
def g12i3r2_5 (A : Ar) (x0 : Int) (x1 : List Nat) : List (List Nat) := g12i3g2_5 (g12i3v A x0 x1)
def g12i3r2_6 (A : Ar) (x0 : Int) (x1 : List Nat) : List (List Nat) := g12i3g2_6 (g12i3v A x0 x1)
def g12i3is3 (o : Option Heap) : Bool := match o with
  | some [(n0, ⟨[.one .nils], n1, n2⟩), (n3, ⟨[.one (.int .i64 _)], n4, n5⟩), (n6, ⟨[.one .nils], n7, n8⟩), (n9, ⟨[.one (.str _)], n10, n11⟩), (n12, ⟨[], n13, n14⟩)] => Nat.beq n0 410 && (Nat.beq n1 35 && (Nat.beq n2 1 && (Nat.beq n3 411 && (Nat.beq n4 25 && (Nat.beq n5 1 && (Nat.beq n6 412 && (Nat.beq n7 35 && (Nat.beq n8 1 && (Nat.beq n9 413 && (Nat.beq n10 9 && (Nat.beq n11 1 && (Nat.beq n12 448 && (Nat.beq n13 1 && (Nat.beq n14 0))))))))))))))
  | _ => false
def g12i3g3_0 (o : Option Heap) : Int := match o with
  | some [(_, ⟨[.one .nils], _, _⟩), (_, ⟨[.one (.int .i64 x)], _, _⟩), (_, ⟨[.one .nils], _, _⟩), (_, ⟨[.one (.str _)], _, _⟩), (_, ⟨[], _, _⟩)] => x
  | _ => 0
def g12i3g3_1 (o : Option Heap) : List Nat := match o with
  | some [(_, ⟨[.one .nils], _, _⟩), (_, ⟨[.one (.int .i64 _)], _, _⟩), (_, ⟨[.one .nils], _, _⟩), (_, ⟨[.one (.str x)], _, _⟩), (_, ⟨[], _, _⟩)] => x
  | _ => []
theorem g12i3is3_spec {o : Option Heap} (h : g12i3is3 o = true) : o = some [(410, ⟨[.one .nils], 35, 1⟩), (411, ⟨[.one (.int .i64 (g12i3g3_0 o))], 25, 1⟩), (412, ⟨[.one .nils], 35, 1⟩), (413, ⟨[.one (.str (g12i3g3_1 o))], 9, 1⟩), (448, ⟨[], 1, 0⟩)] := by
  unfold g12i3is3 at h
  split at h
  · rename_i n0 n1 n2 n3 z4 n4 n5 n6 n7 n8 n9 z11 n10 n11 n12 n13 n14
    simp only [Bool.and_eq_true] at h
    have en0 := beq_true h.1
    subst en0
    replace h := h.2
    have en1 := beq_true h.1
    subst en1
    replace h := h.2
    have en2 := beq_true h.1
    subst en2
    replace h := h.2
    have en3 := beq_true h.1
    subst en3
    replace h := h.2
    have en4 := beq_true h.1
    subst en4
    replace h := h.2
    have en5 := beq_true h.1
    subst en5
    replace h := h.2
    have en6 := beq_true h.1
    subst en6
    replace h := h.2
    have en7 := beq_true h.1
    subst en7
    replace h := h.2
    have en8 := beq_true h.1
    subst en8
    replace h := h.2
    have en9 := beq_true h.1
    subst en9
    replace h := h.2
    have en10 := beq_true h.1
    subst en10
    replace h := h.2
    have en11 := beq_true h.1
    subst en11
    replace h := h.2
    have en12 := beq_true h.1
    subst en12
    replace h := h.2
    have en13 := beq_true h.1
    subst en13
    replace h := h.2
    have en14 := beq_true h
    subst en14
    rfl
  · cases h
def g12i3c3 (A : Ar) (x0 : Int) (x1 : List Nat) : Bool := g12i3is3 (g12i3v A x0 x1)
def g12i3r3_0 (A : Ar) (x0 : Int) (x1 : List Nat) : Int := g12i3g3_0 (g12i3v A x0 x1)
def g12i3r3_1 (A : Ar) (x0 : Int) (x1 : List Nat) : List Nat := g12i3g3_1 (g12i3v A x0 x1)
def g12i3is4 (o : Option Heap) : Bool := match o with
  | some [(n0, ⟨[.one .nils], n1, n2⟩), (n3, ⟨[.one (.int .i64 _)], n4, n5⟩), (n6, ⟨[.one .nils], n7, n8⟩), (n9, ⟨[.one (.str _)], n10, n11⟩), (n12, ⟨[], n13, n14⟩)] => Nat.beq n0 410 && (Nat.beq n1 35 && (Nat.beq n2 1 && (Nat.beq n3 411 && (Nat.beq n4 25 && (Nat.beq n5 1 && (Nat.beq n6 412 && (Nat.beq n7 35 && (Nat.beq n8 1 && (Nat.beq n9 413 && (Nat.beq n10 9 && (Nat.beq n11 1 && (Nat.beq n12 448 && (Nat.beq n13 0 && (Nat.beq n14 0))))))))))))))
  | _ => false
def g12i3g4_0 (o : Option Heap) : Int := match o with
  | some [(_, ⟨[.one .nils], _, _⟩), (_, ⟨[.one (.int .i64 x)], _, _⟩), (_, ⟨[.one .nils], _, _⟩), (_, ⟨[.one (.str _)], _, _⟩), (_, ⟨[], _, _⟩)] => x
  | _ => 0
def g12i3g4_1 (o : Option Heap) : List Nat := match o with
  | some [(_, ⟨[.one .nils], _, _⟩), (_, ⟨[.one (.int .i64 _)], _, _⟩), (_, ⟨[.one .nils], _, _⟩), (_, ⟨[.one (.str x)], _, _⟩), (_, ⟨[], _, _⟩)] => x
  | _ => []
theorem g12i3is4_spec {o : Option Heap} (h : g12i3is4 o = true) : o = some [(410, ⟨[.one .nils], 35, 1⟩), (411, ⟨[.one (.int .i64 (g12i3g4_0 o))], 25, 1⟩), (412, ⟨[.one .nils], 35, 1⟩), (413, ⟨[.one (.str (g12i3g4_1 o))], 9, 1⟩), (448, ⟨[], 0, 0⟩)] := by
  unfold g12i3is4 at h
  split at h
  · rename_i n0 n1 n2 n3 z4 n4 n5 n6 n7 n8 n9 z11 n10 n11 n12 n13 n14
    simp only [Bool.and_eq_true] at h
    have en0 := beq_true h.1
    subst en0
    replace h := h.2
    have en1 := beq_true h.1
    subst en1
    replace h := h.2
    have en2 := beq_true h.1
    subst en2
    replace h := h.2
    have en3 := beq_true h.1
    subst en3
    replace h := h.2
    have en4 := beq_true h.1
    subst en4
    replace h := h.2
    have en5 := beq_true h.1
    subst en5
    replace h := h.2
    have en6 := beq_true h.1
    subst en6
    replace h := h.2
    have en7 := beq_true h.1
    subst en7
    replace h := h.2
    have en8 := beq_true h.1
    subst en8
    replace h := h.2
    have en9 := beq_true h.1
    subst en9
    replace h := h.2
    have en10 := beq_true h.1
    subst en10
    replace h := h.2
    have en11 := beq_true h.1
    subst en11
    replace h := h.2
    have en12 := beq_true h.1
    subst en12
    replace h := h.2
    have en13 := beq_true h.1
    subst en13
    replace h := h.2
    have en14 := beq_true h
    subst en14
    rfl
  · cases h
def g12i3c4 (A : Ar) (x0 : Int) (x1 : List Nat) : Bool := g12i3is4 (g12i3v A x0 x1)
def g12i3r4_0 (A : Ar) (x0 : Int) (x1 : List Nat) : Int := g12i3g4_0 (g12i3v A x0 x1)
def g12i3r4_1 (A : Ar) (x0 : Int) (x1 : List Nat) : List Nat := g12i3g4_1 (g12i3v A x0 x1)
def g12i3F (F : Int → List Nat → Option Heap) (sl : Slots) (caps : List V1) (h : Heap) : Option Heap := match sl, caps, h with
  | [(n0, .v (.cell (.ptr n1 n2 none))), (n3, .v (.cell (.ptr n4 n5 none))), (n6, .v (.cell (.ptr n7 n8 none))), (n9, .fn n10 [] [(.cell (.ptr n11 n12 none))])], [(.cell (.ptr n13 n14 none))], [(n15, ⟨[], n16, n17⟩), (n18, ⟨[.one .nils], n19, n20⟩), (n21, ⟨[.one (.int .i64 x0)], n22, n23⟩), (n24, ⟨[.one .nils], n25, n26⟩), (n27, ⟨[.one (.str x1)], n28, n29⟩)] => match Nat.beq n0 2 && (Nat.beq n1 410 && (Nat.beq n2 0 && (Nat.beq n3 3 && (Nat.beq n4 411 && (Nat.beq n5 0 && (Nat.beq n6 4 && (Nat.beq n7 412 && (Nat.beq n8 0 && (Nat.beq n9 8 && (Nat.beq n10 24 && (Nat.beq n11 413 && (Nat.beq n12 0 && (Nat.beq n13 413 && (Nat.beq n14 0 && (Nat.beq n15 448 && (Nat.beq n16 0 && (Nat.beq n17 0 && (Nat.beq n18 410 && (Nat.beq n19 35 && (Nat.beq n20 1 && (Nat.beq n21 411 && (Nat.beq n22 25 && (Nat.beq n23 1 && (Nat.beq n24 412 && (Nat.beq n25 35 && (Nat.beq n26 1 && (Nat.beq n27 413 && (Nat.beq n28 9 && (Nat.beq n29 1))))))))))))))))))))))))))))) with
    | true => F x0 x1
    | false => none
  | _, _, _ => none
def g12R3 (A : Ar) (v : AV) (sl : Slots) (h : Heap) : GL (Ex × Heap) := match v, sl, h with
  | .fn n13 [] [(.cell (.ptr n14 n15 none))], [(n0, .v (.cell (.ptr n1 n2 none))), (n3, .v (.cell (.ptr n4 n5 none))), (n6, .v (.cell (.ptr n7 n8 none))), (n9, .fn n10 [] [(.cell (.ptr n11 n12 none))])], [(n16, ⟨[.one .nils], n17, n18⟩), (n19, ⟨[.one (.int .i64 x0)], n20, n21⟩), (n22, ⟨[.one .nils], n23, n24⟩), (n25, ⟨[.one (.str x1)], n26, n27⟩)] => match Nat.beq n0 2 && (Nat.beq n1 410 && (Nat.beq n2 0 && (Nat.beq n3 3 && (Nat.beq n4 411 && (Nat.beq n5 0 && (Nat.beq n6 4 && (Nat.beq n7 412 && (Nat.beq n8 0 && (Nat.beq n9 8 && (Nat.beq n10 24 && (Nat.beq n11 413 && (Nat.beq n12 0 && (Nat.beq n13 24 && (Nat.beq n14 413 && (Nat.beq n15 0 && (Nat.beq n16 410 && (Nat.beq n17 35 && (Nat.beq n18 1 && (Nat.beq n19 411 && (Nat.beq n20 25 && (Nat.beq n21 1 && (Nat.beq n22 412 && (Nat.beq n23 35 && (Nat.beq n24 1 && (Nat.beq n25 413 && (Nat.beq n26 9 && (Nat.beq n27 1))))))))))))))))))))))))))) with
    | true => [(g12i3c0 A x0 x1, some (.normal, [(410, ⟨[.one .nils], 35, 1⟩), (411, ⟨[.one (.int .i64 (g12i3r0_0 A x0 x1))], 25, 1⟩), (412, ⟨[.one (.sl 500 none (g12i3r0_1 A x0 x1) 3)], 35, 1⟩), (413, ⟨[.one (.str (g12i3r0_2 A x0 x1))], 9, 1⟩), (500, ⟨[.recs (g12i3r0_3 A x0 x1) [.ints .i64 (g12i3r0_4 A x0 x1), .strs (g12i3r0_5 A x0 x1), .strs (g12i3r0_6 A x0 x1)]], 24, 2⟩)])),
    (g12i3c1 A x0 x1, some (.ret, [(410, ⟨[.one .nils], 35, 1⟩), (411, ⟨[.one (.int .i64 (g12i3r1_0 A x0 x1))], 25, 1⟩), (412, ⟨[.one (.sl 500 none (g12i3r1_1 A x0 x1) 3)], 35, 1⟩), (413, ⟨[.one (.str (g12i3r1_2 A x0 x1))], 9, 1⟩), (500, ⟨[.recs (g12i3r1_3 A x0 x1) [.ints .i64 (g12i3r1_4 A x0 x1), .strs (g12i3r1_5 A x0 x1), .strs (g12i3r1_6 A x0 x1)]], 24, 2⟩)])),
    (g12i3c2 A x0 x1, some (.normal, [(410, ⟨[.one .nils], 35, 1⟩), (411, ⟨[.one (.int .i64 (g12i3r2_0 A x0 x1))], 25, 1⟩), (412, ⟨[.one (.sl 10003 none (g12i3r2_1 A x0 x1) 3)], 35, 1⟩), (413, ⟨[.one (.str (g12i3r2_2 A x0 x1))], 9, 1⟩), (10003, ⟨[.recs (g12i3r2_3 A x0 x1) [.ints .i64 (g12i3r2_4 A x0 x1), .strs (g12i3r2_5 A x0 x1), .strs (g12i3r2_6 A x0 x1)]], 24, 2⟩)])),
    (g12i3c3 A x0 x1, some (.ret, [(410, ⟨[.one .nils], 35, 1⟩), (411, ⟨[.one (.int .i64 (g12i3r3_0 A x0 x1))], 25, 1⟩), (412, ⟨[.one .nils], 35, 1⟩), (413, ⟨[.one (.str (g12i3r3_1 A x0 x1))], 9, 1⟩)])),
    (g12i3c4 A x0 x1, some (.normal, [(410, ⟨[.one .nils], 35, 1⟩), (411, ⟨[.one (.int .i64 (g12i3r4_0 A x0 x1))], 25, 1⟩), (412, ⟨[.one .nils], 35, 1⟩), (413, ⟨[.one (.str (g12i3r4_1 A x0 x1))], 9, 1⟩)]))]
    | false => []
  | _, _, _ => []
theorem g12i3eq (F : Int → List Nat → Option Heap) {x0 : Int} {x1 : List Nat} : rngF 24 (g12i3F F) (.fn 24 [] [(.cell (.ptr 413 0 none))]) [(2, (pT 410 0)), (3, (pT 411 0)), (4, (pT 412 0)), (8, (.fn 24 [] [(.cell (.ptr 413 0 none))]))] [(410, ⟨[.one .nils], 35, 1⟩), (411, ⟨[.one (.int .i64 x0)], 25, 1⟩), (412, ⟨[.one .nils], 35, 1⟩), (413, ⟨[.one (.str x1)], 9, 1⟩)] = rngK (F x0 x1) := by kernel_rfl
theorem g12R3_sound {v : AV} {sl : Slots} {h : Heap} {r : Ex × Heap} (hl : pickG (g12R3 realA v sl h) = some r) : rngF 24 (g12i3F (g12i3v realA)) v sl h = some r := by
  unfold g12R3 at hl
  split at hl
  · rename_i n13 n14 n15 n0 n1 n2 n3 n4 n5 n6 n7 n8 n9 n10 n11 n12 n16 n17 n18 n19 x0 n20 n21 n22 n23 n24 n25 x1 n26 n27
    split at hl
    case h_2 => cases hl
    rename_i hc0
    simp only [Bool.and_eq_true] at hc0
    have en0 := beq_true hc0.1
    subst en0
    replace hc0 := hc0.2
    have en1 := beq_true hc0.1
    subst en1
    replace hc0 := hc0.2
    have en2 := beq_true hc0.1
    subst en2
    replace hc0 := hc0.2
    have en3 := beq_true hc0.1
    subst en3
    replace hc0 := hc0.2
    have en4 := beq_true hc0.1
    subst en4
    replace hc0 := hc0.2
    have en5 := beq_true hc0.1
    subst en5
    replace hc0 := hc0.2
    have en6 := beq_true hc0.1
    subst en6
    replace hc0 := hc0.2
    have en7 := beq_true hc0.1
    subst en7
    replace hc0 := hc0.2
    have en8 := beq_true hc0.1
    subst en8
    replace hc0 := hc0.2
    have en9 := beq_true hc0.1
    subst en9
    replace hc0 := hc0.2
    have en10 := beq_true hc0.1
    subst en10
    replace hc0 := hc0.2
    have en11 := beq_true hc0.1
    subst en11
    replace hc0 := hc0.2
    have en12 := beq_true hc0.1
    subst en12
    replace hc0 := hc0.2
    have en13 := beq_true hc0.1
    subst en13
    replace hc0 := hc0.2
    have en14 := beq_true hc0.1
    subst en14
    replace hc0 := hc0.2
    have en15 := beq_true hc0.1
    subst en15
    replace hc0 := hc0.2
    have en16 := beq_true hc0.1
    subst en16
    replace hc0 := hc0.2
    have en17 := beq_true hc0.1
    subst en17
    replace hc0 := hc0.2
    have en18 := beq_true hc0.1
    subst en18
    replace hc0 := hc0.2
    have en19 := beq_true hc0.1
    subst en19
    replace hc0 := hc0.2
    have en20 := beq_true hc0.1
    subst en20
    replace hc0 := hc0.2
    have en21 := beq_true hc0.1
    subst en21
    replace hc0 := hc0.2
    have en22 := beq_true hc0.1
    subst en22
    replace hc0 := hc0.2
    have en23 := beq_true hc0.1
    subst en23
    replace hc0 := hc0.2
    have en24 := beq_true hc0.1
    subst en24
    replace hc0 := hc0.2
    have en25 := beq_true hc0.1
    subst en25
    replace hc0 := hc0.2
    have en26 := beq_true hc0.1
    subst en26
    replace hc0 := hc0.2
    have en27 := beq_true hc0
    subst en27
    refine (g12i3eq (g12i3v realA)).trans ?_
    rcases pickG_cons hl with ⟨hc, hl⟩ | hl
    · simp only [Option.some.injEq] at hl
      subst hl
      exact (congrArg rngK (g12i3is0_spec hc)).trans rfl
    rcases pickG_cons hl with ⟨hc, hl⟩ | hl
    · simp only [Option.some.injEq] at hl
      subst hl
      exact (congrArg rngK (g12i3is1_spec hc)).trans rfl
    rcases pickG_cons hl with ⟨hc, hl⟩ | hl
    · simp only [Option.some.injEq] at hl
      subst hl
      exact (congrArg rngK (g12i3is2_spec hc)).trans rfl
    rcases pickG_cons hl with ⟨hc, hl⟩ | hl
    · simp only [Option.some.injEq] at hl
      subst hl
      exact (congrArg rngK (g12i3is3_spec hc)).trans rfl
    rcases pickG_cons hl with ⟨hc, hl⟩ | hl
    · simp only [Option.some.injEq] at hl
      subst hl
      exact (congrArg rngK (g12i3is4_spec hc)).trans rfl
    cases hl
  · cases hl
theorem g12i3hit {sl : Slots} {caps : List V1} {h h2 : Heap} (hh : g12i3F (g12i3v realA) sl caps h = some h2) : caps.length + 1 ≤ Try.f24.ntmps ∧ ∃ m, funN realA gtys (g12i3U realA sl) g12i3an g12i3cut (bodyOf Try.f24) Try.f24.results.toList (.yld 449 :: vAV caps []) h (fun _ h => some (pick h [410, 411, 412, 413, 448, 500, 10003])) (goD realA gtys (g12i3U realA sl) g12i3an g12i3cut (bodyOf Try.f24) (finD gtys Try.f24.results.toList (fun _ h => some (pick h [410, 411, 412, 413, 448, 500, 10003]))) m) = some h2 := by
  unfold g12i3F at hh
  split at hh
  · rename_i n0 n1 n2 n3 n4 n5 n6 n7 n8 n9 n10 n11 n12 n13 n14 n15 n16 n17 n18 n19 n20 n21 x0 n22 n23 n24 n25 n26 n27 x1 n28 n29
    split at hh
    case h_2 => cases hh
    rename_i hc0
    simp only [Bool.and_eq_true] at hc0
    have en0 := beq_true hc0.1
    subst en0
    replace hc0 := hc0.2
    have en1 := beq_true hc0.1
    subst en1
    replace hc0 := hc0.2
    have en2 := beq_true hc0.1
    subst en2
    replace hc0 := hc0.2
    have en3 := beq_true hc0.1
    subst en3
    replace hc0 := hc0.2
    have en4 := beq_true hc0.1
    subst en4
    replace hc0 := hc0.2
    have en5 := beq_true hc0.1
    subst en5
    replace hc0 := hc0.2
    have en6 := beq_true hc0.1
    subst en6
    replace hc0 := hc0.2
    have en7 := beq_true hc0.1
    subst en7
    replace hc0 := hc0.2
    have en8 := beq_true hc0.1
    subst en8
    replace hc0 := hc0.2
    have en9 := beq_true hc0.1
    subst en9
    replace hc0 := hc0.2
    have en10 := beq_true hc0.1
    subst en10
    replace hc0 := hc0.2
    have en11 := beq_true hc0.1
    subst en11
    replace hc0 := hc0.2
    have en12 := beq_true hc0.1
    subst en12
    replace hc0 := hc0.2
    have en13 := beq_true hc0.1
    subst en13
    replace hc0 := hc0.2
    have en14 := beq_true hc0.1
    subst en14
    replace hc0 := hc0.2
    have en15 := beq_true hc0.1
    subst en15
    replace hc0 := hc0.2
    have en16 := beq_true hc0.1
    subst en16
    replace hc0 := hc0.2
    have en17 := beq_true hc0.1
    subst en17
    replace hc0 := hc0.2
    have en18 := beq_true hc0.1
    subst en18
    replace hc0 := hc0.2
    have en19 := beq_true hc0.1
    subst en19
    replace hc0 := hc0.2
    have en20 := beq_true hc0.1
    subst en20
    replace hc0 := hc0.2
    have en21 := beq_true hc0.1
    subst en21
    replace hc0 := hc0.2
    have en22 := beq_true hc0.1
    subst en22
    replace hc0 := hc0.2
    have en23 := beq_true hc0.1
    subst en23
    replace hc0 := hc0.2
    have en24 := beq_true hc0.1
    subst en24
    replace hc0 := hc0.2
    have en25 := beq_true hc0.1
    subst en25
    replace hc0 := hc0.2
    have en26 := beq_true hc0.1
    subst en26
    replace hc0 := hc0.2
    have en27 := beq_true hc0.1
    subst en27
    replace hc0 := hc0.2
    have en28 := beq_true hc0.1
    subst en28
    replace hc0 := hc0.2
    have en29 := beq_true hc0
    subst en29
    exact ⟨Nat.le_of_ble_eq_true (by kernel_rfl), via_tb (fun _ st => g12i3_go st) hh⟩
  · cases hh
def g12BO (A : Ar) : Orc := orcH [] [(20, ⟨[], none, (g20o A)⟩)]
theorem g12BO_sound : OSound Try.prog (g12BO realA) := orcH_sound (fun f g hm args v hv => by
    cases hm) (fun f e hm args h v h' hv => by
    simp only [List.mem_cons, List.not_mem_nil, or_false, Prod.mk.injEq] at hm
    rcases hm with ⟨rfl, rfl⟩
    · exact g20o_sound _ _ _ _ hv)
theorem g12BO_det : ODet (g12BO realA) := orcH_det _ _
def g12W (A : Ar) (i : Nat) (v : AV) (sl : Slots) (h : Heap) : GL (Ex × Heap) := match Nat.beq i 3 with
  | true => g12R3 A v sl h
  | false => []
def g12O (A : Ar) : Orc := { g12BO A with rngg := g12W A, pb := 410 }
theorem g12O_sound : OSound Try.prog (g12O realA) := g12BO_sound
theorem g12O_det : ODet (g12O realA) := g12BO_det
theorem g12hR : ∀ N S ρ w, RngOk Try.prog (g12O realA) Fence.wide 0 N S ρ w ⟨Try.f12.ntmps, [], fun _ => undef, (g12O realA).pb, (by show 410 ≤ 500; decide), w.heap.size⟩ (rngs (bodyOf Try.f12)) := by
  intro N S ρ w
  rw [show rngs (bodyOf Try.f12) = [.rangeFunc (rfG (rfOf 0 (bodyOf Try.f12))) (rfPs (rfOf 0 (bodyOf Try.f12))) (rfAs (rfOf 0 (bodyOf Try.f12))) (rfBd (rfOf 0 (bodyOf Try.f12)))] from by kernel_rfl]
  exact rng_ok (O := g12O realA) mixed gtysOK (OU := g12i3U realA) (fun _ => g12i3BO_sound) (fun _ => g12i3BO_det) (fun _ => rfl) (fun _ _ _ _ _ => rfl) (E := [413, 448, 450]) (np := 2) (bodyE := fun sl vs g => pickG (g12B3 realA sl vs g)) (fun _ => rfl) (fun _ _ _ => yRoundG_pick) (i0 := 3) (by kernel_rfl) (fun _ _ _ _ _ h => g12B3_sound h) (by kernel_rfl) (nodupB_spec (by kernel_rfl)) (allLtB_spec (by kernel_rfl)) Try.func24 (ic := bodyOf Try.f24) rfl (by kernel_rfl) Try.call24 (itE := g12i3F (g12i3v realA)) (an := g12i3an) (cut := g12i3cut) (bs := [410, 411, 412, 413, 448, 500, 10003]) (fun _ _ _ _ _ h => g12i3hit h) (fun _ _ _ _ h => g12R3_sound h) (show 410 ≤ 448 by decide) (Nat.le_refl _)
def g12an : Ann := [(0, ([0], [])), (1, ([0, 2, 3], [1000, 1001])), (2, ([0, 2, 3, 4], [1000, 1001, 2000])), (10, ([2, 3, 4], [410, 411, 412, 500, 10003])), (2000003, ([2, 3, 4, 8], [410, 411, 412, 413, 1000, 1001, 2000, 3001])), (3000003, ([1000, 1001, 2000, 3001], [410, 411, 412, 413]))]
def g12res : List ResultVar := [.cell 2 35, .cell 3 25]
def g12cut : List Nat := []
noncomputable def g12N {R : Type} (A : Ar) (kk : AV → Heap → Option R) (t : List Bool → St → Option R) (p : List Bool) (s : St) : Option R := nodeN A gtys (g12O A) g12an g12cut t (bodyOf Try.f12) (finD gtys g12res kk) p s
def g12 {R : Type} (A : Ar) (n : Nat) (kk : AV → Heap → Option R) (x0 : List Nat) : Option R :=
  match g20ok A x0 with
  | true => match g12i3c0 A 0 (g20r0 A x0) with
    | true => kk (.tup [(.cell (.sl 500 none (g12i3r0_1 A 0 (g20r0 A x0)) 3)), (.cell (.int .i64 0))]) [(410, ⟨[.one (.sl 500 none (g12i3r0_1 A 0 (g20r0 A x0)) 3)], 35, 1⟩), (411, ⟨[.one (.int .i64 0)], 25, 1⟩), (412, ⟨[.one (.sl 500 none (g12i3r0_1 A 0 (g20r0 A x0)) 3)], 35, 1⟩), (500, ⟨[.recs (g12i3r0_3 A 0 (g20r0 A x0)) [.ints .i64 (g12i3r0_4 A 0 (g20r0 A x0)), .strs (g12i3r0_5 A 0 (g20r0 A x0)), .strs (g12i3r0_6 A 0 (g20r0 A x0))]], 24, 2⟩)]
    | false => match g12i3c1 A 0 (g20r0 A x0) with
      | true => kk (.tup [(.cell .nils), (.cell (.int .i64 (g12i3r1_0 A 0 (g20r0 A x0))))]) [(410, ⟨[.one .nils], 35, 1⟩), (411, ⟨[.one (.int .i64 (g12i3r1_0 A 0 (g20r0 A x0)))], 25, 1⟩), (412, ⟨[.one (.sl 500 none (g12i3r1_1 A 0 (g20r0 A x0)) 3)], 35, 1⟩), (413, ⟨[.one (.str (g12i3r1_2 A 0 (g20r0 A x0)))], 9, 1⟩), (500, ⟨[.recs (g12i3r1_3 A 0 (g20r0 A x0)) [.ints .i64 (g12i3r1_4 A 0 (g20r0 A x0)), .strs (g12i3r1_5 A 0 (g20r0 A x0)), .strs (g12i3r1_6 A 0 (g20r0 A x0))]], 24, 2⟩)]
      | false => match g12i3c2 A 0 (g20r0 A x0) with
        | true => kk (.tup [(.cell (.sl 10003 none (g12i3r2_1 A 0 (g20r0 A x0)) 3)), (.cell (.int .i64 0))]) [(410, ⟨[.one (.sl 10003 none (g12i3r2_1 A 0 (g20r0 A x0)) 3)], 35, 1⟩), (411, ⟨[.one (.int .i64 0)], 25, 1⟩), (412, ⟨[.one (.sl 10003 none (g12i3r2_1 A 0 (g20r0 A x0)) 3)], 35, 1⟩), (10003, ⟨[.recs (g12i3r2_3 A 0 (g20r0 A x0)) [.ints .i64 (g12i3r2_4 A 0 (g20r0 A x0)), .strs (g12i3r2_5 A 0 (g20r0 A x0)), .strs (g12i3r2_6 A 0 (g20r0 A x0))]], 24, 2⟩)]
        | false => match g12i3c3 A 0 (g20r0 A x0) with
          | true => kk (.tup [(.cell .nils), (.cell (.int .i64 (g12i3r3_0 A 0 (g20r0 A x0))))]) [(410, ⟨[.one .nils], 35, 1⟩), (411, ⟨[.one (.int .i64 (g12i3r3_0 A 0 (g20r0 A x0)))], 25, 1⟩), (412, ⟨[.one .nils], 35, 1⟩), (413, ⟨[.one (.str (g12i3r3_1 A 0 (g20r0 A x0)))], 9, 1⟩)]
          | false => match g12i3c4 A 0 (g20r0 A x0) with
            | true => kk (.tup [(.cell .nils), (.cell (.int .i64 0))]) [(410, ⟨[.one .nils], 35, 1⟩), (411, ⟨[.one (.int .i64 0)], 25, 1⟩), (412, ⟨[.one .nils], 35, 1⟩)]
            | false => none
  | false => none
section
variable {R : Type} {A : Ar} {n : Nat} {kk : AV → Heap → Option R} {tb : Nat → List Bool → St → Option R} (st : Stp (g12N A kk) tb)
include st
theorem g12_go {x0 : List Nat} : Prs (fun k => funN A gtys (g12O A) g12an g12cut (bodyOf Try.f12) g12res [(tS x0)] [] kk (tb k)) (g12 A n kk x0) := by
  unfold g12
  exact pc (SxP14api _ (SxP14api _ (pf _) (SxP14api _ (pf _) (SxP14api _ (pf _) (SxP14api _ (pf _) (SxP14api _ (pf _) pn))))) pn) (by kernel_rfl)
end
def g12is (o : Option (AV × Heap)) : Bool := match o with
  | some (.tup [(.cell (.sl n0 none _ n1)), (.cell (.int .i64 _))], [(n2, ⟨[.recs _ [.ints .i64 _, .strs _, .strs _]], n3, n4⟩)]) => Nat.beq n0 700 && (Nat.beq n1 3 && (Nat.beq n2 700 && (Nat.beq n3 24 && (Nat.beq n4 2))))
  | _ => false
def g12g0 (o : Option (AV × Heap)) : Nat := match o with
  | some (.tup [(.cell (.sl _ none x _)), (.cell (.int .i64 _))], [(_, ⟨[.recs _ [.ints .i64 _, .strs _, .strs _]], _, _⟩)]) => x
  | _ => 0
def g12g1 (o : Option (AV × Heap)) : Int := match o with
  | some (.tup [(.cell (.sl _ none _ _)), (.cell (.int .i64 x))], [(_, ⟨[.recs _ [.ints .i64 _, .strs _, .strs _]], _, _⟩)]) => x
  | _ => 0
def g12g2 (o : Option (AV × Heap)) : Nat := match o with
  | some (.tup [(.cell (.sl _ none _ _)), (.cell (.int .i64 _))], [(_, ⟨[.recs x [.ints .i64 _, .strs _, .strs _]], _, _⟩)]) => x
  | _ => 0
def g12g3 (o : Option (AV × Heap)) : List Int := match o with
  | some (.tup [(.cell (.sl _ none _ _)), (.cell (.int .i64 _))], [(_, ⟨[.recs _ [.ints .i64 x, .strs _, .strs _]], _, _⟩)]) => x
  | _ => []
def g12g4 (o : Option (AV × Heap)) : List (List Nat) := match o with
  | some (.tup [(.cell (.sl _ none _ _)), (.cell (.int .i64 _))], [(_, ⟨[.recs _ [.ints .i64 _, .strs x, .strs _]], _, _⟩)]) => x
  | _ => []
def g12g5 (o : Option (AV × Heap)) : List (List Nat) := match o with
  | some (.tup [(.cell (.sl _ none _ _)), (.cell (.int .i64 _))], [(_, ⟨[.recs _ [.ints .i64 _, .strs _, .strs x]], _, _⟩)]) => x
  | _ => []
theorem g12is_spec {o : Option (AV × Heap)} (h : g12is o = true) : o = some ((.tup [(.cell (.sl 700 none (g12g0 o) 3)), (.cell (.int .i64 (g12g1 o)))]), [(700, ⟨[.recs (g12g2 o) [.ints .i64 (g12g3 o), .strs (g12g4 o), .strs (g12g5 o)]], 24, 2⟩)]) := by
  unfold g12is at h
  split at h
  · rename_i n0 z1 n1 z3 n2 z5 z6 z7 z8 n3 n4
    simp only [Bool.and_eq_true] at h
    have en0 := beq_true h.1
    subst en0
    replace h := h.2
    have en1 := beq_true h.1
    subst en1
    replace h := h.2
    have en2 := beq_true h.1
    subst en2
    replace h := h.2
    have en3 := beq_true h.1
    subst en3
    replace h := h.2
    have en4 := beq_true h
    subst en4
    rfl
  · cases h
def g12v (A : Ar) (x0 : List Nat) : Option (AV × Heap) := g12 A (100000) (outR (outH [] (some (0, 3, ⟨[.recs 0 [.ints .i64 [], .strs [], .strs []]], 24, 2⟩)))) x0
def g12ok (A : Ar) (x0 : List Nat) : Bool := g12is (g12v A x0)
def g12r0 (A : Ar) (x0 : List Nat) : Nat := g12g0 (g12v A x0)
def g12r1 (A : Ar) (x0 : List Nat) : Int := g12g1 (g12v A x0)
def g12r2 (A : Ar) (x0 : List Nat) : Nat := g12g2 (g12v A x0)
def g12r3 (A : Ar) (x0 : List Nat) : List Int := g12g3 (g12v A x0)
def g12r4 (A : Ar) (x0 : List Nat) : List (List Nat) := g12g4 (g12v A x0)
def g12r5 (A : Ar) (x0 : List Nat) : List (List Nat) := g12g5 (g12v A x0)
theorem g12ok_spec {A : Ar} {x0} (h : g12ok A x0 = true) : g12v A x0 = some ((.tup [(.cell (.sl 700 none (g12r0 A x0) 3)), (.cell (.int .i64 (g12r1 A x0)))]), [(700, ⟨[.recs (g12r2 A x0) [.ints .i64 (g12r3 A x0), .strs (g12r4 A x0), .strs (g12r5 A x0)]], 24, 2⟩)]) := g12is_spec h
def g12o (A : Ar) (args : List AV) (h : Heap) : Option (Bool × AV × Heap) := match args, h with
  | [.v (.cell (.str x0))], [] => some (g12ok A x0, (.tup [(.cell (.sl 700 none (g12r0 A x0) 3)), (.cell (.int .i64 (g12r1 A x0)))]), [(700, ⟨[.recs (g12r2 A x0) [.ints .i64 (g12r3 A x0), .strs (g12r4 A x0), .strs (g12r5 A x0)]], 24, 2⟩)])
  | _, _ => none
theorem g12o_sound : ∀ args h v h', g12o realA args h = some (true, v, h') → FnH Try.prog 12 args h v h' := by
  intro args h v h' hh
  unfold g12o at hh
  split at hh
  · rename_i x0
    simp only [Option.some.injEq, Prod.mk.injEq] at hh
    obtain ⟨hc, hv, hh⟩ := hh
    subst hv
    subst hh
    exact fnh_ofR mixed gtysOK g12O_sound g12O_det (an := g12an) (cut := g12cut) Try.func12 (c := bodyOf Try.f12) rfl (by kernel_rfl) Try.call12 rfl g12hR (Nat.le_of_ble_eq_true rfl) (k := (outH [] (some (0, 3, ⟨[.recs 0 [.ints .i64 [], .strs [], .strs []]], 24, 2⟩)))) (fun a b c => outH_sound a b c) (fun _ => (show g12v realA x0 = _ from g12ok_spec hc)) fun _ st => g12_go st
  · cases hh
attribute [local irreducible] g12ok g12r0 g12r1 g12r2 g12r3 g12r4 g12r5
end Go.Sx
