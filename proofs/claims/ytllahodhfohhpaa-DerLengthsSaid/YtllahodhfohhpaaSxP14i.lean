import Derived.Test.YtllahodhfohhpaaSxP14b
namespace Go.Sx
set_option linter.unusedSectionVars false
open Go.Proofs
set_option linter.unusedVariables false
set_option maxRecDepth 100000
theorem SxP14ipi {R : Type} (c : Bool) {f1 f2 : Nat → Option R} {a1 a2 : Option R} (h1 : Prs f1 a1) (h2 : Prs f2 a2) : Prs (fun k => match c with | true => f1 k | false => f2 k) (match c with | true => a1 | false => a2) := by cases c <;> assumption
attribute [local irreducible] g8ok g8r0 g8r1 g8r2 g8r3 g10ok g10r0 g10r1 g7ok g7r0
def g6O (A : Ar) : Orc := orcOf [(7, g7o A), (10, g10o A), (8, g8o A)]
theorem g6O_sound : OSound Try.prog (g6O realA) := orc_sound fun f g hm args v hv => by
  simp only [List.mem_cons, List.not_mem_nil, or_false, Prod.mk.injEq] at hm
  rcases hm with ⟨rfl, rfl⟩ | ⟨rfl, rfl⟩ | ⟨rfl, rfl⟩
  · exact g7o_sound _ _ hv
  · exact g10o_sound _ _ hv
  · exact g8o_sound _ _ hv
theorem g6O_det : ODet (g6O realA) := orc_det _
def g6an : Ann := [(0, ([0, 1], [])), (1, ([0, 1], [])), (2, ([0, 1, 5], [])), (3, ([], [])), (4, ([0, 1, 5], [])), (5, ([1, 5, 6], [])), (6, ([1, 5, 6, 7], [6001])), (7, ([1, 5, 6, 7, 8], [6001])), (8, ([1, 5, 6, 7, 8], [6001])), (9, ([1, 5, 6, 7, 8], [6001])), (10, ([5, 6, 7], [6001])), (11, ([5, 6, 7, 9, 10], [6001])), (12, ([5, 6, 7, 9, 10, 11], [6001])), (13, ([5, 6, 7, 9, 10, 11, 12], [6001, 13000])), (14, ([5, 6, 7, 9, 10, 11, 12, 13], [6001, 13000])), (15, ([5, 6, 7, 9, 10, 11, 12, 13], [6001, 13000])), (16, ([5, 6, 7, 9, 10, 11, 12, 13], [6001, 13000])), (17, ([5, 6, 7, 9, 10, 11, 12, 13], [6001, 13000])), (18, ([5, 6, 7, 9, 10, 11], [6001])), (19, ([5, 6, 7, 9, 10, 11, 14, 15], [6001, 19005])), (20, ([5, 6, 7, 9, 10, 11, 14, 15, 16], [6001, 19005])), (21, ([5, 6, 7, 9, 10, 11, 14, 15, 18], [6001, 19005]))]
def g6res : List ResultVar := [.tmp 4]
def g6cut : List Nat := [4, 9, 10, 16, 18]
noncomputable def g6N {R : Type} (A : Ar) (kk : AV → Heap → Option R) (t : List Bool → St → Option R) (p : List Bool) (s : St) : Option R := nodeN A gtys (g6O A) g6an g6cut t (bodyOf Try.f6) (finD gtys g6res kk) p s
def g6J9s (x0 : Nat) (x1 : Bool) (x2 : Int) (x3 : Nat) (x4 : Int) (x5 : Nat) (x6 : List Nat) : St := ⟨[(1, (u8v x0)), (5, (bO x1)), (6, (i6 x2)), (7, (sL 6001 none x3 1)), (8, (i6 x4))], [(6001, ⟨[.nums .u8 x5 x6], 5, 2⟩)]⟩
def g6J9 {R : Type} (A : Ar) (n : Nat) (kk : AV → Heap → Option R) (lg6L7 : Nat → Bool → Int → Nat → Int → Nat → List Nat → Option R) (x0 : Nat) (x1 : Bool) (x2 : Int) (x3 : Nat) (x4 : Int) (x5 : Nat) (x6 : List Nat) : Option R :=
  match A.neg x4 with
  | true => none
  | false => match A.lt (A.toN x4) x3 with
    | true => lg6L7 x0 x1 x2 x3 (A.ib .add .i64 x4 1) x5 (x6.set (A.toN x4) x0)
    | false => none
def g6J16s (x0 : Bool) (x1 : Int) (x2 : Nat) (x3 : List Nat) (x4 x5 : Int) (x6 : Nat) (x7 : Int) (x8 : Nat) (x9 : List Nat) (x10 : Nat) (x11 : List Int) : St := ⟨[(5, (bO x0)), (6, (i6 x1)), (7, (sL 6001 none x2 1)), (9, (tS x3)), (10, (i6 x4)), (11, (i6 x5)), (12, (sL 13000 none x6 1)), (13, (i6 x7))], [(6001, ⟨[.nums .u8 x8 x9], 5, 2⟩), (13000, ⟨[.ints .i64 x10 x11], 3, 2⟩)]⟩
def g6J16 {R : Type} (A : Ar) (n : Nat) (kk : AV → Heap → Option R) (lg6L14 : Bool → Int → Nat → List Nat → Int → Int → Nat → Int → Nat → List Nat → Nat → List Int → Option R) (x0 : Bool) (x1 : Int) (x2 : Nat) (x3 : List Nat) (x4 x5 : Int) (x6 : Nat) (x7 : Int) (x8 : Nat) (x9 : List Nat) (x10 : Nat) (x11 : List Int) : Option R :=
  match A.neg x7 with
  | true => none
  | false => match A.lt (A.toN x7) x6 with
    | true => match A.ic .gtr x1 (x11.getD (A.toN x7) 0) with
      | true => lg6L14 x0 x1 x2 x3 x4 (A.ib .add .i64 x5 1) x6 (A.ib .add .i64 x7 1) x8 x9 x10 x11
      | false => lg6L14 x0 x1 x2 x3 x4 x5 x6 (A.ib .add .i64 x7 1) x8 x9 x10 x11
    | false => none
def g6J18s (x0 : Bool) (x1 : Int) (x2 : Nat) (x3 : List Nat) (x4 x5 : Int) (x6 : Nat) (x7 : List Nat) : St := ⟨[(5, (bO x0)), (6, (i6 x1)), (7, (sL 6001 none x2 1)), (9, (tS x3)), (10, (i6 x4)), (11, (i6 x5))], [(6001, ⟨[.nums .u8 x6 x7], 5, 2⟩)]⟩
def g6J18 {R : Type} (A : Ar) (n : Nat) (kk : AV → Heap → Option R)  (x0 : Bool) (x1 : Int) (x2 : Nat) (x3 : List Nat) (x4 x5 : Int) (x6 : Nat) (x7 : List Nat) : Option R :=
  match g8ok A x3 with
  | true => match A.le ([4, 131].length + ([A.i2n .u8 (A.ish .shr .i64 x1 16), A.i2n .u8 (A.ish .shr .i64 x1 8), A.i2n .u8 x1].take 3).length) 9223372036854775807 with
    | true => match A.le (([4, 131] ++ ([A.i2n .u8 (A.ish .shr .i64 x1 16), A.i2n .u8 (A.ish .shr .i64 x1 8), A.i2n .u8 x1].take 3)).length + (x7.take x2).length) 9223372036854775807 with
      | true => match g8ok A (([4, 131] ++ ([A.i2n .u8 (A.ish .shr .i64 x1 16), A.i2n .u8 (A.ish .shr .i64 x1 8), A.i2n .u8 x1].take 3)) ++ (x7.take x2)) with
        | true => match x0 with
          | true => match A.ic .eql x4 0 with
            | true => match A.ic .eql (A.ofN x3.length) (A.ib .add .i64 x1 x5) with
              | true => match A.ic .eql (g8r0 A x3) 4 with
                | true => match A.sc .eql (g8r1 A x3) (x7.take x2) with
                  | true => match A.ic .eql (g8r3 A x3) 0 with
                    | true => kk (bO ((A.ic .eql (g8r3 A (([4, 131] ++ ([A.i2n .u8 (A.ish .shr .i64 x1 16), A.i2n .u8 (A.ish .shr .i64 x1 8), A.i2n .u8 x1].take 3)) ++ (x7.take x2))) 0) == (A.ic .gtr x1 65535))) [(6001, ⟨[.nums .u8 x6 x7], 5, 2⟩), (19005, ⟨[.one (.int .i64 (g8r0 A x3)), .one (.str (g8r1 A x3)), .one (.str (g8r2 A x3))], 24, 1⟩)]
                    | false => kk (bO false) [(6001, ⟨[.nums .u8 x6 x7], 5, 2⟩), (19005, ⟨[.one (.int .i64 (g8r0 A x3)), .one (.str (g8r1 A x3)), .one (.str (g8r2 A x3))], 24, 1⟩)]
                  | false => kk (bO false) [(6001, ⟨[.nums .u8 x6 x7], 5, 2⟩), (19005, ⟨[.one (.int .i64 (g8r0 A x3)), .one (.str (g8r1 A x3)), .one (.str (g8r2 A x3))], 24, 1⟩)]
                | false => kk (bO false) [(6001, ⟨[.nums .u8 x6 x7], 5, 2⟩), (19005, ⟨[.one (.int .i64 (g8r0 A x3)), .one (.str (g8r1 A x3)), .one (.str (g8r2 A x3))], 24, 1⟩)]
              | false => kk (bO false) [(6001, ⟨[.nums .u8 x6 x7], 5, 2⟩), (19005, ⟨[.one (.int .i64 (g8r0 A x3)), .one (.str (g8r1 A x3)), .one (.str (g8r2 A x3))], 24, 1⟩)]
            | false => kk (bO false) [(6001, ⟨[.nums .u8 x6 x7], 5, 2⟩), (19005, ⟨[.one (.int .i64 (g8r0 A x3)), .one (.str (g8r1 A x3)), .one (.str (g8r2 A x3))], 24, 1⟩)]
          | false => kk (bO false) [(6001, ⟨[.nums .u8 x6 x7], 5, 2⟩), (19005, ⟨[.one (.int .i64 (g8r0 A x3)), .one (.str (g8r1 A x3)), .one (.str (g8r2 A x3))], 24, 1⟩)]
        | false => none
      | false => none
    | false => none
  | false => none
def g6L14s (x0 : Bool) (x1 : Int) (x2 : Nat) (x3 : List Nat) (x4 x5 : Int) (x6 : Nat) (x7 : Int) (x8 : Nat) (x9 : List Nat) (x10 : Nat) (x11 : List Int) : St := ⟨[(5, (bO x0)), (6, (i6 x1)), (7, (sL 6001 none x2 1)), (9, (tS x3)), (10, (i6 x4)), (11, (i6 x5)), (12, (sL 13000 none x6 1)), (13, (i6 x7))], [(6001, ⟨[.nums .u8 x8 x9], 5, 2⟩), (13000, ⟨[.ints .i64 x10 x11], 3, 2⟩)]⟩
def g6L14 {R : Type} (A : Ar) (n : Nat) (kk : AV → Heap → Option R)  : Nat → Bool → Int → Nat → List Nat → Int → Int → Nat → Int → Nat → List Nat → Nat → List Int → Option R
  | 0, _, _, _, _, _, _, _, _, _, _, _, _ => none
  | m + 1, x0, x1, x2, x3, x4, x5, x6, x7, x8, x9, x10, x11 => match A.ic .lss x7 3 with
  | true => g6J16 A n kk (g6L14 A n kk  m) x0 x1 x2 x3 x4 x5 x6 x7 x8 x9 x10 x11
  | false => g6J18 A n kk  x0 x1 x2 x3 x4 x5 x8 x9
def g6J10s (x0 : Bool) (x1 : Int) (x2 x3 : Nat) (x4 : List Nat) : St := ⟨[(5, (bO x0)), (6, (i6 x1)), (7, (sL 6001 none x2 1))], [(6001, ⟨[.nums .u8 x3 x4], 5, 2⟩)]⟩
def g6J10 {R : Type} (A : Ar) (n : Nat) (kk : AV → Heap → Option R)  (x0 : Bool) (x1 : Int) (x2 x3 : Nat) (x4 : List Nat) : Option R :=
  match g10ok A 4 (x4.take x2) with
  | true => g6L14 A n kk  n x0 x1 x2 (g10r0 A 4 (x4.take x2)) (g10r1 A 4 (x4.take x2)) 2 3 0 x3 x4 3 [127, 255, 65535]
  | false => none
def g6L7s (x0 : Nat) (x1 : Bool) (x2 : Int) (x3 : Nat) (x4 : Int) (x5 : Nat) (x6 : List Nat) : St := ⟨[(1, (u8v x0)), (5, (bO x1)), (6, (i6 x2)), (7, (sL 6001 none x3 1)), (8, (i6 x4))], [(6001, ⟨[.nums .u8 x5 x6], 5, 2⟩)]⟩
def g6L7 {R : Type} (A : Ar) (n : Nat) (kk : AV → Heap → Option R)  : Nat → Nat → Bool → Int → Nat → Int → Nat → List Nat → Option R
  | 0, _, _, _, _, _, _, _ => none
  | m + 1, x0, x1, x2, x3, x4, x5, x6 => match A.ic .lss x4 x2 with
  | true => g6J9 A n kk (g6L7 A n kk  m) x0 x1 x2 x3 x4 x5 x6
  | false => g6J10 A n kk  x1 x2 x3 x5 x6
def g6J4s (x0 x1 : Nat) (x2 : Bool) : St := ⟨[(0, (u32v x0)), (1, (u8v x1)), (5, (bO x2))], []⟩
def g6J4 {R : Type} (A : Ar) (n : Nat) (kk : AV → Heap → Option R)  (x0 x1 : Nat) (x2 : Bool) : Option R :=
  match A.neg (A.ofN (A.nb .rem .u32 x0 70001)) with
  | true => none
  | false => match A.neg (A.ofN (A.nb .rem .u32 x0 70001)) with
    | true => none
    | false => match A.le (A.toN (A.ofN (A.nb .rem .u32 x0 70001))) (A.toN (A.ofN (A.nb .rem .u32 x0 70001))) with
      | true => match A.le (A.toN (A.ofN (A.nb .rem .u32 x0 70001))) 140737488355328 with
        | true => g6L7 A n kk  n x1 x2 (A.ofN (A.nb .rem .u32 x0 70001)) (A.toN (A.ofN (A.nb .rem .u32 x0 70001))) 0 (A.toN (A.ofN (A.nb .rem .u32 x0 70001))) (List.replicate (A.toN (A.ofN (A.nb .rem .u32 x0 70001))) 0)
        | false => none
      | false => none
def g6 {R : Type} (A : Ar) (n : Nat) (kk : AV → Heap → Option R) (a b : Nat) : Option R :=
  match g7ok A with
  | true => match !(g7r0 A) with
    | true => kk (bO false) []
    | false => g6J4 A n kk  a b (g7r0 A)
  | false => none
section
variable {R : Type} {A : Ar} {n : Nat} {kk : AV → Heap → Option R} {tb : Nat → List Bool → St → Option R} (st : Stp (g6N A kk) tb)
include st
theorem g6J9_go {lg6L7 : Nat → Bool → Int → Nat → Int → Nat → List Nat → Option R} (hg6L7 : ∀ (x0 : Nat) (x1 : Bool) (x2 : Int) (x3 : Nat) (x4 : Int) (x5 : Nat) (x6 : List Nat), Prs (fun k => tb k (pth 1012) (g6L7s x0 x1 x2 x3 x4 x5 x6)) (lg6L7 x0 x1 x2 x3 x4 x5 x6)) {x0 : Nat} {x1 : Bool} {x2 : Int} {x3 : Nat} {x4 : Int} {x5 : Nat} {x6 : List Nat} : Prs (fun k => tb k (pth 2025) (g6J9s x0 x1 x2 x3 x4 x5 x6)) (g6J9 A n kk lg6L7 x0 x1 x2 x3 x4 x5 x6) := by
  unfold g6J9
  exact st.g (pc (SxP14ipi _ pn (SxP14ipi _ (hg6L7 _ _ _ _ _ _ _) pn)) (by kernel_rfl))
theorem g6J16_go {lg6L14 : Bool → Int → Nat → List Nat → Int → Int → Nat → Int → Nat → List Nat → Nat → List Int → Option R} (hg6L14 : ∀ (x0 : Bool) (x1 : Int) (x2 : Nat) (x3 : List Nat) (x4 x5 : Int) (x6 : Nat) (x7 : Int) (x8 : Nat) (x9 : List Nat) (x10 : Nat) (x11 : List Int), Prs (fun k => tb k (pth 16372) (g6L14s x0 x1 x2 x3 x4 x5 x6 x7 x8 x9 x10 x11)) (lg6L14 x0 x1 x2 x3 x4 x5 x6 x7 x8 x9 x10 x11)) {x0 : Bool} {x1 : Int} {x2 : Nat} {x3 : List Nat} {x4 : Int} {x5 : Int} {x6 : Nat} {x7 : Int} {x8 : Nat} {x9 : List Nat} {x10 : Nat} {x11 : List Int} : Prs (fun k => tb k (pth 32745) (g6J16s x0 x1 x2 x3 x4 x5 x6 x7 x8 x9 x10 x11)) (g6J16 A n kk lg6L14 x0 x1 x2 x3 x4 x5 x6 x7 x8 x9 x10 x11) := by
  unfold g6J16
  exact st.g (pc (SxP14ipi _ pn (SxP14ipi _ (SxP14ipi _ (hg6L14 _ _ _ _ _ _ _ _ _ _ _ _) (hg6L14 _ _ _ _ _ _ _ _ _ _ _ _)) pn)) (by kernel_rfl))
theorem g6J18_go {x0 : Bool} {x1 : Int} {x2 : Nat} {x3 : List Nat} {x4 : Int} {x5 : Int} {x6 : Nat} {x7 : List Nat} : Prs (fun k => tb k (pth 2047) (g6J18s x0 x1 x2 x3 x4 x5 x6 x7)) (g6J18 A n kk x0 x1 x2 x3 x4 x5 x6 x7) := by
  unfold g6J18
  exact st.g (pc (SxP14ipi _ (SxP14ipi _ (SxP14ipi _ (SxP14ipi _ (SxP14ipi _ (SxP14ipi _ (SxP14ipi _ (SxP14ipi _ (SxP14ipi _ (SxP14ipi _ (pf _) (pf _)) (pf _)) (pf _)) (pf _)) (pf _)) (pf _)) pn) pn) pn) pn) (by kernel_rfl))
theorem g6L14_go (m : Nat) : ∀ (x0 : Bool) (x1 : Int) (x2 : Nat) (x3 : List Nat) (x4 x5 : Int) (x6 : Nat) (x7 : Int) (x8 : Nat) (x9 : List Nat) (x10 : Nat) (x11 : List Int), Prs (fun k => tb k (pth 16372) (g6L14s x0 x1 x2 x3 x4 x5 x6 x7 x8 x9 x10 x11)) (g6L14 A n kk m x0 x1 x2 x3 x4 x5 x6 x7 x8 x9 x10 x11) := by
  induction m with
  | zero => intro x0 x1 x2 x3 x4 x5 x6 x7 x8 x9 x10 x11; exact pn0
  | succ m ih =>
    intro x0 x1 x2 x3 x4 x5 x6 x7 x8 x9 x10 x11; rw [g6L14]
    exact st.g (pc (SxP14ipi _ (g6J16_go st ih) (g6J18_go st)) (by kernel_rfl))
theorem g6J10_go {x0 : Bool} {x1 : Int} {x2 : Nat} {x3 : Nat} {x4 : List Nat} : Prs (fun k => tb k (pth 127) (g6J10s x0 x1 x2 x3 x4)) (g6J10 A n kk x0 x1 x2 x3 x4) := by
  unfold g6J10
  exact st.g (pc (SxP14ipi _ (g6L14_go st n _ _ _ _ _ _ _ _ _ _ _ _) pn) (by kernel_rfl))
theorem g6L7_go (m : Nat) : ∀ (x0 : Nat) (x1 : Bool) (x2 : Int) (x3 : Nat) (x4 : Int) (x5 : Nat) (x6 : List Nat), Prs (fun k => tb k (pth 1012) (g6L7s x0 x1 x2 x3 x4 x5 x6)) (g6L7 A n kk m x0 x1 x2 x3 x4 x5 x6) := by
  induction m with
  | zero => intro x0 x1 x2 x3 x4 x5 x6; exact pn0
  | succ m ih =>
    intro x0 x1 x2 x3 x4 x5 x6; rw [g6L7]
    exact st.g (pc (SxP14ipi _ (g6J9_go st ih) (g6J10_go st)) (by kernel_rfl))
theorem g6J4_go {x0 : Nat} {x1 : Nat} {x2 : Bool} : Prs (fun k => tb k (pth 15) (g6J4s x0 x1 x2)) (g6J4 A n kk x0 x1 x2) := by
  unfold g6J4
  exact st.g (pc (SxP14ipi _ pn (SxP14ipi _ pn (SxP14ipi _ (SxP14ipi _ (g6L7_go st n _ _ _ _ _ _ _) pn) pn))) (by kernel_rfl))
theorem g6_go {a : Nat} {b : Nat} : Prs (fun k => funN A gtys (g6O A) g6an g6cut (bodyOf Try.f6) g6res [(u32v a), (u8v b)] [] kk (tb k)) (g6 A n kk a b) := by
  unfold g6
  exact pc (SxP14ipi _ (SxP14ipi _ (pf _) (g6J4_go st)) pn) (by kernel_rfl)
end
def g6is (o : Option AV) : Bool := match o with
  | some (.v (.cell (.bool _))) => true
  | _ => false
def g6g0 (o : Option AV) : Bool := match o with
  | some (.v (.cell (.bool x))) => x
  | _ => false
theorem g6is_spec {o : Option AV} (h : g6is o = true) : o = some (.v (.cell (.bool (g6g0 o)))) := by
  unfold g6is at h
  split at h
  · rfl
  · cases h
def g6v (A : Ar) (a b : Nat) : Option AV := g6 A (100000) (fun v _ => some v) a b
def g6ok (A : Ar) (a b : Nat) : Bool := g6is (g6v A a b)
def g6r0 (A : Ar) (a b : Nat) : Bool := g6g0 (g6v A a b)
theorem g6ok_spec {A : Ar} {a b} (h : g6ok A a b = true) : g6v A a b = some (.v (.cell (.bool (g6r0 A a b)))) := g6is_spec h
def g6o (A : Ar) (args : List AV) : Option (Bool × AV) := match args with
  | [.v (.cell (.nat .u32 a)), .v (.cell (.nat .u8 b))] => some (g6ok A a b, .v (.cell (.bool (g6r0 A a b))))
  | _ => none
theorem g6o_sound : ∀ args v, g6o realA args = some (true, v) → Fn1 Try.prog 6 args v := by
  intro args v h
  unfold g6o at h
  split at h
  · rename_i a b
    simp only [Option.some.injEq, Prod.mk.injEq] at h
    obtain ⟨hc, h⟩ := h
    subst h
    · skip
      exact fn1_ofG mixed gtysOK g6O_sound g6O_det (an := g6an) (cut := g6cut) Try.func6 (c := bodyOf Try.f6) rfl (by kernel_rfl) Try.call6 (Nat.le_of_ble_eq_true rfl) (fun b => rfl) (fun _ => (show g6v realA a b = _ from g6ok_spec hc)) fun _ st => g6_go st
  · cases h
attribute [local irreducible] g6ok g6r0
end Go.Sx
