import Derived.Test.YtloapdnklljaoaaSxY13a
namespace Go.Sx
set_option linter.unusedSectionVars false
open Go.Proofs
set_option linter.unusedVariables false
set_option maxRecDepth 100000
theorem SxY13fpi {R : Type} (c : Bool) {f1 f2 : Nat → Option R} {a1 a2 : Option R} (h1 : Prs f1 a1) (h2 : Prs f2 a2) : Prs (fun k => match c with | true => f1 k | false => f2 k) (match c with | true => a1 | false => a2) := by cases c <;> assumption
attribute [local irreducible] g18ok g18r0 g18r1 g21ok g21r0 g21r1 g21r2 g19ok g19r0 g19r1 g19r2 g23ok g23r0 g23r1 g23r2 g25ok g25r0 g25r1 g25r2 g27ok g27r0 g27r1 g27r2 g8ok g8r0 g10ok g10r0
def g20O (A : Ar) : Orc := orcOf []
theorem g20O_sound : OSound Try.prog (g20O realA) := orc_sound fun f g hm args v hv => by
  cases hm
theorem g20O_det : ODet (g20O realA) := orc_det _
def g20an : Ann := [(0, ([0, 1], [0])), (1, ([0, 1], [0])), (2, ([0, 1], [0])), (3, ([0, 1], [0])), (4, ([0, 1], [0])), (5, ([0, 1], [0])), (6, ([], [0])), (7, ([0, 1], [0])), (8, ([0, 1, 5], [0])), (9, ([0, 1, 5, 6], [0])), (10, ([0, 1, 5, 6], [0])), (11, ([0, 1, 5, 6], [0])), (12, ([0, 1, 5], [0])), (13, ([5], [0]))]
def g20res : List ResultVar := [.tmp 4]
def g20cut : List Nat := [3, 5, 7, 11, 12]
noncomputable def g20N {R : Type} (A : Ar) (kk : AV → Heap → Option R) (t : List Bool → St → Option R) (p : List Bool) (s : St) : Option R := nodeN A gtys (g20O A) g20an g20cut t (bodyOf Try.f20) (finD gtys g20res kk) p s
def g20J11s (x0 x1 x2 : Int) (x3 : List Nat) (x4 : Int) : St := ⟨[(0, (pT 0 0)), (1, (i6 x0)), (5, (i6 x1)), (6, (i6 x2))], [(0, ⟨[.one (.str x3), .one (.int .i64 x4)], 42, 1⟩)]⟩
def g20J11 {R : Type} (A : Ar) (n : Nat) (kk : AV → Heap → Option R) (lg20L9 : Int → Int → Int → List Nat → Int → Option R) (x0 x1 x2 : Int) (x3 : List Nat) (x4 : Int) : Option R :=
  match A.neg x2 with
  | true => none
  | false => match A.lt (A.toN x2) x3.length with
    | true => lg20L9 x0 (A.ib .add .i64 (A.ib .mul .i64 x1 256) (A.ofN (x3.getD (A.toN x2) 0))) (A.ib .add .i64 x2 1) x3 x4
    | false => none
def g20J12s (x0 x1 : Int) (x2 : List Nat) (x3 : Int) : St := ⟨[(0, (pT 0 0)), (1, (i6 x0)), (5, (i6 x1))], [(0, ⟨[.one (.str x2), .one (.int .i64 x3)], 42, 1⟩)]⟩
def g20J12 {R : Type} (A : Ar) (n : Nat) (kk : AV → Heap → Option R)  (x0 x1 : Int) (x2 : List Nat) (x3 : Int) : Option R :=
  match A.neg x0 with
  | true => none
  | false => match A.le (A.toN x0) x2.length with
    | true => kk (i6 x1) [(0, ⟨[.one (.str ((x2.take x2.length).drop (A.toN x0))), .one (.int .i64 x3)], 42, 1⟩)]
    | false => none
def g20L9s (x0 x1 x2 : Int) (x3 : List Nat) (x4 : Int) : St := ⟨[(0, (pT 0 0)), (1, (i6 x0)), (5, (i6 x1)), (6, (i6 x2))], [(0, ⟨[.one (.str x3), .one (.int .i64 x4)], 42, 1⟩)]⟩
def g20L9 {R : Type} (A : Ar) (n : Nat) (kk : AV → Heap → Option R)  : Nat → Int → Int → Int → List Nat → Int → Option R
  | 0, _, _, _, _, _ => none
  | m + 1, x0, x1, x2, x3, x4 => match A.ic .lss x2 x0 with
  | true => g20J11 A n kk (g20L9 A n kk  m) x0 x1 x2 x3 x4
  | false => g20J12 A n kk  x0 x1 x3 x4
def g20J7s (x0 : Int) (x1 : List Nat) (x2 : Int) : St := ⟨[(0, (pT 0 0)), (1, (i6 x0))], [(0, ⟨[.one (.str x1), .one (.int .i64 x2)], 42, 1⟩)]⟩
def g20J7 {R : Type} (A : Ar) (n : Nat) (kk : AV → Heap → Option R)  (x0 : Int) (x1 : List Nat) (x2 : Int) : Option R :=
  g20L9 A n kk  n x0 0 0 x1 x2
def g20J5s (x0 : Int) (x1 : List Nat) (x2 : Int) : St := ⟨[(0, (pT 0 0)), (1, (i6 x0))], [(0, ⟨[.one (.str x1), .one (.int .i64 x2)], 42, 1⟩)]⟩
def g20J5 {R : Type} (A : Ar) (n : Nat) (kk : AV → Heap → Option R)  (x0 : Int) (x1 : List Nat) (x2 : Int) : Option R :=
  match A.ic .neq x2 0 with
  | true => kk (i6 0) [(0, ⟨[.one (.str x1), .one (.int .i64 x2)], 42, 1⟩)]
  | false => g20J7 A n kk  x0 x1 x2
def g20J3s (x0 : Int) (x1 : List Nat) (x2 : Int) : St := ⟨[(0, (pT 0 0)), (1, (i6 x0))], [(0, ⟨[.one (.str x1), .one (.int .i64 x2)], 42, 1⟩)]⟩
def g20J3 {R : Type} (A : Ar) (n : Nat) (kk : AV → Heap → Option R)  (x0 : Int) (x1 : List Nat) (x2 : Int) : Option R :=
  match A.ic .eql x2 0 with
  | true => match A.ic .lss (A.ofN x1.length) x0 with
    | true => g20J5 A n kk  x0 x1 2
    | false => g20J5 A n kk  x0 x1 x2
  | false => g20J5 A n kk  x0 x1 x2
def g20 {R : Type} (A : Ar) (n : Nat) (kk : AV → Heap → Option R) (x0 : Int) (x1 : List Nat) (x2 : Int) : Option R :=
  match A.ic .eql x2 0 with
  | true => match A.ic .lss x0 1 with
    | true => g20J3 A n kk  x0 x1 1
    | false => match A.ic .gtr x0 7 with
      | true => g20J3 A n kk  x0 x1 1
      | false => g20J3 A n kk  x0 x1 x2
  | false => g20J3 A n kk  x0 x1 x2
section
variable {R : Type} {A : Ar} {n : Nat} {kk : AV → Heap → Option R} {tb : Nat → List Bool → St → Option R} (st : Stp (g20N A kk) tb)
include st
theorem g20J11_go {lg20L9 : Int → Int → Int → List Nat → Int → Option R} (hg20L9 : ∀ (x0 x1 x2 : Int) (x3 : List Nat) (x4 : Int), Prs (fun k => tb k (pth 1012) (g20L9s x0 x1 x2 x3 x4)) (lg20L9 x0 x1 x2 x3 x4)) {x0 : Int} {x1 : Int} {x2 : Int} {x3 : List Nat} {x4 : Int} : Prs (fun k => tb k (pth 2025) (g20J11s x0 x1 x2 x3 x4)) (g20J11 A n kk lg20L9 x0 x1 x2 x3 x4) := by
  unfold g20J11
  exact st.g (pc (SxY13fpi _ pn (SxY13fpi _ (hg20L9 _ _ _ _ _) pn)) (by kernel_rfl))
theorem g20J12_go {x0 : Int} {x1 : Int} {x2 : List Nat} {x3 : Int} : Prs (fun k => tb k (pth 127) (g20J12s x0 x1 x2 x3)) (g20J12 A n kk x0 x1 x2 x3) := by
  unfold g20J12
  exact st.g (pc (SxY13fpi _ pn (SxY13fpi _ (pf _) pn)) (by kernel_rfl))
theorem g20L9_go (m : Nat) : ∀ (x0 x1 x2 : Int) (x3 : List Nat) (x4 : Int), Prs (fun k => tb k (pth 1012) (g20L9s x0 x1 x2 x3 x4)) (g20L9 A n kk m x0 x1 x2 x3 x4) := by
  induction m with
  | zero => intro x0 x1 x2 x3 x4; exact pn0
  | succ m ih =>
    intro x0 x1 x2 x3 x4; rw [g20L9]
    exact st.g (pc (SxY13fpi _ (g20J11_go st ih) (g20J12_go st)) (by kernel_rfl))
theorem g20J7_go {x0 : Int} {x1 : List Nat} {x2 : Int} : Prs (fun k => tb k (pth 31) (g20J7s x0 x1 x2)) (g20J7 A n kk x0 x1 x2) := by
  unfold g20J7
  exact st.g (pc (g20L9_go st n _ _ _ _ _) (by kernel_rfl))
theorem g20J5_go {x0 : Int} {x1 : List Nat} {x2 : Int} : Prs (fun k => tb k (pth 15) (g20J5s x0 x1 x2)) (g20J5 A n kk x0 x1 x2) := by
  unfold g20J5
  exact st.g (pc (SxY13fpi _ (pf _) (g20J7_go st)) (by kernel_rfl))
theorem g20J3_go {x0 : Int} {x1 : List Nat} {x2 : Int} : Prs (fun k => tb k (pth 7) (g20J3s x0 x1 x2)) (g20J3 A n kk x0 x1 x2) := by
  unfold g20J3
  exact st.g (pc (SxY13fpi _ (SxY13fpi _ (g20J5_go st) (g20J5_go st)) (g20J5_go st)) (by kernel_rfl))
theorem g20_go {x0 : Int} {x1 : List Nat} {x2 : Int} : Prs (fun k => funN A gtys (g20O A) g20an g20cut (bodyOf Try.f20) g20res [(pT 0 0), (i6 x0)] [(0, ⟨[.one (.str x1), .one (.int .i64 x2)], 42, 1⟩)] kk (tb k)) (g20 A n kk x0 x1 x2) := by
  unfold g20
  exact pc (SxY13fpi _ (SxY13fpi _ (g20J3_go st) (SxY13fpi _ (g20J3_go st) (g20J3_go st))) (g20J3_go st)) (by kernel_rfl)
end
def g20is (o : Option (AV × Heap)) : Bool := match o with
  | some (.v (.cell (.int .i64 _)), [(n0, ⟨[.one (.str _), .one (.int .i64 _)], n1, n2⟩)]) => Nat.beq n0 0 && (Nat.beq n1 42 && (Nat.beq n2 1))
  | _ => false
def g20g0 (o : Option (AV × Heap)) : Int := match o with
  | some (.v (.cell (.int .i64 x)), [(_, ⟨[.one (.str _), .one (.int .i64 _)], _, _⟩)]) => x
  | _ => 0
def g20g1 (o : Option (AV × Heap)) : List Nat := match o with
  | some (.v (.cell (.int .i64 _)), [(_, ⟨[.one (.str x), .one (.int .i64 _)], _, _⟩)]) => x
  | _ => []
def g20g2 (o : Option (AV × Heap)) : Int := match o with
  | some (.v (.cell (.int .i64 _)), [(_, ⟨[.one (.str _), .one (.int .i64 x)], _, _⟩)]) => x
  | _ => 0
theorem g20is_spec {o : Option (AV × Heap)} (h : g20is o = true) : o = some ((i6 (g20g0 o)), [(0, ⟨[.one (.str (g20g1 o)), .one (.int .i64 (g20g2 o))], 42, 1⟩)]) := by
  unfold g20is at h
  split at h
  · rename_i z0 n0 z2 z3 n1 n2
    simp only [Bool.and_eq_true] at h
    have en0 := beq_true h.1
    subst en0
    replace h := h.2
    have en1 := beq_true h.1
    subst en1
    replace h := h.2
    have en2 := beq_true h
    subst en2
    rfl
  · cases h
def g20v (A : Ar) (x0 : Int) (x1 : List Nat) (x2 : Int) : Option (AV × Heap) := g20 A (100000) (outH [0] none) x0 x1 x2
def g20ok (A : Ar) (x0 : Int) (x1 : List Nat) (x2 : Int) : Bool := g20is (g20v A x0 x1 x2)
def g20r0 (A : Ar) (x0 : Int) (x1 : List Nat) (x2 : Int) : Int := g20g0 (g20v A x0 x1 x2)
def g20r1 (A : Ar) (x0 : Int) (x1 : List Nat) (x2 : Int) : List Nat := g20g1 (g20v A x0 x1 x2)
def g20r2 (A : Ar) (x0 : Int) (x1 : List Nat) (x2 : Int) : Int := g20g2 (g20v A x0 x1 x2)
theorem g20ok_spec {A : Ar} {x0 x1 x2} (h : g20ok A x0 x1 x2 = true) : g20v A x0 x1 x2 = some ((i6 (g20r0 A x0 x1 x2)), [(0, ⟨[.one (.str (g20r1 A x0 x1 x2)), .one (.int .i64 (g20r2 A x0 x1 x2))], 42, 1⟩)]) := g20is_spec h
def g20o (A : Ar) (args : List AV) (h : Heap) : Option (Bool × AV × Heap) := match args, h with
  | [.v (.cell (.ptr n0 n1 none)), .v (.cell (.int .i64 x0))], [(n2, ⟨[.one (.str x1), .one (.int .i64 x2)], n3, n4⟩)] => match Nat.beq n0 0 && (Nat.beq n1 0 && (Nat.beq n2 0 && (Nat.beq n3 42 && (Nat.beq n4 1)))) with
    | true => some (g20ok A x0 x1 x2, (i6 (g20r0 A x0 x1 x2)), [(0, ⟨[.one (.str (g20r1 A x0 x1 x2)), .one (.int .i64 (g20r2 A x0 x1 x2))], 42, 1⟩)])
    | false => none
  | _, _ => none
theorem g20o_sound : ∀ args h v h', g20o realA args h = some (true, v, h') → FnH Try.prog 20 args h v h' := by
  intro args h v h' hh
  unfold g20o at hh
  split at hh
  · rename_i n0 n1 x0 n2 x1 x2 n3 n4
    split at hh
    case h_2 => cases hh
    rename_i hc0
    simp only [Option.some.injEq, Prod.mk.injEq] at hh
    obtain ⟨hc, hv, hh⟩ := hh
    subst hv
    subst hh
    simp only [Bool.and_eq_true] at hc0
    have en0 := beq_true hc0.1
    subst en0
    replace hc0 := hc0.2
    have en1 := beq_true hc0.1
    subst en1
    replace hc0 := hc0.2
    have en2 := beq_true hc0.1
    subst en2
    replace hc0 := hc0.2
    have en3 := beq_true hc0.1
    subst en3
    replace hc0 := hc0.2
    have en4 := beq_true hc0
    subst en4
    exact fnh_ofG mixed gtysOK g20O_sound g20O_det (an := g20an) (cut := g20cut) Try.func20 (c := bodyOf Try.f20) rfl (by kernel_rfl) Try.call20 (Nat.le_of_ble_eq_true rfl) (pins := [0]) (nilr := none) (fun _ => (show g20v realA x0 x1 x2 = _ from g20ok_spec hc)) fun _ st => g20_go st
  · cases hh
attribute [local irreducible] g20ok g20r0 g20r1 g20r2
def g26O (A : Ar) : Orc := orcOf []
theorem g26O_sound : OSound Try.prog (g26O realA) := orc_sound fun f g hm args v hv => by
  cases hm
theorem g26O_det : ODet (g26O realA) := orc_det _
def g26an : Ann := [(0, ([0], [0])), (1, ([0], [0])), (2, ([], [0])), (3, ([0], [0]))]
def g26res : List ResultVar := [.tmp 2]
def g26cut : List Nat := [3]
noncomputable def g26N {R : Type} (A : Ar) (kk : AV → Heap → Option R) (t : List Bool → St → Option R) (p : List Bool) (s : St) : Option R := nodeN A gtys (g26O A) g26an g26cut t (bodyOf Try.f26) (finD gtys g26res kk) p s
def g26J3s (x0 : List Nat) (x1 : Int) : St := ⟨[(0, (pT 0 0))], [(0, ⟨[.one (.str x0), .one (.int .i64 x1)], 42, 1⟩)]⟩
def g26J3 {R : Type} (A : Ar) (n : Nat) (kk : AV → Heap → Option R)  (x0 : List Nat) (x1 : Int) : Option R :=
  kk (i6 (A.ofN x0.length)) [(0, ⟨[.one (.str x0), .one (.int .i64 x1)], 42, 1⟩)]
def g26 {R : Type} (A : Ar) (n : Nat) (kk : AV → Heap → Option R) (x0 : List Nat) (x1 : Int) : Option R :=
  match A.ic .neq x1 0 with
  | true => kk (i6 0) [(0, ⟨[.one (.str x0), .one (.int .i64 x1)], 42, 1⟩)]
  | false => g26J3 A n kk  x0 x1
section
variable {R : Type} {A : Ar} {n : Nat} {kk : AV → Heap → Option R} {tb : Nat → List Bool → St → Option R} (st : Stp (g26N A kk) tb)
include st
theorem g26J3_go {x0 : List Nat} {x1 : Int} : Prs (fun k => tb k (pth 7) (g26J3s x0 x1)) (g26J3 A n kk x0 x1) := by
  unfold g26J3
  exact st.g (pc (pf _) (by kernel_rfl))
theorem g26_go {x0 : List Nat} {x1 : Int} : Prs (fun k => funN A gtys (g26O A) g26an g26cut (bodyOf Try.f26) g26res [(pT 0 0)] [(0, ⟨[.one (.str x0), .one (.int .i64 x1)], 42, 1⟩)] kk (tb k)) (g26 A n kk x0 x1) := by
  unfold g26
  exact pc (SxY13fpi _ (pf _) (g26J3_go st)) (by kernel_rfl)
end
def g26is (o : Option (AV × Heap)) : Bool := match o with
  | some (.v (.cell (.int .i64 _)), [(n0, ⟨[.one (.str _), .one (.int .i64 _)], n1, n2⟩)]) => Nat.beq n0 0 && (Nat.beq n1 42 && (Nat.beq n2 1))
  | _ => false
def g26g0 (o : Option (AV × Heap)) : Int := match o with
  | some (.v (.cell (.int .i64 x)), [(_, ⟨[.one (.str _), .one (.int .i64 _)], _, _⟩)]) => x
  | _ => 0
def g26g1 (o : Option (AV × Heap)) : List Nat := match o with
  | some (.v (.cell (.int .i64 _)), [(_, ⟨[.one (.str x), .one (.int .i64 _)], _, _⟩)]) => x
  | _ => []
def g26g2 (o : Option (AV × Heap)) : Int := match o with
  | some (.v (.cell (.int .i64 _)), [(_, ⟨[.one (.str _), .one (.int .i64 x)], _, _⟩)]) => x
  | _ => 0
theorem g26is_spec {o : Option (AV × Heap)} (h : g26is o = true) : o = some ((i6 (g26g0 o)), [(0, ⟨[.one (.str (g26g1 o)), .one (.int .i64 (g26g2 o))], 42, 1⟩)]) := by
  unfold g26is at h
  split at h
  · rename_i z0 n0 z2 z3 n1 n2
    simp only [Bool.and_eq_true] at h
    have en0 := beq_true h.1
    subst en0
    replace h := h.2
    have en1 := beq_true h.1
    subst en1
    replace h := h.2
    have en2 := beq_true h
    subst en2
    rfl
  · cases h
def g26v (A : Ar) (x0 : List Nat) (x1 : Int) : Option (AV × Heap) := g26 A (100000) (outH [0] none) x0 x1
def g26ok (A : Ar) (x0 : List Nat) (x1 : Int) : Bool := g26is (g26v A x0 x1)
def g26r0 (A : Ar) (x0 : List Nat) (x1 : Int) : Int := g26g0 (g26v A x0 x1)
def g26r1 (A : Ar) (x0 : List Nat) (x1 : Int) : List Nat := g26g1 (g26v A x0 x1)
def g26r2 (A : Ar) (x0 : List Nat) (x1 : Int) : Int := g26g2 (g26v A x0 x1)
theorem g26ok_spec {A : Ar} {x0 x1} (h : g26ok A x0 x1 = true) : g26v A x0 x1 = some ((i6 (g26r0 A x0 x1)), [(0, ⟨[.one (.str (g26r1 A x0 x1)), .one (.int .i64 (g26r2 A x0 x1))], 42, 1⟩)]) := g26is_spec h
def g26o (A : Ar) (args : List AV) (h : Heap) : Option (Bool × AV × Heap) := match args, h with
  | [.v (.cell (.ptr n0 n1 none))], [(n2, ⟨[.one (.str x0), .one (.int .i64 x1)], n3, n4⟩)] => match Nat.beq n0 0 && (Nat.beq n1 0 && (Nat.beq n2 0 && (Nat.beq n3 42 && (Nat.beq n4 1)))) with
    | true => some (g26ok A x0 x1, (i6 (g26r0 A x0 x1)), [(0, ⟨[.one (.str (g26r1 A x0 x1)), .one (.int .i64 (g26r2 A x0 x1))], 42, 1⟩)])
    | false => none
  | _, _ => none
theorem g26o_sound : ∀ args h v h', g26o realA args h = some (true, v, h') → FnH Try.prog 26 args h v h' := by
  intro args h v h' hh
  unfold g26o at hh
  split at hh
  · rename_i n0 n1 n2 x0 x1 n3 n4
    split at hh
    case h_2 => cases hh
    rename_i hc0
    simp only [Option.some.injEq, Prod.mk.injEq] at hh
    obtain ⟨hc, hv, hh⟩ := hh
    subst hv
    subst hh
    simp only [Bool.and_eq_true] at hc0
    have en0 := beq_true hc0.1
    subst en0
    replace hc0 := hc0.2
    have en1 := beq_true hc0.1
    subst en1
    replace hc0 := hc0.2
    have en2 := beq_true hc0.1
    subst en2
    replace hc0 := hc0.2
    have en3 := beq_true hc0.1
    subst en3
    replace hc0 := hc0.2
    have en4 := beq_true hc0
    subst en4
    exact fnh_ofG mixed gtysOK g26O_sound g26O_det (an := g26an) (cut := g26cut) Try.func26 (c := bodyOf Try.f26) rfl (by kernel_rfl) Try.call26 (Nat.le_of_ble_eq_true rfl) (pins := [0]) (nilr := none) (fun _ => (show g26v realA x0 x1 = _ from g26ok_spec hc)) fun _ st => g26_go st
  · cases hh
attribute [local irreducible] g26ok g26r0 g26r1 g26r2
def g22O (A : Ar) : Orc := orcOf []
theorem g22O_sound : OSound Try.prog (g22O realA) := orc_sound fun f g hm args v hv => by
  cases hm
theorem g22O_det : ODet (g22O realA) := orc_det _
def g22an : Ann := [(0, ([0, 1], [0])), (1, ([0, 1], [0])), (2, ([0, 1], [0])), (3, ([0, 1], [0])), (4, ([0, 1], [0])), (5, ([0, 1], [0])), (6, ([], [0])), (7, ([0, 1], [0])), (8, ([0, 1, 5], [0])), (9, ([5], [0]))]
def g22res : List ResultVar := [.tmp 4]
def g22cut : List Nat := [3, 5, 7]
noncomputable def g22N {R : Type} (A : Ar) (kk : AV → Heap → Option R) (t : List Bool → St → Option R) (p : List Bool) (s : St) : Option R := nodeN A gtys (g22O A) g22an g22cut t (bodyOf Try.f22) (finD gtys g22res kk) p s
def g22J7s (x0 : Int) (x1 : List Nat) (x2 : Int) : St := ⟨[(0, (pT 0 0)), (1, (i6 x0))], [(0, ⟨[.one (.str x1), .one (.int .i64 x2)], 42, 1⟩)]⟩
def g22J7 {R : Type} (A : Ar) (n : Nat) (kk : AV → Heap → Option R)  (x0 : Int) (x1 : List Nat) (x2 : Int) : Option R :=
  match A.neg x0 with
  | true => none
  | false => match A.le (A.toN x0) x1.length with
    | true => match A.neg x0 with
      | true => none
      | false => match A.le (A.toN x0) x1.length with
        | true => kk (tS ((x1.take (A.toN x0)).drop 0)) [(0, ⟨[.one (.str ((x1.take x1.length).drop (A.toN x0))), .one (.int .i64 x2)], 42, 1⟩)]
        | false => none
    | false => none
def g22J5s (x0 : Int) (x1 : List Nat) (x2 : Int) : St := ⟨[(0, (pT 0 0)), (1, (i6 x0))], [(0, ⟨[.one (.str x1), .one (.int .i64 x2)], 42, 1⟩)]⟩
def g22J5 {R : Type} (A : Ar) (n : Nat) (kk : AV → Heap → Option R)  (x0 : Int) (x1 : List Nat) (x2 : Int) : Option R :=
  match A.ic .neq x2 0 with
  | true => kk (tS []) [(0, ⟨[.one (.str x1), .one (.int .i64 x2)], 42, 1⟩)]
  | false => g22J7 A n kk  x0 x1 x2
def g22J3s (x0 : Int) (x1 : List Nat) (x2 : Int) : St := ⟨[(0, (pT 0 0)), (1, (i6 x0))], [(0, ⟨[.one (.str x1), .one (.int .i64 x2)], 42, 1⟩)]⟩
def g22J3 {R : Type} (A : Ar) (n : Nat) (kk : AV → Heap → Option R)  (x0 : Int) (x1 : List Nat) (x2 : Int) : Option R :=
  match A.ic .eql x2 0 with
  | true => match A.ic .lss (A.ofN x1.length) x0 with
    | true => g22J5 A n kk  x0 x1 2
    | false => g22J5 A n kk  x0 x1 x2
  | false => g22J5 A n kk  x0 x1 x2
def g22 {R : Type} (A : Ar) (n : Nat) (kk : AV → Heap → Option R) (x0 : Int) (x1 : List Nat) (x2 : Int) : Option R :=
  match A.ic .eql x2 0 with
  | true => match A.ic .lss x0 0 with
    | true => g22J3 A n kk  x0 x1 1
    | false => g22J3 A n kk  x0 x1 x2
  | false => g22J3 A n kk  x0 x1 x2
section
variable {R : Type} {A : Ar} {n : Nat} {kk : AV → Heap → Option R} {tb : Nat → List Bool → St → Option R} (st : Stp (g22N A kk) tb)
include st
theorem g22J7_go {x0 : Int} {x1 : List Nat} {x2 : Int} : Prs (fun k => tb k (pth 31) (g22J7s x0 x1 x2)) (g22J7 A n kk x0 x1 x2) := by
  unfold g22J7
  exact st.g (pc (SxY13fpi _ pn (SxY13fpi _ (SxY13fpi _ pn (SxY13fpi _ (pf _) pn)) pn)) (by kernel_rfl))
theorem g22J5_go {x0 : Int} {x1 : List Nat} {x2 : Int} : Prs (fun k => tb k (pth 15) (g22J5s x0 x1 x2)) (g22J5 A n kk x0 x1 x2) := by
  unfold g22J5
  exact st.g (pc (SxY13fpi _ (pf _) (g22J7_go st)) (by kernel_rfl))
theorem g22J3_go {x0 : Int} {x1 : List Nat} {x2 : Int} : Prs (fun k => tb k (pth 7) (g22J3s x0 x1 x2)) (g22J3 A n kk x0 x1 x2) := by
  unfold g22J3
  exact st.g (pc (SxY13fpi _ (SxY13fpi _ (g22J5_go st) (g22J5_go st)) (g22J5_go st)) (by kernel_rfl))
theorem g22_go {x0 : Int} {x1 : List Nat} {x2 : Int} : Prs (fun k => funN A gtys (g22O A) g22an g22cut (bodyOf Try.f22) g22res [(pT 0 0), (i6 x0)] [(0, ⟨[.one (.str x1), .one (.int .i64 x2)], 42, 1⟩)] kk (tb k)) (g22 A n kk x0 x1 x2) := by
  unfold g22
  exact pc (SxY13fpi _ (SxY13fpi _ (g22J3_go st) (g22J3_go st)) (g22J3_go st)) (by kernel_rfl)
end
def g22is (o : Option (AV × Heap)) : Bool := match o with
  | some (.v (.cell (.str _)), [(n0, ⟨[.one (.str _), .one (.int .i64 _)], n1, n2⟩)]) => Nat.beq n0 0 && (Nat.beq n1 42 && (Nat.beq n2 1))
  | _ => false
def g22g0 (o : Option (AV × Heap)) : List Nat := match o with
  | some (.v (.cell (.str x)), [(_, ⟨[.one (.str _), .one (.int .i64 _)], _, _⟩)]) => x
  | _ => []
def g22g1 (o : Option (AV × Heap)) : List Nat := match o with
  | some (.v (.cell (.str _)), [(_, ⟨[.one (.str x), .one (.int .i64 _)], _, _⟩)]) => x
  | _ => []
def g22g2 (o : Option (AV × Heap)) : Int := match o with
  | some (.v (.cell (.str _)), [(_, ⟨[.one (.str _), .one (.int .i64 x)], _, _⟩)]) => x
  | _ => 0
theorem g22is_spec {o : Option (AV × Heap)} (h : g22is o = true) : o = some ((tS (g22g0 o)), [(0, ⟨[.one (.str (g22g1 o)), .one (.int .i64 (g22g2 o))], 42, 1⟩)]) := by
  unfold g22is at h
  split at h
  · rename_i z0 n0 z2 z3 n1 n2
    simp only [Bool.and_eq_true] at h
    have en0 := beq_true h.1
    subst en0
    replace h := h.2
    have en1 := beq_true h.1
    subst en1
    replace h := h.2
    have en2 := beq_true h
    subst en2
    rfl
  · cases h
def g22v (A : Ar) (x0 : Int) (x1 : List Nat) (x2 : Int) : Option (AV × Heap) := g22 A (100000) (outH [0] none) x0 x1 x2
def g22ok (A : Ar) (x0 : Int) (x1 : List Nat) (x2 : Int) : Bool := g22is (g22v A x0 x1 x2)
def g22r0 (A : Ar) (x0 : Int) (x1 : List Nat) (x2 : Int) : List Nat := g22g0 (g22v A x0 x1 x2)
def g22r1 (A : Ar) (x0 : Int) (x1 : List Nat) (x2 : Int) : List Nat := g22g1 (g22v A x0 x1 x2)
def g22r2 (A : Ar) (x0 : Int) (x1 : List Nat) (x2 : Int) : Int := g22g2 (g22v A x0 x1 x2)
theorem g22ok_spec {A : Ar} {x0 x1 x2} (h : g22ok A x0 x1 x2 = true) : g22v A x0 x1 x2 = some ((tS (g22r0 A x0 x1 x2)), [(0, ⟨[.one (.str (g22r1 A x0 x1 x2)), .one (.int .i64 (g22r2 A x0 x1 x2))], 42, 1⟩)]) := g22is_spec h
def g22o (A : Ar) (args : List AV) (h : Heap) : Option (Bool × AV × Heap) := match args, h with
  | [.v (.cell (.ptr n0 n1 none)), .v (.cell (.int .i64 x0))], [(n2, ⟨[.one (.str x1), .one (.int .i64 x2)], n3, n4⟩)] => match Nat.beq n0 0 && (Nat.beq n1 0 && (Nat.beq n2 0 && (Nat.beq n3 42 && (Nat.beq n4 1)))) with
    | true => some (g22ok A x0 x1 x2, (tS (g22r0 A x0 x1 x2)), [(0, ⟨[.one (.str (g22r1 A x0 x1 x2)), .one (.int .i64 (g22r2 A x0 x1 x2))], 42, 1⟩)])
    | false => none
  | _, _ => none
theorem g22o_sound : ∀ args h v h', g22o realA args h = some (true, v, h') → FnH Try.prog 22 args h v h' := by
  intro args h v h' hh
  unfold g22o at hh
  split at hh
  · rename_i n0 n1 x0 n2 x1 x2 n3 n4
    split at hh
    case h_2 => cases hh
    rename_i hc0
    simp only [Option.some.injEq, Prod.mk.injEq] at hh
    obtain ⟨hc, hv, hh⟩ := hh
    subst hv
    subst hh
    simp only [Bool.and_eq_true] at hc0
    have en0 := beq_true hc0.1
    subst en0
    replace hc0 := hc0.2
    have en1 := beq_true hc0.1
    subst en1
    replace hc0 := hc0.2
    have en2 := beq_true hc0.1
    subst en2
    replace hc0 := hc0.2
    have en3 := beq_true hc0.1
    subst en3
    replace hc0 := hc0.2
    have en4 := beq_true hc0
    subst en4
    exact fnh_ofG mixed gtysOK g22O_sound g22O_det (an := g22an) (cut := g22cut) Try.func22 (c := bodyOf Try.f22) rfl (by kernel_rfl) Try.call22 (Nat.le_of_ble_eq_true rfl) (pins := [0]) (nilr := none) (fun _ => (show g22v realA x0 x1 x2 = _ from g22ok_spec hc)) fun _ st => g22_go st
  · cases hh
attribute [local irreducible] g22ok g22r0 g22r1 g22r2
def g24O (A : Ar) : Orc := orcH [] [(20, ⟨[], none, (g20o A)⟩), (22, ⟨[], none, (g22o A)⟩)]
theorem g24O_sound : OSound Try.prog (g24O realA) := orcH_sound (fun f g hm args v hv => by
    cases hm) (fun f e hm args h v h' hv => by
    simp only [List.mem_cons, List.not_mem_nil, or_false, Prod.mk.injEq] at hm
    rcases hm with ⟨rfl, rfl⟩ | ⟨rfl, rfl⟩
    · exact g20o_sound _ _ _ _ hv
    · exact g22o_sound _ _ _ _ hv)
theorem g24O_det : ODet (g24O realA) := orcH_det _ _
def g24an : Ann := [(0, ([0, 1], [0])), (1, ([0, 1], [0]))]
def g24res : List ResultVar := [.tmp 4]
def g24cut : List Nat := []
noncomputable def g24N {R : Type} (A : Ar) (kk : AV → Heap → Option R) (t : List Bool → St → Option R) (p : List Bool) (s : St) : Option R := nodeN A gtys (g24O A) g24an g24cut t (bodyOf Try.f24) (finD gtys g24res kk) p s
def g24 {R : Type} (A : Ar) (n : Nat) (kk : AV → Heap → Option R) (x0 : Int) (x1 : List Nat) (x2 : Int) : Option R :=
  match g20ok A x0 x1 x2 with
  | true => match g22ok A (g20r0 A x0 x1 x2) (g20r1 A x0 x1 x2) (g20r2 A x0 x1 x2) with
    | true => kk (tS (g22r0 A (g20r0 A x0 x1 x2) (g20r1 A x0 x1 x2) (g20r2 A x0 x1 x2))) [(0, ⟨[.one (.str (g22r1 A (g20r0 A x0 x1 x2) (g20r1 A x0 x1 x2) (g20r2 A x0 x1 x2))), .one (.int .i64 (g22r2 A (g20r0 A x0 x1 x2) (g20r1 A x0 x1 x2) (g20r2 A x0 x1 x2)))], 42, 1⟩)]
    | false => none
  | false => none
section
variable {R : Type} {A : Ar} {n : Nat} {kk : AV → Heap → Option R} {tb : Nat → List Bool → St → Option R} (st : Stp (g24N A kk) tb)
include st
theorem g24_go {x0 : Int} {x1 : List Nat} {x2 : Int} : Prs (fun k => funN A gtys (g24O A) g24an g24cut (bodyOf Try.f24) g24res [(pT 0 0), (i6 x0)] [(0, ⟨[.one (.str x1), .one (.int .i64 x2)], 42, 1⟩)] kk (tb k)) (g24 A n kk x0 x1 x2) := by
  unfold g24
  exact pc (SxY13fpi _ (SxY13fpi _ (pf _) pn) pn) (by kernel_rfl)
end
def g24is (o : Option (AV × Heap)) : Bool := match o with
  | some (.v (.cell (.str _)), [(n0, ⟨[.one (.str _), .one (.int .i64 _)], n1, n2⟩)]) => Nat.beq n0 0 && (Nat.beq n1 42 && (Nat.beq n2 1))
  | _ => false
def g24g0 (o : Option (AV × Heap)) : List Nat := match o with
  | some (.v (.cell (.str x)), [(_, ⟨[.one (.str _), .one (.int .i64 _)], _, _⟩)]) => x
  | _ => []
def g24g1 (o : Option (AV × Heap)) : List Nat := match o with
  | some (.v (.cell (.str _)), [(_, ⟨[.one (.str x), .one (.int .i64 _)], _, _⟩)]) => x
  | _ => []
def g24g2 (o : Option (AV × Heap)) : Int := match o with
  | some (.v (.cell (.str _)), [(_, ⟨[.one (.str _), .one (.int .i64 x)], _, _⟩)]) => x
  | _ => 0
theorem g24is_spec {o : Option (AV × Heap)} (h : g24is o = true) : o = some ((tS (g24g0 o)), [(0, ⟨[.one (.str (g24g1 o)), .one (.int .i64 (g24g2 o))], 42, 1⟩)]) := by
  unfold g24is at h
  split at h
  · rename_i z0 n0 z2 z3 n1 n2
    simp only [Bool.and_eq_true] at h
    have en0 := beq_true h.1
    subst en0
    replace h := h.2
    have en1 := beq_true h.1
    subst en1
    replace h := h.2
    have en2 := beq_true h
    subst en2
    rfl
  · cases h
def g24v (A : Ar) (x0 : Int) (x1 : List Nat) (x2 : Int) : Option (AV × Heap) := g24 A (100000) (outH [0] none) x0 x1 x2
def g24ok (A : Ar) (x0 : Int) (x1 : List Nat) (x2 : Int) : Bool := g24is (g24v A x0 x1 x2)
def g24r0 (A : Ar) (x0 : Int) (x1 : List Nat) (x2 : Int) : List Nat := g24g0 (g24v A x0 x1 x2)
def g24r1 (A : Ar) (x0 : Int) (x1 : List Nat) (x2 : Int) : List Nat := g24g1 (g24v A x0 x1 x2)
def g24r2 (A : Ar) (x0 : Int) (x1 : List Nat) (x2 : Int) : Int := g24g2 (g24v A x0 x1 x2)
theorem g24ok_spec {A : Ar} {x0 x1 x2} (h : g24ok A x0 x1 x2 = true) : g24v A x0 x1 x2 = some ((tS (g24r0 A x0 x1 x2)), [(0, ⟨[.one (.str (g24r1 A x0 x1 x2)), .one (.int .i64 (g24r2 A x0 x1 x2))], 42, 1⟩)]) := g24is_spec h
def g24o (A : Ar) (args : List AV) (h : Heap) : Option (Bool × AV × Heap) := match args, h with
  | [.v (.cell (.ptr n0 n1 none)), .v (.cell (.int .i64 x0))], [(n2, ⟨[.one (.str x1), .one (.int .i64 x2)], n3, n4⟩)] => match Nat.beq n0 0 && (Nat.beq n1 0 && (Nat.beq n2 0 && (Nat.beq n3 42 && (Nat.beq n4 1)))) with
    | true => some (g24ok A x0 x1 x2, (tS (g24r0 A x0 x1 x2)), [(0, ⟨[.one (.str (g24r1 A x0 x1 x2)), .one (.int .i64 (g24r2 A x0 x1 x2))], 42, 1⟩)])
    | false => none
  | _, _ => none
theorem g24o_sound : ∀ args h v h', g24o realA args h = some (true, v, h') → FnH Try.prog 24 args h v h' := by
  intro args h v h' hh
  unfold g24o at hh
  split at hh
  · rename_i n0 n1 x0 n2 x1 x2 n3 n4
    split at hh
    case h_2 => cases hh
    rename_i hc0
    simp only [Option.some.injEq, Prod.mk.injEq] at hh
    obtain ⟨hc, hv, hh⟩ := hh
    subst hv
    subst hh
    simp only [Bool.and_eq_true] at hc0
    have en0 := beq_true hc0.1
    subst en0
    replace hc0 := hc0.2
    have en1 := beq_true hc0.1
    subst en1
    replace hc0 := hc0.2
    have en2 := beq_true hc0.1
    subst en2
    replace hc0 := hc0.2
    have en3 := beq_true hc0.1
    subst en3
    replace hc0 := hc0.2
    have en4 := beq_true hc0
    subst en4
    exact fnh_ofG mixed gtysOK g24O_sound g24O_det (an := g24an) (cut := g24cut) Try.func24 (c := bodyOf Try.f24) rfl (by kernel_rfl) Try.call24 (Nat.le_of_ble_eq_true rfl) (pins := [0]) (nilr := none) (fun _ => (show g24v realA x0 x1 x2 = _ from g24ok_spec hc)) fun _ st => g24_go st
  · cases hh
attribute [local irreducible] g24ok g24r0 g24r1 g24r2
def g28O (A : Ar) : Orc := orcOf []
theorem g28O_sound : OSound Try.prog (g28O realA) := orc_sound fun f g hm args v hv => by
  cases hm
theorem g28O_det : ODet (g28O realA) := orc_det _
def g28an : Ann := [(0, ([0], [0])), (1, ([0], [0])), (2, ([], [0])), (3, ([0], [0]))]
def g28res : List ResultVar := [.tmp 2]
def g28cut : List Nat := [3]
noncomputable def g28N {R : Type} (A : Ar) (kk : AV → Heap → Option R) (t : List Bool → St → Option R) (p : List Bool) (s : St) : Option R := nodeN A gtys (g28O A) g28an g28cut t (bodyOf Try.f28) (finD gtys g28res kk) p s
def g28J3s (x0 : List Nat) (x1 : Int) : St := ⟨[(0, (pT 0 0))], [(0, ⟨[.one (.str x0), .one (.int .i64 x1)], 42, 1⟩)]⟩
def g28J3 {R : Type} (A : Ar) (n : Nat) (kk : AV → Heap → Option R)  (x0 : List Nat) (x1 : Int) : Option R :=
  kk (i6 x1) [(0, ⟨[.one (.str x0), .one (.int .i64 x1)], 42, 1⟩)]
def g28 {R : Type} (A : Ar) (n : Nat) (kk : AV → Heap → Option R) (x0 : List Nat) (x1 : Int) : Option R :=
  match A.ic .eql x1 0 with
  | true => match A.sc .neq x0 [] with
    | true => kk (i6 2) [(0, ⟨[.one (.str x0), .one (.int .i64 x1)], 42, 1⟩)]
    | false => g28J3 A n kk  x0 x1
  | false => g28J3 A n kk  x0 x1
section
variable {R : Type} {A : Ar} {n : Nat} {kk : AV → Heap → Option R} {tb : Nat → List Bool → St → Option R} (st : Stp (g28N A kk) tb)
include st
theorem g28J3_go {x0 : List Nat} {x1 : Int} : Prs (fun k => tb k (pth 7) (g28J3s x0 x1)) (g28J3 A n kk x0 x1) := by
  unfold g28J3
  exact st.g (pc (pf _) (by kernel_rfl))
theorem g28_go {x0 : List Nat} {x1 : Int} : Prs (fun k => funN A gtys (g28O A) g28an g28cut (bodyOf Try.f28) g28res [(pT 0 0)] [(0, ⟨[.one (.str x0), .one (.int .i64 x1)], 42, 1⟩)] kk (tb k)) (g28 A n kk x0 x1) := by
  unfold g28
  exact pc (SxY13fpi _ (SxY13fpi _ (pf _) (g28J3_go st)) (g28J3_go st)) (by kernel_rfl)
end
def g28is (o : Option (AV × Heap)) : Bool := match o with
  | some (.v (.cell (.int .i64 _)), [(n0, ⟨[.one (.str _), .one (.int .i64 _)], n1, n2⟩)]) => Nat.beq n0 0 && (Nat.beq n1 42 && (Nat.beq n2 1))
  | _ => false
def g28g0 (o : Option (AV × Heap)) : Int := match o with
  | some (.v (.cell (.int .i64 x)), [(_, ⟨[.one (.str _), .one (.int .i64 _)], _, _⟩)]) => x
  | _ => 0
def g28g1 (o : Option (AV × Heap)) : List Nat := match o with
  | some (.v (.cell (.int .i64 _)), [(_, ⟨[.one (.str x), .one (.int .i64 _)], _, _⟩)]) => x
  | _ => []
def g28g2 (o : Option (AV × Heap)) : Int := match o with
  | some (.v (.cell (.int .i64 _)), [(_, ⟨[.one (.str _), .one (.int .i64 x)], _, _⟩)]) => x
  | _ => 0
theorem g28is_spec {o : Option (AV × Heap)} (h : g28is o = true) : o = some ((i6 (g28g0 o)), [(0, ⟨[.one (.str (g28g1 o)), .one (.int .i64 (g28g2 o))], 42, 1⟩)]) := by
  unfold g28is at h
  split at h
  · rename_i z0 n0 z2 z3 n1 n2
    simp only [Bool.and_eq_true] at h
    have en0 := beq_true h.1
    subst en0
    replace h := h.2
    have en1 := beq_true h.1
    subst en1
    replace h := h.2
    have en2 := beq_true h
    subst en2
    rfl
  · cases h
def g28v (A : Ar) (x0 : List Nat) (x1 : Int) : Option (AV × Heap) := g28 A (100000) (outH [0] none) x0 x1
def g28ok (A : Ar) (x0 : List Nat) (x1 : Int) : Bool := g28is (g28v A x0 x1)
def g28r0 (A : Ar) (x0 : List Nat) (x1 : Int) : Int := g28g0 (g28v A x0 x1)
def g28r1 (A : Ar) (x0 : List Nat) (x1 : Int) : List Nat := g28g1 (g28v A x0 x1)
def g28r2 (A : Ar) (x0 : List Nat) (x1 : Int) : Int := g28g2 (g28v A x0 x1)
theorem g28ok_spec {A : Ar} {x0 x1} (h : g28ok A x0 x1 = true) : g28v A x0 x1 = some ((i6 (g28r0 A x0 x1)), [(0, ⟨[.one (.str (g28r1 A x0 x1)), .one (.int .i64 (g28r2 A x0 x1))], 42, 1⟩)]) := g28is_spec h
def g28o (A : Ar) (args : List AV) (h : Heap) : Option (Bool × AV × Heap) := match args, h with
  | [.v (.cell (.ptr n0 n1 none))], [(n2, ⟨[.one (.str x0), .one (.int .i64 x1)], n3, n4⟩)] => match Nat.beq n0 0 && (Nat.beq n1 0 && (Nat.beq n2 0 && (Nat.beq n3 42 && (Nat.beq n4 1)))) with
    | true => some (g28ok A x0 x1, (i6 (g28r0 A x0 x1)), [(0, ⟨[.one (.str (g28r1 A x0 x1)), .one (.int .i64 (g28r2 A x0 x1))], 42, 1⟩)])
    | false => none
  | _, _ => none
theorem g28o_sound : ∀ args h v h', g28o realA args h = some (true, v, h') → FnH Try.prog 28 args h v h' := by
  intro args h v h' hh
  unfold g28o at hh
  split at hh
  · rename_i n0 n1 n2 x0 x1 n3 n4
    split at hh
    case h_2 => cases hh
    rename_i hc0
    simp only [Option.some.injEq, Prod.mk.injEq] at hh
    obtain ⟨hc, hv, hh⟩ := hh
    subst hv
    subst hh
    simp only [Bool.and_eq_true] at hc0
    have en0 := beq_true hc0.1
    subst en0
    replace hc0 := hc0.2
    have en1 := beq_true hc0.1
    subst en1
    replace hc0 := hc0.2
    have en2 := beq_true hc0.1
    subst en2
    replace hc0 := hc0.2
    have en3 := beq_true hc0.1
    subst en3
    replace hc0 := hc0.2
    have en4 := beq_true hc0
    subst en4
    exact fnh_ofG mixed gtysOK g28O_sound g28O_det (an := g28an) (cut := g28cut) Try.func28 (c := bodyOf Try.f28) rfl (by kernel_rfl) Try.call28 (Nat.le_of_ble_eq_true rfl) (pins := [0]) (nilr := none) (fun _ => (show g28v realA x0 x1 = _ from g28ok_spec hc)) fun _ st => g28_go st
  · cases hh
attribute [local irreducible] g28ok g28r0 g28r1 g28r2
def g4O (A : Ar) : Orc := orcH [(8, g8o A), (10, g10o A)] [(18, ⟨[], none, (g18o A)⟩), (19, ⟨[], none, (g19o A)⟩), (20, ⟨[], none, (g20o A)⟩), (21, ⟨[], none, (g21o A)⟩), (22, ⟨[], none, (g22o A)⟩), (23, ⟨[], none, (g23o A)⟩), (24, ⟨[], none, (g24o A)⟩), (25, ⟨[], none, (g25o A)⟩), (26, ⟨[], none, (g26o A)⟩), (27, ⟨[], none, (g27o A)⟩), (28, ⟨[], none, (g28o A)⟩)]
theorem g4O_sound : OSound Try.prog (g4O realA) := orcH_sound (fun f g hm args v hv => by
    simp only [List.mem_cons, List.not_mem_nil, or_false, Prod.mk.injEq] at hm
    rcases hm with ⟨rfl, rfl⟩ | ⟨rfl, rfl⟩
    · exact g8o_sound _ _ hv
    · exact g10o_sound _ _ hv) (fun f e hm args h v h' hv => by
    simp only [List.mem_cons, List.not_mem_nil, or_false, Prod.mk.injEq] at hm
    rcases hm with ⟨rfl, rfl⟩ | ⟨rfl, rfl⟩ | ⟨rfl, rfl⟩ | ⟨rfl, rfl⟩ | ⟨rfl, rfl⟩ | ⟨rfl, rfl⟩ | ⟨rfl, rfl⟩ | ⟨rfl, rfl⟩ | ⟨rfl, rfl⟩ | ⟨rfl, rfl⟩ | ⟨rfl, rfl⟩
    · exact g18o_sound _ _ _ _ hv
    · exact g19o_sound _ _ _ _ hv
    · exact g20o_sound _ _ _ _ hv
    · exact g21o_sound _ _ _ _ hv
    · exact g22o_sound _ _ _ _ hv
    · exact g23o_sound _ _ _ _ hv
    · exact g24o_sound _ _ _ _ hv
    · exact g25o_sound _ _ _ _ hv
    · exact g26o_sound _ _ _ _ hv
    · exact g27o_sound _ _ _ _ hv
    · exact g28o_sound _ _ _ _ hv)
theorem g4O_det : ODet (g4O realA) := orcH_det _ _
def g4an : Ann := [(0, ([0, 1], [0])), (1, ([0, 1], [0])), (2, ([0, 1, 5], [0])), (3, ([], [0])), (4, ([0, 1, 5], [0])), (5, ([0, 1, 5, 6], [0, 5001])), (6, ([1, 5, 6, 7], [0, 5001, 6002])), (7, ([], [])), (8, ([1, 5, 6, 7], [0, 5001, 6002])), (9, ([1, 5, 6, 7, 8], [0, 5001, 6002])), (10, ([1, 5, 6, 7, 8], [0, 5001, 6002])), (11, ([1, 5, 6, 7, 8], [0, 5001, 6002])), (12, ([1, 5, 6, 7, 8, 9], [0, 5001, 6002, 12004])), (13, ([1, 5, 6, 7, 8, 9], [0, 5001, 6002, 12004])), (14, ([1, 5, 6, 7, 8, 9], [0, 5001, 6002, 12004])), (15, ([1, 5, 6, 7, 8, 9, 36], [0, 5001, 6002, 12004])), (16, ([1, 5, 6, 7, 8, 9], [0, 5001, 6002, 12004])), (17, ([1, 5, 6, 7, 8, 9, 36], [0, 5001, 6002, 12004])), (18, ([1, 5, 6, 7, 8, 9], [0, 5001, 6002, 12004])), (19, ([1, 5, 6, 7, 8, 10], [0, 5001, 6002])), (20, ([], [0])), (21, ([5, 6, 7], [0, 5001, 6002]))]
def g4res : List ResultVar := [.tmp 4]
def g4cut : List Nat := [4, 8, 11, 19, 21]
noncomputable def g4N {R : Type} (A : Ar) (kk : AV → Heap → Option R) (t : List Bool → St → Option R) (p : List Bool) (s : St) : Option R := nodeN A gtys (g4O A) g4an g4cut t (bodyOf Try.f4) (finD gtys g4res kk) p s
def g4J19s (x0 : Nat) (x1 : Bool) (x2 : Int) (x3 : Bool) (x4 x5 : Nat) (x6 x7 x8 : List Int) (x9 : List (List Nat)) (x10 : Int) (x11 x12 : List Nat) (x13 : Int) : St := ⟨[(1, (sL 0 none x0 4)), (5, (bO x1)), (6, (pT 5001 0)), (7, (pT 6002 0)), (8, (i6 x2)), (10, (bO x3))], [(0, ⟨[.recs x5 [.ints .i64 x6, .ints .i64 x7, .ints .i64 x8, .strs x9]], x4, 0⟩), (5001, ⟨[.one (.int .i64 x10), .one (.str x11)], 59, 1⟩), (6002, ⟨[.one (.str x12), .one (.int .i64 x13)], 42, 1⟩)]⟩
def g4J19 {R : Type} (A : Ar) (n : Nat) (kk : AV → Heap → Option R) (lg4L9 : Nat → Bool → Int → Nat → Nat → List Int → List Int → List Int → List (List Nat) → Int → List Nat → List Nat → Int → Option R) (x0 : Nat) (x1 : Bool) (x2 : Int) (x3 : Bool) (x4 x5 : Nat) (x6 x7 x8 : List Int) (x9 : List (List Nat)) (x10 : Int) (x11 x12 : List Nat) (x13 : Int) : Option R :=
  match !x3 with
  | true => kk (bO false) [(0, ⟨[.recs x5 [.ints .i64 x6, .ints .i64 x7, .ints .i64 x8, .strs x9]], x4, 0⟩)]
  | false => match g25ok A x10 x11 with
    | true => match g26ok A x12 x13 with
      | true => match A.ic .neq (g25r0 A x10 x11) (g26r0 A x12 x13) with
        | true => kk (bO false) [(0, ⟨[.recs x5 [.ints .i64 x6, .ints .i64 x7, .ints .i64 x8, .strs x9]], x4, 0⟩)]
        | false => lg4L9 x0 x1 (A.ib .add .i64 x2 1) x4 x5 x6 x7 x8 x9 (g25r1 A x10 x11) (g25r2 A x10 x11) (g26r1 A x12 x13) (g26r2 A x12 x13)
      | false => none
    | false => none
def g4J11s (x0 : Nat) (x1 : Bool) (x2 : Int) (x3 x4 : Nat) (x5 x6 x7 : List Int) (x8 : List (List Nat)) (x9 : Int) (x10 x11 : List Nat) (x12 : Int) : St := ⟨[(1, (sL 0 none x0 4)), (5, (bO x1)), (6, (pT 5001 0)), (7, (pT 6002 0)), (8, (i6 x2))], [(0, ⟨[.recs x4 [.ints .i64 x5, .ints .i64 x6, .ints .i64 x7, .strs x8]], x3, 0⟩), (5001, ⟨[.one (.int .i64 x9), .one (.str x10)], 59, 1⟩), (6002, ⟨[.one (.str x11), .one (.int .i64 x12)], 42, 1⟩)]⟩
def g4J11 {R : Type} (A : Ar) (n : Nat) (kk : AV → Heap → Option R) (lg4L9 : Nat → Bool → Int → Nat → Nat → List Int → List Int → List Int → List (List Nat) → Int → List Nat → List Nat → Int → Option R) (x0 : Nat) (x1 : Bool) (x2 : Int) (x3 x4 : Nat) (x5 x6 x7 : List Int) (x8 : List (List Nat)) (x9 : Int) (x10 x11 : List Nat) (x12 : Int) : Option R :=
  match A.neg x2 with
  | true => none
  | false => match A.lt (A.toN x2) x0 with
    | true => match g10ok A (x5.getD (A.toN x2) 0) (x6.getD (A.toN x2) 0) (x7.getD (A.toN x2) 0) (x8.getD (A.toN x2) []) with
      | true => match A.ic .eql (g10r0 A (x5.getD (A.toN x2) 0) (x6.getD (A.toN x2) 0) (x7.getD (A.toN x2) 0) (x8.getD (A.toN x2) [])) 0 with
        | true => match g19ok A (x7.getD (A.toN x2) 0) x9 x10 with
          | true => match g20ok A (x7.getD (A.toN x2) 0) x11 x12 with
            | true => g4J19 A n kk lg4L9 x0 x1 x2 (A.ic .eql (g19r0 A (x7.getD (A.toN x2) 0) x9 x10) (g20r0 A (x7.getD (A.toN x2) 0) x11 x12)) x3 x4 x5 x6 x7 x8 (g19r1 A (x7.getD (A.toN x2) 0) x9 x10) (g19r2 A (x7.getD (A.toN x2) 0) x9 x10) (g20r1 A (x7.getD (A.toN x2) 0) x11 x12) (g20r2 A (x7.getD (A.toN x2) 0) x11 x12)
            | false => none
          | false => none
        | false => match A.ic .eql (g10r0 A (x5.getD (A.toN x2) 0) (x6.getD (A.toN x2) 0) (x7.getD (A.toN x2) 0) (x8.getD (A.toN x2) [])) 1 with
          | true => match g21ok A (x6.getD (A.toN x2) 0) x9 x10 with
            | true => match g22ok A (x6.getD (A.toN x2) 0) x11 x12 with
              | true => g4J19 A n kk lg4L9 x0 x1 x2 (A.sc .eql (g21r0 A (x6.getD (A.toN x2) 0) x9 x10) (g22r0 A (x6.getD (A.toN x2) 0) x11 x12)) x3 x4 x5 x6 x7 x8 (g21r1 A (x6.getD (A.toN x2) 0) x9 x10) (g21r2 A (x6.getD (A.toN x2) 0) x9 x10) (g22r1 A (x6.getD (A.toN x2) 0) x11 x12) (g22r2 A (x6.getD (A.toN x2) 0) x11 x12)
              | false => none
            | false => none
          | false => match g23ok A (x7.getD (A.toN x2) 0) x9 x10 with
            | true => match g24ok A (x7.getD (A.toN x2) 0) x11 x12 with
              | true => g4J19 A n kk lg4L9 x0 x1 x2 (A.sc .eql (g23r0 A (x7.getD (A.toN x2) 0) x9 x10) (g24r0 A (x7.getD (A.toN x2) 0) x11 x12)) x3 x4 x5 x6 x7 x8 (g23r1 A (x7.getD (A.toN x2) 0) x9 x10) (g23r2 A (x7.getD (A.toN x2) 0) x9 x10) (g24r1 A (x7.getD (A.toN x2) 0) x11 x12) (g24r2 A (x7.getD (A.toN x2) 0) x11 x12)
              | false => none
            | false => none
      | false => none
    | false => none
def g4J21s (x0 : Bool) (x1 x2 : Nat) (x3 x4 x5 : List Int) (x6 : List (List Nat)) (x7 : Int) (x8 x9 : List Nat) (x10 : Int) : St := ⟨[(5, (bO x0)), (6, (pT 5001 0)), (7, (pT 6002 0))], [(0, ⟨[.recs x2 [.ints .i64 x3, .ints .i64 x4, .ints .i64 x5, .strs x6]], x1, 0⟩), (5001, ⟨[.one (.int .i64 x7), .one (.str x8)], 59, 1⟩), (6002, ⟨[.one (.str x9), .one (.int .i64 x10)], 42, 1⟩)]⟩
def g4J21 {R : Type} (A : Ar) (n : Nat) (kk : AV → Heap → Option R)  (x0 : Bool) (x1 x2 : Nat) (x3 x4 x5 : List Int) (x6 : List (List Nat)) (x7 : Int) (x8 x9 : List Nat) (x10 : Int) : Option R :=
  match x0 with
  | true => match g27ok A x7 x8 with
    | true => match g28ok A x9 x10 with
      | true => kk (bO (A.ic .eql (g27r0 A x7 x8) (g28r0 A x9 x10))) [(0, ⟨[.recs x2 [.ints .i64 x3, .ints .i64 x4, .ints .i64 x5, .strs x6]], x1, 0⟩), (5001, ⟨[.one (.int .i64 (g27r1 A x7 x8)), .one (.str (g27r2 A x7 x8))], 59, 1⟩), (6002, ⟨[.one (.str (g28r1 A x9 x10)), .one (.int .i64 (g28r2 A x9 x10))], 42, 1⟩)]
      | false => none
    | false => none
  | false => kk (bO false) [(0, ⟨[.recs x2 [.ints .i64 x3, .ints .i64 x4, .ints .i64 x5, .strs x6]], x1, 0⟩), (5001, ⟨[.one (.int .i64 x7), .one (.str x8)], 59, 1⟩), (6002, ⟨[.one (.str x9), .one (.int .i64 x10)], 42, 1⟩)]
def g4L9s (x0 : Nat) (x1 : Bool) (x2 : Int) (x3 x4 : Nat) (x5 x6 x7 : List Int) (x8 : List (List Nat)) (x9 : Int) (x10 x11 : List Nat) (x12 : Int) : St := ⟨[(1, (sL 0 none x0 4)), (5, (bO x1)), (6, (pT 5001 0)), (7, (pT 6002 0)), (8, (i6 x2))], [(0, ⟨[.recs x4 [.ints .i64 x5, .ints .i64 x6, .ints .i64 x7, .strs x8]], x3, 0⟩), (5001, ⟨[.one (.int .i64 x9), .one (.str x10)], 59, 1⟩), (6002, ⟨[.one (.str x11), .one (.int .i64 x12)], 42, 1⟩)]⟩
def g4L9 {R : Type} (A : Ar) (n : Nat) (kk : AV → Heap → Option R)  : Nat → Nat → Bool → Int → Nat → Nat → List Int → List Int → List Int → List (List Nat) → Int → List Nat → List Nat → Int → Option R
  | 0, _, _, _, _, _, _, _, _, _, _, _, _, _ => none
  | m + 1, x0, x1, x2, x3, x4, x5, x6, x7, x8, x9, x10, x11, x12 => match A.ic .lss x2 (A.ofN x0) with
  | true => match A.ic .lss x2 20 with
    | true => g4J11 A n kk (g4L9 A n kk  m) x0 x1 x2 x3 x4 x5 x6 x7 x8 x9 x10 x11 x12
    | false => g4J21 A n kk  x1 x3 x4 x5 x6 x7 x8 x9 x10 x11 x12
  | false => g4J21 A n kk  x1 x3 x4 x5 x6 x7 x8 x9 x10 x11 x12
def g4J8s (x0 : Nat) (x1 : Bool) (x2 x3 : Nat) (x4 x5 x6 : List Int) (x7 : List (List Nat)) (x8 : Int) (x9 x10 : List Nat) (x11 : Int) : St := ⟨[(1, (sL 0 none x0 4)), (5, (bO x1)), (6, (pT 5001 0)), (7, (pT 6002 0))], [(0, ⟨[.recs x3 [.ints .i64 x4, .ints .i64 x5, .ints .i64 x6, .strs x7]], x2, 0⟩), (5001, ⟨[.one (.int .i64 x8), .one (.str x9)], 59, 1⟩), (6002, ⟨[.one (.str x10), .one (.int .i64 x11)], 42, 1⟩)]⟩
def g4J8 {R : Type} (A : Ar) (n : Nat) (kk : AV → Heap → Option R)  (x0 : Nat) (x1 : Bool) (x2 x3 : Nat) (x4 x5 x6 : List Int) (x7 : List (List Nat)) (x8 : Int) (x9 x10 : List Nat) (x11 : Int) : Option R :=
  g4L9 A n kk  n x0 x1 0 x2 x3 x4 x5 x6 x7 x8 x9 x10 x11
def g4J4s (x0 : List Nat) (x1 : Nat) (x2 : Bool) (x3 x4 : Nat) (x5 x6 x7 : List Int) (x8 : List (List Nat)) : St := ⟨[(0, (tS x0)), (1, (sL 0 none x1 4)), (5, (bO x2))], [(0, ⟨[.recs x4 [.ints .i64 x5, .ints .i64 x6, .ints .i64 x7, .strs x8]], x3, 0⟩)]⟩
def g4J4 {R : Type} (A : Ar) (n : Nat) (kk : AV → Heap → Option R)  (x0 : List Nat) (x1 : Nat) (x2 : Bool) (x3 x4 : Nat) (x5 x6 x7 : List Int) (x8 : List (List Nat)) : Option R :=
  match g18ok A x0 with
  | true => g4J8 A n kk  x1 x2 x3 x4 x5 x6 x7 x8 (g18r0 A x0) (g18r1 A x0) x0 0
  | false => none
def g4 {R : Type} (A : Ar) (n : Nat) (kk : AV → Heap → Option R) (x0 : List Nat) (x1 x2 x3 : Nat) (x4 x5 x6 : List Int) (x7 : List (List Nat)) : Option R :=
  match g8ok A with
  | true => match !(g8r0 A) with
    | true => kk (bO false) [(0, ⟨[.recs x3 [.ints .i64 x4, .ints .i64 x5, .ints .i64 x6, .strs x7]], x2, 0⟩)]
    | false => g4J4 A n kk  x0 x1 (g8r0 A) x2 x3 x4 x5 x6 x7
  | false => none
section
variable {R : Type} {A : Ar} {n : Nat} {kk : AV → Heap → Option R} {tb : Nat → List Bool → St → Option R} (st : Stp (g4N A kk) tb)
include st
theorem g4J19_go {lg4L9 : Nat → Bool → Int → Nat → Nat → List Int → List Int → List Int → List (List Nat) → Int → List Nat → List Nat → Int → Option R} (hg4L9 : ∀ (x0 : Nat) (x1 : Bool) (x2 : Int) (x3 x4 : Nat) (x5 x6 x7 : List Int) (x8 : List (List Nat)) (x9 : Int) (x10 x11 : List Nat) (x12 : Int), Prs (fun k => tb k (pth 2036) (g4L9s x0 x1 x2 x3 x4 x5 x6 x7 x8 x9 x10 x11 x12)) (lg4L9 x0 x1 x2 x3 x4 x5 x6 x7 x8 x9 x10 x11 x12)) {x0 : Nat} {x1 : Bool} {x2 : Int} {x3 : Bool} {x4 : Nat} {x5 : Nat} {x6 : List Int} {x7 : List Int} {x8 : List Int} {x9 : List (List Nat)} {x10 : Int} {x11 : List Nat} {x12 : List Nat} {x13 : Int} : Prs (fun k => tb k (pth 130343) (g4J19s x0 x1 x2 x3 x4 x5 x6 x7 x8 x9 x10 x11 x12 x13)) (g4J19 A n kk lg4L9 x0 x1 x2 x3 x4 x5 x6 x7 x8 x9 x10 x11 x12 x13) := by
  unfold g4J19
  exact st.g (pc (SxY13fpi _ (pf _) (SxY13fpi _ (SxY13fpi _ (SxY13fpi _ (pf _) (hg4L9 _ _ _ _ _ _ _ _ _ _ _ _ _)) pn) pn)) (by kernel_rfl))
theorem g4J11_go {lg4L9 : Nat → Bool → Int → Nat → Nat → List Int → List Int → List Int → List (List Nat) → Int → List Nat → List Nat → Int → Option R} (hg4L9 : ∀ (x0 : Nat) (x1 : Bool) (x2 : Int) (x3 x4 : Nat) (x5 x6 x7 : List Int) (x8 : List (List Nat)) (x9 : Int) (x10 x11 : List Nat) (x12 : Int), Prs (fun k => tb k (pth 2036) (g4L9s x0 x1 x2 x3 x4 x5 x6 x7 x8 x9 x10 x11 x12)) (lg4L9 x0 x1 x2 x3 x4 x5 x6 x7 x8 x9 x10 x11 x12)) {x0 : Nat} {x1 : Bool} {x2 : Int} {x3 : Nat} {x4 : Nat} {x5 : List Int} {x6 : List Int} {x7 : List Int} {x8 : List (List Nat)} {x9 : Int} {x10 : List Nat} {x11 : List Nat} {x12 : Int} : Prs (fun k => tb k (pth 4073) (g4J11s x0 x1 x2 x3 x4 x5 x6 x7 x8 x9 x10 x11 x12)) (g4J11 A n kk lg4L9 x0 x1 x2 x3 x4 x5 x6 x7 x8 x9 x10 x11 x12) := by
  unfold g4J11
  exact st.g (pc (SxY13fpi _ pn (SxY13fpi _ (SxY13fpi _ (SxY13fpi _ (SxY13fpi _ (SxY13fpi _ (g4J19_go st hg4L9) pn) pn) (SxY13fpi _ (SxY13fpi _ (SxY13fpi _ (g4J19_go st hg4L9) pn) pn) (SxY13fpi _ (SxY13fpi _ (g4J19_go st hg4L9) pn) pn))) pn) pn)) (by kernel_rfl))
theorem g4J21_go {x0 : Bool} {x1 : Nat} {x2 : Nat} {x3 : List Int} {x4 : List Int} {x5 : List Int} {x6 : List (List Nat)} {x7 : Int} {x8 : List Nat} {x9 : List Nat} {x10 : Int} : Prs (fun k => tb k (pth 255) (g4J21s x0 x1 x2 x3 x4 x5 x6 x7 x8 x9 x10)) (g4J21 A n kk x0 x1 x2 x3 x4 x5 x6 x7 x8 x9 x10) := by
  unfold g4J21
  exact st.g (pc (SxY13fpi _ (SxY13fpi _ (SxY13fpi _ (pf _) pn) pn) (pf _)) (by kernel_rfl))
theorem g4L9_go (m : Nat) : ∀ (x0 : Nat) (x1 : Bool) (x2 : Int) (x3 x4 : Nat) (x5 x6 x7 : List Int) (x8 : List (List Nat)) (x9 : Int) (x10 x11 : List Nat) (x12 : Int), Prs (fun k => tb k (pth 2036) (g4L9s x0 x1 x2 x3 x4 x5 x6 x7 x8 x9 x10 x11 x12)) (g4L9 A n kk m x0 x1 x2 x3 x4 x5 x6 x7 x8 x9 x10 x11 x12) := by
  induction m with
  | zero => intro x0 x1 x2 x3 x4 x5 x6 x7 x8 x9 x10 x11 x12; exact pn0
  | succ m ih =>
    intro x0 x1 x2 x3 x4 x5 x6 x7 x8 x9 x10 x11 x12; rw [g4L9]
    exact st.g (pc (SxY13fpi _ (SxY13fpi _ (g4J11_go st ih) (g4J21_go st)) (g4J21_go st)) (by kernel_rfl))
theorem g4J8_go {x0 : Nat} {x1 : Bool} {x2 : Nat} {x3 : Nat} {x4 : List Int} {x5 : List Int} {x6 : List Int} {x7 : List (List Nat)} {x8 : Int} {x9 : List Nat} {x10 : List Nat} {x11 : Int} : Prs (fun k => tb k (pth 127) (g4J8s x0 x1 x2 x3 x4 x5 x6 x7 x8 x9 x10 x11)) (g4J8 A n kk x0 x1 x2 x3 x4 x5 x6 x7 x8 x9 x10 x11) := by
  unfold g4J8
  exact st.g (pc (g4L9_go st n _ _ _ _ _ _ _ _ _ _ _ _ _) (by kernel_rfl))
theorem g4J4_go {x0 : List Nat} {x1 : Nat} {x2 : Bool} {x3 : Nat} {x4 : Nat} {x5 : List Int} {x6 : List Int} {x7 : List Int} {x8 : List (List Nat)} : Prs (fun k => tb k (pth 15) (g4J4s x0 x1 x2 x3 x4 x5 x6 x7 x8)) (g4J4 A n kk x0 x1 x2 x3 x4 x5 x6 x7 x8) := by
  unfold g4J4
  exact st.g (pc (SxY13fpi _ (g4J8_go st) pn) (by kernel_rfl))
theorem g4_go {x0 : List Nat} {x1 : Nat} {x2 : Nat} {x3 : Nat} {x4 : List Int} {x5 : List Int} {x6 : List Int} {x7 : List (List Nat)} : Prs (fun k => funN A gtys (g4O A) g4an g4cut (bodyOf Try.f4) g4res [(tS x0), (sL 0 none x1 4)] [(0, ⟨[.recs x3 [.ints .i64 x4, .ints .i64 x5, .ints .i64 x6, .strs x7]], x2, 0⟩)] kk (tb k)) (g4 A n kk x0 x1 x2 x3 x4 x5 x6 x7) := by
  unfold g4
  exact pc (SxY13fpi _ (SxY13fpi _ (pf _) (g4J4_go st)) pn) (by kernel_rfl)
end
def g4is (o : Option (AV × Heap)) : Bool := match o with
  | some (.v (.cell (.bool _)), [(n0, ⟨[.recs _ [.ints .i64 _, .ints .i64 _, .ints .i64 _, .strs _]], _, n1⟩)]) => Nat.beq n0 0 && (Nat.beq n1 0)
  | _ => false
def g4g0 (o : Option (AV × Heap)) : Bool := match o with
  | some (.v (.cell (.bool x)), [(_, ⟨[.recs _ [.ints .i64 _, .ints .i64 _, .ints .i64 _, .strs _]], _, _⟩)]) => x
  | _ => false
def g4g1 (o : Option (AV × Heap)) : Nat := match o with
  | some (.v (.cell (.bool _)), [(_, ⟨[.recs _ [.ints .i64 _, .ints .i64 _, .ints .i64 _, .strs _]], x, _⟩)]) => x
  | _ => 0
def g4g2 (o : Option (AV × Heap)) : Nat := match o with
  | some (.v (.cell (.bool _)), [(_, ⟨[.recs x [.ints .i64 _, .ints .i64 _, .ints .i64 _, .strs _]], _, _⟩)]) => x
  | _ => 0
def g4g3 (o : Option (AV × Heap)) : List Int := match o with
  | some (.v (.cell (.bool _)), [(_, ⟨[.recs _ [.ints .i64 x, .ints .i64 _, .ints .i64 _, .strs _]], _, _⟩)]) => x
  | _ => []
def g4g4 (o : Option (AV × Heap)) : List Int := match o with
  | some (.v (.cell (.bool _)), [(_, ⟨[.recs _ [.ints .i64 _, .ints .i64 x, .ints .i64 _, .strs _]], _, _⟩)]) => x
  | _ => []
def g4g5 (o : Option (AV × Heap)) : List Int := match o with
  | some (.v (.cell (.bool _)), [(_, ⟨[.recs _ [.ints .i64 _, .ints .i64 _, .ints .i64 x, .strs _]], _, _⟩)]) => x
  | _ => []
def g4g6 (o : Option (AV × Heap)) : List (List Nat) := match o with
  | some (.v (.cell (.bool _)), [(_, ⟨[.recs _ [.ints .i64 _, .ints .i64 _, .ints .i64 _, .strs x]], _, _⟩)]) => x
  | _ => []
theorem g4is_spec {o : Option (AV × Heap)} (h : g4is o = true) : o = some ((bO (g4g0 o)), [(0, ⟨[.recs (g4g2 o) [.ints .i64 (g4g3 o), .ints .i64 (g4g4 o), .ints .i64 (g4g5 o), .strs (g4g6 o)]], (g4g1 o), 0⟩)]) := by
  unfold g4is at h
  split at h
  · rename_i z0 n0 z2 z3 z4 z5 z6 z7 n1
    simp only [Bool.and_eq_true] at h
    have en0 := beq_true h.1
    subst en0
    replace h := h.2
    have en1 := beq_true h
    subst en1
    rfl
  · cases h
def g4v (A : Ar) (x0 : List Nat) (x1 x2 x3 : Nat) (x4 x5 x6 : List Int) (x7 : List (List Nat)) : Option (AV × Heap) := g4 A (100000) (outH [0] none) x0 x1 x2 x3 x4 x5 x6 x7
def g4ok (A : Ar) (x0 : List Nat) (x1 x2 x3 : Nat) (x4 x5 x6 : List Int) (x7 : List (List Nat)) : Bool := g4is (g4v A x0 x1 x2 x3 x4 x5 x6 x7)
def g4r0 (A : Ar) (x0 : List Nat) (x1 x2 x3 : Nat) (x4 x5 x6 : List Int) (x7 : List (List Nat)) : Bool := g4g0 (g4v A x0 x1 x2 x3 x4 x5 x6 x7)
def g4r1 (A : Ar) (x0 : List Nat) (x1 x2 x3 : Nat) (x4 x5 x6 : List Int) (x7 : List (List Nat)) : Nat := g4g1 (g4v A x0 x1 x2 x3 x4 x5 x6 x7)
def g4r2 (A : Ar) (x0 : List Nat) (x1 x2 x3 : Nat) (x4 x5 x6 : List Int) (x7 : List (List Nat)) : Nat := g4g2 (g4v A x0 x1 x2 x3 x4 x5 x6 x7)
def g4r3 (A : Ar) (x0 : List Nat) (x1 x2 x3 : Nat) (x4 x5 x6 : List Int) (x7 : List (List Nat)) : List Int := g4g3 (g4v A x0 x1 x2 x3 x4 x5 x6 x7)
def g4r4 (A : Ar) (x0 : List Nat) (x1 x2 x3 : Nat) (x4 x5 x6 : List Int) (x7 : List (List Nat)) : List Int := g4g4 (g4v A x0 x1 x2 x3 x4 x5 x6 x7)
def g4r5 (A : Ar) (x0 : List Nat) (x1 x2 x3 : Nat) (x4 x5 x6 : List Int) (x7 : List (List Nat)) : List Int := g4g5 (g4v A x0 x1 x2 x3 x4 x5 x6 x7)
def g4r6 (A : Ar) (x0 : List Nat) (x1 x2 x3 : Nat) (x4 x5 x6 : List Int) (x7 : List (List Nat)) : List (List Nat) := g4g6 (g4v A x0 x1 x2 x3 x4 x5 x6 x7)
theorem g4ok_spec {A : Ar} {x0 x1 x2 x3 x4 x5 x6 x7} (h : g4ok A x0 x1 x2 x3 x4 x5 x6 x7 = true) : g4v A x0 x1 x2 x3 x4 x5 x6 x7 = some ((bO (g4r0 A x0 x1 x2 x3 x4 x5 x6 x7)), [(0, ⟨[.recs (g4r2 A x0 x1 x2 x3 x4 x5 x6 x7) [.ints .i64 (g4r3 A x0 x1 x2 x3 x4 x5 x6 x7), .ints .i64 (g4r4 A x0 x1 x2 x3 x4 x5 x6 x7), .ints .i64 (g4r5 A x0 x1 x2 x3 x4 x5 x6 x7), .strs (g4r6 A x0 x1 x2 x3 x4 x5 x6 x7)]], (g4r1 A x0 x1 x2 x3 x4 x5 x6 x7), 0⟩)]) := g4is_spec h
def g4o (A : Ar) (args : List AV) (h : Heap) : Option (Bool × AV × Heap) := match args, h with
  | [.v (.cell (.str x0)), .v (.cell (.sl n0 none x1 n1))], [(n2, ⟨[.recs x3 [.ints .i64 x4, .ints .i64 x5, .ints .i64 x6, .strs x7]], x2, n3⟩)] => match Nat.beq n0 0 && (Nat.beq n1 4 && (Nat.beq n2 0 && (Nat.beq n3 0))) with
    | true => some (g4ok A x0 x1 x2 x3 x4 x5 x6 x7, (bO (g4r0 A x0 x1 x2 x3 x4 x5 x6 x7)), [(0, ⟨[.recs (g4r2 A x0 x1 x2 x3 x4 x5 x6 x7) [.ints .i64 (g4r3 A x0 x1 x2 x3 x4 x5 x6 x7), .ints .i64 (g4r4 A x0 x1 x2 x3 x4 x5 x6 x7), .ints .i64 (g4r5 A x0 x1 x2 x3 x4 x5 x6 x7), .strs (g4r6 A x0 x1 x2 x3 x4 x5 x6 x7)]], (g4r1 A x0 x1 x2 x3 x4 x5 x6 x7), 0⟩)])
    | false => none
  | _, _ => none
theorem g4o_sound : ∀ args h v h', g4o realA args h = some (true, v, h') → FnH Try.prog 4 args h v h' := by
  intro args h v h' hh
  unfold g4o at hh
  split at hh
  · rename_i x0 n0 x1 n1 n2 x3 x4 x5 x6 x7 x2 n3
    split at hh
    case h_2 => cases hh
    rename_i hc0
    simp only [Option.some.injEq, Prod.mk.injEq] at hh
    obtain ⟨hc, hv, hh⟩ := hh
    subst hv
    subst hh
    simp only [Bool.and_eq_true] at hc0
    have en0 := beq_true hc0.1
    subst en0
    replace hc0 := hc0.2
    have en1 := beq_true hc0.1
    subst en1
    replace hc0 := hc0.2
    have en2 := beq_true hc0.1
    subst en2
    replace hc0 := hc0.2
    have en3 := beq_true hc0
    subst en3
    exact fnh_ofG mixed gtysOK g4O_sound g4O_det (an := g4an) (cut := g4cut) Try.func4 (c := bodyOf Try.f4) rfl (by kernel_rfl) Try.call4 (Nat.le_of_ble_eq_true rfl) (pins := [0]) (nilr := none) (fun _ => (show g4v realA x0 x1 x2 x3 x4 x5 x6 x7 = _ from g4ok_spec hc)) fun _ st => g4_go st
  · cases hh
attribute [local irreducible] g4ok g4r0 g4r1 g4r2 g4r3 g4r4 g4r5 g4r6
end Go.Sx
