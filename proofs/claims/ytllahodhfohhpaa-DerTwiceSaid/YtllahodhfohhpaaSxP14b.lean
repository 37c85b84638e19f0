import Derived.Test.YtllahodhfohhpaaSxP14a
namespace Go.Sx
set_option linter.unusedSectionVars false
open Go.Proofs
set_option linter.unusedVariables false
set_option maxRecDepth 100000
theorem SxP14bpi {R : Type} (c : Bool) {f1 f2 : Nat → Option R} {a1 a2 : Option R} (h1 : Prs f1 a1) (h2 : Prs f2 a2) : Prs (fun k => match c with | true => f1 k | false => f2 k) (match c with | true => a1 | false => a2) := by cases c <;> assumption
attribute [local irreducible] g8ok g8r0 g8r1 g8r2 g8r3 g10ok g10r0 g10r1 g14ok g14r0 g16ok g16r0 g15ok g15r0 g22ok g22r0 g26ok g26r0 g12ok g12r0 g12r1 g12r2 g12r3 g12r4 g12r5
def g25O (A : Ar) : Orc := orcH [(8, g8o A)] [(12, ⟨[], none, (g12o A)⟩)]
theorem g25O_sound : OSound Try.prog (g25O realA) := orcH_sound (fun f g hm args v hv => by
    simp only [List.mem_cons, List.not_mem_nil, or_false, Prod.mk.injEq] at hm
    rcases hm with ⟨rfl, rfl⟩
    · exact g8o_sound _ _ hv) (fun f e hm args h v h' hv => by
    simp only [List.mem_cons, List.not_mem_nil, or_false, Prod.mk.injEq] at hm
    rcases hm with ⟨rfl, rfl⟩
    · exact g12o_sound _ _ _ _ hv)
theorem g25O_det : ODet (g25O realA) := orcH_det _ _
def g25an : Ann := [(0, ([0], [])), (1, ([0], [])), (2, ([4, 5], [2005])), (3, ([], [])), (4, ([4], [2005])), (5, ([5, 6], [5002]))]
def g25res : List ResultVar := [.tmp 2, .tmp 3]
def g25cut : List Nat := [4]
noncomputable def g25N {R : Type} (A : Ar) (kk : AV → Heap → Option R) (t : List Bool → St → Option R) (p : List Bool) (s : St) : Option R := nodeN A gtys (g25O A) g25an g25cut t (bodyOf Try.f25) (finD gtys g25res kk) p s
def g25J4s (x0 : Int) (x1 x2 : List Nat) : St := ⟨[(4, (pT 2005 0))], [(2005, ⟨[.one (.int .i64 x0), .one (.str x1), .one (.str x2)], 24, 1⟩)]⟩
def g25J4 {R : Type} (A : Ar) (n : Nat) (kk : AV → Heap → Option R)  (x0 : Int) (x1 x2 : List Nat) : Option R :=
  match g12ok A x1 with
  | true => kk (.tup [(.cell (.sl 5002 none (g12r0 A x1) 3)), (.cell (.bool (A.ic .eql (g12r1 A x1) 0)))]) [(5002, ⟨[.recs (g12r2 A x1) [.ints .i64 (g12r3 A x1), .strs (g12r4 A x1), .strs (g12r5 A x1)]], 24, 2⟩)]
  | false => none
def g25 {R : Type} (A : Ar) (n : Nat) (kk : AV → Heap → Option R) (x0 : List Nat) : Option R :=
  match g8ok A x0 with
  | true => match A.ic .neq (g8r3 A x0) 0 with
    | true => kk (.tup [(.cell (.sl 4000 none 0 3)), (.cell (.bool false))]) [(4000, ⟨[.recs 0 [.ints .i64 [], .strs [], .strs []]], 24, 2⟩)]
    | false => match A.ic .neq (g8r0 A x0) 48 with
      | true => kk (.tup [(.cell (.sl 4000 none 0 3)), (.cell (.bool false))]) [(4000, ⟨[.recs 0 [.ints .i64 [], .strs [], .strs []]], 24, 2⟩)]
      | false => match A.sc .neq (g8r2 A x0) [] with
        | true => kk (.tup [(.cell (.sl 4000 none 0 3)), (.cell (.bool false))]) [(4000, ⟨[.recs 0 [.ints .i64 [], .strs [], .strs []]], 24, 2⟩)]
        | false => g25J4 A n kk  (g8r0 A x0) (g8r1 A x0) (g8r2 A x0)
  | false => none
section
variable {R : Type} {A : Ar} {n : Nat} {kk : AV → Heap → Option R} {tb : Nat → List Bool → St → Option R} (st : Stp (g25N A kk) tb)
include st
theorem g25J4_go {x0 : Int} {x1 : List Nat} {x2 : List Nat} : Prs (fun k => tb k (pth 15) (g25J4s x0 x1 x2)) (g25J4 A n kk x0 x1 x2) := by
  unfold g25J4
  exact st.g (pc (SxP14bpi _ (pf _) pn) (by kernel_rfl))
theorem g25_go {x0 : List Nat} : Prs (fun k => funN A gtys (g25O A) g25an g25cut (bodyOf Try.f25) g25res [(tS x0)] [] kk (tb k)) (g25 A n kk x0) := by
  unfold g25
  exact pc (SxP14bpi _ (SxP14bpi _ (pf _) (SxP14bpi _ (pf _) (SxP14bpi _ (pf _) (g25J4_go st)))) pn) (by kernel_rfl)
end
def g25is (o : Option (AV × Heap)) : Bool := match o with
  | some (.tup [(.cell (.sl n0 none _ n1)), (.cell (.bool _))], [(n2, ⟨[.recs _ [.ints .i64 _, .strs _, .strs _]], n3, n4⟩)]) => Nat.beq n0 700 && (Nat.beq n1 3 && (Nat.beq n2 700 && (Nat.beq n3 24 && (Nat.beq n4 2))))
  | _ => false
def g25g0 (o : Option (AV × Heap)) : Nat := match o with
  | some (.tup [(.cell (.sl _ none x _)), (.cell (.bool _))], [(_, ⟨[.recs _ [.ints .i64 _, .strs _, .strs _]], _, _⟩)]) => x
  | _ => 0
def g25g1 (o : Option (AV × Heap)) : Bool := match o with
  | some (.tup [(.cell (.sl _ none _ _)), (.cell (.bool x))], [(_, ⟨[.recs _ [.ints .i64 _, .strs _, .strs _]], _, _⟩)]) => x
  | _ => false
def g25g2 (o : Option (AV × Heap)) : Nat := match o with
  | some (.tup [(.cell (.sl _ none _ _)), (.cell (.bool _))], [(_, ⟨[.recs x [.ints .i64 _, .strs _, .strs _]], _, _⟩)]) => x
  | _ => 0
def g25g3 (o : Option (AV × Heap)) : List Int := match o with
  | some (.tup [(.cell (.sl _ none _ _)), (.cell (.bool _))], [(_, ⟨[.recs _ [.ints .i64 x, .strs _, .strs _]], _, _⟩)]) => x
  | _ => []
def g25g4 (o : Option (AV × Heap)) : List (List Nat) := match o with
  | some (.tup [(.cell (.sl _ none _ _)), (.cell (.bool _))], [(_, ⟨[.recs _ [.ints .i64 _, .strs x, .strs _]], _, _⟩)]) => x
  | _ => []
def g25g5 (o : Option (AV × Heap)) : List (List Nat) := match o with
  | some (.tup [(.cell (.sl _ none _ _)), (.cell (.bool _))], [(_, ⟨[.recs _ [.ints .i64 _, .strs _, .strs x]], _, _⟩)]) => x
  | _ => []
theorem g25is_spec {o : Option (AV × Heap)} (h : g25is o = true) : o = some ((.tup [(.cell (.sl 700 none (g25g0 o) 3)), (.cell (.bool (g25g1 o)))]), [(700, ⟨[.recs (g25g2 o) [.ints .i64 (g25g3 o), .strs (g25g4 o), .strs (g25g5 o)]], 24, 2⟩)]) := by
  unfold g25is at h
  split at h
  · rename_i n0 z1 n1 z3 n2 z5 z6 z7 z8 n3 n4
    simp only [Bool.and_eq_true] at h
    have en0 := beq_true h.1
    subst en0
    replace h := h.2
    have en1 := beq_true h.1
    subst en1
    replace h := h.2
    have en2 := beq_true h.1
    subst en2
    replace h := h.2
    have en3 := beq_true h.1
    subst en3
    replace h := h.2
    have en4 := beq_true h
    subst en4
    rfl
  · cases h
def g25v (A : Ar) (x0 : List Nat) : Option (AV × Heap) := g25 A (100000) (outH [] none) x0
def g25ok (A : Ar) (x0 : List Nat) : Bool := g25is (g25v A x0)
def g25r0 (A : Ar) (x0 : List Nat) : Nat := g25g0 (g25v A x0)
def g25r1 (A : Ar) (x0 : List Nat) : Bool := g25g1 (g25v A x0)
def g25r2 (A : Ar) (x0 : List Nat) : Nat := g25g2 (g25v A x0)
def g25r3 (A : Ar) (x0 : List Nat) : List Int := g25g3 (g25v A x0)
def g25r4 (A : Ar) (x0 : List Nat) : List (List Nat) := g25g4 (g25v A x0)
def g25r5 (A : Ar) (x0 : List Nat) : List (List Nat) := g25g5 (g25v A x0)
theorem g25ok_spec {A : Ar} {x0} (h : g25ok A x0 = true) : g25v A x0 = some ((.tup [(.cell (.sl 700 none (g25r0 A x0) 3)), (.cell (.bool (g25r1 A x0)))]), [(700, ⟨[.recs (g25r2 A x0) [.ints .i64 (g25r3 A x0), .strs (g25r4 A x0), .strs (g25r5 A x0)]], 24, 2⟩)]) := g25is_spec h
def g25o (A : Ar) (args : List AV) (h : Heap) : Option (Bool × AV × Heap) := match args, h with
  | [.v (.cell (.str x0))], [] => some (g25ok A x0, (.tup [(.cell (.sl 700 none (g25r0 A x0) 3)), (.cell (.bool (g25r1 A x0)))]), [(700, ⟨[.recs (g25r2 A x0) [.ints .i64 (g25r3 A x0), .strs (g25r4 A x0), .strs (g25r5 A x0)]], 24, 2⟩)])
  | _, _ => none
theorem g25o_sound : ∀ args h v h', g25o realA args h = some (true, v, h') → FnH Try.prog 25 args h v h' := by
  intro args h v h' hh
  unfold g25o at hh
  split at hh
  · rename_i x0
    simp only [Option.some.injEq, Prod.mk.injEq] at hh
    obtain ⟨hc, hv, hh⟩ := hh
    subst hv
    subst hh
    exact fnh_ofG mixed gtysOK g25O_sound g25O_det (an := g25an) (cut := g25cut) Try.func25 (c := bodyOf Try.f25) rfl (by kernel_rfl) Try.call25 (Nat.le_of_ble_eq_true rfl) (pins := []) (nilr := none) (fun _ => (show g25v realA x0 = _ from g25ok_spec hc)) fun _ st => g25_go st
  · cases hh
attribute [local irreducible] g25ok g25r0 g25r1 g25r2 g25r3 g25r4 g25r5
def g23O (A : Ar) : Orc := orcH [(26, g26o A), (22, g22o A)] [(25, ⟨[], none, (g25o A)⟩), (12, ⟨[], none, (g12o A)⟩)]
theorem g23O_sound : OSound Try.prog (g23O realA) := orcH_sound (fun f g hm args v hv => by
    simp only [List.mem_cons, List.not_mem_nil, or_false, Prod.mk.injEq] at hm
    rcases hm with ⟨rfl, rfl⟩ | ⟨rfl, rfl⟩
    · exact g26o_sound _ _ hv
    · exact g22o_sound _ _ hv) (fun f e hm args h v h' hv => by
    simp only [List.mem_cons, List.not_mem_nil, or_false, Prod.mk.injEq] at hm
    rcases hm with ⟨rfl, rfl⟩ | ⟨rfl, rfl⟩
    · exact g25o_sound _ _ _ _ hv
    · exact g12o_sound _ _ _ _ hv)
theorem g23O_det : ODet (g23O realA) := orcH_det _ _
def g23an : Ann := [(0, ([0], [])), (1, ([0, 2, 3], [])), (2, ([2, 3, 4, 5], [2001])), (3, ([], [])), (4, ([2, 3, 5], [2001])), (5, ([2, 3, 17, 18, 19], [2001])), (6, ([2, 3, 17, 18, 19], [2001])), (7, ([2, 3, 7, 17, 18, 19], [2001, 7002])), (8, ([2, 3, 7, 8, 9, 17, 18, 19], [2001, 7002, 8002])), (9, ([], [])), (10, ([2, 3, 7, 17, 18, 19], [2001, 7002])), (11, ([2, 3, 17, 18, 19], [2001])), (12, ([2, 3, 7, 17, 18, 19], [2001, 7002])), (13, ([2, 3, 17, 18, 19], [2001])), (14, ([2, 3], [])), (15, ([2, 3], [])), (16, ([2, 3], []))]
def g23res : List ResultVar := [.tmp 2, .tmp 3, .tmp 4]
def g23cut : List Nat := [6, 10, 12, 14, 16]
noncomputable def g23N {R : Type} (A : Ar) (kk : AV → Heap → Option R) (t : List Bool → St → Option R) (p : List Bool) (s : St) : Option R := nodeN A gtys (g23O A) g23an g23cut t (bodyOf Try.f23) (finD gtys g23res kk) p s
def g23J12s (x0 : List Nat) (x1 : Int) (x2 : Nat) (x3 x4 : Int) (x5 : Nat) (x6 : List Int) (x7 : List (List Nat)) (x8 : List (List Nat)) (x9 : Int) (x10 x11 : List Nat) : St := ⟨[(2, (tS x0)), (3, (i6 x1)), (7, (pT 7002 0)), (17, (sL 2001 none x2 3)), (18, (i6 x3)), (19, (i6 x4))], [(2001, ⟨[.recs x5 [.ints .i64 x6, .strs x7, .strs x8]], 24, 2⟩), (7002, ⟨[.one (.int .i64 x9), .one (.str x10), .one (.str x11)], 24, 1⟩)]⟩
def g23J12 {R : Type} (A : Ar) (n : Nat) (kk : AV → Heap → Option R) (lg23L5 : List Nat → Int → Nat → Int → Int → Nat → List Int → List (List Nat) → List (List Nat) → Option R) (x0 : List Nat) (x1 : Int) (x2 : Nat) (x3 x4 : Int) (x5 : Nat) (x6 : List Int) (x7 : List (List Nat)) (x8 : List (List Nat)) (x9 : Int) (x10 x11 : List Nat) : Option R :=
  match g22ok A 48 x10 with
  | true => match A.le (x0.length + (g22r0 A 48 x10).length) 9223372036854775807 with
    | true => lg23L5 (x0 ++ (g22r0 A 48 x10)) x1 x2 x3 (A.ib .add .i64 x4 1) x5 x6 x7 x8
    | false => none
  | false => none
def g23J10s (x0 : List Nat) (x1 : Int) (x2 : Nat) (x3 x4 : Int) (x5 : Nat) (x6 : List Int) (x7 : List (List Nat)) (x8 : List (List Nat)) (x9 : Int) (x10 x11 : List Nat) : St := ⟨[(2, (tS x0)), (3, (i6 x1)), (7, (pT 7002 0)), (17, (sL 2001 none x2 3)), (18, (i6 x3)), (19, (i6 x4))], [(2001, ⟨[.recs x5 [.ints .i64 x6, .strs x7, .strs x8]], 24, 2⟩), (7002, ⟨[.one (.int .i64 x9), .one (.str x10), .one (.str x11)], 24, 1⟩)]⟩
def g23J10 {R : Type} (A : Ar) (n : Nat) (kk : AV → Heap → Option R) (lg23L5 : List Nat → Int → Nat → Int → Int → Nat → List Int → List (List Nat) → List (List Nat) → Option R) (x0 : List Nat) (x1 : Int) (x2 : Nat) (x3 x4 : Int) (x5 : Nat) (x6 : List Int) (x7 : List (List Nat)) (x8 : List (List Nat)) (x9 : Int) (x10 x11 : List Nat) : Option R :=
  match g26ok A x10 [6, 10, 43, 6, 1, 4, 1, 214, 121, 2, 4, 3] with
  | true => match g26r0 A x10 [6, 10, 43, 6, 1, 4, 1, 214, 121, 2, 4, 3] with
    | true => lg23L5 x0 (A.ib .add .i64 x1 1) x2 x3 (A.ib .add .i64 x4 1) x5 x6 x7 x8
    | false => g23J12 A n kk lg23L5 x0 x1 x2 x3 x4 x5 x6 x7 x8 x9 x10 x11
  | false => none
def g23J6s (x0 : List Nat) (x1 : Int) (x2 : Nat) (x3 x4 : Int) (x5 : Nat) (x6 : List Int) (x7 : List (List Nat)) (x8 : List (List Nat)) : St := ⟨[(2, (tS x0)), (3, (i6 x1)), (17, (sL 2001 none x2 3)), (18, (i6 x3)), (19, (i6 x4))], [(2001, ⟨[.recs x5 [.ints .i64 x6, .strs x7, .strs x8]], 24, 2⟩)]⟩
def g23J6 {R : Type} (A : Ar) (n : Nat) (kk : AV → Heap → Option R) (lg23L5 : List Nat → Int → Nat → Int → Int → Nat → List Int → List (List Nat) → List (List Nat) → Option R) (x0 : List Nat) (x1 : Int) (x2 : Nat) (x3 x4 : Int) (x5 : Nat) (x6 : List Int) (x7 : List (List Nat)) (x8 : List (List Nat)) : Option R :=
  match A.neg x4 with
  | true => none
  | false => match A.lt (A.toN x4) x2 with
    | true => match g12ok A (x7.getD (A.toN x4) []) with
      | true => match A.ic .neq (x6.getD (A.toN x4) 0) 48 with
        | true => kk (.tup [(.cell (.str [])), (.cell (.int .i64 0)), (.cell (.bool false))]) []
        | false => match A.ic .neq (g12r1 A (x7.getD (A.toN x4) [])) 0 with
          | true => kk (.tup [(.cell (.str [])), (.cell (.int .i64 0)), (.cell (.bool false))]) []
          | false => match A.ic .eql (A.ofN (g12r0 A (x7.getD (A.toN x4) []))) 0 with
            | true => kk (.tup [(.cell (.str [])), (.cell (.int .i64 0)), (.cell (.bool false))]) []
            | false => g23J10 A n kk lg23L5 x0 x1 x2 x3 x4 x5 x6 x7 x8 (x6.getD (A.toN x4) 0) (x7.getD (A.toN x4) []) (x8.getD (A.toN x4) [])
      | false => none
    | false => none
def g23J16s (x0 : List Nat) (x1 : Int) : St := ⟨[(2, (tS x0)), (3, (i6 x1))], []⟩
def g23J16 {R : Type} (A : Ar) (n : Nat) (kk : AV → Heap → Option R)  (x0 : List Nat) (x1 : Int) : Option R :=
  kk (.tup [(.cell (.str x0)), (.cell (.int .i64 x1)), (.cell (.bool true))]) []
def g23J14s (x0 : List Nat) (x1 : Int) : St := ⟨[(2, (tS x0)), (3, (i6 x1))], []⟩
def g23J14 {R : Type} (A : Ar) (n : Nat) (kk : AV → Heap → Option R)  (x0 : List Nat) (x1 : Int) : Option R :=
  match A.sc .neq x0 [] with
  | true => match g22ok A 48 x0 with
    | true => match g22ok A 163 (g22r0 A 48 x0) with
      | true => g23J16 A n kk  (g22r0 A 163 (g22r0 A 48 x0)) x1
      | false => none
    | false => none
  | false => g23J16 A n kk  x0 x1
def g23L5s (x0 : List Nat) (x1 : Int) (x2 : Nat) (x3 x4 : Int) (x5 : Nat) (x6 : List Int) (x7 : List (List Nat)) (x8 : List (List Nat)) : St := ⟨[(2, (tS x0)), (3, (i6 x1)), (17, (sL 2001 none x2 3)), (18, (i6 x3)), (19, (i6 x4))], [(2001, ⟨[.recs x5 [.ints .i64 x6, .strs x7, .strs x8]], 24, 2⟩)]⟩
def g23L5 {R : Type} (A : Ar) (n : Nat) (kk : AV → Heap → Option R)  : Nat → List Nat → Int → Nat → Int → Int → Nat → List Int → List (List Nat) → List (List Nat) → Option R
  | 0, _, _, _, _, _, _, _, _, _ => none
  | m + 1, x0, x1, x2, x3, x4, x5, x6, x7, x8 => match A.ic .lss x4 x3 with
  | true => g23J6 A n kk (g23L5 A n kk  m) x0 x1 x2 x3 x4 x5 x6 x7 x8
  | false => g23J14 A n kk  x0 x1
def g23 {R : Type} (A : Ar) (n : Nat) (kk : AV → Heap → Option R) (a : List Nat) : Option R :=
  match g25ok A a with
  | true => match !(g25r1 A a) with
    | true => kk (.tup [(.cell (.str [])), (.cell (.int .i64 0)), (.cell (.bool false))]) []
    | false => g23L5 A n kk  n [] 0 (g25r0 A a) (A.ofN (g25r0 A a)) 0 (g25r2 A a) (g25r3 A a) (g25r4 A a) (g25r5 A a)
  | false => none
section
variable {R : Type} {A : Ar} {n : Nat} {kk : AV → Heap → Option R} {tb : Nat → List Bool → St → Option R} (st : Stp (g23N A kk) tb)
include st
theorem g23J12_go {lg23L5 : List Nat → Int → Nat → Int → Int → Nat → List Int → List (List Nat) → List (List Nat) → Option R} (hg23L5 : ∀ (x0 : List Nat) (x1 : Int) (x2 : Nat) (x3 x4 : Int) (x5 : Nat) (x6 : List Int) (x7 : List (List Nat)) (x8 : List (List Nat)), Prs (fun k => tb k (pth 884) (g23L5s x0 x1 x2 x3 x4 x5 x6 x7 x8)) (lg23L5 x0 x1 x2 x3 x4 x5 x6 x7 x8)) {x0 : List Nat} {x1 : Int} {x2 : Nat} {x3 : Int} {x4 : Int} {x5 : Nat} {x6 : List Int} {x7 : List (List Nat)} {x8 : List (List Nat)} {x9 : Int} {x10 : List Nat} {x11 : List Nat} : Prs (fun k => tb k (pth 226511) (g23J12s x0 x1 x2 x3 x4 x5 x6 x7 x8 x9 x10 x11)) (g23J12 A n kk lg23L5 x0 x1 x2 x3 x4 x5 x6 x7 x8 x9 x10 x11) := by
  unfold g23J12
  exact st.g (pc (SxP14bpi _ (SxP14bpi _ (hg23L5 _ _ _ _ _ _ _ _ _) pn) pn) (by kernel_rfl))
theorem g23J10_go {lg23L5 : List Nat → Int → Nat → Int → Int → Nat → List Int → List (List Nat) → List (List Nat) → Option R} (hg23L5 : ∀ (x0 : List Nat) (x1 : Int) (x2 : Nat) (x3 x4 : Int) (x5 : Nat) (x6 : List Int) (x7 : List (List Nat)) (x8 : List (List Nat)), Prs (fun k => tb k (pth 884) (g23L5s x0 x1 x2 x3 x4 x5 x6 x7 x8)) (lg23L5 x0 x1 x2 x3 x4 x5 x6 x7 x8)) {x0 : List Nat} {x1 : Int} {x2 : Nat} {x3 : Int} {x4 : Int} {x5 : Nat} {x6 : List Int} {x7 : List (List Nat)} {x8 : List (List Nat)} {x9 : Int} {x10 : List Nat} {x11 : List Nat} : Prs (fun k => tb k (pth 113255) (g23J10s x0 x1 x2 x3 x4 x5 x6 x7 x8 x9 x10 x11)) (g23J10 A n kk lg23L5 x0 x1 x2 x3 x4 x5 x6 x7 x8 x9 x10 x11) := by
  unfold g23J10
  exact st.g (pc (SxP14bpi _ (SxP14bpi _ (hg23L5 _ _ _ _ _ _ _ _ _) (g23J12_go st hg23L5)) pn) (by kernel_rfl))
theorem g23J6_go {lg23L5 : List Nat → Int → Nat → Int → Int → Nat → List Int → List (List Nat) → List (List Nat) → Option R} (hg23L5 : ∀ (x0 : List Nat) (x1 : Int) (x2 : Nat) (x3 x4 : Int) (x5 : Nat) (x6 : List Int) (x7 : List (List Nat)) (x8 : List (List Nat)), Prs (fun k => tb k (pth 884) (g23L5s x0 x1 x2 x3 x4 x5 x6 x7 x8)) (lg23L5 x0 x1 x2 x3 x4 x5 x6 x7 x8)) {x0 : List Nat} {x1 : Int} {x2 : Nat} {x3 : Int} {x4 : Int} {x5 : Nat} {x6 : List Int} {x7 : List (List Nat)} {x8 : List (List Nat)} : Prs (fun k => tb k (pth 3539) (g23J6s x0 x1 x2 x3 x4 x5 x6 x7 x8)) (g23J6 A n kk lg23L5 x0 x1 x2 x3 x4 x5 x6 x7 x8) := by
  unfold g23J6
  exact st.g (pc (SxP14bpi _ pn (SxP14bpi _ (SxP14bpi _ (SxP14bpi _ (pf _) (SxP14bpi _ (pf _) (SxP14bpi _ (pf _) (g23J10_go st hg23L5)))) pn) pn)) (by kernel_rfl))
theorem g23J16_go {x0 : List Nat} {x1 : Int} : Prs (fun k => tb k (pth 223) (g23J16s x0 x1)) (g23J16 A n kk x0 x1) := by
  unfold g23J16
  exact st.g (pc (pf _) (by kernel_rfl))
theorem g23J14_go {x0 : List Nat} {x1 : Int} : Prs (fun k => tb k (pth 111) (g23J14s x0 x1)) (g23J14 A n kk x0 x1) := by
  unfold g23J14
  exact st.g (pc (SxP14bpi _ (SxP14bpi _ (SxP14bpi _ (g23J16_go st) pn) pn) (g23J16_go st)) (by kernel_rfl))
theorem g23L5_go (m : Nat) : ∀ (x0 : List Nat) (x1 : Int) (x2 : Nat) (x3 x4 : Int) (x5 : Nat) (x6 : List Int) (x7 : List (List Nat)) (x8 : List (List Nat)), Prs (fun k => tb k (pth 884) (g23L5s x0 x1 x2 x3 x4 x5 x6 x7 x8)) (g23L5 A n kk m x0 x1 x2 x3 x4 x5 x6 x7 x8) := by
  induction m with
  | zero => intro x0 x1 x2 x3 x4 x5 x6 x7 x8; exact pn0
  | succ m ih =>
    intro x0 x1 x2 x3 x4 x5 x6 x7 x8; rw [g23L5]
    exact st.g (pc (SxP14bpi _ (g23J6_go st ih) (g23J14_go st)) (by kernel_rfl))
theorem g23_go {a : List Nat} : Prs (fun k => funN A gtys (g23O A) g23an g23cut (bodyOf Try.f23) g23res [(tS a)] [] kk (tb k)) (g23 A n kk a) := by
  unfold g23
  exact pc (SxP14bpi _ (SxP14bpi _ (pf _) (g23L5_go st n _ _ _ _ _ _ _ _ _)) pn) (by kernel_rfl)
end
def g23is (o : Option AV) : Bool := match o with
  | some (.tup [.cell (.str _), .cell (.int .i64 _), .cell (.bool _)]) => true
  | _ => false
def g23g0 (o : Option AV) : List Nat := match o with
  | some (.tup [.cell (.str x), .cell (.int .i64 _), .cell (.bool _)]) => x
  | _ => []
def g23g1 (o : Option AV) : Int := match o with
  | some (.tup [.cell (.str _), .cell (.int .i64 x), .cell (.bool _)]) => x
  | _ => 0
def g23g2 (o : Option AV) : Bool := match o with
  | some (.tup [.cell (.str _), .cell (.int .i64 _), .cell (.bool x)]) => x
  | _ => false
theorem g23is_spec {o : Option AV} (h : g23is o = true) : o = some (.tup [.cell (.str (g23g0 o)), .cell (.int .i64 (g23g1 o)), .cell (.bool (g23g2 o))]) := by
  unfold g23is at h
  split at h
  · rfl
  · cases h
def g23v (A : Ar) (a : List Nat) : Option AV := g23 A (100000) (fun v _ => some v) a
def g23ok (A : Ar) (a : List Nat) : Bool := g23is (g23v A a)
def g23r0 (A : Ar) (a : List Nat) : List Nat := g23g0 (g23v A a)
def g23r1 (A : Ar) (a : List Nat) : Int := g23g1 (g23v A a)
def g23r2 (A : Ar) (a : List Nat) : Bool := g23g2 (g23v A a)
theorem g23ok_spec {A : Ar} {a} (h : g23ok A a = true) : g23v A a = some (.tup [.cell (.str (g23r0 A a)), .cell (.int .i64 (g23r1 A a)), .cell (.bool (g23r2 A a))]) := g23is_spec h
def g23o (A : Ar) (args : List AV) : Option (Bool × AV) := match args with
  | [.v (.cell (.str a))] => some (g23ok A a, .tup [.cell (.str (g23r0 A a)), .cell (.int .i64 (g23r1 A a)), .cell (.bool (g23r2 A a))])
  | _ => none
theorem g23o_sound : ∀ args v, g23o realA args = some (true, v) → Fn1 Try.prog 23 args v := by
  intro args v h
  unfold g23o at h
  split at h
  · rename_i a
    simp only [Option.some.injEq, Prod.mk.injEq] at h
    obtain ⟨hc, h⟩ := h
    subst h
    · skip
      exact fn1_ofG mixed gtysOK g23O_sound g23O_det (an := g23an) (cut := g23cut) Try.func23 (c := bodyOf Try.f23) rfl (by kernel_rfl) Try.call23 (Nat.le_of_ble_eq_true rfl) (fun b => rfl) (fun _ => (show g23v realA a = _ from g23ok_spec hc)) fun _ st => g23_go st
  · cases h
attribute [local irreducible] g23ok g23r0 g23r1 g23r2
def g21O (A : Ar) : Orc := orcH [] [(25, ⟨[], none, (g25o A)⟩), (12, ⟨[], none, (g12o A)⟩)]
theorem g21O_sound : OSound Try.prog (g21O realA) := orcH_sound (fun f g hm args v hv => by
    cases hm) (fun f e hm args h v h' hv => by
    simp only [List.mem_cons, List.not_mem_nil, or_false, Prod.mk.injEq] at hm
    rcases hm with ⟨rfl, rfl⟩ | ⟨rfl, rfl⟩
    · exact g25o_sound _ _ _ _ hv
    · exact g12o_sound _ _ _ _ hv)
theorem g21O_det : ODet (g21O realA) := orcH_det _ _
def g21an : Ann := [(0, ([0], [])), (1, ([0], [])), (2, ([], [])), (3, ([0], [])), (4, ([4, 5], [4001])), (5, ([], [])), (6, ([4], [4001])), (7, ([6, 7], [7004])), (8, ([], [])), (9, ([6], [7004]))]
def g21res : List ResultVar := [.tmp 2, .tmp 3]
def g21cut : List Nat := [3, 6]
noncomputable def g21N {R : Type} (A : Ar) (kk : AV → Heap → Option R) (t : List Bool → St → Option R) (p : List Bool) (s : St) : Option R := nodeN A gtys (g21O A) g21an g21cut t (bodyOf Try.f21) (finD gtys g21res kk) p s
def g21J6s (x0 x1 : Nat) (x2 : List Int) (x3 : List (List Nat)) (x4 : List (List Nat)) : St := ⟨[(4, (sL 4001 none x0 3))], [(4001, ⟨[.recs x1 [.ints .i64 x2, .strs x3, .strs x4]], 24, 2⟩)]⟩
def g21J6 {R : Type} (A : Ar) (n : Nat) (kk : AV → Heap → Option R)  (x0 x1 : Nat) (x2 : List Int) (x3 : List (List Nat)) (x4 : List (List Nat)) : Option R :=
  match Nat.blt 0 x0 with
  | true => match g12ok A (x3.getD 0 []) with
    | true => match A.ic .neq (g12r1 A (x3.getD 0 [])) 0 with
      | true => kk (.tup [(.cell (.sl 9000 none 0 3)), (.cell (.int .i64 2))]) [(9000, ⟨[.recs 0 [.ints .i64 [], .strs [], .strs []]], 24, 2⟩)]
      | false => kk (.tup [(.cell (.sl 7004 none (g12r0 A (x3.getD 0 [])) 3)), (.cell (.int .i64 0))]) [(7004, ⟨[.recs (g12r2 A (x3.getD 0 [])) [.ints .i64 (g12r3 A (x3.getD 0 [])), .strs (g12r4 A (x3.getD 0 [])), .strs (g12r5 A (x3.getD 0 []))]], 24, 2⟩)]
    | false => none
  | false => none
def g21J3s (x0 : List Nat) : St := ⟨[(0, (tS x0))], []⟩
def g21J3 {R : Type} (A : Ar) (n : Nat) (kk : AV → Heap → Option R)  (x0 : List Nat) : Option R :=
  match g25ok A x0 with
  | true => match !(g25r1 A x0) with
    | true => kk (.tup [(.cell (.sl 6000 none 0 3)), (.cell (.int .i64 2))]) [(6000, ⟨[.recs 0 [.ints .i64 [], .strs [], .strs []]], 24, 2⟩)]
    | false => match A.ic .eql (A.ofN (g25r0 A x0)) 0 with
      | true => kk (.tup [(.cell (.sl 6000 none 0 3)), (.cell (.int .i64 2))]) [(6000, ⟨[.recs 0 [.ints .i64 [], .strs [], .strs []]], 24, 2⟩)]
      | false => match Nat.blt 0 (g25r0 A x0) with
        | true => match A.ic .neq ((g25r3 A x0).getD 0 0) 48 with
          | true => kk (.tup [(.cell (.sl 6000 none 0 3)), (.cell (.int .i64 2))]) [(6000, ⟨[.recs 0 [.ints .i64 [], .strs [], .strs []]], 24, 2⟩)]
          | false => g21J6 A n kk  (g25r0 A x0) (g25r2 A x0) (g25r3 A x0) (g25r4 A x0) (g25r5 A x0)
        | false => none
  | false => none
def g21 {R : Type} (A : Ar) (n : Nat) (kk : AV → Heap → Option R) (x0 : List Nat) : Option R :=
  match A.ic .gtr (A.ofN x0.length) 2000 with
  | true => kk (.tup [(.cell (.sl 3000 none 0 3)), (.cell (.int .i64 9))]) [(3000, ⟨[.recs 0 [.ints .i64 [], .strs [], .strs []]], 24, 2⟩)]
  | false => g21J3 A n kk  x0
section
variable {R : Type} {A : Ar} {n : Nat} {kk : AV → Heap → Option R} {tb : Nat → List Bool → St → Option R} (st : Stp (g21N A kk) tb)
include st
theorem g21J6_go {x0 : Nat} {x1 : Nat} {x2 : List Int} {x3 : List (List Nat)} {x4 : List (List Nat)} : Prs (fun k => tb k (pth 31) (g21J6s x0 x1 x2 x3 x4)) (g21J6 A n kk x0 x1 x2 x3 x4) := by
  unfold g21J6
  exact st.g (pc (SxP14bpi _ (SxP14bpi _ (SxP14bpi _ (pf _) (pf _)) pn) pn) (by kernel_rfl))
theorem g21J3_go {x0 : List Nat} : Prs (fun k => tb k (pth 7) (g21J3s x0)) (g21J3 A n kk x0) := by
  unfold g21J3
  exact st.g (pc (SxP14bpi _ (SxP14bpi _ (pf _) (SxP14bpi _ (pf _) (SxP14bpi _ (SxP14bpi _ (pf _) (g21J6_go st)) pn))) pn) (by kernel_rfl))
theorem g21_go {x0 : List Nat} : Prs (fun k => funN A gtys (g21O A) g21an g21cut (bodyOf Try.f21) g21res [(tS x0)] [] kk (tb k)) (g21 A n kk x0) := by
  unfold g21
  exact pc (SxP14bpi _ (pf _) (g21J3_go st)) (by kernel_rfl)
end
def g21is (o : Option (AV × Heap)) : Bool := match o with
  | some (.tup [(.cell (.sl n0 none _ n1)), (.cell (.int .i64 _))], [(n2, ⟨[.recs _ [.ints .i64 _, .strs _, .strs _]], n3, n4⟩)]) => Nat.beq n0 700 && (Nat.beq n1 3 && (Nat.beq n2 700 && (Nat.beq n3 24 && (Nat.beq n4 2))))
  | _ => false
def g21g0 (o : Option (AV × Heap)) : Nat := match o with
  | some (.tup [(.cell (.sl _ none x _)), (.cell (.int .i64 _))], [(_, ⟨[.recs _ [.ints .i64 _, .strs _, .strs _]], _, _⟩)]) => x
  | _ => 0
def g21g1 (o : Option (AV × Heap)) : Int := match o with
  | some (.tup [(.cell (.sl _ none _ _)), (.cell (.int .i64 x))], [(_, ⟨[.recs _ [.ints .i64 _, .strs _, .strs _]], _, _⟩)]) => x
  | _ => 0
def g21g2 (o : Option (AV × Heap)) : Nat := match o with
  | some (.tup [(.cell (.sl _ none _ _)), (.cell (.int .i64 _))], [(_, ⟨[.recs x [.ints .i64 _, .strs _, .strs _]], _, _⟩)]) => x
  | _ => 0
def g21g3 (o : Option (AV × Heap)) : List Int := match o with
  | some (.tup [(.cell (.sl _ none _ _)), (.cell (.int .i64 _))], [(_, ⟨[.recs _ [.ints .i64 x, .strs _, .strs _]], _, _⟩)]) => x
  | _ => []
def g21g4 (o : Option (AV × Heap)) : List (List Nat) := match o with
  | some (.tup [(.cell (.sl _ none _ _)), (.cell (.int .i64 _))], [(_, ⟨[.recs _ [.ints .i64 _, .strs x, .strs _]], _, _⟩)]) => x
  | _ => []
def g21g5 (o : Option (AV × Heap)) : List (List Nat) := match o with
  | some (.tup [(.cell (.sl _ none _ _)), (.cell (.int .i64 _))], [(_, ⟨[.recs _ [.ints .i64 _, .strs _, .strs x]], _, _⟩)]) => x
  | _ => []
theorem g21is_spec {o : Option (AV × Heap)} (h : g21is o = true) : o = some ((.tup [(.cell (.sl 700 none (g21g0 o) 3)), (.cell (.int .i64 (g21g1 o)))]), [(700, ⟨[.recs (g21g2 o) [.ints .i64 (g21g3 o), .strs (g21g4 o), .strs (g21g5 o)]], 24, 2⟩)]) := by
  unfold g21is at h
  split at h
  · rename_i n0 z1 n1 z3 n2 z5 z6 z7 z8 n3 n4
    simp only [Bool.and_eq_true] at h
    have en0 := beq_true h.1
    subst en0
    replace h := h.2
    have en1 := beq_true h.1
    subst en1
    replace h := h.2
    have en2 := beq_true h.1
    subst en2
    replace h := h.2
    have en3 := beq_true h.1
    subst en3
    replace h := h.2
    have en4 := beq_true h
    subst en4
    rfl
  · cases h
def g21v (A : Ar) (x0 : List Nat) : Option (AV × Heap) := g21 A (100000) (outH [] none) x0
def g21ok (A : Ar) (x0 : List Nat) : Bool := g21is (g21v A x0)
def g21r0 (A : Ar) (x0 : List Nat) : Nat := g21g0 (g21v A x0)
def g21r1 (A : Ar) (x0 : List Nat) : Int := g21g1 (g21v A x0)
def g21r2 (A : Ar) (x0 : List Nat) : Nat := g21g2 (g21v A x0)
def g21r3 (A : Ar) (x0 : List Nat) : List Int := g21g3 (g21v A x0)
def g21r4 (A : Ar) (x0 : List Nat) : List (List Nat) := g21g4 (g21v A x0)
def g21r5 (A : Ar) (x0 : List Nat) : List (List Nat) := g21g5 (g21v A x0)
theorem g21ok_spec {A : Ar} {x0} (h : g21ok A x0 = true) : g21v A x0 = some ((.tup [(.cell (.sl 700 none (g21r0 A x0) 3)), (.cell (.int .i64 (g21r1 A x0)))]), [(700, ⟨[.recs (g21r2 A x0) [.ints .i64 (g21r3 A x0), .strs (g21r4 A x0), .strs (g21r5 A x0)]], 24, 2⟩)]) := g21is_spec h
def g21o (A : Ar) (args : List AV) (h : Heap) : Option (Bool × AV × Heap) := match args, h with
  | [.v (.cell (.str x0))], [] => some (g21ok A x0, (.tup [(.cell (.sl 700 none (g21r0 A x0) 3)), (.cell (.int .i64 (g21r1 A x0)))]), [(700, ⟨[.recs (g21r2 A x0) [.ints .i64 (g21r3 A x0), .strs (g21r4 A x0), .strs (g21r5 A x0)]], 24, 2⟩)])
  | _, _ => none
theorem g21o_sound : ∀ args h v h', g21o realA args h = some (true, v, h') → FnH Try.prog 21 args h v h' := by
  intro args h v h' hh
  unfold g21o at hh
  split at hh
  · rename_i x0
    simp only [Option.some.injEq, Prod.mk.injEq] at hh
    obtain ⟨hc, hv, hh⟩ := hh
    subst hv
    subst hh
    exact fnh_ofG mixed gtysOK g21O_sound g21O_det (an := g21an) (cut := g21cut) Try.func21 (c := bodyOf Try.f21) rfl (by kernel_rfl) Try.call21 (Nat.le_of_ble_eq_true rfl) (pins := []) (nilr := none) (fun _ => (show g21v realA x0 = _ from g21ok_spec hc)) fun _ st => g21_go st
  · cases hh
attribute [local irreducible] g21ok g21r0 g21r1 g21r2 g21r3 g21r4 g21r5
def g17O (A : Ar) : Orc := orcH [(22, g22o A), (23, g23o A)] [(21, ⟨[], none, (g21o A)⟩)]
theorem g17O_sound : OSound Try.prog (g17O realA) := orcH_sound (fun f g hm args v hv => by
    simp only [List.mem_cons, List.not_mem_nil, or_false, Prod.mk.injEq] at hm
    rcases hm with ⟨rfl, rfl⟩ | ⟨rfl, rfl⟩
    · exact g22o_sound _ _ hv
    · exact g23o_sound _ _ hv) (fun f e hm args h v h' hv => by
    simp only [List.mem_cons, List.not_mem_nil, or_false, Prod.mk.injEq] at hm
    rcases hm with ⟨rfl, rfl⟩
    · exact g21o_sound _ _ _ _ hv)
theorem g17O_det : ODet (g17O realA) := orcH_det _ _
def g17an : Ann := [(0, ([0], [])), (1, ([0], [])), (2, ([4, 5], [2001])), (3, ([4], [])), (4, ([5], [2001])), (5, ([5, 6, 7, 8], [2001])), (6, ([6, 7, 8, 21, 22, 23], [2001])), (7, ([6, 7, 8, 21, 22, 23], [2001])), (8, ([6, 7, 8, 10, 21, 22, 23], [2001, 8002])), (9, ([6, 7, 8, 10, 11, 21, 22, 23], [2001, 8002])), (10, ([6, 10, 21, 22, 23], [2001, 8002])), (11, ([6, 10, 21, 22, 23], [2001, 8002])), (12, ([6, 8, 10, 21, 22, 23], [2001, 8002])), (13, ([6, 7, 8, 11, 12, 21, 22, 23], [2001])), (14, ([], [])), (15, ([6, 7, 8, 11, 21, 22, 23], [2001])), (16, ([6, 7, 8, 21, 22, 23], [2001])), (17, ([6, 7], [])), (18, ([], [])), (19, ([6, 7], [])), (20, ([], [])), (21, ([6], []))]
def g17res : List ResultVar := [.tmp 2, .tmp 3, .tmp 4]
def g17cut : List Nat := [4, 7, 17, 21]
noncomputable def g17N {R : Type} (A : Ar) (kk : AV → Heap → Option R) (t : List Bool → St → Option R) (p : List Bool) (s : St) : Option R := nodeN A gtys (g17O A) g17an g17cut t (bodyOf Try.f17) (finD gtys g17res kk) p s
def g17J7as (x0 : List Nat) (x1 : Int) (x2 : Nat) (x3 x4 : Int) (x5 : Nat) (x6 : List Int) (x7 : List (List Nat)) (x8 : List (List Nat)) : St := ⟨[(6, (tS x0)), (7, (i6 x1)), (8, (bO true)), (21, (sL 2001 none x2 3)), (22, (i6 x3)), (23, (i6 x4))], [(2001, ⟨[.recs x5 [.ints .i64 x6, .strs x7, .strs x8]], 24, 2⟩)]⟩
def g17J7a {R : Type} (A : Ar) (n : Nat) (kk : AV → Heap → Option R) (lg17L6a : List Nat → Int → Nat → Int → Int → Nat → List Int → List (List Nat) → List (List Nat) → Option R) (x0 : List Nat) (x1 : Int) (x2 : Nat) (x3 x4 : Int) (x5 : Nat) (x6 : List Int) (x7 : List (List Nat)) (x8 : List (List Nat)) : Option R :=
  match A.neg x4 with
  | true => none
  | false => match A.lt (A.toN x4) x2 with
    | true => match g22ok A (x6.getD (A.toN x4) 0) (x7.getD (A.toN x4) []) with
      | true => match A.ic .eql (x6.getD (A.toN x4) 0) 163 with
        | true => match A.le (x0.length + (g22r0 A (x6.getD (A.toN x4) 0) (x7.getD (A.toN x4) [])).length) 9223372036854775807 with
          | true => lg17L6a (x0 ++ (g22r0 A (x6.getD (A.toN x4) 0) (x7.getD (A.toN x4) []))) x1 x2 x3 (A.ib .add .i64 x4 1) x5 x6 x7 x8
          | false => none
        | false => match A.le (x0.length + (g22r0 A (x6.getD (A.toN x4) 0) (x7.getD (A.toN x4) [])).length) 9223372036854775807 with
          | true => lg17L6a (x0 ++ (g22r0 A (x6.getD (A.toN x4) 0) (x7.getD (A.toN x4) []))) x1 x2 x3 (A.ib .add .i64 x4 1) x5 x6 x7 x8
          | false => none
      | false => none
    | false => none
def g17J21s (x0 : List Nat) : St := ⟨[(6, (tS x0))], []⟩
def g17J21 {R : Type} (A : Ar) (n : Nat) (kk : AV → Heap → Option R)  (x0 : List Nat) : Option R :=
  match g22ok A 48 x0 with
  | true => kk (.tup [(.cell (.str (g22r0 A 48 x0))), (.cell (.bool true)), (.cell (.int .i64 0))]) []
  | false => none
def g17J17s (x0 : List Nat) (x1 : Int) : St := ⟨[(6, (tS x0)), (7, (i6 x1))], []⟩
def g17J17 {R : Type} (A : Ar) (n : Nat) (kk : AV → Heap → Option R)  (x0 : List Nat) (x1 : Int) : Option R :=
  match A.ic .gtr x1 1 with
  | true => kk (.tup [(.cell (.str [])), (.cell (.bool false)), (.cell (.int .i64 2))]) []
  | false => match A.ic .eql x1 0 with
    | true => kk (.tup [(.cell (.str [])), (.cell (.bool false)), (.cell (.int .i64 0))]) []
    | false => g17J21 A n kk  x0
def g17L6as (x0 : List Nat) (x1 : Int) (x2 : Nat) (x3 x4 : Int) (x5 : Nat) (x6 : List Int) (x7 : List (List Nat)) (x8 : List (List Nat)) : St := ⟨[(6, (tS x0)), (7, (i6 x1)), (8, (bO true)), (21, (sL 2001 none x2 3)), (22, (i6 x3)), (23, (i6 x4))], [(2001, ⟨[.recs x5 [.ints .i64 x6, .strs x7, .strs x8]], 24, 2⟩)]⟩
def g17L6a {R : Type} (A : Ar) (n : Nat) (kk : AV → Heap → Option R)  : Nat → List Nat → Int → Nat → Int → Int → Nat → List Int → List (List Nat) → List (List Nat) → Option R
  | 0, _, _, _, _, _, _, _, _, _ => none
  | m + 1, x0, x1, x2, x3, x4, x5, x6, x7, x8 => match A.ic .lss x4 x3 with
  | true => g17J7a A n kk (g17L6a A n kk  m) x0 x1 x2 x3 x4 x5 x6 x7 x8
  | false => g17J17 A n kk  x0 x1
def g17J7s (x0 : List Nat) (x1 : Int) (x2 : Nat) (x3 x4 : Int) (x5 : Nat) (x6 : List Int) (x7 : List (List Nat)) (x8 : List (List Nat)) : St := ⟨[(6, (tS x0)), (7, (i6 x1)), (8, (bO false)), (21, (sL 2001 none x2 3)), (22, (i6 x3)), (23, (i6 x4))], [(2001, ⟨[.recs x5 [.ints .i64 x6, .strs x7, .strs x8]], 24, 2⟩)]⟩
def g17J7 {R : Type} (A : Ar) (n : Nat) (kk : AV → Heap → Option R) (lg17L6 : List Nat → Int → Nat → Int → Int → Nat → List Int → List (List Nat) → List (List Nat) → Option R) (lg17L6a : List Nat → Int → Nat → Int → Int → Nat → List Int → List (List Nat) → List (List Nat) → Option R) (x0 : List Nat) (x1 : Int) (x2 : Nat) (x3 x4 : Int) (x5 : Nat) (x6 : List Int) (x7 : List (List Nat)) (x8 : List (List Nat)) : Option R :=
  match A.neg x4 with
  | true => none
  | false => match A.lt (A.toN x4) x2 with
    | true => match g22ok A (x6.getD (A.toN x4) 0) (x7.getD (A.toN x4) []) with
      | true => match A.ic .eql (x6.getD (A.toN x4) 0) 163 with
        | true => match g23ok A (x7.getD (A.toN x4) []) with
          | true => match !(g23r2 A (x7.getD (A.toN x4) [])) with
            | true => kk (.tup [(.cell (.str [])), (.cell (.bool false)), (.cell (.int .i64 2))]) []
            | false => match A.le (x0.length + (g23r0 A (x7.getD (A.toN x4) [])).length) 9223372036854775807 with
              | true => lg17L6a (x0 ++ (g23r0 A (x7.getD (A.toN x4) []))) (g23r1 A (x7.getD (A.toN x4) [])) x2 x3 (A.ib .add .i64 x4 1) x5 x6 x7 x8
              | false => none
          | false => none
        | false => match A.le (x0.length + (g22r0 A (x6.getD (A.toN x4) 0) (x7.getD (A.toN x4) [])).length) 9223372036854775807 with
          | true => lg17L6 (x0 ++ (g22r0 A (x6.getD (A.toN x4) 0) (x7.getD (A.toN x4) []))) x1 x2 x3 (A.ib .add .i64 x4 1) x5 x6 x7 x8
          | false => none
      | false => none
    | false => none
def g17L6s (x0 : List Nat) (x1 : Int) (x2 : Nat) (x3 x4 : Int) (x5 : Nat) (x6 : List Int) (x7 : List (List Nat)) (x8 : List (List Nat)) : St := ⟨[(6, (tS x0)), (7, (i6 x1)), (8, (bO false)), (21, (sL 2001 none x2 3)), (22, (i6 x3)), (23, (i6 x4))], [(2001, ⟨[.recs x5 [.ints .i64 x6, .strs x7, .strs x8]], 24, 2⟩)]⟩
def g17L6 {R : Type} (A : Ar) (n : Nat) (kk : AV → Heap → Option R)  : Nat → List Nat → Int → Nat → Int → Int → Nat → List Int → List (List Nat) → List (List Nat) → Option R
  | 0, _, _, _, _, _, _, _, _, _ => none
  | m + 1, x0, x1, x2, x3, x4, x5, x6, x7, x8 => match A.ic .lss x4 x3 with
  | true => g17J7 A n kk (g17L6 A n kk  m) (g17L6a A n kk  m) x0 x1 x2 x3 x4 x5 x6 x7 x8
  | false => g17J17 A n kk  x0 x1
def g17J4s (x0 x1 : Nat) (x2 : List Int) (x3 : List (List Nat)) (x4 : List (List Nat)) : St := ⟨[(5, (sL 2001 none x0 3))], [(2001, ⟨[.recs x1 [.ints .i64 x2, .strs x3, .strs x4]], 24, 2⟩)]⟩
def g17J4 {R : Type} (A : Ar) (n : Nat) (kk : AV → Heap → Option R)  (x0 x1 : Nat) (x2 : List Int) (x3 : List (List Nat)) (x4 : List (List Nat)) : Option R :=
  g17L6 A n kk  n [] 0 x0 (A.ofN x0) 0 x1 x2 x3 x4
def g17 {R : Type} (A : Ar) (n : Nat) (kk : AV → Heap → Option R) (a : List Nat) : Option R :=
  match g21ok A a with
  | true => match A.ic .neq (g21r1 A a) 0 with
    | true => kk (.tup [(.cell (.str [])), (.cell (.bool false)), (.cell (.int .i64 (g21r1 A a)))]) []
    | false => g17J4 A n kk  (g21r0 A a) (g21r2 A a) (g21r3 A a) (g21r4 A a) (g21r5 A a)
  | false => none
section
variable {R : Type} {A : Ar} {n : Nat} {kk : AV → Heap → Option R} {tb : Nat → List Bool → St → Option R} (st : Stp (g17N A kk) tb)
include st
theorem g17J7a_go {lg17L6a : List Nat → Int → Nat → Int → Int → Nat → List Int → List (List Nat) → List (List Nat) → Option R} (hg17L6a : ∀ (x0 : List Nat) (x1 : Int) (x2 : Nat) (x3 x4 : Int) (x5 : Nat) (x6 : List Int) (x7 : List (List Nat)) (x8 : List (List Nat)), Prs (fun k => tb k (pth 500) (g17L6as x0 x1 x2 x3 x4 x5 x6 x7 x8)) (lg17L6a x0 x1 x2 x3 x4 x5 x6 x7 x8)) {x0 : List Nat} {x1 : Int} {x2 : Nat} {x3 : Int} {x4 : Int} {x5 : Nat} {x6 : List Int} {x7 : List (List Nat)} {x8 : List (List Nat)} : Prs (fun k => tb k (pth 2003) (g17J7as x0 x1 x2 x3 x4 x5 x6 x7 x8)) (g17J7a A n kk lg17L6a x0 x1 x2 x3 x4 x5 x6 x7 x8) := by
  unfold g17J7a
  exact st.g (pc (SxP14bpi _ pn (SxP14bpi _ (SxP14bpi _ (SxP14bpi _ (SxP14bpi _ (hg17L6a _ _ _ _ _ _ _ _ _) pn) (SxP14bpi _ (hg17L6a _ _ _ _ _ _ _ _ _) pn)) pn) pn)) (by kernel_rfl))
theorem g17J21_go {x0 : List Nat} : Prs (fun k => tb k (pth 127) (g17J21s x0)) (g17J21 A n kk x0) := by
  unfold g17J21
  exact st.g (pc (SxP14bpi _ (pf _) pn) (by kernel_rfl))
theorem g17J17_go {x0 : List Nat} {x1 : Int} : Prs (fun k => tb k (pth 63) (g17J17s x0 x1)) (g17J17 A n kk x0 x1) := by
  unfold g17J17
  exact st.g (pc (SxP14bpi _ (pf _) (SxP14bpi _ (pf _) (g17J21_go st))) (by kernel_rfl))
theorem g17L6a_go (m : Nat) : ∀ (x0 : List Nat) (x1 : Int) (x2 : Nat) (x3 x4 : Int) (x5 : Nat) (x6 : List Int) (x7 : List (List Nat)) (x8 : List (List Nat)), Prs (fun k => tb k (pth 500) (g17L6as x0 x1 x2 x3 x4 x5 x6 x7 x8)) (g17L6a A n kk m x0 x1 x2 x3 x4 x5 x6 x7 x8) := by
  induction m with
  | zero => intro x0 x1 x2 x3 x4 x5 x6 x7 x8; exact pn0
  | succ m ih =>
    intro x0 x1 x2 x3 x4 x5 x6 x7 x8; rw [g17L6a]
    exact st.g (pc (SxP14bpi _ (g17J7a_go st ih) (g17J17_go st)) (by kernel_rfl))
theorem g17J7_go {lg17L6 : List Nat → Int → Nat → Int → Int → Nat → List Int → List (List Nat) → List (List Nat) → Option R} {lg17L6a : List Nat → Int → Nat → Int → Int → Nat → List Int → List (List Nat) → List (List Nat) → Option R} (hg17L6 : ∀ (x0 : List Nat) (x1 : Int) (x2 : Nat) (x3 x4 : Int) (x5 : Nat) (x6 : List Int) (x7 : List (List Nat)) (x8 : List (List Nat)), Prs (fun k => tb k (pth 500) (g17L6s x0 x1 x2 x3 x4 x5 x6 x7 x8)) (lg17L6 x0 x1 x2 x3 x4 x5 x6 x7 x8)) (hg17L6a : ∀ (x0 : List Nat) (x1 : Int) (x2 : Nat) (x3 x4 : Int) (x5 : Nat) (x6 : List Int) (x7 : List (List Nat)) (x8 : List (List Nat)), Prs (fun k => tb k (pth 500) (g17L6as x0 x1 x2 x3 x4 x5 x6 x7 x8)) (lg17L6a x0 x1 x2 x3 x4 x5 x6 x7 x8)) {x0 : List Nat} {x1 : Int} {x2 : Nat} {x3 : Int} {x4 : Int} {x5 : Nat} {x6 : List Int} {x7 : List (List Nat)} {x8 : List (List Nat)} : Prs (fun k => tb k (pth 2003) (g17J7s x0 x1 x2 x3 x4 x5 x6 x7 x8)) (g17J7 A n kk lg17L6 lg17L6a x0 x1 x2 x3 x4 x5 x6 x7 x8) := by
  unfold g17J7
  exact st.g (pc (SxP14bpi _ pn (SxP14bpi _ (SxP14bpi _ (SxP14bpi _ (SxP14bpi _ (SxP14bpi _ (pf _) (SxP14bpi _ (hg17L6a _ _ _ _ _ _ _ _ _) pn)) pn) (SxP14bpi _ (hg17L6 _ _ _ _ _ _ _ _ _) pn)) pn) pn)) (by kernel_rfl))
theorem g17L6_go (m : Nat) : ∀ (x0 : List Nat) (x1 : Int) (x2 : Nat) (x3 x4 : Int) (x5 : Nat) (x6 : List Int) (x7 : List (List Nat)) (x8 : List (List Nat)), Prs (fun k => tb k (pth 500) (g17L6s x0 x1 x2 x3 x4 x5 x6 x7 x8)) (g17L6 A n kk m x0 x1 x2 x3 x4 x5 x6 x7 x8) := by
  induction m with
  | zero => intro x0 x1 x2 x3 x4 x5 x6 x7 x8; exact pn0
  | succ m ih =>
    intro x0 x1 x2 x3 x4 x5 x6 x7 x8; rw [g17L6]
    exact st.g (pc (SxP14bpi _ (g17J7_go st ih (g17L6a_go st m)) (g17J17_go st)) (by kernel_rfl))
theorem g17J4_go {x0 : Nat} {x1 : Nat} {x2 : List Int} {x3 : List (List Nat)} {x4 : List (List Nat)} : Prs (fun k => tb k (pth 15) (g17J4s x0 x1 x2 x3 x4)) (g17J4 A n kk x0 x1 x2 x3 x4) := by
  unfold g17J4
  exact st.g (pc (g17L6_go st n _ _ _ _ _ _ _ _ _) (by kernel_rfl))
theorem g17_go {a : List Nat} : Prs (fun k => funN A gtys (g17O A) g17an g17cut (bodyOf Try.f17) g17res [(tS a)] [] kk (tb k)) (g17 A n kk a) := by
  unfold g17
  exact pc (SxP14bpi _ (SxP14bpi _ (pf _) (g17J4_go st)) pn) (by kernel_rfl)
end
def g17is (o : Option AV) : Bool := match o with
  | some (.tup [.cell (.str _), .cell (.bool _), .cell (.int .i64 _)]) => true
  | _ => false
def g17g0 (o : Option AV) : List Nat := match o with
  | some (.tup [.cell (.str x), .cell (.bool _), .cell (.int .i64 _)]) => x
  | _ => []
def g17g1 (o : Option AV) : Bool := match o with
  | some (.tup [.cell (.str _), .cell (.bool x), .cell (.int .i64 _)]) => x
  | _ => false
def g17g2 (o : Option AV) : Int := match o with
  | some (.tup [.cell (.str _), .cell (.bool _), .cell (.int .i64 x)]) => x
  | _ => 0
theorem g17is_spec {o : Option AV} (h : g17is o = true) : o = some (.tup [.cell (.str (g17g0 o)), .cell (.bool (g17g1 o)), .cell (.int .i64 (g17g2 o))]) := by
  unfold g17is at h
  split at h
  · rfl
  · cases h
def g17v (A : Ar) (a : List Nat) : Option AV := g17 A (100000) (fun v _ => some v) a
def g17ok (A : Ar) (a : List Nat) : Bool := g17is (g17v A a)
def g17r0 (A : Ar) (a : List Nat) : List Nat := g17g0 (g17v A a)
def g17r1 (A : Ar) (a : List Nat) : Bool := g17g1 (g17v A a)
def g17r2 (A : Ar) (a : List Nat) : Int := g17g2 (g17v A a)
theorem g17ok_spec {A : Ar} {a} (h : g17ok A a = true) : g17v A a = some (.tup [.cell (.str (g17r0 A a)), .cell (.bool (g17r1 A a)), .cell (.int .i64 (g17r2 A a))]) := g17is_spec h
def g17o (A : Ar) (args : List AV) : Option (Bool × AV) := match args with
  | [.v (.cell (.str a))] => some (g17ok A a, .tup [.cell (.str (g17r0 A a)), .cell (.bool (g17r1 A a)), .cell (.int .i64 (g17r2 A a))])
  | _ => none
theorem g17o_sound : ∀ args v, g17o realA args = some (true, v) → Fn1 Try.prog 17 args v := by
  intro args v h
  unfold g17o at h
  split at h
  · rename_i a
    simp only [Option.some.injEq, Prod.mk.injEq] at h
    obtain ⟨hc, h⟩ := h
    subst h
    · skip
      exact fn1_ofG mixed gtysOK g17O_sound g17O_det (an := g17an) (cut := g17cut) Try.func17 (c := bodyOf Try.f17) rfl (by kernel_rfl) Try.call17 (Nat.le_of_ble_eq_true rfl) (fun b => rfl) (fun _ => (show g17v realA a = _ from g17ok_spec hc)) fun _ st => g17_go st
  · cases h
attribute [local irreducible] g17ok g17r0 g17r1 g17r2
def g18O (A : Ar) : Orc := orcOf [(14, g14o A), (16, g16o A), (15, g15o A)]
theorem g18O_sound : OSound Try.prog (g18O realA) := orc_sound fun f g hm args v hv => by
  simp only [List.mem_cons, List.not_mem_nil, or_false, Prod.mk.injEq] at hm
  rcases hm with ⟨rfl, rfl⟩ | ⟨rfl, rfl⟩ | ⟨rfl, rfl⟩
  · exact g14o_sound _ _ hv
  · exact g16o_sound _ _ hv
  · exact g15o_sound _ _ hv
theorem g18O_det : ODet (g18O realA) := orc_det _
def g18an : Ann := [(0, ([0], [])), (1, ([1], [1000])), (2, ([1, 3], [1000])), (3, ([1], [1000])), (4, ([1, 3], [1000])), (5, ([1, 3], [1000])), (6, ([1, 3, 4], [1000])), (7, ([1, 3, 4, 5], [1000])), (8, ([1, 3, 4, 5], [])), (9, ([1, 3, 4, 5], [1000])), (10, ([1, 3, 4, 5], [1000])), (11, ([1, 3, 4, 5], [1000])), (12, ([1, 3, 4], [1000])), (13, ([3, 4], [])), (14, ([3, 4], [])), (15, ([3, 4], [])), (16, ([3], []))]
def g18res : List ResultVar := [.tmp 2]
def g18cut : List Nat := [4, 9, 11, 12, 14, 16]
noncomputable def g18N {R : Type} (A : Ar) (kk : AV → Heap → Option R) (t : List Bool → St → Option R) (p : List Bool) (s : St) : Option R := nodeN A gtys (g18O A) g18an g18cut t (bodyOf Try.f18) (finD gtys g18res kk) p s
def g18J11s (x0 x1 : List Nat) (x2 : Int) (x3 x4 : List Nat) (x5 : Bool) (x6 : Int) : St := ⟨[(1, (pT 1000 0)), (3, (tS x0)), (4, (tS x1)), (5, (i6 x2))], [(1000, ⟨[.one (.str x3), .one (.str x4), .one (.bool x5), .one .nils, .one (.int .i64 x6)], 47, 1⟩)]⟩
def g18J11 {R : Type} (A : Ar) (n : Nat) (kk : AV → Heap → Option R)  (x0 x1 : List Nat) (x2 : Int) (x3 x4 : List Nat) (x5 : Bool) (x6 : Int) : Option R :=
  match g14ok A 6 [85, 29, 15] with
  | true => none
  | false => none
def g18J9s (x0 x1 : List Nat) (x2 : Int) (x3 x4 : List Nat) (x5 : Bool) (x6 : Int) : St := ⟨[(1, (pT 1000 0)), (3, (tS x0)), (4, (tS x1)), (5, (i6 x2))], [(1000, ⟨[.one (.str x3), .one (.str x4), .one (.bool x5), .one .nils, .one (.int .i64 x6)], 47, 1⟩)]⟩
def g18J9 {R : Type} (A : Ar) (n : Nat) (kk : AV → Heap → Option R)  (x0 x1 : List Nat) (x2 : Int) (x3 x4 : List Nat) (x5 : Bool) (x6 : Int) : Option R :=
  match A.ic .eql x2 x6 with
  | true => match g15ok A with
    | true => match A.le (x1.length + (g15r0 A).length) 9223372036854775807 with
      | true => g18J11 A n kk  x0 (x1 ++ (g15r0 A)) x2 x3 x4 x5 x6
      | false => none
    | false => none
  | false => g18J11 A n kk  x0 x1 x2 x3 x4 x5 x6
def g18J16s (x0 : List Nat) : St := ⟨[(3, (tS x0))], []⟩
def g18J16 {R : Type} (A : Ar) (n : Nat) (kk : AV → Heap → Option R)  (x0 : List Nat) : Option R :=
  match g14ok A 48 x0 with
  | true => match g14ok A 48 [5, 0] with
    | true => match A.le ((g14r0 A 48 x0).length + (g14r0 A 48 [5, 0]).length) 9223372036854775807 with
      | true => match g14ok A 3 [0, 115, 105, 103] with
        | true => match A.le (((g14r0 A 48 x0) ++ (g14r0 A 48 [5, 0])).length + (g14r0 A 3 [0, 115, 105, 103]).length) 9223372036854775807 with
          | true => match g14ok A 48 (((g14r0 A 48 x0) ++ (g14r0 A 48 [5, 0])) ++ (g14r0 A 3 [0, 115, 105, 103])) with
            | true => kk (tS (g14r0 A 48 (((g14r0 A 48 x0) ++ (g14r0 A 48 [5, 0])) ++ (g14r0 A 3 [0, 115, 105, 103])))) []
            | false => none
          | false => none
        | false => none
      | false => none
    | false => none
  | false => none
def g18J14s (x0 x1 : List Nat) : St := ⟨[(3, (tS x0)), (4, (tS x1))], []⟩
def g18J14 {R : Type} (A : Ar) (n : Nat) (kk : AV → Heap → Option R)  (x0 x1 : List Nat) : Option R :=
  match A.sc .neq x1 [] with
  | true => match g14ok A 48 x1 with
    | true => match g14ok A 163 (g14r0 A 48 x1) with
      | true => match A.le (x0.length + (g14r0 A 163 (g14r0 A 48 x1)).length) 9223372036854775807 with
        | true => g18J16 A n kk  (x0 ++ (g14r0 A 163 (g14r0 A 48 x1)))
        | false => none
      | false => none
    | false => none
  | false => g18J16 A n kk  x0
def g18J12s (x0 x1 : List Nat) (x2 x3 : List Nat) (x4 : Bool) (x5 : Int) : St := ⟨[(1, (pT 1000 0)), (3, (tS x0)), (4, (tS x1))], [(1000, ⟨[.one (.str x2), .one (.str x3), .one (.bool x4), .one .nils, .one (.int .i64 x5)], 47, 1⟩)]⟩
def g18J12 {R : Type} (A : Ar) (n : Nat) (kk : AV → Heap → Option R)  (x0 x1 : List Nat) (x2 x3 : List Nat) (x4 : Bool) (x5 : Int) : Option R :=
  match A.ic .eql x5 (A.mn (A.ofN 0) 5) with
  | true => match g15ok A with
    | true => match A.le (x1.length + (g15r0 A).length) 9223372036854775807 with
      | true => g18J14 A n kk  x0 (x1 ++ (g15r0 A))
      | false => none
    | false => none
  | false => g18J14 A n kk  x0 x1
def g18L7s (x0 x1 : List Nat) (x2 : Int) (x3 x4 : List Nat) (x5 : Bool) (x6 : Int) : St := ⟨[(1, (pT 1000 0)), (3, (tS x0)), (4, (tS x1)), (5, (i6 x2))], [(1000, ⟨[.one (.str x3), .one (.str x4), .one (.bool x5), .one .nils, .one (.int .i64 x6)], 47, 1⟩)]⟩
def g18L7 {R : Type} (A : Ar) (n : Nat) (kk : AV → Heap → Option R)  : Nat → List Nat → List Nat → Int → List Nat → List Nat → Bool → Int → Option R
  | 0, _, _, _, _, _, _, _ => none
  | m + 1, x0, x1, x2, x3, x4, x5, x6 => match A.ic .lss x2 (A.ofN 0) with
  | true => match A.ic .lss x2 5 with
    | true => g18J9 A n kk  x0 x1 x2 x3 x4 x5 x6
    | false => g18J12 A n kk  x0 x1 x3 x4 x5 x6
  | false => g18J12 A n kk  x0 x1 x3 x4 x5 x6
def g18J4s (x0 x1 x2 : List Nat) (x3 : Bool) (x4 : Int) : St := ⟨[(1, (pT 1000 0)), (3, (tS x0))], [(1000, ⟨[.one (.str x1), .one (.str x2), .one (.bool x3), .one .nils, .one (.int .i64 x4)], 47, 1⟩)]⟩
def g18J4 {R : Type} (A : Ar) (n : Nat) (kk : AV → Heap → Option R)  (x0 x1 x2 : List Nat) (x3 : Bool) (x4 : Int) : Option R :=
  match g14ok A 2 [7] with
  | true => match A.le (x0.length + (g14r0 A 2 [7]).length) 9223372036854775807 with
    | true => match g14ok A 48 [5, 0] with
      | true => match A.le ((x0 ++ (g14r0 A 2 [7])).length + (g14r0 A 48 [5, 0]).length) 9223372036854775807 with
        | true => match g14ok A 48 [] with
          | true => match A.le (((x0 ++ (g14r0 A 2 [7])) ++ (g14r0 A 48 [5, 0])).length + (g14r0 A 48 []).length) 9223372036854775807 with
            | true => match g14ok A 48 [] with
              | true => match A.le ((((x0 ++ (g14r0 A 2 [7])) ++ (g14r0 A 48 [5, 0])) ++ (g14r0 A 48 [])).length + (g14r0 A 48 []).length) 9223372036854775807 with
                | true => match g16ok A x1 with
                  | true => match g14ok A 4 (g16r0 A x1) with
                    | true => match g14ok A 48 (g14r0 A 4 (g16r0 A x1)) with
                      | true => match A.le (((((x0 ++ (g14r0 A 2 [7])) ++ (g14r0 A 48 [5, 0])) ++ (g14r0 A 48 [])) ++ (g14r0 A 48 [])).length + (g14r0 A 48 (g14r0 A 4 (g16r0 A x1))).length) 9223372036854775807 with
                        | true => match g16ok A x2 with
                          | true => match g14ok A 3 (g16r0 A x2) with
                            | true => match g14ok A 48 (g14r0 A 3 (g16r0 A x2)) with
                              | true => match A.le ((((((x0 ++ (g14r0 A 2 [7])) ++ (g14r0 A 48 [5, 0])) ++ (g14r0 A 48 [])) ++ (g14r0 A 48 [])) ++ (g14r0 A 48 (g14r0 A 4 (g16r0 A x1)))).length + (g14r0 A 48 (g14r0 A 3 (g16r0 A x2))).length) 9223372036854775807 with
                                | true => g18L7 A n kk  n ((((((x0 ++ (g14r0 A 2 [7])) ++ (g14r0 A 48 [5, 0])) ++ (g14r0 A 48 [])) ++ (g14r0 A 48 [])) ++ (g14r0 A 48 (g14r0 A 4 (g16r0 A x1)))) ++ (g14r0 A 48 (g14r0 A 3 (g16r0 A x2)))) [] 0 x1 x2 x3 x4
                                | false => none
                              | false => none
                            | false => none
                          | false => none
                        | false => none
                      | false => none
                    | false => none
                  | false => none
                | false => none
              | false => none
            | false => none
          | false => none
        | false => none
      | false => none
    | false => none
  | false => none
def g18 {R : Type} (A : Ar) (n : Nat) (kk : AV → Heap → Option R) (x0 x1 : List Nat) (x2 : Bool) (x3 : Int) : Option R :=
  match x2 with
  | true => match g14ok A 160 [2, 1, 2] with
    | true => g18J4 A n kk  (g14r0 A 160 [2, 1, 2]) x0 x1 x2 x3
    | false => none
  | false => g18J4 A n kk  [] x0 x1 x2 x3
section
variable {R : Type} {A : Ar} {n : Nat} {kk : AV → Heap → Option R} {tb : Nat → List Bool → St → Option R} (st : Stp (g18N A kk) tb)
include st
theorem g18J11_go {x0 : List Nat} {x1 : List Nat} {x2 : Int} {x3 : List Nat} {x4 : List Nat} {x5 : Bool} {x6 : Int} : Prs (fun k => tb k (pth 16201) (g18J11s x0 x1 x2 x3 x4 x5 x6)) (g18J11 A n kk x0 x1 x2 x3 x4 x5 x6) := by
  unfold g18J11
  exact st.g (pc (SxP14bpi _ pn pn) (by kernel_rfl))
theorem g18J9_go {x0 : List Nat} {x1 : List Nat} {x2 : Int} {x3 : List Nat} {x4 : List Nat} {x5 : Bool} {x6 : Int} : Prs (fun k => tb k (pth 2025) (g18J9s x0 x1 x2 x3 x4 x5 x6)) (g18J9 A n kk x0 x1 x2 x3 x4 x5 x6) := by
  unfold g18J9
  exact st.g (pc (SxP14bpi _ (SxP14bpi _ (SxP14bpi _ (g18J11_go st) pn) pn) (g18J11_go st)) (by kernel_rfl))
theorem g18J16_go {x0 : List Nat} : Prs (fun k => tb k (pth 511) (g18J16s x0)) (g18J16 A n kk x0) := by
  unfold g18J16
  exact st.g (pc (SxP14bpi _ (SxP14bpi _ (SxP14bpi _ (SxP14bpi _ (SxP14bpi _ (SxP14bpi _ (pf _) pn) pn) pn) pn) pn) pn) (by kernel_rfl))
theorem g18J14_go {x0 : List Nat} {x1 : List Nat} : Prs (fun k => tb k (pth 255) (g18J14s x0 x1)) (g18J14 A n kk x0 x1) := by
  unfold g18J14
  exact st.g (pc (SxP14bpi _ (SxP14bpi _ (SxP14bpi _ (SxP14bpi _ (g18J16_go st) pn) pn) pn) (g18J16_go st)) (by kernel_rfl))
theorem g18J12_go {x0 : List Nat} {x1 : List Nat} {x2 : List Nat} {x3 : List Nat} {x4 : Bool} {x5 : Int} : Prs (fun k => tb k (pth 127) (g18J12s x0 x1 x2 x3 x4 x5)) (g18J12 A n kk x0 x1 x2 x3 x4 x5) := by
  unfold g18J12
  exact st.g (pc (SxP14bpi _ (SxP14bpi _ (SxP14bpi _ (g18J14_go st) pn) pn) (g18J14_go st)) (by kernel_rfl))
theorem g18L7_go (m : Nat) : ∀ (x0 x1 : List Nat) (x2 : Int) (x3 x4 : List Nat) (x5 : Bool) (x6 : Int), Prs (fun k => tb k (pth 1012) (g18L7s x0 x1 x2 x3 x4 x5 x6)) (g18L7 A n kk m x0 x1 x2 x3 x4 x5 x6) := by
  induction m with
  | zero => intro x0 x1 x2 x3 x4 x5 x6; exact pn0
  | succ m ih =>
    intro x0 x1 x2 x3 x4 x5 x6; rw [g18L7]
    exact st.g (pc (SxP14bpi _ (SxP14bpi _ (g18J9_go st) (g18J12_go st)) (g18J12_go st)) (by kernel_rfl))
theorem g18J4_go {x0 : List Nat} {x1 : List Nat} {x2 : List Nat} {x3 : Bool} {x4 : Int} : Prs (fun k => tb k (pth 15) (g18J4s x0 x1 x2 x3 x4)) (g18J4 A n kk x0 x1 x2 x3 x4) := by
  unfold g18J4
  exact st.g (pc (SxP14bpi _ (SxP14bpi _ (SxP14bpi _ (SxP14bpi _ (SxP14bpi _ (SxP14bpi _ (SxP14bpi _ (SxP14bpi _ (SxP14bpi _ (SxP14bpi _ (SxP14bpi _ (SxP14bpi _ (SxP14bpi _ (SxP14bpi _ (SxP14bpi _ (SxP14bpi _ (g18L7_go st n _ _ _ _ _ _ _) pn) pn) pn) pn) pn) pn) pn) pn) pn) pn) pn) pn) pn) pn) pn) pn) (by kernel_rfl))
theorem g18_go {x0 : List Nat} {x1 : List Nat} {x2 : Bool} {x3 : Int} : Prs (fun k => funN A gtys (g18O A) g18an g18cut (bodyOf Try.f18) g18res [(.v (.agg [.one (.str x0), .one (.str x1), .one (.bool x2), .one .nils, .one (.int .i64 x3)]))] [] kk (tb k)) (g18 A n kk x0 x1 x2 x3) := by
  unfold g18
  exact pc (SxP14bpi _ (SxP14bpi _ (g18J4_go st) pn) (g18J4_go st)) (by kernel_rfl)
end
def g18is (o : Option (AV × Heap)) : Bool := match o with
  | some (.v (.cell (.str _)), []) => true
  | _ => false
def g18g0 (o : Option (AV × Heap)) : List Nat := match o with
  | some (.v (.cell (.str x)), []) => x
  | _ => []
theorem g18is_spec {o : Option (AV × Heap)} (h : g18is o = true) : o = some ((tS (g18g0 o)), []) := by
  unfold g18is at h
  split at h
  · rfl
  · cases h
def g18v (A : Ar) (x0 x1 : List Nat) (x2 : Bool) (x3 : Int) : Option (AV × Heap) := g18 A (100000) (outH [] none) x0 x1 x2 x3
def g18ok (A : Ar) (x0 x1 : List Nat) (x2 : Bool) (x3 : Int) : Bool := g18is (g18v A x0 x1 x2 x3)
def g18r0 (A : Ar) (x0 x1 : List Nat) (x2 : Bool) (x3 : Int) : List Nat := g18g0 (g18v A x0 x1 x2 x3)
theorem g18ok_spec {A : Ar} {x0 x1 x2 x3} (h : g18ok A x0 x1 x2 x3 = true) : g18v A x0 x1 x2 x3 = some ((tS (g18r0 A x0 x1 x2 x3)), []) := g18is_spec h
def g18o (A : Ar) (args : List AV) (h : Heap) : Option (Bool × AV × Heap) := match args, h with
  | [.v (.agg [.one (.str x0), .one (.str x1), .one (.bool x2), .one .nils, .one (.int .i64 x3)])], [] => some (g18ok A x0 x1 x2 x3, (tS (g18r0 A x0 x1 x2 x3)), [])
  | _, _ => none
theorem g18o_sound : ∀ args h v h', g18o realA args h = some (true, v, h') → FnH Try.prog 18 args h v h' := by
  intro args h v h' hh
  unfold g18o at hh
  split at hh
  · rename_i x0 x1 x2 x3
    simp only [Option.some.injEq, Prod.mk.injEq] at hh
    obtain ⟨hc, hv, hh⟩ := hh
    subst hv
    subst hh
    exact fnh_ofG mixed gtysOK g18O_sound g18O_det (an := g18an) (cut := g18cut) Try.func18 (c := bodyOf Try.f18) rfl (by kernel_rfl) Try.call18 (Nat.le_of_ble_eq_true rfl) (pins := []) (nilr := none) (fun _ => (show g18v realA x0 x1 x2 x3 = _ from g18ok_spec hc)) fun _ st => g18_go st
  · cases hh
attribute [local irreducible] g18ok g18r0
def g7O (A : Ar) : Orc := orcH [(8, g8o A), (10, g10o A), (17, g17o A)] [(18, ⟨[], none, (g18o A)⟩)]
theorem g7O_sound : OSound Try.prog (g7O realA) := orcH_sound (fun f g hm args v hv => by
    simp only [List.mem_cons, List.not_mem_nil, or_false, Prod.mk.injEq] at hm
    rcases hm with ⟨rfl, rfl⟩ | ⟨rfl, rfl⟩ | ⟨rfl, rfl⟩
    · exact g8o_sound _ _ hv
    · exact g10o_sound _ _ hv
    · exact g17o_sound _ _ hv) (fun f e hm args h v h' hv => by
    simp only [List.mem_cons, List.not_mem_nil, or_false, Prod.mk.injEq] at hm
    rcases hm with ⟨rfl, rfl⟩
    · exact g18o_sound _ _ _ _ hv)
theorem g7O_det : ODet (g7O realA) := orcH_det _ _
def g7an : Ann := [(0, ([], [])), (1, ([], [])), (2, ([1, 2], [2004])), (3, ([1, 2, 3, 4], [2004])), (4, ([1, 2, 3, 4, 6], [2004])), (5, ([1, 2, 3, 4, 6, 7], [2004, 5001])), (6, ([1, 2, 3, 4, 6, 9, 10], [2004]))]
def g7res : List ResultVar := [.tmp 0]
def g7cut : List Nat := []
noncomputable def g7N {R : Type} (A : Ar) (kk : AV → Heap → Option R) (t : List Bool → St → Option R) (p : List Bool) (s : St) : Option R := nodeN A gtys (g7O A) g7an g7cut t (bodyOf Try.f7) (finD gtys g7res kk) p s
def g7 {R : Type} (A : Ar) (n : Nat) (kk : AV → Heap → Option R)  : Option R :=
  match g8ok A [48, 2, 97, 98, 99] with
  | true => match g10ok A 48 [97, 98] with
    | true => match g8ok A [48, 129, 2, 97, 98] with
      | true => match g18ok A [120] [] false 0 with
        | true => match g17ok A (g18r0 A [120] [] false 0) with
          | true => match A.ic .eql (g8r0 A [48, 2, 97, 98, 99]) 48 with
            | true => match A.sc .eql (g8r1 A [48, 2, 97, 98, 99]) [97, 98] with
              | true => match A.sc .eql (g8r2 A [48, 2, 97, 98, 99]) [99] with
                | true => match A.ic .eql (g8r3 A [48, 2, 97, 98, 99]) 0 with
                  | true => match A.sc .eql (g10r0 A 48 [97, 98]) [48, 2, 97, 98] with
                    | true => match A.ic .eql (g10r1 A 48 [97, 98]) 0 with
                      | true => match A.ic .eql (g8r3 A [48, 129, 2, 97, 98]) 2 with
                        | true => match g17r1 A (g18r0 A [120] [] false 0) with
                          | true => kk (bO (A.ic .eql (g17r2 A (g18r0 A [120] [] false 0)) 0)) [(2004, ⟨[.one (.int .i64 (g8r0 A [48, 2, 97, 98, 99])), .one (.str (g8r1 A [48, 2, 97, 98, 99])), .one (.str (g8r2 A [48, 2, 97, 98, 99]))], 24, 1⟩)]
                          | false => kk (bO false) [(2004, ⟨[.one (.int .i64 (g8r0 A [48, 2, 97, 98, 99])), .one (.str (g8r1 A [48, 2, 97, 98, 99])), .one (.str (g8r2 A [48, 2, 97, 98, 99]))], 24, 1⟩)]
                        | false => kk (bO false) [(2004, ⟨[.one (.int .i64 (g8r0 A [48, 2, 97, 98, 99])), .one (.str (g8r1 A [48, 2, 97, 98, 99])), .one (.str (g8r2 A [48, 2, 97, 98, 99]))], 24, 1⟩)]
                      | false => kk (bO false) [(2004, ⟨[.one (.int .i64 (g8r0 A [48, 2, 97, 98, 99])), .one (.str (g8r1 A [48, 2, 97, 98, 99])), .one (.str (g8r2 A [48, 2, 97, 98, 99]))], 24, 1⟩)]
                    | false => kk (bO false) [(2004, ⟨[.one (.int .i64 (g8r0 A [48, 2, 97, 98, 99])), .one (.str (g8r1 A [48, 2, 97, 98, 99])), .one (.str (g8r2 A [48, 2, 97, 98, 99]))], 24, 1⟩)]
                  | false => kk (bO false) [(2004, ⟨[.one (.int .i64 (g8r0 A [48, 2, 97, 98, 99])), .one (.str (g8r1 A [48, 2, 97, 98, 99])), .one (.str (g8r2 A [48, 2, 97, 98, 99]))], 24, 1⟩)]
                | false => kk (bO false) [(2004, ⟨[.one (.int .i64 (g8r0 A [48, 2, 97, 98, 99])), .one (.str (g8r1 A [48, 2, 97, 98, 99])), .one (.str (g8r2 A [48, 2, 97, 98, 99]))], 24, 1⟩)]
              | false => kk (bO false) [(2004, ⟨[.one (.int .i64 (g8r0 A [48, 2, 97, 98, 99])), .one (.str (g8r1 A [48, 2, 97, 98, 99])), .one (.str (g8r2 A [48, 2, 97, 98, 99]))], 24, 1⟩)]
            | false => kk (bO false) [(2004, ⟨[.one (.int .i64 (g8r0 A [48, 2, 97, 98, 99])), .one (.str (g8r1 A [48, 2, 97, 98, 99])), .one (.str (g8r2 A [48, 2, 97, 98, 99]))], 24, 1⟩)]
          | false => none
        | false => none
      | false => none
    | false => none
  | false => none
section
variable {R : Type} {A : Ar} {n : Nat} {kk : AV → Heap → Option R} {tb : Nat → List Bool → St → Option R} (st : Stp (g7N A kk) tb)
include st
theorem g7_go  : Prs (fun k => funN A gtys (g7O A) g7an g7cut (bodyOf Try.f7) g7res [] [] kk (tb k)) (g7 A n kk ) := by
  unfold g7
  exact pc (SxP14bpi _ (SxP14bpi _ (SxP14bpi _ (SxP14bpi _ (SxP14bpi _ (SxP14bpi _ (SxP14bpi _ (SxP14bpi _ (SxP14bpi _ (SxP14bpi _ (SxP14bpi _ (SxP14bpi _ (SxP14bpi _ (pf _) (pf _)) (pf _)) (pf _)) (pf _)) (pf _)) (pf _)) (pf _)) (pf _)) pn) pn) pn) pn) pn) (by kernel_rfl)
end
def g7is (o : Option AV) : Bool := match o with
  | some (.v (.cell (.bool _))) => true
  | _ => false
def g7g0 (o : Option AV) : Bool := match o with
  | some (.v (.cell (.bool x))) => x
  | _ => false
theorem g7is_spec {o : Option AV} (h : g7is o = true) : o = some (.v (.cell (.bool (g7g0 o)))) := by
  unfold g7is at h
  split at h
  · rfl
  · cases h
def g7v (A : Ar)  : Option AV := g7 A (100000) (fun v _ => some v) 
def g7ok (A : Ar)  : Bool := g7is (g7v A )
def g7r0 (A : Ar)  : Bool := g7g0 (g7v A )
theorem g7ok_spec {A : Ar} (h : g7ok A = true) : g7v A = some (.v (.cell (.bool (g7r0 A)))) := g7is_spec h
def g7o (A : Ar) (args : List AV) : Option (Bool × AV) := match args with
  | [] => some (g7ok A , .v (.cell (.bool (g7r0 A))))
  | _ => none
theorem g7o_sound : ∀ args v, g7o realA args = some (true, v) → Fn1 Try.prog 7 args v := by
  intro args v h
  unfold g7o at h
  split at h
  · simp only [Option.some.injEq, Prod.mk.injEq] at h
    obtain ⟨hc, h⟩ := h
    subst h
    · skip
      exact fn1_ofG mixed gtysOK g7O_sound g7O_det (an := g7an) (cut := g7cut) Try.func7 (c := bodyOf Try.f7) rfl (by kernel_rfl) Try.call7 (Nat.le_of_ble_eq_true rfl) (fun b => rfl) (fun _ => (show g7v realA  = _ from g7ok_spec hc)) fun _ st => g7_go st
  · cases h
attribute [local irreducible] g7ok g7r0
end Go.Sx
