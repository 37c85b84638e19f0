import Derived.Test.YtloapdnklljaoaaChecked
import Derived.Test.YtloapdnklljaoaaSxK3
import Derived.Test.YtloapdnklljaoaaSxNi
import Derived.Test.YtloapdnklljaoaaSxTn
import Derived.Test.YtloapdnklljaoaaSxEx
namespace Go.Sx
set_option linter.unusedSectionVars false
open Go.Proofs
set_option linter.unusedVariables false
set_option maxRecDepth 100000
theorem mixed : Try.prog.follows .mixedOrders = true := Try.checked.mixed
def gtyList : List (Nat × Ty) := [(3, ⟨.int .i64, 1, 8, (.cell (.int .i64 0)), [], 0, 0, false⟩),
  (4, ⟨.bool, 1, 1, (.cell (.bool false)), [], 0, 0, false⟩),
  (5, ⟨.int .u8, 1, 1, (.cell (.nat .u8 0)), [], 0, 0, false⟩),
  (9, ⟨.string, 1, 16, (.cell (.str [])), [], 0, 0, false⟩),
  (22, ⟨.slice, 1, 24, (.cell .nils), [], 0, 30, false⟩),
  (24, ⟨.ptr, 1, 8, (.cell .nilp), [], 0, 0, false⟩),
  (30, ⟨.struct, 4, 40, (.agg [.one (.int .i64 0), .one (.int .i64 0), .one (.int .i64 0), .one (.str [])]), [(0, 3), (1, 3), (2, 3), (3, 9)], 0, 0, true⟩),
  (35, ⟨.int .i64, 1, 8, (.cell (.int .i64 0)), [], 0, 0, false⟩),
  (39, ⟨.ptr, 1, 8, (.cell .nilp), [], 0, 0, false⟩),
  (53, ⟨.struct, 1, 8, (.agg [.one (.int .i64 0)]), [(0, 35)], 0, 0, true⟩),
  (54, ⟨.slice, 1, 24, (.cell .nils), [], 0, 5, false⟩),
  (56, ⟨.struct, 2, 32, (.agg [.one (.int .i64 0), .one .nils]), [(0, 53), (1, 54)], 0, 0, false⟩),
  (59, ⟨.struct, 2, 24, (.agg [.one (.int .i64 0), .one (.str [])]), [(0, 53), (1, 9)], 0, 0, true⟩)]
def gtys : Tys := fun t => lk t gtyList
theorem gtysOK0 : allL (fun p => tyB Try.prog p.1 p.2) gtyList = true := by kernel_rfl
theorem gtysOK : TyOK Try.prog gtys := tyOK_of gtysOK0 (eqB_spec (by kernel_rfl))
theorem SxB13api {R : Type} (c : Bool) {f1 f2 : Nat → Option R} {a1 a2 : Option R} (h1 : Prs f1 a1) (h2 : Prs f2 a2) : Prs (fun k => match c with | true => f1 k | false => f2 k) (match c with | true => a1 | false => a2) := by cases c <;> assumption
def g9O (A : Ar) : Orc := orcOf []
theorem g9O_sound : OSound Try.prog (g9O realA) := orc_sound fun f g hm args v hv => by
  cases hm
theorem g9O_det : ODet (g9O realA) := orc_det _
def g9an : Ann := [(0, ([], [])), (1, ([], []))]
def g9res : List ResultVar := [.tmp 0]
def g9cut : List Nat := []
noncomputable def g9N {R : Type} (A : Ar) (kk : AV → Heap → Option R) (t : List Bool → St → Option R) (p : List Bool) (s : St) : Option R := nodeN A gtys (g9O A) g9an g9cut t (bodyOf Try.f9) (finD gtys g9res kk) p s
def g9 {R : Type} (A : Ar) (n : Nat) (kk : AV → Heap → Option R)  : Option R :=
  kk (pT 2001 0) [(2001, ⟨[.one (.int .i64 0), .one .nils], 56, 1⟩)]
section
variable {R : Type} {A : Ar} {n : Nat} {kk : AV → Heap → Option R} {tb : Nat → List Bool → St → Option R} (st : Stp (g9N A kk) tb)
include st
theorem g9_go  : Prs (fun k => funN A gtys (g9O A) g9an g9cut (bodyOf Try.f9) g9res [] [] kk (tb k)) (g9 A n kk ) := by
  unfold g9
  exact pc (pf _) (by kernel_rfl)
end
def g9is (o : Option (AV × Heap)) : Bool := match o with
  | some (.v (.cell (.ptr n0 n1 none)), [(n2, ⟨[.one (.int .i64 _), .one .nils], n3, n4⟩)]) => Nat.beq n0 700 && (Nat.beq n1 0 && (Nat.beq n2 700 && (Nat.beq n3 56 && (Nat.beq n4 1))))
  | _ => false
def g9g0 (o : Option (AV × Heap)) : Int := match o with
  | some (.v (.cell (.ptr _ _ none)), [(_, ⟨[.one (.int .i64 x), .one .nils], _, _⟩)]) => x
  | _ => 0
theorem g9is_spec {o : Option (AV × Heap)} (h : g9is o = true) : o = some ((pT 700 0), [(700, ⟨[.one (.int .i64 (g9g0 o)), .one .nils], 56, 1⟩)]) := by
  unfold g9is at h
  split at h
  · rename_i n0 n1 n2 z3 n3 n4
    simp only [Bool.and_eq_true] at h
    have en0 := beq_true h.1
    subst en0
    replace h := h.2
    have en1 := beq_true h.1
    subst en1
    replace h := h.2
    have en2 := beq_true h.1
    subst en2
    replace h := h.2
    have en3 := beq_true h.1
    subst en3
    replace h := h.2
    have en4 := beq_true h
    subst en4
    rfl
  · cases h
def g9v (A : Ar)  : Option (AV × Heap) := g9 A (100000) (outH [] none) 
def g9ok (A : Ar)  : Bool := g9is (g9v A)
def g9r0 (A : Ar)  : Int := g9g0 (g9v A)
theorem g9ok_spec {A : Ar} (h : g9ok A = true) : g9v A = some ((pT 700 0), [(700, ⟨[.one (.int .i64 (g9r0 A)), .one .nils], 56, 1⟩)]) := g9is_spec h
def g9o (A : Ar) (args : List AV) (h : Heap) : Option (Bool × AV × Heap) := match args, h with
  | [], [] => some (g9ok A, (pT 700 0), [(700, ⟨[.one (.int .i64 (g9r0 A)), .one .nils], 56, 1⟩)])
  | _, _ => none
theorem g9o_sound : ∀ args h v h', g9o realA args h = some (true, v, h') → FnH Try.prog 9 args h v h' := by
  intro args h v h' hh
  unfold g9o at hh
  split at hh
  · simp only [Option.some.injEq, Prod.mk.injEq] at hh
    obtain ⟨hc, hv, hh⟩ := hh
    subst hv
    subst hh
    exact fnh_ofG mixed gtysOK g9O_sound g9O_det (an := g9an) (cut := g9cut) Try.func9 (c := bodyOf Try.f9) rfl (by kernel_rfl) Try.call9 (Nat.le_of_ble_eq_true rfl) (pins := []) (nilr := none) (fun _ => (show g9v realA = _ from g9ok_spec hc)) fun _ st => g9_go st
  · cases hh
attribute [local irreducible] g9ok g9r0
def g18O (A : Ar) : Orc := orcOf []
theorem g18O_sound : OSound Try.prog (g18O realA) := orc_sound fun f g hm args v hv => by
  cases hm
theorem g18O_det : ODet (g18O realA) := orc_det _
def g18an : Ann := [(0, ([0], [])), (1, ([0], []))]
def g18res : List ResultVar := [.tmp 2]
def g18cut : List Nat := []
noncomputable def g18N {R : Type} (A : Ar) (kk : AV → Heap → Option R) (t : List Bool → St → Option R) (p : List Bool) (s : St) : Option R := nodeN A gtys (g18O A) g18an g18cut t (bodyOf Try.f18) (finD gtys g18res kk) p s
def g18 {R : Type} (A : Ar) (n : Nat) (kk : AV → Heap → Option R) (x0 : List Nat) : Option R :=
  kk (pT 2002 0) [(2002, ⟨[.one (.int .i64 0), .one (.str x0)], 59, 1⟩)]
section
variable {R : Type} {A : Ar} {n : Nat} {kk : AV → Heap → Option R} {tb : Nat → List Bool → St → Option R} (st : Stp (g18N A kk) tb)
include st
theorem g18_go {x0 : List Nat} : Prs (fun k => funN A gtys (g18O A) g18an g18cut (bodyOf Try.f18) g18res [(tS x0)] [] kk (tb k)) (g18 A n kk x0) := by
  unfold g18
  exact pc (pf _) (by kernel_rfl)
end
def g18is (o : Option (AV × Heap)) : Bool := match o with
  | some (.v (.cell (.ptr n0 n1 none)), [(n2, ⟨[.one (.int .i64 _), .one (.str _)], n3, n4⟩)]) => Nat.beq n0 700 && (Nat.beq n1 0 && (Nat.beq n2 700 && (Nat.beq n3 59 && (Nat.beq n4 1))))
  | _ => false
def g18g0 (o : Option (AV × Heap)) : Int := match o with
  | some (.v (.cell (.ptr _ _ none)), [(_, ⟨[.one (.int .i64 x), .one (.str _)], _, _⟩)]) => x
  | _ => 0
def g18g1 (o : Option (AV × Heap)) : List Nat := match o with
  | some (.v (.cell (.ptr _ _ none)), [(_, ⟨[.one (.int .i64 _), .one (.str x)], _, _⟩)]) => x
  | _ => []
theorem g18is_spec {o : Option (AV × Heap)} (h : g18is o = true) : o = some ((pT 700 0), [(700, ⟨[.one (.int .i64 (g18g0 o)), .one (.str (g18g1 o))], 59, 1⟩)]) := by
  unfold g18is at h
  split at h
  · rename_i n0 n1 n2 z3 z4 n3 n4
    simp only [Bool.and_eq_true] at h
    have en0 := beq_true h.1
    subst en0
    replace h := h.2
    have en1 := beq_true h.1
    subst en1
    replace h := h.2
    have en2 := beq_true h.1
    subst en2
    replace h := h.2
    have en3 := beq_true h.1
    subst en3
    replace h := h.2
    have en4 := beq_true h
    subst en4
    rfl
  · cases h
def g18v (A : Ar) (x0 : List Nat) : Option (AV × Heap) := g18 A (100000) (outH [] none) x0
def g18ok (A : Ar) (x0 : List Nat) : Bool := g18is (g18v A x0)
def g18r0 (A : Ar) (x0 : List Nat) : Int := g18g0 (g18v A x0)
def g18r1 (A : Ar) (x0 : List Nat) : List Nat := g18g1 (g18v A x0)
theorem g18ok_spec {A : Ar} {x0} (h : g18ok A x0 = true) : g18v A x0 = some ((pT 700 0), [(700, ⟨[.one (.int .i64 (g18r0 A x0)), .one (.str (g18r1 A x0))], 59, 1⟩)]) := g18is_spec h
def g18o (A : Ar) (args : List AV) (h : Heap) : Option (Bool × AV × Heap) := match args, h with
  | [.v (.cell (.str x0))], [] => some (g18ok A x0, (pT 700 0), [(700, ⟨[.one (.int .i64 (g18r0 A x0)), .one (.str (g18r1 A x0))], 59, 1⟩)])
  | _, _ => none
theorem g18o_sound : ∀ args h v h', g18o realA args h = some (true, v, h') → FnH Try.prog 18 args h v h' := by
  intro args h v h' hh
  unfold g18o at hh
  split at hh
  · rename_i x0
    simp only [Option.some.injEq, Prod.mk.injEq] at hh
    obtain ⟨hc, hv, hh⟩ := hh
    subst hv
    subst hh
    exact fnh_ofG mixed gtysOK g18O_sound g18O_det (an := g18an) (cut := g18cut) Try.func18 (c := bodyOf Try.f18) rfl (by kernel_rfl) Try.call18 (Nat.le_of_ble_eq_true rfl) (pins := []) (nilr := none) (fun _ => (show g18v realA x0 = _ from g18ok_spec hc)) fun _ st => g18_go st
  · cases hh
attribute [local irreducible] g18ok g18r0 g18r1
def g29O (A : Ar) : Orc := orcOf []
theorem g29O_sound : OSound Try.prog (g29O realA) := orc_sound fun f g hm args v hv => by
  cases hm
theorem g29O_det : ODet (g29O realA) := orc_det _
def g29an : Ann := [(0, ([0, 1, 2], [0, 1])), (1, ([0, 1, 2], [0, 1])), (2, ([0, 2], [0, 1])), (3, ([0], [0, 1]))]
def g29res : List ResultVar := [.tmp 6]
def g29cut : List Nat := [3]
noncomputable def g29N {R : Type} (A : Ar) (kk : AV → Heap → Option R) (t : List Bool → St → Option R) (p : List Bool) (s : St) : Option R := nodeN A gtys (g29O A) g29an g29cut t (bodyOf Try.f29) (finD gtys g29res kk) p s
def g29J3s (x0 : Int) (x1 x2 : Nat) (x3 : List Nat) : St := ⟨[(0, (pT 0 0))], [(0, ⟨[.one (.int .i64 x0), .one (.sl 1 none x1 1)], 56, 1⟩), (1, ⟨[.nums .u8 x2 x3], 5, 2⟩)]⟩
def g29J3 {R : Type} (A : Ar) (n : Nat) (kk : AV → Heap → Option R)  (x0 : Int) (x1 x2 : Nat) (x3 : List Nat) : Option R :=
  kk (bO (A.ic .eql x0 0)) [(0, ⟨[.one (.int .i64 x0), .one (.sl 1 none x1 1)], 56, 1⟩), (1, ⟨[.nums .u8 x2 x3], 5, 2⟩)]
def g29 {R : Type} (A : Ar) (n : Nat) (kk : AV → Heap → Option R) (x0 : Bool) (x1 x2 : Int) (x3 x4 : Nat) (x5 : List Nat) : Option R :=
  match A.ic .eql x2 0 with
  | true => match !x0 with
    | true => g29J3 A n kk  x1 x3 x4 x5
    | false => g29J3 A n kk  x2 x3 x4 x5
  | false => g29J3 A n kk  x2 x3 x4 x5
section
variable {R : Type} {A : Ar} {n : Nat} {kk : AV → Heap → Option R} {tb : Nat → List Bool → St → Option R} (st : Stp (g29N A kk) tb)
include st
theorem g29J3_go {x0 : Int} {x1 : Nat} {x2 : Nat} {x3 : List Nat} : Prs (fun k => tb k (pth 7) (g29J3s x0 x1 x2 x3)) (g29J3 A n kk x0 x1 x2 x3) := by
  unfold g29J3
  exact st.g (pc (pf _) (by kernel_rfl))
theorem g29_go {x0 : Bool} {x1 : Int} {x2 : Int} {x3 : Nat} {x4 : Nat} {x5 : List Nat} : Prs (fun k => funN A gtys (g29O A) g29an g29cut (bodyOf Try.f29) g29res [(pT 0 0), (bO x0), (i6 x1)] [(0, ⟨[.one (.int .i64 x2), .one (.sl 1 none x3 1)], 56, 1⟩), (1, ⟨[.nums .u8 x4 x5], 5, 2⟩)] kk (tb k)) (g29 A n kk x0 x1 x2 x3 x4 x5) := by
  unfold g29
  exact pc (SxB13api _ (SxB13api _ (g29J3_go st) (g29J3_go st)) (g29J3_go st)) (by kernel_rfl)
end
def g29is (o : Option (AV × Heap)) : Bool := match o with
  | some (.v (.cell (.bool _)), [(n0, ⟨[.one (.int .i64 _), .one (.sl n1 none _ n2)], n3, n4⟩), (n5, ⟨[.nums .u8 _ _], n6, n7⟩)]) => Nat.beq n0 0 && (Nat.beq n1 1 && (Nat.beq n2 1 && (Nat.beq n3 56 && (Nat.beq n4 1 && (Nat.beq n5 1 && (Nat.beq n6 5 && (Nat.beq n7 2)))))))
  | _ => false
def g29g0 (o : Option (AV × Heap)) : Bool := match o with
  | some (.v (.cell (.bool x)), [(_, ⟨[.one (.int .i64 _), .one (.sl _ none _ _)], _, _⟩), (_, ⟨[.nums .u8 _ _], _, _⟩)]) => x
  | _ => false
def g29g1 (o : Option (AV × Heap)) : Int := match o with
  | some (.v (.cell (.bool _)), [(_, ⟨[.one (.int .i64 x), .one (.sl _ none _ _)], _, _⟩), (_, ⟨[.nums .u8 _ _], _, _⟩)]) => x
  | _ => 0
def g29g2 (o : Option (AV × Heap)) : Nat := match o with
  | some (.v (.cell (.bool _)), [(_, ⟨[.one (.int .i64 _), .one (.sl _ none x _)], _, _⟩), (_, ⟨[.nums .u8 _ _], _, _⟩)]) => x
  | _ => 0
def g29g3 (o : Option (AV × Heap)) : Nat := match o with
  | some (.v (.cell (.bool _)), [(_, ⟨[.one (.int .i64 _), .one (.sl _ none _ _)], _, _⟩), (_, ⟨[.nums .u8 x _], _, _⟩)]) => x
  | _ => 0
def g29g4 (o : Option (AV × Heap)) : List Nat := match o with
  | some (.v (.cell (.bool _)), [(_, ⟨[.one (.int .i64 _), .one (.sl _ none _ _)], _, _⟩), (_, ⟨[.nums .u8 _ x], _, _⟩)]) => x
  | _ => []
theorem g29is_spec {o : Option (AV × Heap)} (h : g29is o = true) : o = some ((bO (g29g0 o)), [(0, ⟨[.one (.int .i64 (g29g1 o)), .one (.sl 1 none (g29g2 o) 1)], 56, 1⟩), (1, ⟨[.nums .u8 (g29g3 o) (g29g4 o)], 5, 2⟩)]) := by
  unfold g29is at h
  split at h
  · rename_i z0 n0 z2 n1 z4 n2 n3 n4 n5 z9 z10 n6 n7
    simp only [Bool.and_eq_true] at h
    have en0 := beq_true h.1
    subst en0
    replace h := h.2
    have en1 := beq_true h.1
    subst en1
    replace h := h.2
    have en2 := beq_true h.1
    subst en2
    replace h := h.2
    have en3 := beq_true h.1
    subst en3
    replace h := h.2
    have en4 := beq_true h.1
    subst en4
    replace h := h.2
    have en5 := beq_true h.1
    subst en5
    replace h := h.2
    have en6 := beq_true h.1
    subst en6
    replace h := h.2
    have en7 := beq_true h
    subst en7
    rfl
  · cases h
def g29v (A : Ar) (x0 : Bool) (x1 x2 : Int) (x3 x4 : Nat) (x5 : List Nat) : Option (AV × Heap) := g29 A (100000) (outH [0, 1] none) x0 x1 x2 x3 x4 x5
def g29ok (A : Ar) (x0 : Bool) (x1 x2 : Int) (x3 x4 : Nat) (x5 : List Nat) : Bool := g29is (g29v A x0 x1 x2 x3 x4 x5)
def g29r0 (A : Ar) (x0 : Bool) (x1 x2 : Int) (x3 x4 : Nat) (x5 : List Nat) : Bool := g29g0 (g29v A x0 x1 x2 x3 x4 x5)
def g29r1 (A : Ar) (x0 : Bool) (x1 x2 : Int) (x3 x4 : Nat) (x5 : List Nat) : Int := g29g1 (g29v A x0 x1 x2 x3 x4 x5)
def g29r2 (A : Ar) (x0 : Bool) (x1 x2 : Int) (x3 x4 : Nat) (x5 : List Nat) : Nat := g29g2 (g29v A x0 x1 x2 x3 x4 x5)
def g29r3 (A : Ar) (x0 : Bool) (x1 x2 : Int) (x3 x4 : Nat) (x5 : List Nat) : Nat := g29g3 (g29v A x0 x1 x2 x3 x4 x5)
def g29r4 (A : Ar) (x0 : Bool) (x1 x2 : Int) (x3 x4 : Nat) (x5 : List Nat) : List Nat := g29g4 (g29v A x0 x1 x2 x3 x4 x5)
theorem g29ok_spec {A : Ar} {x0 x1 x2 x3 x4 x5} (h : g29ok A x0 x1 x2 x3 x4 x5 = true) : g29v A x0 x1 x2 x3 x4 x5 = some ((bO (g29r0 A x0 x1 x2 x3 x4 x5)), [(0, ⟨[.one (.int .i64 (g29r1 A x0 x1 x2 x3 x4 x5)), .one (.sl 1 none (g29r2 A x0 x1 x2 x3 x4 x5) 1)], 56, 1⟩), (1, ⟨[.nums .u8 (g29r3 A x0 x1 x2 x3 x4 x5) (g29r4 A x0 x1 x2 x3 x4 x5)], 5, 2⟩)]) := g29is_spec h
def g29o (A : Ar) (args : List AV) (h : Heap) : Option (Bool × AV × Heap) := match args, h with
  | [.v (.cell (.ptr n0 n1 none)), .v (.cell (.bool x0)), .v (.cell (.int .i64 x1))], [(n2, ⟨[.one (.int .i64 x2), .one (.sl n3 none x3 n4)], n5, n6⟩), (n7, ⟨[.nums .u8 x4 x5], n8, n9⟩)] => match Nat.beq n0 0 && (Nat.beq n1 0 && (Nat.beq n2 0 && (Nat.beq n3 1 && (Nat.beq n4 1 && (Nat.beq n5 56 && (Nat.beq n6 1 && (Nat.beq n7 1 && (Nat.beq n8 5 && (Nat.beq n9 2))))))))) with
    | true => some (g29ok A x0 x1 x2 x3 x4 x5, (bO (g29r0 A x0 x1 x2 x3 x4 x5)), [(0, ⟨[.one (.int .i64 (g29r1 A x0 x1 x2 x3 x4 x5)), .one (.sl 1 none (g29r2 A x0 x1 x2 x3 x4 x5) 1)], 56, 1⟩), (1, ⟨[.nums .u8 (g29r3 A x0 x1 x2 x3 x4 x5) (g29r4 A x0 x1 x2 x3 x4 x5)], 5, 2⟩)])
    | false => none
  | _, _ => none
theorem g29o_sound : ∀ args h v h', g29o realA args h = some (true, v, h') → FnH Try.prog 29 args h v h' := by
  intro args h v h' hh
  unfold g29o at hh
  split at hh
  · rename_i n0 n1 x0 x1 n2 x2 n3 x3 n4 n5 n6 n7 x4 x5 n8 n9
    split at hh
    case h_2 => cases hh
    rename_i hc0
    simp only [Option.some.injEq, Prod.mk.injEq] at hh
    obtain ⟨hc, hv, hh⟩ := hh
    subst hv
    subst hh
    simp only [Bool.and_eq_true] at hc0
    have en0 := beq_true hc0.1
    subst en0
    replace hc0 := hc0.2
    have en1 := beq_true hc0.1
    subst en1
    replace hc0 := hc0.2
    have en2 := beq_true hc0.1
    subst en2
    replace hc0 := hc0.2
    have en3 := beq_true hc0.1
    subst en3
    replace hc0 := hc0.2
    have en4 := beq_true hc0.1
    subst en4
    replace hc0 := hc0.2
    have en5 := beq_true hc0.1
    subst en5
    replace hc0 := hc0.2
    have en6 := beq_true hc0.1
    subst en6
    replace hc0 := hc0.2
    have en7 := beq_true hc0.1
    subst en7
    replace hc0 := hc0.2
    have en8 := beq_true hc0.1
    subst en8
    replace hc0 := hc0.2
    have en9 := beq_true hc0
    subst en9
    exact fnh_ofG mixed gtysOK g29O_sound g29O_det (an := g29an) (cut := g29cut) Try.func29 (c := bodyOf Try.f29) rfl (by kernel_rfl) Try.call29 (Nat.le_of_ble_eq_true rfl) (pins := [0, 1]) (nilr := none) (fun _ => (show g29v realA x0 x1 x2 x3 x4 x5 = _ from g29ok_spec hc)) fun _ st => g29_go st
  · cases hh
attribute [local irreducible] g29ok g29r0 g29r1 g29r2 g29r3 g29r4
def g11O (A : Ar) : Orc := orcH [] [(29, ⟨[], none, (g29o A)⟩)]
theorem g11O_sound : OSound Try.prog (g11O realA) := orcH_sound (fun f g hm args v hv => by
    cases hm) (fun f e hm args h v h' hv => by
    simp only [List.mem_cons, List.not_mem_nil, or_false, Prod.mk.injEq] at hm
    rcases hm with ⟨rfl, rfl⟩
    · exact g29o_sound _ _ _ _ hv)
theorem g11O_det : ODet (g11O realA) := orcH_det _ _
def g11an : Ann := [(0, ([0, 1, 2], [0, 501])), (1, ([0, 1, 2], [0, 501])), (2, ([0, 1, 2, 34, 35], [0, 501])), (3, ([0, 1, 2, 34, 35], [0, 501])), (4, ([0, 1, 2, 6, 34, 35], [0, 501])), (5, ([0, 1, 2, 34, 35], [0, 501]))]
def g11res : List ResultVar := []
def g11cut : List Nat := [1, 3]
abbrev g11t0 (A : Ar) (x0 x1 x2 : Int) (x3 x4 : Nat) (x5 : List Nat) : Bool := g29r0 A (A.ic .lss x0 (A.ish .shl .i64 1 (A.toN (A.ib .mul .i64 8 x1)))) 1 (g29r1 A (A.ic .geq x0 0) 1 x2 x3 x4 x5) (g29r2 A (A.ic .geq x0 0) 1 x2 x3 x4 x5) (g29r3 A (A.ic .geq x0 0) 1 x2 x3 x4 x5) (g29r4 A (A.ic .geq x0 0) 1 x2 x3 x4 x5)
abbrev g11t1 (A : Ar) (x0 x1 x2 : Int) (x3 x4 : Nat) (x5 : List Nat) : Int := g29r1 A (A.ic .lss x0 (A.ish .shl .i64 1 (A.toN (A.ib .mul .i64 8 x1)))) 1 (g29r1 A (A.ic .geq x0 0) 1 x2 x3 x4 x5) (g29r2 A (A.ic .geq x0 0) 1 x2 x3 x4 x5) (g29r3 A (A.ic .geq x0 0) 1 x2 x3 x4 x5) (g29r4 A (A.ic .geq x0 0) 1 x2 x3 x4 x5)
abbrev g11t2 (A : Ar) (x0 x1 x2 : Int) (x3 x4 : Nat) (x5 : List Nat) : Nat := g29r2 A (A.ic .lss x0 (A.ish .shl .i64 1 (A.toN (A.ib .mul .i64 8 x1)))) 1 (g29r1 A (A.ic .geq x0 0) 1 x2 x3 x4 x5) (g29r2 A (A.ic .geq x0 0) 1 x2 x3 x4 x5) (g29r3 A (A.ic .geq x0 0) 1 x2 x3 x4 x5) (g29r4 A (A.ic .geq x0 0) 1 x2 x3 x4 x5)
abbrev g11t3 (A : Ar) (x0 x1 x2 : Int) (x3 x4 : Nat) (x5 : List Nat) : Nat := g29r3 A (A.ic .lss x0 (A.ish .shl .i64 1 (A.toN (A.ib .mul .i64 8 x1)))) 1 (g29r1 A (A.ic .geq x0 0) 1 x2 x3 x4 x5) (g29r2 A (A.ic .geq x0 0) 1 x2 x3 x4 x5) (g29r3 A (A.ic .geq x0 0) 1 x2 x3 x4 x5) (g29r4 A (A.ic .geq x0 0) 1 x2 x3 x4 x5)
abbrev g11t4 (A : Ar) (x0 x1 x2 : Int) (x3 x4 : Nat) (x5 : List Nat) : List Nat := g29r4 A (A.ic .lss x0 (A.ish .shl .i64 1 (A.toN (A.ib .mul .i64 8 x1)))) 1 (g29r1 A (A.ic .geq x0 0) 1 x2 x3 x4 x5) (g29r2 A (A.ic .geq x0 0) 1 x2 x3 x4 x5) (g29r3 A (A.ic .geq x0 0) 1 x2 x3 x4 x5) (g29r4 A (A.ic .geq x0 0) 1 x2 x3 x4 x5)
abbrev g11t5 (A : Ar) (x0 x1 x2 : Int) (x3 x4 : Nat) (x5 : List Nat) : Bool := g29r0 A (A.ic .lss x0 (A.ish .shl .i64 1 (A.toN (A.ib .mul .i64 8 x1)))) 1 (g29r1 A false 1 x2 x3 x4 x5) (g29r2 A false 1 x2 x3 x4 x5) (g29r3 A false 1 x2 x3 x4 x5) (g29r4 A false 1 x2 x3 x4 x5)
abbrev g11t6 (A : Ar) (x0 x1 x2 : Int) (x3 x4 : Nat) (x5 : List Nat) : Int := g29r1 A (A.ic .lss x0 (A.ish .shl .i64 1 (A.toN (A.ib .mul .i64 8 x1)))) 1 (g29r1 A false 1 x2 x3 x4 x5) (g29r2 A false 1 x2 x3 x4 x5) (g29r3 A false 1 x2 x3 x4 x5) (g29r4 A false 1 x2 x3 x4 x5)
abbrev g11t7 (A : Ar) (x0 x1 x2 : Int) (x3 x4 : Nat) (x5 : List Nat) : Nat := g29r2 A (A.ic .lss x0 (A.ish .shl .i64 1 (A.toN (A.ib .mul .i64 8 x1)))) 1 (g29r1 A false 1 x2 x3 x4 x5) (g29r2 A false 1 x2 x3 x4 x5) (g29r3 A false 1 x2 x3 x4 x5) (g29r4 A false 1 x2 x3 x4 x5)
abbrev g11t8 (A : Ar) (x0 x1 x2 : Int) (x3 x4 : Nat) (x5 : List Nat) : Nat := g29r3 A (A.ic .lss x0 (A.ish .shl .i64 1 (A.toN (A.ib .mul .i64 8 x1)))) 1 (g29r1 A false 1 x2 x3 x4 x5) (g29r2 A false 1 x2 x3 x4 x5) (g29r3 A false 1 x2 x3 x4 x5) (g29r4 A false 1 x2 x3 x4 x5)
abbrev g11t9 (A : Ar) (x0 x1 x2 : Int) (x3 x4 : Nat) (x5 : List Nat) : List Nat := g29r4 A (A.ic .lss x0 (A.ish .shl .i64 1 (A.toN (A.ib .mul .i64 8 x1)))) 1 (g29r1 A false 1 x2 x3 x4 x5) (g29r2 A false 1 x2 x3 x4 x5) (g29r3 A false 1 x2 x3 x4 x5) (g29r4 A false 1 x2 x3 x4 x5)
noncomputable def g11N {R : Type} (A : Ar) (kk : AV → Heap → Option R) (t : List Bool → St → Option R) (p : List Bool) (s : St) : Option R := nodeN A gtys (g11O A) g11an g11cut t (bodyOf Try.f11) (finD gtys g11res kk) p s
def g11J3s (x0 x1 : Int) (x2 x3 x4 : Int) (x5 x6 : Nat) (x7 : List Nat) : St := ⟨[(0, (pT 0 0)), (1, (i6 x0)), (2, (i6 x1)), (34, (i6 x2)), (35, (i6 x3))], [(0, ⟨[.one (.int .i64 x4), .one (.sl 501 none x5 1)], 56, 1⟩), (501, ⟨[.nums .u8 x6 x7], 5, 2⟩)]⟩
def g11J3 {R : Type} (A : Ar) (n : Nat) (kk : AV → Heap → Option R) (lg11L2 : Int → Int → Int → Int → Int → Nat → Nat → List Nat → Option R) (x0 x1 : Int) (x2 x3 x4 : Int) (x5 x6 : Nat) (x7 : List Nat) : Option R :=
  match A.neg (A.ib .mul .i64 8 (A.ib .sub .i64 (A.ib .sub .i64 x1 1) x3)) with
  | true => none
  | false => match A.eq x5 (x6 + 0) with
    | true => match A.le ((x7 ++ ([A.i2n .u8 (A.ish .shr .i64 x0 (A.toN (A.ib .mul .i64 8 (A.ib .sub .i64 (A.ib .sub .i64 x1 1) x3))))].take 1)).length) 140737488355328 with
      | true => lg11L2 x0 x1 x2 (A.ib .add .i64 x3 1) x4 ((x7 ++ ([A.i2n .u8 (A.ish .shr .i64 x0 (A.toN (A.ib .mul .i64 8 (A.ib .sub .i64 (A.ib .sub .i64 x1 1) x3))))].take 1)).length) ((x7 ++ ([A.i2n .u8 (A.ish .shr .i64 x0 (A.toN (A.ib .mul .i64 8 (A.ib .sub .i64 (A.ib .sub .i64 x1 1) x3))))].take 1)).length) (x7 ++ ([A.i2n .u8 (A.ish .shr .i64 x0 (A.toN (A.ib .mul .i64 8 (A.ib .sub .i64 (A.ib .sub .i64 x1 1) x3))))].take 1))
      | false => none
    | false => none
def g11L2s (x0 x1 : Int) (x2 x3 x4 : Int) (x5 x6 : Nat) (x7 : List Nat) : St := ⟨[(0, (pT 0 0)), (1, (i6 x0)), (2, (i6 x1)), (34, (i6 x2)), (35, (i6 x3))], [(0, ⟨[.one (.int .i64 x4), .one (.sl 501 none x5 1)], 56, 1⟩), (501, ⟨[.nums .u8 x6 x7], 5, 2⟩)]⟩
def g11L2 {R : Type} (A : Ar) (n : Nat) (kk : AV → Heap → Option R)  : Nat → Int → Int → Int → Int → Int → Nat → Nat → List Nat → Option R
  | 0, _, _, _, _, _, _, _, _ => none
  | m + 1, x0, x1, x2, x3, x4, x5, x6, x7 => match A.ic .lss x3 x2 with
  | true => g11J3 A n kk (g11L2 A n kk  m) x0 x1 x2 x3 x4 x5 x6 x7
  | false => kk (.tup []) [(0, ⟨[.one (.int .i64 x4), .one (.sl 501 none x5 1)], 56, 1⟩), (501, ⟨[.nums .u8 x6 x7], 5, 2⟩)]
def g11J1s (x0 x1 x2 : Int) (x3 x4 : Nat) (x5 : List Nat) : St := ⟨[(0, (pT 0 0)), (1, (i6 x0)), (2, (i6 x1))], [(0, ⟨[.one (.int .i64 x2), .one (.sl 501 none x3 1)], 56, 1⟩), (501, ⟨[.nums .u8 x4 x5], 5, 2⟩)]⟩
def g11J1 {R : Type} (A : Ar) (n : Nat) (kk : AV → Heap → Option R)  (x0 x1 x2 : Int) (x3 x4 : Nat) (x5 : List Nat) : Option R :=
  g11L2 A n kk  n x0 x1 x1 0 x2 x3 x4 x5
def g11 {R : Type} (A : Ar) (n : Nat) (kk : AV → Heap → Option R) (x0 x1 x2 : Int) (x3 x4 : Nat) (x5 : List Nat) : Option R :=
  match A.ic .geq x1 1 with
  | true => match A.ic .leq x1 7 with
    | true => match g29ok A (A.ic .geq x0 0) 1 x2 x3 x4 x5 with
      | true => match !(g29r0 A (A.ic .geq x0 0) 1 x2 x3 x4 x5) with
        | true => kk (.tup []) [(0, ⟨[.one (.int .i64 (g29r1 A (A.ic .geq x0 0) 1 x2 x3 x4 x5)), .one (.sl 501 none (g29r2 A (A.ic .geq x0 0) 1 x2 x3 x4 x5) 1)], 56, 1⟩), (501, ⟨[.nums .u8 (g29r3 A (A.ic .geq x0 0) 1 x2 x3 x4 x5) (g29r4 A (A.ic .geq x0 0) 1 x2 x3 x4 x5)], 5, 2⟩)]
        | false => match A.neg (A.ib .mul .i64 8 x1) with
          | true => none
          | false => match g29ok A (A.ic .lss x0 (A.ish .shl .i64 1 (A.toN (A.ib .mul .i64 8 x1)))) 1 (g29r1 A (A.ic .geq x0 0) 1 x2 x3 x4 x5) (g29r2 A (A.ic .geq x0 0) 1 x2 x3 x4 x5) (g29r3 A (A.ic .geq x0 0) 1 x2 x3 x4 x5) (g29r4 A (A.ic .geq x0 0) 1 x2 x3 x4 x5) with
            | true => match !(g11t0 A x0 x1 x2 x3 x4 x5) with
              | true => kk (.tup []) [(0, ⟨[.one (.int .i64 (g11t1 A x0 x1 x2 x3 x4 x5)), .one (.sl 501 none (g11t2 A x0 x1 x2 x3 x4 x5) 1)], 56, 1⟩), (501, ⟨[.nums .u8 (g11t3 A x0 x1 x2 x3 x4 x5) (g11t4 A x0 x1 x2 x3 x4 x5)], 5, 2⟩)]
              | false => g11J1 A n kk  x0 x1 (g11t1 A x0 x1 x2 x3 x4 x5) (g11t2 A x0 x1 x2 x3 x4 x5) (g11t3 A x0 x1 x2 x3 x4 x5) (g11t4 A x0 x1 x2 x3 x4 x5)
            | false => none
      | false => none
    | false => match g29ok A false 1 x2 x3 x4 x5 with
      | true => match !(g29r0 A false 1 x2 x3 x4 x5) with
        | true => kk (.tup []) [(0, ⟨[.one (.int .i64 (g29r1 A false 1 x2 x3 x4 x5)), .one (.sl 501 none (g29r2 A false 1 x2 x3 x4 x5) 1)], 56, 1⟩), (501, ⟨[.nums .u8 (g29r3 A false 1 x2 x3 x4 x5) (g29r4 A false 1 x2 x3 x4 x5)], 5, 2⟩)]
        | false => match A.neg (A.ib .mul .i64 8 x1) with
          | true => none
          | false => match g29ok A (A.ic .lss x0 (A.ish .shl .i64 1 (A.toN (A.ib .mul .i64 8 x1)))) 1 (g29r1 A false 1 x2 x3 x4 x5) (g29r2 A false 1 x2 x3 x4 x5) (g29r3 A false 1 x2 x3 x4 x5) (g29r4 A false 1 x2 x3 x4 x5) with
            | true => match !(g11t5 A x0 x1 x2 x3 x4 x5) with
              | true => kk (.tup []) [(0, ⟨[.one (.int .i64 (g11t6 A x0 x1 x2 x3 x4 x5)), .one (.sl 501 none (g11t7 A x0 x1 x2 x3 x4 x5) 1)], 56, 1⟩), (501, ⟨[.nums .u8 (g11t8 A x0 x1 x2 x3 x4 x5) (g11t9 A x0 x1 x2 x3 x4 x5)], 5, 2⟩)]
              | false => g11J1 A n kk  x0 x1 (g11t6 A x0 x1 x2 x3 x4 x5) (g11t7 A x0 x1 x2 x3 x4 x5) (g11t8 A x0 x1 x2 x3 x4 x5) (g11t9 A x0 x1 x2 x3 x4 x5)
            | false => none
      | false => none
  | false => match g29ok A false 1 x2 x3 x4 x5 with
    | true => match !(g29r0 A false 1 x2 x3 x4 x5) with
      | true => kk (.tup []) [(0, ⟨[.one (.int .i64 (g29r1 A false 1 x2 x3 x4 x5)), .one (.sl 501 none (g29r2 A false 1 x2 x3 x4 x5) 1)], 56, 1⟩), (501, ⟨[.nums .u8 (g29r3 A false 1 x2 x3 x4 x5) (g29r4 A false 1 x2 x3 x4 x5)], 5, 2⟩)]
      | false => match A.neg (A.ib .mul .i64 8 x1) with
        | true => none
        | false => match g29ok A (A.ic .lss x0 (A.ish .shl .i64 1 (A.toN (A.ib .mul .i64 8 x1)))) 1 (g29r1 A false 1 x2 x3 x4 x5) (g29r2 A false 1 x2 x3 x4 x5) (g29r3 A false 1 x2 x3 x4 x5) (g29r4 A false 1 x2 x3 x4 x5) with
          | true => match !(g11t5 A x0 x1 x2 x3 x4 x5) with
            | true => kk (.tup []) [(0, ⟨[.one (.int .i64 (g11t6 A x0 x1 x2 x3 x4 x5)), .one (.sl 501 none (g11t7 A x0 x1 x2 x3 x4 x5) 1)], 56, 1⟩), (501, ⟨[.nums .u8 (g11t8 A x0 x1 x2 x3 x4 x5) (g11t9 A x0 x1 x2 x3 x4 x5)], 5, 2⟩)]
            | false => g11J1 A n kk  x0 x1 (g11t6 A x0 x1 x2 x3 x4 x5) (g11t7 A x0 x1 x2 x3 x4 x5) (g11t8 A x0 x1 x2 x3 x4 x5) (g11t9 A x0 x1 x2 x3 x4 x5)
          | false => none
    | false => none
section
variable {R : Type} {A : Ar} {n : Nat} {kk : AV → Heap → Option R} {tb : Nat → List Bool → St → Option R} (st : Stp (g11N A kk) tb)
include st
theorem g11J3_go {lg11L2 : Int → Int → Int → Int → Int → Nat → Nat → List Nat → Option R} (hg11L2 : ∀ (x0 x1 : Int) (x2 x3 x4 : Int) (x5 x6 : Nat) (x7 : List Nat), Prs (fun k => tb k (pth 28) (g11L2s x0 x1 x2 x3 x4 x5 x6 x7)) (lg11L2 x0 x1 x2 x3 x4 x5 x6 x7)) {x0 : Int} {x1 : Int} {x2 : Int} {x3 : Int} {x4 : Int} {x5 : Nat} {x6 : Nat} {x7 : List Nat} : Prs (fun k => tb k (pth 115) (g11J3s x0 x1 x2 x3 x4 x5 x6 x7)) (g11J3 A n kk lg11L2 x0 x1 x2 x3 x4 x5 x6 x7) := by
  unfold g11J3
  exact st.g (pc (SxB13api _ pn (SxB13api _ (SxB13api _ (hg11L2 _ _ _ _ _ _ _ _) pn) pn)) (by kernel_rfl))
theorem g11L2_go (m : Nat) : ∀ (x0 x1 : Int) (x2 x3 x4 : Int) (x5 x6 : Nat) (x7 : List Nat), Prs (fun k => tb k (pth 28) (g11L2s x0 x1 x2 x3 x4 x5 x6 x7)) (g11L2 A n kk m x0 x1 x2 x3 x4 x5 x6 x7) := by
  induction m with
  | zero => intro x0 x1 x2 x3 x4 x5 x6 x7; exact pn0
  | succ m ih =>
    intro x0 x1 x2 x3 x4 x5 x6 x7; rw [g11L2]
    exact st.g (pc (SxB13api _ (g11J3_go st ih) (pf _)) (by kernel_rfl))
theorem g11J1_go {x0 : Int} {x1 : Int} {x2 : Int} {x3 : Nat} {x4 : Nat} {x5 : List Nat} : Prs (fun k => tb k (pth 3) (g11J1s x0 x1 x2 x3 x4 x5)) (g11J1 A n kk x0 x1 x2 x3 x4 x5) := by
  unfold g11J1
  exact st.g (pc (g11L2_go st n _ _ _ _ _ _ _ _) (by kernel_rfl))
theorem g11_go {x0 : Int} {x1 : Int} {x2 : Int} {x3 : Nat} {x4 : Nat} {x5 : List Nat} : Prs (fun k => funN A gtys (g11O A) g11an g11cut (bodyOf Try.f11) g11res [(pT 0 0), (i6 x0), (i6 x1)] [(0, ⟨[.one (.int .i64 x2), .one (.sl 501 none x3 1)], 56, 1⟩), (501, ⟨[.nums .u8 x4 x5], 5, 2⟩)] kk (tb k)) (g11 A n kk x0 x1 x2 x3 x4 x5) := by
  unfold g11
  exact pc (SxB13api _ (SxB13api _ (SxB13api _ (SxB13api _ (pf _) (SxB13api _ pn (SxB13api _ (SxB13api _ (pf _) (g11J1_go st)) pn))) pn) (SxB13api _ (SxB13api _ (pf _) (SxB13api _ pn (SxB13api _ (SxB13api _ (pf _) (g11J1_go st)) pn))) pn)) (SxB13api _ (SxB13api _ (pf _) (SxB13api _ pn (SxB13api _ (SxB13api _ (pf _) (g11J1_go st)) pn))) pn)) (by kernel_rfl)
end
def g11is (o : Option (AV × Heap)) : Bool := match o with
  | some (.tup [], [(n0, ⟨[.one (.int .i64 _), .one (.sl n1 none _ n2)], n3, n4⟩), (n5, ⟨[.nums .u8 _ _], n6, n7⟩)]) => Nat.beq n0 0 && (Nat.beq n1 501 && (Nat.beq n2 1 && (Nat.beq n3 56 && (Nat.beq n4 1 && (Nat.beq n5 501 && (Nat.beq n6 5 && (Nat.beq n7 2)))))))
  | _ => false
def g11g0 (o : Option (AV × Heap)) : Int := match o with
  | some (.tup [], [(_, ⟨[.one (.int .i64 x), .one (.sl _ none _ _)], _, _⟩), (_, ⟨[.nums .u8 _ _], _, _⟩)]) => x
  | _ => 0
def g11g1 (o : Option (AV × Heap)) : Nat := match o with
  | some (.tup [], [(_, ⟨[.one (.int .i64 _), .one (.sl _ none x _)], _, _⟩), (_, ⟨[.nums .u8 _ _], _, _⟩)]) => x
  | _ => 0
def g11g2 (o : Option (AV × Heap)) : Nat := match o with
  | some (.tup [], [(_, ⟨[.one (.int .i64 _), .one (.sl _ none _ _)], _, _⟩), (_, ⟨[.nums .u8 x _], _, _⟩)]) => x
  | _ => 0
def g11g3 (o : Option (AV × Heap)) : List Nat := match o with
  | some (.tup [], [(_, ⟨[.one (.int .i64 _), .one (.sl _ none _ _)], _, _⟩), (_, ⟨[.nums .u8 _ x], _, _⟩)]) => x
  | _ => []
theorem g11is_spec {o : Option (AV × Heap)} (h : g11is o = true) : o = some ((.tup []), [(0, ⟨[.one (.int .i64 (g11g0 o)), .one (.sl 501 none (g11g1 o) 1)], 56, 1⟩), (501, ⟨[.nums .u8 (g11g2 o) (g11g3 o)], 5, 2⟩)]) := by
  unfold g11is at h
  split at h
  · rename_i n0 z1 n1 z3 n2 n3 n4 n5 z8 z9 n6 n7
    simp only [Bool.and_eq_true] at h
    have en0 := beq_true h.1
    subst en0
    replace h := h.2
    have en1 := beq_true h.1
    subst en1
    replace h := h.2
    have en2 := beq_true h.1
    subst en2
    replace h := h.2
    have en3 := beq_true h.1
    subst en3
    replace h := h.2
    have en4 := beq_true h.1
    subst en4
    replace h := h.2
    have en5 := beq_true h.1
    subst en5
    replace h := h.2
    have en6 := beq_true h.1
    subst en6
    replace h := h.2
    have en7 := beq_true h
    subst en7
    rfl
  · cases h
def g11v (A : Ar) (x0 x1 x2 : Int) (x3 x4 : Nat) (x5 : List Nat) : Option (AV × Heap) := g11 A (100000) (outH [0, 501] none) x0 x1 x2 x3 x4 x5
def g11ok (A : Ar) (x0 x1 x2 : Int) (x3 x4 : Nat) (x5 : List Nat) : Bool := g11is (g11v A x0 x1 x2 x3 x4 x5)
def g11r0 (A : Ar) (x0 x1 x2 : Int) (x3 x4 : Nat) (x5 : List Nat) : Int := g11g0 (g11v A x0 x1 x2 x3 x4 x5)
def g11r1 (A : Ar) (x0 x1 x2 : Int) (x3 x4 : Nat) (x5 : List Nat) : Nat := g11g1 (g11v A x0 x1 x2 x3 x4 x5)
def g11r2 (A : Ar) (x0 x1 x2 : Int) (x3 x4 : Nat) (x5 : List Nat) : Nat := g11g2 (g11v A x0 x1 x2 x3 x4 x5)
def g11r3 (A : Ar) (x0 x1 x2 : Int) (x3 x4 : Nat) (x5 : List Nat) : List Nat := g11g3 (g11v A x0 x1 x2 x3 x4 x5)
theorem g11ok_spec {A : Ar} {x0 x1 x2 x3 x4 x5} (h : g11ok A x0 x1 x2 x3 x4 x5 = true) : g11v A x0 x1 x2 x3 x4 x5 = some ((.tup []), [(0, ⟨[.one (.int .i64 (g11r0 A x0 x1 x2 x3 x4 x5)), .one (.sl 501 none (g11r1 A x0 x1 x2 x3 x4 x5) 1)], 56, 1⟩), (501, ⟨[.nums .u8 (g11r2 A x0 x1 x2 x3 x4 x5) (g11r3 A x0 x1 x2 x3 x4 x5)], 5, 2⟩)]) := g11is_spec h
def g11o (A : Ar) (args : List AV) (h : Heap) : Option (Bool × AV × Heap) := match args, h with
  | [.v (.cell (.ptr n0 n1 none)), .v (.cell (.int .i64 x0)), .v (.cell (.int .i64 x1))], [(n2, ⟨[.one (.int .i64 x2), .one (.sl n3 none x3 n4)], n5, n6⟩), (n7, ⟨[.nums .u8 x4 x5], n8, n9⟩)] => match Nat.beq n0 0 && (Nat.beq n1 0 && (Nat.beq n2 0 && (Nat.beq n3 501 && (Nat.beq n4 1 && (Nat.beq n5 56 && (Nat.beq n6 1 && (Nat.beq n7 501 && (Nat.beq n8 5 && (Nat.beq n9 2))))))))) with
    | true => some (g11ok A x0 x1 x2 x3 x4 x5, (.tup []), [(0, ⟨[.one (.int .i64 (g11r0 A x0 x1 x2 x3 x4 x5)), .one (.sl 501 none (g11r1 A x0 x1 x2 x3 x4 x5) 1)], 56, 1⟩), (501, ⟨[.nums .u8 (g11r2 A x0 x1 x2 x3 x4 x5) (g11r3 A x0 x1 x2 x3 x4 x5)], 5, 2⟩)])
    | false => none
  | _, _ => none
theorem g11o_sound : ∀ args h v h', g11o realA args h = some (true, v, h') → FnH Try.prog 11 args h v h' := by
  intro args h v h' hh
  unfold g11o at hh
  split at hh
  · rename_i n0 n1 x0 x1 n2 x2 n3 x3 n4 n5 n6 n7 x4 x5 n8 n9
    split at hh
    case h_2 => cases hh
    rename_i hc0
    simp only [Option.some.injEq, Prod.mk.injEq] at hh
    obtain ⟨hc, hv, hh⟩ := hh
    subst hv
    subst hh
    simp only [Bool.and_eq_true] at hc0
    have en0 := beq_true hc0.1
    subst en0
    replace hc0 := hc0.2
    have en1 := beq_true hc0.1
    subst en1
    replace hc0 := hc0.2
    have en2 := beq_true hc0.1
    subst en2
    replace hc0 := hc0.2
    have en3 := beq_true hc0.1
    subst en3
    replace hc0 := hc0.2
    have en4 := beq_true hc0.1
    subst en4
    replace hc0 := hc0.2
    have en5 := beq_true hc0.1
    subst en5
    replace hc0 := hc0.2
    have en6 := beq_true hc0.1
    subst en6
    replace hc0 := hc0.2
    have en7 := beq_true hc0.1
    subst en7
    replace hc0 := hc0.2
    have en8 := beq_true hc0.1
    subst en8
    replace hc0 := hc0.2
    have en9 := beq_true hc0
    subst en9
    exact fnh_ofG mixed gtysOK g11O_sound g11O_det (an := g11an) (cut := g11cut) Try.func11 (c := bodyOf Try.f11) rfl (by kernel_rfl) Try.call11 (Nat.le_of_ble_eq_true rfl) (pins := [0, 501]) (nilr := none) (fun _ => (show g11v realA x0 x1 x2 x3 x4 x5 = _ from g11ok_spec hc)) fun _ st => g11_go st
  · cases hh
attribute [local irreducible] g11ok g11r0 g11r1 g11r2 g11r3
def g13O (A : Ar) : Orc := orcOf []
theorem g13O_sound : OSound Try.prog (g13O realA) := orc_sound fun f g hm args v hv => by
  cases hm
theorem g13O_det : ODet (g13O realA) := orc_det _
def g13an : Ann := [(0, ([0, 1], [0, 501])), (1, ([0, 1], [0, 501]))]
def g13res : List ResultVar := []
def g13cut : List Nat := []
noncomputable def g13N {R : Type} (A : Ar) (kk : AV → Heap → Option R) (t : List Bool → St → Option R) (p : List Bool) (s : St) : Option R := nodeN A gtys (g13O A) g13an g13cut t (bodyOf Try.f13) (finD gtys g13res kk) p s
def g13 {R : Type} (A : Ar) (n : Nat) (kk : AV → Heap → Option R) (x0 : List Nat) (x1 : Int) (x2 x3 : Nat) (x4 : List Nat) : Option R :=
  match A.ic .eql x1 0 with
  | true => match A.eq x2 (x3 + 0) with
    | true => match A.le ((x4 ++ x0).length) 140737488355328 with
      | true => kk (.tup []) [(501, ⟨[.nums .u8 ((x4 ++ x0).length) (x4 ++ x0)], 5, 2⟩), (0, ⟨[.one (.int .i64 x1), .one (.sl 501 none ((x4 ++ x0).length) 1)], 56, 1⟩)]
      | false => none
    | false => none
  | false => kk (.tup []) [(0, ⟨[.one (.int .i64 x1), .one (.sl 501 none x2 1)], 56, 1⟩), (501, ⟨[.nums .u8 x3 x4], 5, 2⟩)]
section
variable {R : Type} {A : Ar} {n : Nat} {kk : AV → Heap → Option R} {tb : Nat → List Bool → St → Option R} (st : Stp (g13N A kk) tb)
include st
theorem g13_go {x0 : List Nat} {x1 : Int} {x2 : Nat} {x3 : Nat} {x4 : List Nat} : Prs (fun k => funN A gtys (g13O A) g13an g13cut (bodyOf Try.f13) g13res [(pT 0 0), (tS x0)] [(0, ⟨[.one (.int .i64 x1), .one (.sl 501 none x2 1)], 56, 1⟩), (501, ⟨[.nums .u8 x3 x4], 5, 2⟩)] kk (tb k)) (g13 A n kk x0 x1 x2 x3 x4) := by
  unfold g13
  exact pc (SxB13api _ (SxB13api _ (SxB13api _ (pf _) pn) pn) (pf _)) (by kernel_rfl)
end
def g13is (o : Option (AV × Heap)) : Bool := match o with
  | some (.tup [], [(n0, ⟨[.one (.int .i64 _), .one (.sl n1 none _ n2)], n3, n4⟩), (n5, ⟨[.nums .u8 _ _], n6, n7⟩)]) => Nat.beq n0 0 && (Nat.beq n1 501 && (Nat.beq n2 1 && (Nat.beq n3 56 && (Nat.beq n4 1 && (Nat.beq n5 501 && (Nat.beq n6 5 && (Nat.beq n7 2)))))))
  | _ => false
def g13g0 (o : Option (AV × Heap)) : Int := match o with
  | some (.tup [], [(_, ⟨[.one (.int .i64 x), .one (.sl _ none _ _)], _, _⟩), (_, ⟨[.nums .u8 _ _], _, _⟩)]) => x
  | _ => 0
def g13g1 (o : Option (AV × Heap)) : Nat := match o with
  | some (.tup [], [(_, ⟨[.one (.int .i64 _), .one (.sl _ none x _)], _, _⟩), (_, ⟨[.nums .u8 _ _], _, _⟩)]) => x
  | _ => 0
def g13g2 (o : Option (AV × Heap)) : Nat := match o with
  | some (.tup [], [(_, ⟨[.one (.int .i64 _), .one (.sl _ none _ _)], _, _⟩), (_, ⟨[.nums .u8 x _], _, _⟩)]) => x
  | _ => 0
def g13g3 (o : Option (AV × Heap)) : List Nat := match o with
  | some (.tup [], [(_, ⟨[.one (.int .i64 _), .one (.sl _ none _ _)], _, _⟩), (_, ⟨[.nums .u8 _ x], _, _⟩)]) => x
  | _ => []
theorem g13is_spec {o : Option (AV × Heap)} (h : g13is o = true) : o = some ((.tup []), [(0, ⟨[.one (.int .i64 (g13g0 o)), .one (.sl 501 none (g13g1 o) 1)], 56, 1⟩), (501, ⟨[.nums .u8 (g13g2 o) (g13g3 o)], 5, 2⟩)]) := by
  unfold g13is at h
  split at h
  · rename_i n0 z1 n1 z3 n2 n3 n4 n5 z8 z9 n6 n7
    simp only [Bool.and_eq_true] at h
    have en0 := beq_true h.1
    subst en0
    replace h := h.2
    have en1 := beq_true h.1
    subst en1
    replace h := h.2
    have en2 := beq_true h.1
    subst en2
    replace h := h.2
    have en3 := beq_true h.1
    subst en3
    replace h := h.2
    have en4 := beq_true h.1
    subst en4
    replace h := h.2
    have en5 := beq_true h.1
    subst en5
    replace h := h.2
    have en6 := beq_true h.1
    subst en6
    replace h := h.2
    have en7 := beq_true h
    subst en7
    rfl
  · cases h
def g13v (A : Ar) (x0 : List Nat) (x1 : Int) (x2 x3 : Nat) (x4 : List Nat) : Option (AV × Heap) := g13 A (100000) (outH [0, 501] none) x0 x1 x2 x3 x4
def g13ok (A : Ar) (x0 : List Nat) (x1 : Int) (x2 x3 : Nat) (x4 : List Nat) : Bool := g13is (g13v A x0 x1 x2 x3 x4)
def g13r0 (A : Ar) (x0 : List Nat) (x1 : Int) (x2 x3 : Nat) (x4 : List Nat) : Int := g13g0 (g13v A x0 x1 x2 x3 x4)
def g13r1 (A : Ar) (x0 : List Nat) (x1 : Int) (x2 x3 : Nat) (x4 : List Nat) : Nat := g13g1 (g13v A x0 x1 x2 x3 x4)
def g13r2 (A : Ar) (x0 : List Nat) (x1 : Int) (x2 x3 : Nat) (x4 : List Nat) : Nat := g13g2 (g13v A x0 x1 x2 x3 x4)
def g13r3 (A : Ar) (x0 : List Nat) (x1 : Int) (x2 x3 : Nat) (x4 : List Nat) : List Nat := g13g3 (g13v A x0 x1 x2 x3 x4)
theorem g13ok_spec {A : Ar} {x0 x1 x2 x3 x4} (h : g13ok A x0 x1 x2 x3 x4 = true) : g13v A x0 x1 x2 x3 x4 = some ((.tup []), [(0, ⟨[.one (.int .i64 (g13r0 A x0 x1 x2 x3 x4)), .one (.sl 501 none (g13r1 A x0 x1 x2 x3 x4) 1)], 56, 1⟩), (501, ⟨[.nums .u8 (g13r2 A x0 x1 x2 x3 x4) (g13r3 A x0 x1 x2 x3 x4)], 5, 2⟩)]) := g13is_spec h
def g13o (A : Ar) (args : List AV) (h : Heap) : Option (Bool × AV × Heap) := match args, h with
  | [.v (.cell (.ptr n0 n1 none)), .v (.cell (.str x0))], [(n2, ⟨[.one (.int .i64 x1), .one (.sl n3 none x2 n4)], n5, n6⟩), (n7, ⟨[.nums .u8 x3 x4], n8, n9⟩)] => match Nat.beq n0 0 && (Nat.beq n1 0 && (Nat.beq n2 0 && (Nat.beq n3 501 && (Nat.beq n4 1 && (Nat.beq n5 56 && (Nat.beq n6 1 && (Nat.beq n7 501 && (Nat.beq n8 5 && (Nat.beq n9 2))))))))) with
    | true => some (g13ok A x0 x1 x2 x3 x4, (.tup []), [(0, ⟨[.one (.int .i64 (g13r0 A x0 x1 x2 x3 x4)), .one (.sl 501 none (g13r1 A x0 x1 x2 x3 x4) 1)], 56, 1⟩), (501, ⟨[.nums .u8 (g13r2 A x0 x1 x2 x3 x4) (g13r3 A x0 x1 x2 x3 x4)], 5, 2⟩)])
    | false => none
  | _, _ => none
theorem g13o_sound : ∀ args h v h', g13o realA args h = some (true, v, h') → FnH Try.prog 13 args h v h' := by
  intro args h v h' hh
  unfold g13o at hh
  split at hh
  · rename_i n0 n1 x0 n2 x1 n3 x2 n4 n5 n6 n7 x3 x4 n8 n9
    split at hh
    case h_2 => cases hh
    rename_i hc0
    simp only [Option.some.injEq, Prod.mk.injEq] at hh
    obtain ⟨hc, hv, hh⟩ := hh
    subst hv
    subst hh
    simp only [Bool.and_eq_true] at hc0
    have en0 := beq_true hc0.1
    subst en0
    replace hc0 := hc0.2
    have en1 := beq_true hc0.1
    subst en1
    replace hc0 := hc0.2
    have en2 := beq_true hc0.1
    subst en2
    replace hc0 := hc0.2
    have en3 := beq_true hc0.1
    subst en3
    replace hc0 := hc0.2
    have en4 := beq_true hc0.1
    subst en4
    replace hc0 := hc0.2
    have en5 := beq_true hc0.1
    subst en5
    replace hc0 := hc0.2
    have en6 := beq_true hc0.1
    subst en6
    replace hc0 := hc0.2
    have en7 := beq_true hc0.1
    subst en7
    replace hc0 := hc0.2
    have en8 := beq_true hc0.1
    subst en8
    replace hc0 := hc0.2
    have en9 := beq_true hc0
    subst en9
    exact fnh_ofG mixed gtysOK g13O_sound g13O_det (an := g13an) (cut := g13cut) Try.func13 (c := bodyOf Try.f13) rfl (by kernel_rfl) Try.call13 (Nat.le_of_ble_eq_true rfl) (pins := [0, 501]) (nilr := none) (fun _ => (show g13v realA x0 x1 x2 x3 x4 = _ from g13ok_spec hc)) fun _ st => g13_go st
  · cases hh
attribute [local irreducible] g13ok g13r0 g13r1 g13r2 g13r3
def g15O (A : Ar) : Orc := orcH [] [(11, ⟨[0, 1], (some (0, 1, 1, ⟨[.nums .u8 0 []], 5, 2⟩)), (g11o A)⟩), (13, ⟨[0, 1], (some (0, 1, 1, ⟨[.nums .u8 0 []], 5, 2⟩)), (g13o A)⟩)]
theorem g15O_sound : OSound Try.prog (g15O realA) := orcH_sound (fun f g hm args v hv => by
    cases hm) (fun f e hm args h v h' hv => by
    simp only [List.mem_cons, List.not_mem_nil, or_false, Prod.mk.injEq] at hm
    rcases hm with ⟨rfl, rfl⟩ | ⟨rfl, rfl⟩
    · exact g11o_sound _ _ _ _ hv
    · exact g13o_sound _ _ _ _ hv)
theorem g15O_det : ODet (g15O realA) := orcH_det _ _
def g15an : Ann := [(0, ([0, 1, 2], [0, 501])), (1, ([0, 1], [0, 501]))]
def g15res : List ResultVar := []
def g15cut : List Nat := []
abbrev g15t0 (A : Ar) (x0 : List Nat) (x1 x2 : Int) (x3 x4 : Nat) (x5 : List Nat) : Int := g13r0 A x0 (g11r0 A (A.ofN x0.length) x1 x2 x3 x4 x5) (g11r1 A (A.ofN x0.length) x1 x2 x3 x4 x5) (g11r2 A (A.ofN x0.length) x1 x2 x3 x4 x5) (g11r3 A (A.ofN x0.length) x1 x2 x3 x4 x5)
abbrev g15t1 (A : Ar) (x0 : List Nat) (x1 x2 : Int) (x3 x4 : Nat) (x5 : List Nat) : Nat := g13r1 A x0 (g11r0 A (A.ofN x0.length) x1 x2 x3 x4 x5) (g11r1 A (A.ofN x0.length) x1 x2 x3 x4 x5) (g11r2 A (A.ofN x0.length) x1 x2 x3 x4 x5) (g11r3 A (A.ofN x0.length) x1 x2 x3 x4 x5)
abbrev g15t2 (A : Ar) (x0 : List Nat) (x1 x2 : Int) (x3 x4 : Nat) (x5 : List Nat) : Nat := g13r2 A x0 (g11r0 A (A.ofN x0.length) x1 x2 x3 x4 x5) (g11r1 A (A.ofN x0.length) x1 x2 x3 x4 x5) (g11r2 A (A.ofN x0.length) x1 x2 x3 x4 x5) (g11r3 A (A.ofN x0.length) x1 x2 x3 x4 x5)
abbrev g15t3 (A : Ar) (x0 : List Nat) (x1 x2 : Int) (x3 x4 : Nat) (x5 : List Nat) : List Nat := g13r3 A x0 (g11r0 A (A.ofN x0.length) x1 x2 x3 x4 x5) (g11r1 A (A.ofN x0.length) x1 x2 x3 x4 x5) (g11r2 A (A.ofN x0.length) x1 x2 x3 x4 x5) (g11r3 A (A.ofN x0.length) x1 x2 x3 x4 x5)
noncomputable def g15N {R : Type} (A : Ar) (kk : AV → Heap → Option R) (t : List Bool → St → Option R) (p : List Bool) (s : St) : Option R := nodeN A gtys (g15O A) g15an g15cut t (bodyOf Try.f15) (finD gtys g15res kk) p s
def g15 {R : Type} (A : Ar) (n : Nat) (kk : AV → Heap → Option R) (x0 : List Nat) (x1 x2 : Int) (x3 x4 : Nat) (x5 : List Nat) : Option R :=
  match g11ok A (A.ofN x0.length) x1 x2 x3 x4 x5 with
  | true => match g13ok A x0 (g11r0 A (A.ofN x0.length) x1 x2 x3 x4 x5) (g11r1 A (A.ofN x0.length) x1 x2 x3 x4 x5) (g11r2 A (A.ofN x0.length) x1 x2 x3 x4 x5) (g11r3 A (A.ofN x0.length) x1 x2 x3 x4 x5) with
    | true => kk (.tup []) [(0, ⟨[.one (.int .i64 (g15t0 A x0 x1 x2 x3 x4 x5)), .one (.sl 501 none (g15t1 A x0 x1 x2 x3 x4 x5) 1)], 56, 1⟩), (501, ⟨[.nums .u8 (g15t2 A x0 x1 x2 x3 x4 x5) (g15t3 A x0 x1 x2 x3 x4 x5)], 5, 2⟩)]
    | false => none
  | false => none
section
variable {R : Type} {A : Ar} {n : Nat} {kk : AV → Heap → Option R} {tb : Nat → List Bool → St → Option R} (st : Stp (g15N A kk) tb)
include st
theorem g15_go {x0 : List Nat} {x1 : Int} {x2 : Int} {x3 : Nat} {x4 : Nat} {x5 : List Nat} : Prs (fun k => funN A gtys (g15O A) g15an g15cut (bodyOf Try.f15) g15res [(pT 0 0), (tS x0), (i6 x1)] [(0, ⟨[.one (.int .i64 x2), .one (.sl 501 none x3 1)], 56, 1⟩), (501, ⟨[.nums .u8 x4 x5], 5, 2⟩)] kk (tb k)) (g15 A n kk x0 x1 x2 x3 x4 x5) := by
  unfold g15
  exact pc (SxB13api _ (SxB13api _ (pf _) pn) pn) (by kernel_rfl)
end
def g15is (o : Option (AV × Heap)) : Bool := match o with
  | some (.tup [], [(n0, ⟨[.one (.int .i64 _), .one (.sl n1 none _ n2)], n3, n4⟩), (n5, ⟨[.nums .u8 _ _], n6, n7⟩)]) => Nat.beq n0 0 && (Nat.beq n1 501 && (Nat.beq n2 1 && (Nat.beq n3 56 && (Nat.beq n4 1 && (Nat.beq n5 501 && (Nat.beq n6 5 && (Nat.beq n7 2)))))))
  | _ => false
def g15g0 (o : Option (AV × Heap)) : Int := match o with
  | some (.tup [], [(_, ⟨[.one (.int .i64 x), .one (.sl _ none _ _)], _, _⟩), (_, ⟨[.nums .u8 _ _], _, _⟩)]) => x
  | _ => 0
def g15g1 (o : Option (AV × Heap)) : Nat := match o with
  | some (.tup [], [(_, ⟨[.one (.int .i64 _), .one (.sl _ none x _)], _, _⟩), (_, ⟨[.nums .u8 _ _], _, _⟩)]) => x
  | _ => 0
def g15g2 (o : Option (AV × Heap)) : Nat := match o with
  | some (.tup [], [(_, ⟨[.one (.int .i64 _), .one (.sl _ none _ _)], _, _⟩), (_, ⟨[.nums .u8 x _], _, _⟩)]) => x
  | _ => 0
def g15g3 (o : Option (AV × Heap)) : List Nat := match o with
  | some (.tup [], [(_, ⟨[.one (.int .i64 _), .one (.sl _ none _ _)], _, _⟩), (_, ⟨[.nums .u8 _ x], _, _⟩)]) => x
  | _ => []
theorem g15is_spec {o : Option (AV × Heap)} (h : g15is o = true) : o = some ((.tup []), [(0, ⟨[.one (.int .i64 (g15g0 o)), .one (.sl 501 none (g15g1 o) 1)], 56, 1⟩), (501, ⟨[.nums .u8 (g15g2 o) (g15g3 o)], 5, 2⟩)]) := by
  unfold g15is at h
  split at h
  · rename_i n0 z1 n1 z3 n2 n3 n4 n5 z8 z9 n6 n7
    simp only [Bool.and_eq_true] at h
    have en0 := beq_true h.1
    subst en0
    replace h := h.2
    have en1 := beq_true h.1
    subst en1
    replace h := h.2
    have en2 := beq_true h.1
    subst en2
    replace h := h.2
    have en3 := beq_true h.1
    subst en3
    replace h := h.2
    have en4 := beq_true h.1
    subst en4
    replace h := h.2
    have en5 := beq_true h.1
    subst en5
    replace h := h.2
    have en6 := beq_true h.1
    subst en6
    replace h := h.2
    have en7 := beq_true h
    subst en7
    rfl
  · cases h
def g15v (A : Ar) (x0 : List Nat) (x1 x2 : Int) (x3 x4 : Nat) (x5 : List Nat) : Option (AV × Heap) := g15 A (100000) (outH [0, 501] none) x0 x1 x2 x3 x4 x5
def g15ok (A : Ar) (x0 : List Nat) (x1 x2 : Int) (x3 x4 : Nat) (x5 : List Nat) : Bool := g15is (g15v A x0 x1 x2 x3 x4 x5)
def g15r0 (A : Ar) (x0 : List Nat) (x1 x2 : Int) (x3 x4 : Nat) (x5 : List Nat) : Int := g15g0 (g15v A x0 x1 x2 x3 x4 x5)
def g15r1 (A : Ar) (x0 : List Nat) (x1 x2 : Int) (x3 x4 : Nat) (x5 : List Nat) : Nat := g15g1 (g15v A x0 x1 x2 x3 x4 x5)
def g15r2 (A : Ar) (x0 : List Nat) (x1 x2 : Int) (x3 x4 : Nat) (x5 : List Nat) : Nat := g15g2 (g15v A x0 x1 x2 x3 x4 x5)
def g15r3 (A : Ar) (x0 : List Nat) (x1 x2 : Int) (x3 x4 : Nat) (x5 : List Nat) : List Nat := g15g3 (g15v A x0 x1 x2 x3 x4 x5)
theorem g15ok_spec {A : Ar} {x0 x1 x2 x3 x4 x5} (h : g15ok A x0 x1 x2 x3 x4 x5 = true) : g15v A x0 x1 x2 x3 x4 x5 = some ((.tup []), [(0, ⟨[.one (.int .i64 (g15r0 A x0 x1 x2 x3 x4 x5)), .one (.sl 501 none (g15r1 A x0 x1 x2 x3 x4 x5) 1)], 56, 1⟩), (501, ⟨[.nums .u8 (g15r2 A x0 x1 x2 x3 x4 x5) (g15r3 A x0 x1 x2 x3 x4 x5)], 5, 2⟩)]) := g15is_spec h
def g15o (A : Ar) (args : List AV) (h : Heap) : Option (Bool × AV × Heap) := match args, h with
  | [.v (.cell (.ptr n0 n1 none)), .v (.cell (.str x0)), .v (.cell (.int .i64 x1))], [(n2, ⟨[.one (.int .i64 x2), .one (.sl n3 none x3 n4)], n5, n6⟩), (n7, ⟨[.nums .u8 x4 x5], n8, n9⟩)] => match Nat.beq n0 0 && (Nat.beq n1 0 && (Nat.beq n2 0 && (Nat.beq n3 501 && (Nat.beq n4 1 && (Nat.beq n5 56 && (Nat.beq n6 1 && (Nat.beq n7 501 && (Nat.beq n8 5 && (Nat.beq n9 2))))))))) with
    | true => some (g15ok A x0 x1 x2 x3 x4 x5, (.tup []), [(0, ⟨[.one (.int .i64 (g15r0 A x0 x1 x2 x3 x4 x5)), .one (.sl 501 none (g15r1 A x0 x1 x2 x3 x4 x5) 1)], 56, 1⟩), (501, ⟨[.nums .u8 (g15r2 A x0 x1 x2 x3 x4 x5) (g15r3 A x0 x1 x2 x3 x4 x5)], 5, 2⟩)])
    | false => none
  | _, _ => none
theorem g15o_sound : ∀ args h v h', g15o realA args h = some (true, v, h') → FnH Try.prog 15 args h v h' := by
  intro args h v h' hh
  unfold g15o at hh
  split at hh
  · rename_i n0 n1 x0 x1 n2 x2 n3 x3 n4 n5 n6 n7 x4 x5 n8 n9
    split at hh
    case h_2 => cases hh
    rename_i hc0
    simp only [Option.some.injEq, Prod.mk.injEq] at hh
    obtain ⟨hc, hv, hh⟩ := hh
    subst hv
    subst hh
    simp only [Bool.and_eq_true] at hc0
    have en0 := beq_true hc0.1
    subst en0
    replace hc0 := hc0.2
    have en1 := beq_true hc0.1
    subst en1
    replace hc0 := hc0.2
    have en2 := beq_true hc0.1
    subst en2
    replace hc0 := hc0.2
    have en3 := beq_true hc0.1
    subst en3
    replace hc0 := hc0.2
    have en4 := beq_true hc0.1
    subst en4
    replace hc0 := hc0.2
    have en5 := beq_true hc0.1
    subst en5
    replace hc0 := hc0.2
    have en6 := beq_true hc0.1
    subst en6
    replace hc0 := hc0.2
    have en7 := beq_true hc0.1
    subst en7
    replace hc0 := hc0.2
    have en8 := beq_true hc0.1
    subst en8
    replace hc0 := hc0.2
    have en9 := beq_true hc0
    subst en9
    exact fnh_ofG mixed gtysOK g15O_sound g15O_det (an := g15an) (cut := g15cut) Try.func15 (c := bodyOf Try.f15) rfl (by kernel_rfl) Try.call15 (Nat.le_of_ble_eq_true rfl) (pins := [0, 501]) (nilr := none) (fun _ => (show g15v realA x0 x1 x2 x3 x4 x5 = _ from g15ok_spec hc)) fun _ st => g15_go st
  · cases hh
attribute [local irreducible] g15ok g15r0 g15r1 g15r2 g15r3
def g17O (A : Ar) : Orc := orcOf []
theorem g17O_sound : OSound Try.prog (g17O realA) := orc_sound fun f g hm args v hv => by
  cases hm
theorem g17O_det : ODet (g17O realA) := orc_det _
def g17an : Ann := [(0, ([0], [0, 501])), (1, ([0], [0, 501])), (2, ([0], [0, 501])), (3, ([0], [0, 501]))]
def g17res : List ResultVar := [.tmp 2, .tmp 3]
def g17cut : List Nat := [3]
noncomputable def g17N {R : Type} (A : Ar) (kk : AV → Heap → Option R) (t : List Bool → St → Option R) (p : List Bool) (s : St) : Option R := nodeN A gtys (g17O A) g17an g17cut t (bodyOf Try.f17) (finD gtys g17res kk) p s
def g17J3s (x0 : Int) (x1 x2 : Nat) (x3 : List Nat) : St := ⟨[(0, (pT 0 0))], [(0, ⟨[.one (.int .i64 x0), .one (.sl 501 none x1 1)], 56, 1⟩), (501, ⟨[.nums .u8 x2 x3], 5, 2⟩)]⟩
def g17J3 {R : Type} (A : Ar) (n : Nat) (kk : AV → Heap → Option R)  (x0 : Int) (x1 x2 : Nat) (x3 : List Nat) : Option R :=
  kk (.tup [(.cell (.str (x3.take x1))), (.cell (.int .i64 0))]) [(0, ⟨[.one (.int .i64 x0), .one (.sl 501 none x1 1)], 56, 1⟩), (501, ⟨[.nums .u8 x2 x3], 5, 2⟩)]
def g17 {R : Type} (A : Ar) (n : Nat) (kk : AV → Heap → Option R) (x0 : Int) (x1 x2 : Nat) (x3 : List Nat) : Option R :=
  match A.ic .neq x0 0 with
  | true => kk (.tup [(.cell (.str [])), (.cell (.int .i64 x0))]) [(0, ⟨[.one (.int .i64 x0), .one (.sl 501 none x1 1)], 56, 1⟩), (501, ⟨[.nums .u8 x2 x3], 5, 2⟩)]
  | false => g17J3 A n kk  x0 x1 x2 x3
section
variable {R : Type} {A : Ar} {n : Nat} {kk : AV → Heap → Option R} {tb : Nat → List Bool → St → Option R} (st : Stp (g17N A kk) tb)
include st
theorem g17J3_go {x0 : Int} {x1 : Nat} {x2 : Nat} {x3 : List Nat} : Prs (fun k => tb k (pth 7) (g17J3s x0 x1 x2 x3)) (g17J3 A n kk x0 x1 x2 x3) := by
  unfold g17J3
  exact st.g (pc (pf _) (by kernel_rfl))
theorem g17_go {x0 : Int} {x1 : Nat} {x2 : Nat} {x3 : List Nat} : Prs (fun k => funN A gtys (g17O A) g17an g17cut (bodyOf Try.f17) g17res [(pT 0 0)] [(0, ⟨[.one (.int .i64 x0), .one (.sl 501 none x1 1)], 56, 1⟩), (501, ⟨[.nums .u8 x2 x3], 5, 2⟩)] kk (tb k)) (g17 A n kk x0 x1 x2 x3) := by
  unfold g17
  exact pc (SxB13api _ (pf _) (g17J3_go st)) (by kernel_rfl)
end
def g17is (o : Option (AV × Heap)) : Bool := match o with
  | some (.tup [(.cell (.str _)), (.cell (.int .i64 _))], [(n0, ⟨[.one (.int .i64 _), .one (.sl n1 none _ n2)], n3, n4⟩), (n5, ⟨[.nums .u8 _ _], n6, n7⟩)]) => Nat.beq n0 0 && (Nat.beq n1 501 && (Nat.beq n2 1 && (Nat.beq n3 56 && (Nat.beq n4 1 && (Nat.beq n5 501 && (Nat.beq n6 5 && (Nat.beq n7 2)))))))
  | _ => false
def g17g0 (o : Option (AV × Heap)) : List Nat := match o with
  | some (.tup [(.cell (.str x)), (.cell (.int .i64 _))], [(_, ⟨[.one (.int .i64 _), .one (.sl _ none _ _)], _, _⟩), (_, ⟨[.nums .u8 _ _], _, _⟩)]) => x
  | _ => []
def g17g1 (o : Option (AV × Heap)) : Int := match o with
  | some (.tup [(.cell (.str _)), (.cell (.int .i64 x))], [(_, ⟨[.one (.int .i64 _), .one (.sl _ none _ _)], _, _⟩), (_, ⟨[.nums .u8 _ _], _, _⟩)]) => x
  | _ => 0
def g17g2 (o : Option (AV × Heap)) : Int := match o with
  | some (.tup [(.cell (.str _)), (.cell (.int .i64 _))], [(_, ⟨[.one (.int .i64 x), .one (.sl _ none _ _)], _, _⟩), (_, ⟨[.nums .u8 _ _], _, _⟩)]) => x
  | _ => 0
def g17g3 (o : Option (AV × Heap)) : Nat := match o with
  | some (.tup [(.cell (.str _)), (.cell (.int .i64 _))], [(_, ⟨[.one (.int .i64 _), .one (.sl _ none x _)], _, _⟩), (_, ⟨[.nums .u8 _ _], _, _⟩)]) => x
  | _ => 0
def g17g4 (o : Option (AV × Heap)) : Nat := match o with
  | some (.tup [(.cell (.str _)), (.cell (.int .i64 _))], [(_, ⟨[.one (.int .i64 _), .one (.sl _ none _ _)], _, _⟩), (_, ⟨[.nums .u8 x _], _, _⟩)]) => x
  | _ => 0
def g17g5 (o : Option (AV × Heap)) : List Nat := match o with
  | some (.tup [(.cell (.str _)), (.cell (.int .i64 _))], [(_, ⟨[.one (.int .i64 _), .one (.sl _ none _ _)], _, _⟩), (_, ⟨[.nums .u8 _ x], _, _⟩)]) => x
  | _ => []
theorem g17is_spec {o : Option (AV × Heap)} (h : g17is o = true) : o = some ((.tup [(.cell (.str (g17g0 o))), (.cell (.int .i64 (g17g1 o)))]), [(0, ⟨[.one (.int .i64 (g17g2 o)), .one (.sl 501 none (g17g3 o) 1)], 56, 1⟩), (501, ⟨[.nums .u8 (g17g4 o) (g17g5 o)], 5, 2⟩)]) := by
  unfold g17is at h
  split at h
  · rename_i z0 z1 n0 z3 n1 z5 n2 n3 n4 n5 z10 z11 n6 n7
    simp only [Bool.and_eq_true] at h
    have en0 := beq_true h.1
    subst en0
    replace h := h.2
    have en1 := beq_true h.1
    subst en1
    replace h := h.2
    have en2 := beq_true h.1
    subst en2
    replace h := h.2
    have en3 := beq_true h.1
    subst en3
    replace h := h.2
    have en4 := beq_true h.1
    subst en4
    replace h := h.2
    have en5 := beq_true h.1
    subst en5
    replace h := h.2
    have en6 := beq_true h.1
    subst en6
    replace h := h.2
    have en7 := beq_true h
    subst en7
    rfl
  · cases h
def g17v (A : Ar) (x0 : Int) (x1 x2 : Nat) (x3 : List Nat) : Option (AV × Heap) := g17 A (100000) (outH [0, 501] none) x0 x1 x2 x3
def g17ok (A : Ar) (x0 : Int) (x1 x2 : Nat) (x3 : List Nat) : Bool := g17is (g17v A x0 x1 x2 x3)
def g17r0 (A : Ar) (x0 : Int) (x1 x2 : Nat) (x3 : List Nat) : List Nat := g17g0 (g17v A x0 x1 x2 x3)
def g17r1 (A : Ar) (x0 : Int) (x1 x2 : Nat) (x3 : List Nat) : Int := g17g1 (g17v A x0 x1 x2 x3)
def g17r2 (A : Ar) (x0 : Int) (x1 x2 : Nat) (x3 : List Nat) : Int := g17g2 (g17v A x0 x1 x2 x3)
def g17r3 (A : Ar) (x0 : Int) (x1 x2 : Nat) (x3 : List Nat) : Nat := g17g3 (g17v A x0 x1 x2 x3)
def g17r4 (A : Ar) (x0 : Int) (x1 x2 : Nat) (x3 : List Nat) : Nat := g17g4 (g17v A x0 x1 x2 x3)
def g17r5 (A : Ar) (x0 : Int) (x1 x2 : Nat) (x3 : List Nat) : List Nat := g17g5 (g17v A x0 x1 x2 x3)
theorem g17ok_spec {A : Ar} {x0 x1 x2 x3} (h : g17ok A x0 x1 x2 x3 = true) : g17v A x0 x1 x2 x3 = some ((.tup [(.cell (.str (g17r0 A x0 x1 x2 x3))), (.cell (.int .i64 (g17r1 A x0 x1 x2 x3)))]), [(0, ⟨[.one (.int .i64 (g17r2 A x0 x1 x2 x3)), .one (.sl 501 none (g17r3 A x0 x1 x2 x3) 1)], 56, 1⟩), (501, ⟨[.nums .u8 (g17r4 A x0 x1 x2 x3) (g17r5 A x0 x1 x2 x3)], 5, 2⟩)]) := g17is_spec h
def g17o (A : Ar) (args : List AV) (h : Heap) : Option (Bool × AV × Heap) := match args, h with
  | [.v (.cell (.ptr n0 n1 none))], [(n2, ⟨[.one (.int .i64 x0), .one (.sl n3 none x1 n4)], n5, n6⟩), (n7, ⟨[.nums .u8 x2 x3], n8, n9⟩)] => match Nat.beq n0 0 && (Nat.beq n1 0 && (Nat.beq n2 0 && (Nat.beq n3 501 && (Nat.beq n4 1 && (Nat.beq n5 56 && (Nat.beq n6 1 && (Nat.beq n7 501 && (Nat.beq n8 5 && (Nat.beq n9 2))))))))) with
    | true => some (g17ok A x0 x1 x2 x3, (.tup [(.cell (.str (g17r0 A x0 x1 x2 x3))), (.cell (.int .i64 (g17r1 A x0 x1 x2 x3)))]), [(0, ⟨[.one (.int .i64 (g17r2 A x0 x1 x2 x3)), .one (.sl 501 none (g17r3 A x0 x1 x2 x3) 1)], 56, 1⟩), (501, ⟨[.nums .u8 (g17r4 A x0 x1 x2 x3) (g17r5 A x0 x1 x2 x3)], 5, 2⟩)])
    | false => none
  | _, _ => none
theorem g17o_sound : ∀ args h v h', g17o realA args h = some (true, v, h') → FnH Try.prog 17 args h v h' := by
  intro args h v h' hh
  unfold g17o at hh
  split at hh
  · rename_i n0 n1 n2 x0 n3 x1 n4 n5 n6 n7 x2 x3 n8 n9
    split at hh
    case h_2 => cases hh
    rename_i hc0
    simp only [Option.some.injEq, Prod.mk.injEq] at hh
    obtain ⟨hc, hv, hh⟩ := hh
    subst hv
    subst hh
    simp only [Bool.and_eq_true] at hc0
    have en0 := beq_true hc0.1
    subst en0
    replace hc0 := hc0.2
    have en1 := beq_true hc0.1
    subst en1
    replace hc0 := hc0.2
    have en2 := beq_true hc0.1
    subst en2
    replace hc0 := hc0.2
    have en3 := beq_true hc0.1
    subst en3
    replace hc0 := hc0.2
    have en4 := beq_true hc0.1
    subst en4
    replace hc0 := hc0.2
    have en5 := beq_true hc0.1
    subst en5
    replace hc0 := hc0.2
    have en6 := beq_true hc0.1
    subst en6
    replace hc0 := hc0.2
    have en7 := beq_true hc0.1
    subst en7
    replace hc0 := hc0.2
    have en8 := beq_true hc0.1
    subst en8
    replace hc0 := hc0.2
    have en9 := beq_true hc0
    subst en9
    exact fnh_ofG mixed gtysOK g17O_sound g17O_det (an := g17an) (cut := g17cut) Try.func17 (c := bodyOf Try.f17) rfl (by kernel_rfl) Try.call17 (Nat.le_of_ble_eq_true rfl) (pins := [0, 501]) (nilr := none) (fun _ => (show g17v realA x0 x1 x2 x3 = _ from g17ok_spec hc)) fun _ st => g17_go st
  · cases hh
attribute [local irreducible] g17ok g17r0 g17r1 g17r2 g17r3 g17r4 g17r5
def g29a_O (A : Ar) : Orc := orcOf []
theorem g29a_O_sound : OSound Try.prog (g29a_O realA) := orc_sound fun f g hm args v hv => by
  cases hm
theorem g29a_O_det : ODet (g29a_O realA) := orc_det _
def g29a_an : Ann := [(0, ([0, 1, 2], [0])), (1, ([0, 1, 2], [0])), (2, ([0, 2], [0])), (3, ([0], [0]))]
def g29a_res : List ResultVar := [.tmp 6]
def g29a_cut : List Nat := [3]
noncomputable def g29a_N {R : Type} (A : Ar) (kk : AV → Heap → Option R) (t : List Bool → St → Option R) (p : List Bool) (s : St) : Option R := nodeN A gtys (g29a_O A) g29a_an g29a_cut t (bodyOf Try.f29) (finD gtys g29a_res kk) p s
def g29a_J3s (x0 : Int) (x1 : List Nat) : St := ⟨[(0, (pT 0 0))], [(0, ⟨[.one (.int .i64 x0), .one (.str x1)], 59, 1⟩)]⟩
def g29a_J3 {R : Type} (A : Ar) (n : Nat) (kk : AV → Heap → Option R)  (x0 : Int) (x1 : List Nat) : Option R :=
  kk (bO (A.ic .eql x0 0)) [(0, ⟨[.one (.int .i64 x0), .one (.str x1)], 59, 1⟩)]
def g29a_ {R : Type} (A : Ar) (n : Nat) (kk : AV → Heap → Option R) (x0 : Bool) (x1 x2 : Int) (x3 : List Nat) : Option R :=
  match A.ic .eql x2 0 with
  | true => match !x0 with
    | true => g29a_J3 A n kk  x1 x3
    | false => g29a_J3 A n kk  x2 x3
  | false => g29a_J3 A n kk  x2 x3
section
variable {R : Type} {A : Ar} {n : Nat} {kk : AV → Heap → Option R} {tb : Nat → List Bool → St → Option R} (st : Stp (g29a_N A kk) tb)
include st
theorem g29a_J3_go {x0 : Int} {x1 : List Nat} : Prs (fun k => tb k (pth 7) (g29a_J3s x0 x1)) (g29a_J3 A n kk x0 x1) := by
  unfold g29a_J3
  exact st.g (pc (pf _) (by kernel_rfl))
theorem g29a__go {x0 : Bool} {x1 : Int} {x2 : Int} {x3 : List Nat} : Prs (fun k => funN A gtys (g29a_O A) g29a_an g29a_cut (bodyOf Try.f29) g29a_res [(pT 0 0), (bO x0), (i6 x1)] [(0, ⟨[.one (.int .i64 x2), .one (.str x3)], 59, 1⟩)] kk (tb k)) (g29a_ A n kk x0 x1 x2 x3) := by
  unfold g29a_
  exact pc (SxB13api _ (SxB13api _ (g29a_J3_go st) (g29a_J3_go st)) (g29a_J3_go st)) (by kernel_rfl)
end
def g29a_is (o : Option (AV × Heap)) : Bool := match o with
  | some (.v (.cell (.bool _)), [(n0, ⟨[.one (.int .i64 _), .one (.str _)], n1, n2⟩)]) => Nat.beq n0 0 && (Nat.beq n1 59 && (Nat.beq n2 1))
  | _ => false
def g29a_g0 (o : Option (AV × Heap)) : Bool := match o with
  | some (.v (.cell (.bool x)), [(_, ⟨[.one (.int .i64 _), .one (.str _)], _, _⟩)]) => x
  | _ => false
def g29a_g1 (o : Option (AV × Heap)) : Int := match o with
  | some (.v (.cell (.bool _)), [(_, ⟨[.one (.int .i64 x), .one (.str _)], _, _⟩)]) => x
  | _ => 0
def g29a_g2 (o : Option (AV × Heap)) : List Nat := match o with
  | some (.v (.cell (.bool _)), [(_, ⟨[.one (.int .i64 _), .one (.str x)], _, _⟩)]) => x
  | _ => []
theorem g29a_is_spec {o : Option (AV × Heap)} (h : g29a_is o = true) : o = some ((bO (g29a_g0 o)), [(0, ⟨[.one (.int .i64 (g29a_g1 o)), .one (.str (g29a_g2 o))], 59, 1⟩)]) := by
  unfold g29a_is at h
  split at h
  · rename_i z0 n0 z2 z3 n1 n2
    simp only [Bool.and_eq_true] at h
    have en0 := beq_true h.1
    subst en0
    replace h := h.2
    have en1 := beq_true h.1
    subst en1
    replace h := h.2
    have en2 := beq_true h
    subst en2
    rfl
  · cases h
def g29a_v (A : Ar) (x0 : Bool) (x1 x2 : Int) (x3 : List Nat) : Option (AV × Heap) := g29a_ A (100000) (outH [0] none) x0 x1 x2 x3
def g29a_ok (A : Ar) (x0 : Bool) (x1 x2 : Int) (x3 : List Nat) : Bool := g29a_is (g29a_v A x0 x1 x2 x3)
def g29a_r0 (A : Ar) (x0 : Bool) (x1 x2 : Int) (x3 : List Nat) : Bool := g29a_g0 (g29a_v A x0 x1 x2 x3)
def g29a_r1 (A : Ar) (x0 : Bool) (x1 x2 : Int) (x3 : List Nat) : Int := g29a_g1 (g29a_v A x0 x1 x2 x3)
def g29a_r2 (A : Ar) (x0 : Bool) (x1 x2 : Int) (x3 : List Nat) : List Nat := g29a_g2 (g29a_v A x0 x1 x2 x3)
theorem g29a_ok_spec {A : Ar} {x0 x1 x2 x3} (h : g29a_ok A x0 x1 x2 x3 = true) : g29a_v A x0 x1 x2 x3 = some ((bO (g29a_r0 A x0 x1 x2 x3)), [(0, ⟨[.one (.int .i64 (g29a_r1 A x0 x1 x2 x3)), .one (.str (g29a_r2 A x0 x1 x2 x3))], 59, 1⟩)]) := g29a_is_spec h
def g29a_o (A : Ar) (args : List AV) (h : Heap) : Option (Bool × AV × Heap) := match args, h with
  | [.v (.cell (.ptr n0 n1 none)), .v (.cell (.bool x0)), .v (.cell (.int .i64 x1))], [(n2, ⟨[.one (.int .i64 x2), .one (.str x3)], n3, n4⟩)] => match Nat.beq n0 0 && (Nat.beq n1 0 && (Nat.beq n2 0 && (Nat.beq n3 59 && (Nat.beq n4 1)))) with
    | true => some (g29a_ok A x0 x1 x2 x3, (bO (g29a_r0 A x0 x1 x2 x3)), [(0, ⟨[.one (.int .i64 (g29a_r1 A x0 x1 x2 x3)), .one (.str (g29a_r2 A x0 x1 x2 x3))], 59, 1⟩)])
    | false => none
  | _, _ => none
theorem g29a_o_sound : ∀ args h v h', g29a_o realA args h = some (true, v, h') → FnH Try.prog 29 args h v h' := by
  intro args h v h' hh
  unfold g29a_o at hh
  split at hh
  · rename_i n0 n1 x0 x1 n2 x2 x3 n3 n4
    split at hh
    case h_2 => cases hh
    rename_i hc0
    simp only [Option.some.injEq, Prod.mk.injEq] at hh
    obtain ⟨hc, hv, hh⟩ := hh
    subst hv
    subst hh
    simp only [Bool.and_eq_true] at hc0
    have en0 := beq_true hc0.1
    subst en0
    replace hc0 := hc0.2
    have en1 := beq_true hc0.1
    subst en1
    replace hc0 := hc0.2
    have en2 := beq_true hc0.1
    subst en2
    replace hc0 := hc0.2
    have en3 := beq_true hc0.1
    subst en3
    replace hc0 := hc0.2
    have en4 := beq_true hc0
    subst en4
    exact fnh_ofG mixed gtysOK g29a_O_sound g29a_O_det (an := g29a_an) (cut := g29a_cut) Try.func29 (c := bodyOf Try.f29) rfl (by kernel_rfl) Try.call29 (Nat.le_of_ble_eq_true rfl) (pins := [0]) (nilr := none) (fun _ => (show g29a_v realA x0 x1 x2 x3 = _ from g29a_ok_spec hc)) fun _ st => g29a__go st
  · cases hh
attribute [local irreducible] g29a_ok g29a_r0 g29a_r1 g29a_r2
def g21O (A : Ar) : Orc := orcH [] [(29, ⟨[], none, (ho2 (g29o A) (g29a_o A))⟩)]
theorem g21O_sound : OSound Try.prog (g21O realA) := orcH_sound (fun f g hm args v hv => by
    cases hm) (fun f e hm args h v h' hv => by
    simp only [List.mem_cons, List.not_mem_nil, or_false, Prod.mk.injEq] at hm
    rcases hm with ⟨rfl, rfl⟩
    · exact (ho2_sound g29o_sound g29a_o_sound) _ _ _ _ hv)
theorem g21O_det : ODet (g21O realA) := orcH_det _ _
def g21an : Ann := [(0, ([0, 1], [0])), (1, ([0, 1], [0])), (2, ([], [0])), (3, ([0, 1], [0])), (4, ([0, 1, 5], [0])), (5, ([5], [0]))]
def g21res : List ResultVar := [.tmp 4]
def g21cut : List Nat := [3]
abbrev g21t0 (A : Ar) (x0 x1 : Int) (x2 : List Nat) : Bool := g29a_r0 A (A.ic .leq x0 (A.ofN ((g29a_r2 A (A.ic .geq x0 0) 1 x1 x2).length))) 2 (g29a_r1 A (A.ic .geq x0 0) 1 x1 x2) (g29a_r2 A (A.ic .geq x0 0) 1 x1 x2)
abbrev g21t1 (A : Ar) (x0 x1 : Int) (x2 : List Nat) : Int := g29a_r1 A (A.ic .leq x0 (A.ofN ((g29a_r2 A (A.ic .geq x0 0) 1 x1 x2).length))) 2 (g29a_r1 A (A.ic .geq x0 0) 1 x1 x2) (g29a_r2 A (A.ic .geq x0 0) 1 x1 x2)
abbrev g21t2 (A : Ar) (x0 x1 : Int) (x2 : List Nat) : List Nat := g29a_r2 A (A.ic .leq x0 (A.ofN ((g29a_r2 A (A.ic .geq x0 0) 1 x1 x2).length))) 2 (g29a_r1 A (A.ic .geq x0 0) 1 x1 x2) (g29a_r2 A (A.ic .geq x0 0) 1 x1 x2)
noncomputable def g21N {R : Type} (A : Ar) (kk : AV → Heap → Option R) (t : List Bool → St → Option R) (p : List Bool) (s : St) : Option R := nodeN A gtys (g21O A) g21an g21cut t (bodyOf Try.f21) (finD gtys g21res kk) p s
def g21J3s (x0 x1 : Int) (x2 : List Nat) : St := ⟨[(0, (pT 0 0)), (1, (i6 x0))], [(0, ⟨[.one (.int .i64 x1), .one (.str x2)], 59, 1⟩)]⟩
def g21J3 {R : Type} (A : Ar) (n : Nat) (kk : AV → Heap → Option R)  (x0 x1 : Int) (x2 : List Nat) : Option R :=
  match A.neg x0 with
  | true => none
  | false => match A.le (A.toN x0) x2.length with
    | true => match A.neg x0 with
      | true => none
      | false => match A.le (A.toN x0) x2.length with
        | true => kk (tS ((x2.take (A.toN x0)).drop 0)) [(0, ⟨[.one (.int .i64 x1), .one (.str ((x2.take x2.length).drop (A.toN x0)))], 59, 1⟩)]
        | false => none
    | false => none
def g21 {R : Type} (A : Ar) (n : Nat) (kk : AV → Heap → Option R) (x0 x1 : Int) (x2 : List Nat) : Option R :=
  match g29a_ok A (A.ic .geq x0 0) 1 x1 x2 with
  | true => match !(g29a_r0 A (A.ic .geq x0 0) 1 x1 x2) with
    | true => kk (tS []) [(0, ⟨[.one (.int .i64 (g29a_r1 A (A.ic .geq x0 0) 1 x1 x2)), .one (.str (g29a_r2 A (A.ic .geq x0 0) 1 x1 x2))], 59, 1⟩)]
    | false => match g29a_ok A (A.ic .leq x0 (A.ofN ((g29a_r2 A (A.ic .geq x0 0) 1 x1 x2).length))) 2 (g29a_r1 A (A.ic .geq x0 0) 1 x1 x2) (g29a_r2 A (A.ic .geq x0 0) 1 x1 x2) with
      | true => match !(g21t0 A x0 x1 x2) with
        | true => kk (tS []) [(0, ⟨[.one (.int .i64 (g21t1 A x0 x1 x2)), .one (.str (g21t2 A x0 x1 x2))], 59, 1⟩)]
        | false => g21J3 A n kk  x0 (g21t1 A x0 x1 x2) (g21t2 A x0 x1 x2)
      | false => none
  | false => none
section
variable {R : Type} {A : Ar} {n : Nat} {kk : AV → Heap → Option R} {tb : Nat → List Bool → St → Option R} (st : Stp (g21N A kk) tb)
include st
theorem g21J3_go {x0 : Int} {x1 : Int} {x2 : List Nat} : Prs (fun k => tb k (pth 7) (g21J3s x0 x1 x2)) (g21J3 A n kk x0 x1 x2) := by
  unfold g21J3
  exact st.g (pc (SxB13api _ pn (SxB13api _ (SxB13api _ pn (SxB13api _ (pf _) pn)) pn)) (by kernel_rfl))
theorem g21_go {x0 : Int} {x1 : Int} {x2 : List Nat} : Prs (fun k => funN A gtys (g21O A) g21an g21cut (bodyOf Try.f21) g21res [(pT 0 0), (i6 x0)] [(0, ⟨[.one (.int .i64 x1), .one (.str x2)], 59, 1⟩)] kk (tb k)) (g21 A n kk x0 x1 x2) := by
  unfold g21
  exact pc (SxB13api _ (SxB13api _ (pf _) (SxB13api _ (SxB13api _ (pf _) (g21J3_go st)) pn)) pn) (by kernel_rfl)
end
def g21is (o : Option (AV × Heap)) : Bool := match o with
  | some (.v (.cell (.str _)), [(n0, ⟨[.one (.int .i64 _), .one (.str _)], n1, n2⟩)]) => Nat.beq n0 0 && (Nat.beq n1 59 && (Nat.beq n2 1))
  | _ => false
def g21g0 (o : Option (AV × Heap)) : List Nat := match o with
  | some (.v (.cell (.str x)), [(_, ⟨[.one (.int .i64 _), .one (.str _)], _, _⟩)]) => x
  | _ => []
def g21g1 (o : Option (AV × Heap)) : Int := match o with
  | some (.v (.cell (.str _)), [(_, ⟨[.one (.int .i64 x), .one (.str _)], _, _⟩)]) => x
  | _ => 0
def g21g2 (o : Option (AV × Heap)) : List Nat := match o with
  | some (.v (.cell (.str _)), [(_, ⟨[.one (.int .i64 _), .one (.str x)], _, _⟩)]) => x
  | _ => []
theorem g21is_spec {o : Option (AV × Heap)} (h : g21is o = true) : o = some ((tS (g21g0 o)), [(0, ⟨[.one (.int .i64 (g21g1 o)), .one (.str (g21g2 o))], 59, 1⟩)]) := by
  unfold g21is at h
  split at h
  · rename_i z0 n0 z2 z3 n1 n2
    simp only [Bool.and_eq_true] at h
    have en0 := beq_true h.1
    subst en0
    replace h := h.2
    have en1 := beq_true h.1
    subst en1
    replace h := h.2
    have en2 := beq_true h
    subst en2
    rfl
  · cases h
def g21v (A : Ar) (x0 x1 : Int) (x2 : List Nat) : Option (AV × Heap) := g21 A (100000) (outH [0] none) x0 x1 x2
def g21ok (A : Ar) (x0 x1 : Int) (x2 : List Nat) : Bool := g21is (g21v A x0 x1 x2)
def g21r0 (A : Ar) (x0 x1 : Int) (x2 : List Nat) : List Nat := g21g0 (g21v A x0 x1 x2)
def g21r1 (A : Ar) (x0 x1 : Int) (x2 : List Nat) : Int := g21g1 (g21v A x0 x1 x2)
def g21r2 (A : Ar) (x0 x1 : Int) (x2 : List Nat) : List Nat := g21g2 (g21v A x0 x1 x2)
theorem g21ok_spec {A : Ar} {x0 x1 x2} (h : g21ok A x0 x1 x2 = true) : g21v A x0 x1 x2 = some ((tS (g21r0 A x0 x1 x2)), [(0, ⟨[.one (.int .i64 (g21r1 A x0 x1 x2)), .one (.str (g21r2 A x0 x1 x2))], 59, 1⟩)]) := g21is_spec h
def g21o (A : Ar) (args : List AV) (h : Heap) : Option (Bool × AV × Heap) := match args, h with
  | [.v (.cell (.ptr n0 n1 none)), .v (.cell (.int .i64 x0))], [(n2, ⟨[.one (.int .i64 x1), .one (.str x2)], n3, n4⟩)] => match Nat.beq n0 0 && (Nat.beq n1 0 && (Nat.beq n2 0 && (Nat.beq n3 59 && (Nat.beq n4 1)))) with
    | true => some (g21ok A x0 x1 x2, (tS (g21r0 A x0 x1 x2)), [(0, ⟨[.one (.int .i64 (g21r1 A x0 x1 x2)), .one (.str (g21r2 A x0 x1 x2))], 59, 1⟩)])
    | false => none
  | _, _ => none
theorem g21o_sound : ∀ args h v h', g21o realA args h = some (true, v, h') → FnH Try.prog 21 args h v h' := by
  intro args h v h' hh
  unfold g21o at hh
  split at hh
  · rename_i n0 n1 x0 n2 x1 x2 n3 n4
    split at hh
    case h_2 => cases hh
    rename_i hc0
    simp only [Option.some.injEq, Prod.mk.injEq] at hh
    obtain ⟨hc, hv, hh⟩ := hh
    subst hv
    subst hh
    simp only [Bool.and_eq_true] at hc0
    have en0 := beq_true hc0.1
    subst en0
    replace hc0 := hc0.2
    have en1 := beq_true hc0.1
    subst en1
    replace hc0 := hc0.2
    have en2 := beq_true hc0.1
    subst en2
    replace hc0 := hc0.2
    have en3 := beq_true hc0.1
    subst en3
    replace hc0 := hc0.2
    have en4 := beq_true hc0
    subst en4
    exact fnh_ofG mixed gtysOK g21O_sound g21O_det (an := g21an) (cut := g21cut) Try.func21 (c := bodyOf Try.f21) rfl (by kernel_rfl) Try.call21 (Nat.le_of_ble_eq_true rfl) (pins := [0]) (nilr := none) (fun _ => (show g21v realA x0 x1 x2 = _ from g21ok_spec hc)) fun _ st => g21_go st
  · cases hh
attribute [local irreducible] g21ok g21r0 g21r1 g21r2
def g19O (A : Ar) : Orc := orcH [] [(29, ⟨[], none, (ho2 (g29o A) (g29a_o A))⟩), (21, ⟨[], none, (g21o A)⟩)]
theorem g19O_sound : OSound Try.prog (g19O realA) := orcH_sound (fun f g hm args v hv => by
    cases hm) (fun f e hm args h v h' hv => by
    simp only [List.mem_cons, List.not_mem_nil, or_false, Prod.mk.injEq] at hm
    rcases hm with ⟨rfl, rfl⟩ | ⟨rfl, rfl⟩
    · exact (ho2_sound g29o_sound g29a_o_sound) _ _ _ _ hv
    · exact g21o_sound _ _ _ _ hv)
theorem g19O_det : ODet (g19O realA) := orcH_det _ _
def g19an : Ann := [(0, ([0, 1], [0])), (1, ([0, 1], [0])), (2, ([], [0])), (3, ([0, 1], [0])), (4, ([0, 1, 5], [0])), (5, ([5, 22, 23, 24], [0, 5003])), (6, ([5, 22, 23, 24], [0, 5003])), (7, ([5, 7, 22, 23, 24], [0, 5003])), (8, ([5, 22, 23, 24], [0, 5003])), (9, ([5], [0]))]
def g19res : List ResultVar := [.tmp 4]
def g19cut : List Nat := [3, 6]
noncomputable def g19N {R : Type} (A : Ar) (kk : AV → Heap → Option R) (t : List Bool → St → Option R) (p : List Bool) (s : St) : Option R := nodeN A gtys (g19O A) g19an g19cut t (bodyOf Try.f19) (finD gtys g19res kk) p s
def g19J6s (x0 : Int) (x1 : Nat) (x2 x3 x4 : Int) (x5 : List Nat) (x6 : Nat) (x7 : List Nat) : St := ⟨[(5, (i6 x0)), (22, (sL 5003 none x1 1)), (23, (i6 x2)), (24, (i6 x3))], [(0, ⟨[.one (.int .i64 x4), .one (.str x5)], 59, 1⟩), (5003, ⟨[.nums .u8 x6 x7], 5, 1⟩)]⟩
def g19J6 {R : Type} (A : Ar) (n : Nat) (kk : AV → Heap → Option R) (lg19L5 : Int → Nat → Int → Int → Int → List Nat → Nat → List Nat → Option R) (x0 : Int) (x1 : Nat) (x2 x3 x4 : Int) (x5 : List Nat) (x6 : Nat) (x7 : List Nat) : Option R :=
  match A.neg x3 with
  | true => none
  | false => match A.lt (A.toN x3) x1 with
    | true => lg19L5 (A.ib .or .i64 (A.ish .shl .i64 x0 8) (A.ofN (x7.getD (A.toN x3) 0))) x1 x2 (A.ib .add .i64 x3 1) x4 x5 x6 x7
    | false => none
def g19L5s (x0 : Int) (x1 : Nat) (x2 x3 x4 : Int) (x5 : List Nat) (x6 : Nat) (x7 : List Nat) : St := ⟨[(5, (i6 x0)), (22, (sL 5003 none x1 1)), (23, (i6 x2)), (24, (i6 x3))], [(0, ⟨[.one (.int .i64 x4), .one (.str x5)], 59, 1⟩), (5003, ⟨[.nums .u8 x6 x7], 5, 1⟩)]⟩
def g19L5 {R : Type} (A : Ar) (n : Nat) (kk : AV → Heap → Option R)  : Nat → Int → Nat → Int → Int → Int → List Nat → Nat → List Nat → Option R
  | 0, _, _, _, _, _, _, _, _ => none
  | m + 1, x0, x1, x2, x3, x4, x5, x6, x7 => match A.ic .lss x3 x2 with
  | true => g19J6 A n kk (g19L5 A n kk  m) x0 x1 x2 x3 x4 x5 x6 x7
  | false => kk (i6 x0) [(0, ⟨[.one (.int .i64 x4), .one (.str x5)], 59, 1⟩)]
def g19J3s (x0 x1 : Int) (x2 : List Nat) : St := ⟨[(0, (pT 0 0)), (1, (i6 x0))], [(0, ⟨[.one (.int .i64 x1), .one (.str x2)], 59, 1⟩)]⟩
def g19J3 {R : Type} (A : Ar) (n : Nat) (kk : AV → Heap → Option R)  (x0 x1 : Int) (x2 : List Nat) : Option R :=
  match g21ok A x0 x1 x2 with
  | true => match A.le ((g21r0 A x0 x1 x2).length) 9223372036854775807 with
    | true => g19L5 A n kk  n 0 ((g21r0 A x0 x1 x2).length) (A.ofN ((g21r0 A x0 x1 x2).length)) 0 (g21r1 A x0 x1 x2) (g21r2 A x0 x1 x2) ((g21r0 A x0 x1 x2).length) (g21r0 A x0 x1 x2)
    | false => none
  | false => none
def g19 {R : Type} (A : Ar) (n : Nat) (kk : AV → Heap → Option R) (x0 x1 : Int) (x2 : List Nat) : Option R :=
  match A.ic .geq x0 1 with
  | true => match g29a_ok A (A.ic .leq x0 7) 1 x1 x2 with
    | true => match !(g29a_r0 A (A.ic .leq x0 7) 1 x1 x2) with
      | true => kk (i6 0) [(0, ⟨[.one (.int .i64 (g29a_r1 A (A.ic .leq x0 7) 1 x1 x2)), .one (.str (g29a_r2 A (A.ic .leq x0 7) 1 x1 x2))], 59, 1⟩)]
      | false => g19J3 A n kk  x0 (g29a_r1 A (A.ic .leq x0 7) 1 x1 x2) (g29a_r2 A (A.ic .leq x0 7) 1 x1 x2)
    | false => none
  | false => match g29a_ok A false 1 x1 x2 with
    | true => match !(g29a_r0 A false 1 x1 x2) with
      | true => kk (i6 0) [(0, ⟨[.one (.int .i64 (g29a_r1 A false 1 x1 x2)), .one (.str (g29a_r2 A false 1 x1 x2))], 59, 1⟩)]
      | false => g19J3 A n kk  x0 (g29a_r1 A false 1 x1 x2) (g29a_r2 A false 1 x1 x2)
    | false => none
section
variable {R : Type} {A : Ar} {n : Nat} {kk : AV → Heap → Option R} {tb : Nat → List Bool → St → Option R} (st : Stp (g19N A kk) tb)
include st
theorem g19J6_go {lg19L5 : Int → Nat → Int → Int → Int → List Nat → Nat → List Nat → Option R} (hg19L5 : ∀ (x0 : Int) (x1 : Nat) (x2 x3 x4 : Int) (x5 : List Nat) (x6 : Nat) (x7 : List Nat), Prs (fun k => tb k (pth 244) (g19L5s x0 x1 x2 x3 x4 x5 x6 x7)) (lg19L5 x0 x1 x2 x3 x4 x5 x6 x7)) {x0 : Int} {x1 : Nat} {x2 : Int} {x3 : Int} {x4 : Int} {x5 : List Nat} {x6 : Nat} {x7 : List Nat} : Prs (fun k => tb k (pth 979) (g19J6s x0 x1 x2 x3 x4 x5 x6 x7)) (g19J6 A n kk lg19L5 x0 x1 x2 x3 x4 x5 x6 x7) := by
  unfold g19J6
  exact st.g (pc (SxB13api _ pn (SxB13api _ (hg19L5 _ _ _ _ _ _ _ _) pn)) (by kernel_rfl))
theorem g19L5_go (m : Nat) : ∀ (x0 : Int) (x1 : Nat) (x2 x3 x4 : Int) (x5 : List Nat) (x6 : Nat) (x7 : List Nat), Prs (fun k => tb k (pth 244) (g19L5s x0 x1 x2 x3 x4 x5 x6 x7)) (g19L5 A n kk m x0 x1 x2 x3 x4 x5 x6 x7) := by
  induction m with
  | zero => intro x0 x1 x2 x3 x4 x5 x6 x7; exact pn0
  | succ m ih =>
    intro x0 x1 x2 x3 x4 x5 x6 x7; rw [g19L5]
    exact st.g (pc (SxB13api _ (g19J6_go st ih) (pf _)) (by kernel_rfl))
theorem g19J3_go {x0 : Int} {x1 : Int} {x2 : List Nat} : Prs (fun k => tb k (pth 7) (g19J3s x0 x1 x2)) (g19J3 A n kk x0 x1 x2) := by
  unfold g19J3
  exact st.g (pc (SxB13api _ (SxB13api _ (g19L5_go st n _ _ _ _ _ _ _ _) pn) pn) (by kernel_rfl))
theorem g19_go {x0 : Int} {x1 : Int} {x2 : List Nat} : Prs (fun k => funN A gtys (g19O A) g19an g19cut (bodyOf Try.f19) g19res [(pT 0 0), (i6 x0)] [(0, ⟨[.one (.int .i64 x1), .one (.str x2)], 59, 1⟩)] kk (tb k)) (g19 A n kk x0 x1 x2) := by
  unfold g19
  exact pc (SxB13api _ (SxB13api _ (SxB13api _ (pf _) (g19J3_go st)) pn) (SxB13api _ (SxB13api _ (pf _) (g19J3_go st)) pn)) (by kernel_rfl)
end
def g19is (o : Option (AV × Heap)) : Bool := match o with
  | some (.v (.cell (.int .i64 _)), [(n0, ⟨[.one (.int .i64 _), .one (.str _)], n1, n2⟩)]) => Nat.beq n0 0 && (Nat.beq n1 59 && (Nat.beq n2 1))
  | _ => false
def g19g0 (o : Option (AV × Heap)) : Int := match o with
  | some (.v (.cell (.int .i64 x)), [(_, ⟨[.one (.int .i64 _), .one (.str _)], _, _⟩)]) => x
  | _ => 0
def g19g1 (o : Option (AV × Heap)) : Int := match o with
  | some (.v (.cell (.int .i64 _)), [(_, ⟨[.one (.int .i64 x), .one (.str _)], _, _⟩)]) => x
  | _ => 0
def g19g2 (o : Option (AV × Heap)) : List Nat := match o with
  | some (.v (.cell (.int .i64 _)), [(_, ⟨[.one (.int .i64 _), .one (.str x)], _, _⟩)]) => x
  | _ => []
theorem g19is_spec {o : Option (AV × Heap)} (h : g19is o = true) : o = some ((i6 (g19g0 o)), [(0, ⟨[.one (.int .i64 (g19g1 o)), .one (.str (g19g2 o))], 59, 1⟩)]) := by
  unfold g19is at h
  split at h
  · rename_i z0 n0 z2 z3 n1 n2
    simp only [Bool.and_eq_true] at h
    have en0 := beq_true h.1
    subst en0
    replace h := h.2
    have en1 := beq_true h.1
    subst en1
    replace h := h.2
    have en2 := beq_true h
    subst en2
    rfl
  · cases h
def g19v (A : Ar) (x0 x1 : Int) (x2 : List Nat) : Option (AV × Heap) := g19 A (100000) (outH [0] none) x0 x1 x2
def g19ok (A : Ar) (x0 x1 : Int) (x2 : List Nat) : Bool := g19is (g19v A x0 x1 x2)
def g19r0 (A : Ar) (x0 x1 : Int) (x2 : List Nat) : Int := g19g0 (g19v A x0 x1 x2)
def g19r1 (A : Ar) (x0 x1 : Int) (x2 : List Nat) : Int := g19g1 (g19v A x0 x1 x2)
def g19r2 (A : Ar) (x0 x1 : Int) (x2 : List Nat) : List Nat := g19g2 (g19v A x0 x1 x2)
theorem g19ok_spec {A : Ar} {x0 x1 x2} (h : g19ok A x0 x1 x2 = true) : g19v A x0 x1 x2 = some ((i6 (g19r0 A x0 x1 x2)), [(0, ⟨[.one (.int .i64 (g19r1 A x0 x1 x2)), .one (.str (g19r2 A x0 x1 x2))], 59, 1⟩)]) := g19is_spec h
def g19o (A : Ar) (args : List AV) (h : Heap) : Option (Bool × AV × Heap) := match args, h with
  | [.v (.cell (.ptr n0 n1 none)), .v (.cell (.int .i64 x0))], [(n2, ⟨[.one (.int .i64 x1), .one (.str x2)], n3, n4⟩)] => match Nat.beq n0 0 && (Nat.beq n1 0 && (Nat.beq n2 0 && (Nat.beq n3 59 && (Nat.beq n4 1)))) with
    | true => some (g19ok A x0 x1 x2, (i6 (g19r0 A x0 x1 x2)), [(0, ⟨[.one (.int .i64 (g19r1 A x0 x1 x2)), .one (.str (g19r2 A x0 x1 x2))], 59, 1⟩)])
    | false => none
  | _, _ => none
theorem g19o_sound : ∀ args h v h', g19o realA args h = some (true, v, h') → FnH Try.prog 19 args h v h' := by
  intro args h v h' hh
  unfold g19o at hh
  split at hh
  · rename_i n0 n1 x0 n2 x1 x2 n3 n4
    split at hh
    case h_2 => cases hh
    rename_i hc0
    simp only [Option.some.injEq, Prod.mk.injEq] at hh
    obtain ⟨hc, hv, hh⟩ := hh
    subst hv
    subst hh
    simp only [Bool.and_eq_true] at hc0
    have en0 := beq_true hc0.1
    subst en0
    replace hc0 := hc0.2
    have en1 := beq_true hc0.1
    subst en1
    replace hc0 := hc0.2
    have en2 := beq_true hc0.1
    subst en2
    replace hc0 := hc0.2
    have en3 := beq_true hc0.1
    subst en3
    replace hc0 := hc0.2
    have en4 := beq_true hc0
    subst en4
    exact fnh_ofG mixed gtysOK g19O_sound g19O_det (an := g19an) (cut := g19cut) Try.func19 (c := bodyOf Try.f19) rfl (by kernel_rfl) Try.call19 (Nat.le_of_ble_eq_true rfl) (pins := [0]) (nilr := none) (fun _ => (show g19v realA x0 x1 x2 = _ from g19ok_spec hc)) fun _ st => g19_go st
  · cases hh
attribute [local irreducible] g19ok g19r0 g19r1 g19r2
def g23O (A : Ar) : Orc := orcH [] [(19, ⟨[], none, (g19o A)⟩), (21, ⟨[], none, (g21o A)⟩)]
theorem g23O_sound : OSound Try.prog (g23O realA) := orcH_sound (fun f g hm args v hv => by
    cases hm) (fun f e hm args h v h' hv => by
    simp only [List.mem_cons, List.not_mem_nil, or_false, Prod.mk.injEq] at hm
    rcases hm with ⟨rfl, rfl⟩ | ⟨rfl, rfl⟩
    · exact g19o_sound _ _ _ _ hv
    · exact g21o_sound _ _ _ _ hv)
theorem g23O_det : ODet (g23O realA) := orcH_det _ _
def g23an : Ann := [(0, ([0, 1], [0])), (1, ([0, 1], [0])), (2, ([0, 5], [0]))]
def g23res : List ResultVar := [.tmp 4]
def g23cut : List Nat := []
noncomputable def g23N {R : Type} (A : Ar) (kk : AV → Heap → Option R) (t : List Bool → St → Option R) (p : List Bool) (s : St) : Option R := nodeN A gtys (g23O A) g23an g23cut t (bodyOf Try.f23) (finD gtys g23res kk) p s
def g23 {R : Type} (A : Ar) (n : Nat) (kk : AV → Heap → Option R) (x0 x1 : Int) (x2 : List Nat) : Option R :=
  match g19ok A x0 x1 x2 with
  | true => match g21ok A (g19r0 A x0 x1 x2) (g19r1 A x0 x1 x2) (g19r2 A x0 x1 x2) with
    | true => kk (tS (g21r0 A (g19r0 A x0 x1 x2) (g19r1 A x0 x1 x2) (g19r2 A x0 x1 x2))) [(0, ⟨[.one (.int .i64 (g21r1 A (g19r0 A x0 x1 x2) (g19r1 A x0 x1 x2) (g19r2 A x0 x1 x2))), .one (.str (g21r2 A (g19r0 A x0 x1 x2) (g19r1 A x0 x1 x2) (g19r2 A x0 x1 x2)))], 59, 1⟩)]
    | false => none
  | false => none
section
variable {R : Type} {A : Ar} {n : Nat} {kk : AV → Heap → Option R} {tb : Nat → List Bool → St → Option R} (st : Stp (g23N A kk) tb)
include st
theorem g23_go {x0 : Int} {x1 : Int} {x2 : List Nat} : Prs (fun k => funN A gtys (g23O A) g23an g23cut (bodyOf Try.f23) g23res [(pT 0 0), (i6 x0)] [(0, ⟨[.one (.int .i64 x1), .one (.str x2)], 59, 1⟩)] kk (tb k)) (g23 A n kk x0 x1 x2) := by
  unfold g23
  exact pc (SxB13api _ (SxB13api _ (pf _) pn) pn) (by kernel_rfl)
end
def g23is (o : Option (AV × Heap)) : Bool := match o with
  | some (.v (.cell (.str _)), [(n0, ⟨[.one (.int .i64 _), .one (.str _)], n1, n2⟩)]) => Nat.beq n0 0 && (Nat.beq n1 59 && (Nat.beq n2 1))
  | _ => false
def g23g0 (o : Option (AV × Heap)) : List Nat := match o with
  | some (.v (.cell (.str x)), [(_, ⟨[.one (.int .i64 _), .one (.str _)], _, _⟩)]) => x
  | _ => []
def g23g1 (o : Option (AV × Heap)) : Int := match o with
  | some (.v (.cell (.str _)), [(_, ⟨[.one (.int .i64 x), .one (.str _)], _, _⟩)]) => x
  | _ => 0
def g23g2 (o : Option (AV × Heap)) : List Nat := match o with
  | some (.v (.cell (.str _)), [(_, ⟨[.one (.int .i64 _), .one (.str x)], _, _⟩)]) => x
  | _ => []
theorem g23is_spec {o : Option (AV × Heap)} (h : g23is o = true) : o = some ((tS (g23g0 o)), [(0, ⟨[.one (.int .i64 (g23g1 o)), .one (.str (g23g2 o))], 59, 1⟩)]) := by
  unfold g23is at h
  split at h
  · rename_i z0 n0 z2 z3 n1 n2
    simp only [Bool.and_eq_true] at h
    have en0 := beq_true h.1
    subst en0
    replace h := h.2
    have en1 := beq_true h.1
    subst en1
    replace h := h.2
    have en2 := beq_true h
    subst en2
    rfl
  · cases h
def g23v (A : Ar) (x0 x1 : Int) (x2 : List Nat) : Option (AV × Heap) := g23 A (100000) (outH [0] none) x0 x1 x2
def g23ok (A : Ar) (x0 x1 : Int) (x2 : List Nat) : Bool := g23is (g23v A x0 x1 x2)
def g23r0 (A : Ar) (x0 x1 : Int) (x2 : List Nat) : List Nat := g23g0 (g23v A x0 x1 x2)
def g23r1 (A : Ar) (x0 x1 : Int) (x2 : List Nat) : Int := g23g1 (g23v A x0 x1 x2)
def g23r2 (A : Ar) (x0 x1 : Int) (x2 : List Nat) : List Nat := g23g2 (g23v A x0 x1 x2)
theorem g23ok_spec {A : Ar} {x0 x1 x2} (h : g23ok A x0 x1 x2 = true) : g23v A x0 x1 x2 = some ((tS (g23r0 A x0 x1 x2)), [(0, ⟨[.one (.int .i64 (g23r1 A x0 x1 x2)), .one (.str (g23r2 A x0 x1 x2))], 59, 1⟩)]) := g23is_spec h
def g23o (A : Ar) (args : List AV) (h : Heap) : Option (Bool × AV × Heap) := match args, h with
  | [.v (.cell (.ptr n0 n1 none)), .v (.cell (.int .i64 x0))], [(n2, ⟨[.one (.int .i64 x1), .one (.str x2)], n3, n4⟩)] => match Nat.beq n0 0 && (Nat.beq n1 0 && (Nat.beq n2 0 && (Nat.beq n3 59 && (Nat.beq n4 1)))) with
    | true => some (g23ok A x0 x1 x2, (tS (g23r0 A x0 x1 x2)), [(0, ⟨[.one (.int .i64 (g23r1 A x0 x1 x2)), .one (.str (g23r2 A x0 x1 x2))], 59, 1⟩)])
    | false => none
  | _, _ => none
theorem g23o_sound : ∀ args h v h', g23o realA args h = some (true, v, h') → FnH Try.prog 23 args h v h' := by
  intro args h v h' hh
  unfold g23o at hh
  split at hh
  · rename_i n0 n1 x0 n2 x1 x2 n3 n4
    split at hh
    case h_2 => cases hh
    rename_i hc0
    simp only [Option.some.injEq, Prod.mk.injEq] at hh
    obtain ⟨hc, hv, hh⟩ := hh
    subst hv
    subst hh
    simp only [Bool.and_eq_true] at hc0
    have en0 := beq_true hc0.1
    subst en0
    replace hc0 := hc0.2
    have en1 := beq_true hc0.1
    subst en1
    replace hc0 := hc0.2
    have en2 := beq_true hc0.1
    subst en2
    replace hc0 := hc0.2
    have en3 := beq_true hc0.1
    subst en3
    replace hc0 := hc0.2
    have en4 := beq_true hc0
    subst en4
    exact fnh_ofG mixed gtysOK g23O_sound g23O_det (an := g23an) (cut := g23cut) Try.func23 (c := bodyOf Try.f23) rfl (by kernel_rfl) Try.call23 (Nat.le_of_ble_eq_true rfl) (pins := [0]) (nilr := none) (fun _ => (show g23v realA x0 x1 x2 = _ from g23ok_spec hc)) fun _ st => g23_go st
  · cases hh
attribute [local irreducible] g23ok g23r0 g23r1 g23r2
def g25O (A : Ar) : Orc := orcOf []
theorem g25O_sound : OSound Try.prog (g25O realA) := orc_sound fun f g hm args v hv => by
  cases hm
theorem g25O_det : ODet (g25O realA) := orc_det _
def g25an : Ann := [(0, ([0], [0])), (1, ([0], [0])), (2, ([], [0])), (3, ([0], [0]))]
def g25res : List ResultVar := [.tmp 2]
def g25cut : List Nat := [3]
noncomputable def g25N {R : Type} (A : Ar) (kk : AV → Heap → Option R) (t : List Bool → St → Option R) (p : List Bool) (s : St) : Option R := nodeN A gtys (g25O A) g25an g25cut t (bodyOf Try.f25) (finD gtys g25res kk) p s
def g25J3s (x0 : Int) (x1 : List Nat) : St := ⟨[(0, (pT 0 0))], [(0, ⟨[.one (.int .i64 x0), .one (.str x1)], 59, 1⟩)]⟩
def g25J3 {R : Type} (A : Ar) (n : Nat) (kk : AV → Heap → Option R)  (x0 : Int) (x1 : List Nat) : Option R :=
  kk (i6 (A.ofN x1.length)) [(0, ⟨[.one (.int .i64 x0), .one (.str x1)], 59, 1⟩)]
def g25 {R : Type} (A : Ar) (n : Nat) (kk : AV → Heap → Option R) (x0 : Int) (x1 : List Nat) : Option R :=
  match A.ic .neq x0 0 with
  | true => kk (i6 0) [(0, ⟨[.one (.int .i64 x0), .one (.str x1)], 59, 1⟩)]
  | false => g25J3 A n kk  x0 x1
section
variable {R : Type} {A : Ar} {n : Nat} {kk : AV → Heap → Option R} {tb : Nat → List Bool → St → Option R} (st : Stp (g25N A kk) tb)
include st
theorem g25J3_go {x0 : Int} {x1 : List Nat} : Prs (fun k => tb k (pth 7) (g25J3s x0 x1)) (g25J3 A n kk x0 x1) := by
  unfold g25J3
  exact st.g (pc (pf _) (by kernel_rfl))
theorem g25_go {x0 : Int} {x1 : List Nat} : Prs (fun k => funN A gtys (g25O A) g25an g25cut (bodyOf Try.f25) g25res [(pT 0 0)] [(0, ⟨[.one (.int .i64 x0), .one (.str x1)], 59, 1⟩)] kk (tb k)) (g25 A n kk x0 x1) := by
  unfold g25
  exact pc (SxB13api _ (pf _) (g25J3_go st)) (by kernel_rfl)
end
def g25is (o : Option (AV × Heap)) : Bool := match o with
  | some (.v (.cell (.int .i64 _)), [(n0, ⟨[.one (.int .i64 _), .one (.str _)], n1, n2⟩)]) => Nat.beq n0 0 && (Nat.beq n1 59 && (Nat.beq n2 1))
  | _ => false
def g25g0 (o : Option (AV × Heap)) : Int := match o with
  | some (.v (.cell (.int .i64 x)), [(_, ⟨[.one (.int .i64 _), .one (.str _)], _, _⟩)]) => x
  | _ => 0
def g25g1 (o : Option (AV × Heap)) : Int := match o with
  | some (.v (.cell (.int .i64 _)), [(_, ⟨[.one (.int .i64 x), .one (.str _)], _, _⟩)]) => x
  | _ => 0
def g25g2 (o : Option (AV × Heap)) : List Nat := match o with
  | some (.v (.cell (.int .i64 _)), [(_, ⟨[.one (.int .i64 _), .one (.str x)], _, _⟩)]) => x
  | _ => []
theorem g25is_spec {o : Option (AV × Heap)} (h : g25is o = true) : o = some ((i6 (g25g0 o)), [(0, ⟨[.one (.int .i64 (g25g1 o)), .one (.str (g25g2 o))], 59, 1⟩)]) := by
  unfold g25is at h
  split at h
  · rename_i z0 n0 z2 z3 n1 n2
    simp only [Bool.and_eq_true] at h
    have en0 := beq_true h.1
    subst en0
    replace h := h.2
    have en1 := beq_true h.1
    subst en1
    replace h := h.2
    have en2 := beq_true h
    subst en2
    rfl
  · cases h
def g25v (A : Ar) (x0 : Int) (x1 : List Nat) : Option (AV × Heap) := g25 A (100000) (outH [0] none) x0 x1
def g25ok (A : Ar) (x0 : Int) (x1 : List Nat) : Bool := g25is (g25v A x0 x1)
def g25r0 (A : Ar) (x0 : Int) (x1 : List Nat) : Int := g25g0 (g25v A x0 x1)
def g25r1 (A : Ar) (x0 : Int) (x1 : List Nat) : Int := g25g1 (g25v A x0 x1)
def g25r2 (A : Ar) (x0 : Int) (x1 : List Nat) : List Nat := g25g2 (g25v A x0 x1)
theorem g25ok_spec {A : Ar} {x0 x1} (h : g25ok A x0 x1 = true) : g25v A x0 x1 = some ((i6 (g25r0 A x0 x1)), [(0, ⟨[.one (.int .i64 (g25r1 A x0 x1)), .one (.str (g25r2 A x0 x1))], 59, 1⟩)]) := g25is_spec h
def g25o (A : Ar) (args : List AV) (h : Heap) : Option (Bool × AV × Heap) := match args, h with
  | [.v (.cell (.ptr n0 n1 none))], [(n2, ⟨[.one (.int .i64 x0), .one (.str x1)], n3, n4⟩)] => match Nat.beq n0 0 && (Nat.beq n1 0 && (Nat.beq n2 0 && (Nat.beq n3 59 && (Nat.beq n4 1)))) with
    | true => some (g25ok A x0 x1, (i6 (g25r0 A x0 x1)), [(0, ⟨[.one (.int .i64 (g25r1 A x0 x1)), .one (.str (g25r2 A x0 x1))], 59, 1⟩)])
    | false => none
  | _, _ => none
theorem g25o_sound : ∀ args h v h', g25o realA args h = some (true, v, h') → FnH Try.prog 25 args h v h' := by
  intro args h v h' hh
  unfold g25o at hh
  split at hh
  · rename_i n0 n1 n2 x0 x1 n3 n4
    split at hh
    case h_2 => cases hh
    rename_i hc0
    simp only [Option.some.injEq, Prod.mk.injEq] at hh
    obtain ⟨hc, hv, hh⟩ := hh
    subst hv
    subst hh
    simp only [Bool.and_eq_true] at hc0
    have en0 := beq_true hc0.1
    subst en0
    replace hc0 := hc0.2
    have en1 := beq_true hc0.1
    subst en1
    replace hc0 := hc0.2
    have en2 := beq_true hc0.1
    subst en2
    replace hc0 := hc0.2
    have en3 := beq_true hc0.1
    subst en3
    replace hc0 := hc0.2
    have en4 := beq_true hc0
    subst en4
    exact fnh_ofG mixed gtysOK g25O_sound g25O_det (an := g25an) (cut := g25cut) Try.func25 (c := bodyOf Try.f25) rfl (by kernel_rfl) Try.call25 (Nat.le_of_ble_eq_true rfl) (pins := [0]) (nilr := none) (fun _ => (show g25v realA x0 x1 = _ from g25ok_spec hc)) fun _ st => g25_go st
  · cases hh
attribute [local irreducible] g25ok g25r0 g25r1 g25r2
def g27O (A : Ar) : Orc := orcOf []
theorem g27O_sound : OSound Try.prog (g27O realA) := orc_sound fun f g hm args v hv => by
  cases hm
theorem g27O_det : ODet (g27O realA) := orc_det _
def g27an : Ann := [(0, ([0], [0])), (1, ([0], [0])), (2, ([], [0])), (3, ([0], [0]))]
def g27res : List ResultVar := [.tmp 2]
def g27cut : List Nat := [3]
noncomputable def g27N {R : Type} (A : Ar) (kk : AV → Heap → Option R) (t : List Bool → St → Option R) (p : List Bool) (s : St) : Option R := nodeN A gtys (g27O A) g27an g27cut t (bodyOf Try.f27) (finD gtys g27res kk) p s
def g27J3s (x0 : Int) (x1 : List Nat) : St := ⟨[(0, (pT 0 0))], [(0, ⟨[.one (.int .i64 x0), .one (.str x1)], 59, 1⟩)]⟩
def g27J3 {R : Type} (A : Ar) (n : Nat) (kk : AV → Heap → Option R)  (x0 : Int) (x1 : List Nat) : Option R :=
  kk (i6 x0) [(0, ⟨[.one (.int .i64 x0), .one (.str x1)], 59, 1⟩)]
def g27 {R : Type} (A : Ar) (n : Nat) (kk : AV → Heap → Option R) (x0 : Int) (x1 : List Nat) : Option R :=
  match A.ic .eql x0 0 with
  | true => match A.sc .neq x1 [] with
    | true => kk (i6 2) [(0, ⟨[.one (.int .i64 x0), .one (.str x1)], 59, 1⟩)]
    | false => g27J3 A n kk  x0 x1
  | false => g27J3 A n kk  x0 x1
section
variable {R : Type} {A : Ar} {n : Nat} {kk : AV → Heap → Option R} {tb : Nat → List Bool → St → Option R} (st : Stp (g27N A kk) tb)
include st
theorem g27J3_go {x0 : Int} {x1 : List Nat} : Prs (fun k => tb k (pth 7) (g27J3s x0 x1)) (g27J3 A n kk x0 x1) := by
  unfold g27J3
  exact st.g (pc (pf _) (by kernel_rfl))
theorem g27_go {x0 : Int} {x1 : List Nat} : Prs (fun k => funN A gtys (g27O A) g27an g27cut (bodyOf Try.f27) g27res [(pT 0 0)] [(0, ⟨[.one (.int .i64 x0), .one (.str x1)], 59, 1⟩)] kk (tb k)) (g27 A n kk x0 x1) := by
  unfold g27
  exact pc (SxB13api _ (SxB13api _ (pf _) (g27J3_go st)) (g27J3_go st)) (by kernel_rfl)
end
def g27is (o : Option (AV × Heap)) : Bool := match o with
  | some (.v (.cell (.int .i64 _)), [(n0, ⟨[.one (.int .i64 _), .one (.str _)], n1, n2⟩)]) => Nat.beq n0 0 && (Nat.beq n1 59 && (Nat.beq n2 1))
  | _ => false
def g27g0 (o : Option (AV × Heap)) : Int := match o with
  | some (.v (.cell (.int .i64 x)), [(_, ⟨[.one (.int .i64 _), .one (.str _)], _, _⟩)]) => x
  | _ => 0
def g27g1 (o : Option (AV × Heap)) : Int := match o with
  | some (.v (.cell (.int .i64 _)), [(_, ⟨[.one (.int .i64 x), .one (.str _)], _, _⟩)]) => x
  | _ => 0
def g27g2 (o : Option (AV × Heap)) : List Nat := match o with
  | some (.v (.cell (.int .i64 _)), [(_, ⟨[.one (.int .i64 _), .one (.str x)], _, _⟩)]) => x
  | _ => []
theorem g27is_spec {o : Option (AV × Heap)} (h : g27is o = true) : o = some ((i6 (g27g0 o)), [(0, ⟨[.one (.int .i64 (g27g1 o)), .one (.str (g27g2 o))], 59, 1⟩)]) := by
  unfold g27is at h
  split at h
  · rename_i z0 n0 z2 z3 n1 n2
    simp only [Bool.and_eq_true] at h
    have en0 := beq_true h.1
    subst en0
    replace h := h.2
    have en1 := beq_true h.1
    subst en1
    replace h := h.2
    have en2 := beq_true h
    subst en2
    rfl
  · cases h
def g27v (A : Ar) (x0 : Int) (x1 : List Nat) : Option (AV × Heap) := g27 A (100000) (outH [0] none) x0 x1
def g27ok (A : Ar) (x0 : Int) (x1 : List Nat) : Bool := g27is (g27v A x0 x1)
def g27r0 (A : Ar) (x0 : Int) (x1 : List Nat) : Int := g27g0 (g27v A x0 x1)
def g27r1 (A : Ar) (x0 : Int) (x1 : List Nat) : Int := g27g1 (g27v A x0 x1)
def g27r2 (A : Ar) (x0 : Int) (x1 : List Nat) : List Nat := g27g2 (g27v A x0 x1)
theorem g27ok_spec {A : Ar} {x0 x1} (h : g27ok A x0 x1 = true) : g27v A x0 x1 = some ((i6 (g27r0 A x0 x1)), [(0, ⟨[.one (.int .i64 (g27r1 A x0 x1)), .one (.str (g27r2 A x0 x1))], 59, 1⟩)]) := g27is_spec h
def g27o (A : Ar) (args : List AV) (h : Heap) : Option (Bool × AV × Heap) := match args, h with
  | [.v (.cell (.ptr n0 n1 none))], [(n2, ⟨[.one (.int .i64 x0), .one (.str x1)], n3, n4⟩)] => match Nat.beq n0 0 && (Nat.beq n1 0 && (Nat.beq n2 0 && (Nat.beq n3 59 && (Nat.beq n4 1)))) with
    | true => some (g27ok A x0 x1, (i6 (g27r0 A x0 x1)), [(0, ⟨[.one (.int .i64 (g27r1 A x0 x1)), .one (.str (g27r2 A x0 x1))], 59, 1⟩)])
    | false => none
  | _, _ => none
theorem g27o_sound : ∀ args h v h', g27o realA args h = some (true, v, h') → FnH Try.prog 27 args h v h' := by
  intro args h v h' hh
  unfold g27o at hh
  split at hh
  · rename_i n0 n1 n2 x0 x1 n3 n4
    split at hh
    case h_2 => cases hh
    rename_i hc0
    simp only [Option.some.injEq, Prod.mk.injEq] at hh
    obtain ⟨hc, hv, hh⟩ := hh
    subst hv
    subst hh
    simp only [Bool.and_eq_true] at hc0
    have en0 := beq_true hc0.1
    subst en0
    replace hc0 := hc0.2
    have en1 := beq_true hc0.1
    subst en1
    replace hc0 := hc0.2
    have en2 := beq_true hc0.1
    subst en2
    replace hc0 := hc0.2
    have en3 := beq_true hc0.1
    subst en3
    replace hc0 := hc0.2
    have en4 := beq_true hc0
    subst en4
    exact fnh_ofG mixed gtysOK g27O_sound g27O_det (an := g27an) (cut := g27cut) Try.func27 (c := bodyOf Try.f27) rfl (by kernel_rfl) Try.call27 (Nat.le_of_ble_eq_true rfl) (pins := [0]) (nilr := none) (fun _ => (show g27v realA x0 x1 = _ from g27ok_spec hc)) fun _ st => g27_go st
  · cases hh
attribute [local irreducible] g27ok g27r0 g27r1 g27r2
def g8O (A : Ar) : Orc := orcN [(9, (1, 1, ⟨[.nums .u8 0 []], 5, 2⟩))] (orcH [] [(9, ⟨[], none, (g9o A)⟩), (18, ⟨[], none, (g18o A)⟩), (15, ⟨[0, 1], (some (0, 1, 1, ⟨[.nums .u8 0 []], 5, 2⟩)), (g15o A)⟩), (17, ⟨[0, 1], none, (g17o A)⟩), (23, ⟨[], none, (g23o A)⟩), (25, ⟨[], none, (g25o A)⟩), (27, ⟨[], none, (g27o A)⟩)])
theorem g8O_sound : OSound Try.prog (g8O realA) := orcN_sound <| orcH_sound (fun f g hm args v hv => by
    cases hm) (fun f e hm args h v h' hv => by
    simp only [List.mem_cons, List.not_mem_nil, or_false, Prod.mk.injEq] at hm
    rcases hm with ⟨rfl, rfl⟩ | ⟨rfl, rfl⟩ | ⟨rfl, rfl⟩ | ⟨rfl, rfl⟩ | ⟨rfl, rfl⟩ | ⟨rfl, rfl⟩ | ⟨rfl, rfl⟩
    · exact g9o_sound _ _ _ _ hv
    · exact g18o_sound _ _ _ _ hv
    · exact g15o_sound _ _ _ _ hv
    · exact g17o_sound _ _ _ _ hv
    · exact g23o_sound _ _ _ _ hv
    · exact g25o_sound _ _ _ _ hv
    · exact g27o_sound _ _ _ _ hv)
theorem g8O_det : ODet (g8O realA) := orcN_det <| orcH_det _ _
def g8an : Ann := [(0, ([], [])), (1, ([], [])), (2, ([1], [2000, 2500])), (3, ([1, 2], [2000, 2500, 3000])), (4, ([], [])), (5, ([1, 2], [2000, 2500, 3000])), (6, ([1, 2], [2000, 2500, 3000])), (7, ([2, 3, 4], [3000]))]
def g8res : List ResultVar := [.tmp 0]
def g8cut : List Nat := [5]
noncomputable def g8N {R : Type} (A : Ar) (kk : AV → Heap → Option R) (t : List Bool → St → Option R) (p : List Bool) (s : St) : Option R := nodeN A gtys (g8O A) g8an g8cut t (bodyOf Try.f8) (finD gtys g8res kk) p s
def g8J5s (x0 : Int) (x1 x2 : Nat) (x3 : List Nat) (x4 : Int) (x5 : List Nat) : St := ⟨[(1, (pT 2000 0)), (2, (pT 3000 0))], [(2000, ⟨[.one (.int .i64 x0), .one (.sl 2500 none x1 1)], 56, 1⟩), (2500, ⟨[.nums .u8 x2 x3], 5, 2⟩), (3000, ⟨[.one (.int .i64 x4), .one (.str x5)], 59, 1⟩)]⟩
def g8J5 {R : Type} (A : Ar) (n : Nat) (kk : AV → Heap → Option R)  (x0 : Int) (x1 x2 : Nat) (x3 : List Nat) (x4 : Int) (x5 : List Nat) : Option R :=
  match g15ok A [97, 98] 2 x0 x1 x2 x3 with
  | true => match g17ok A (g15r0 A [97, 98] 2 x0 x1 x2 x3) (g15r1 A [97, 98] 2 x0 x1 x2 x3) (g15r2 A [97, 98] 2 x0 x1 x2 x3) (g15r3 A [97, 98] 2 x0 x1 x2 x3) with
    | true => match A.sc .eql (g17r0 A (g15r0 A [97, 98] 2 x0 x1 x2 x3) (g15r1 A [97, 98] 2 x0 x1 x2 x3) (g15r2 A [97, 98] 2 x0 x1 x2 x3) (g15r3 A [97, 98] 2 x0 x1 x2 x3)) [0, 2, 97, 98] with
      | true => match A.ic .eql (g17r1 A (g15r0 A [97, 98] 2 x0 x1 x2 x3) (g15r1 A [97, 98] 2 x0 x1 x2 x3) (g15r2 A [97, 98] 2 x0 x1 x2 x3) (g15r3 A [97, 98] 2 x0 x1 x2 x3)) 0 with
        | true => match g23ok A 2 x4 x5 with
          | true => match A.sc .eql (g23r0 A 2 x4 x5) [97, 98] with
            | true => match g25ok A (g23r1 A 2 x4 x5) (g23r2 A 2 x4 x5) with
              | true => match A.ic .eql (g25r0 A (g23r1 A 2 x4 x5) (g23r2 A 2 x4 x5)) 1 with
                | true => match g27ok A (g25r1 A (g23r1 A 2 x4 x5) (g23r2 A 2 x4 x5)) (g25r2 A (g23r1 A 2 x4 x5) (g23r2 A 2 x4 x5)) with
                  | true => kk (bO (A.ic .eql (g27r0 A (g25r1 A (g23r1 A 2 x4 x5) (g23r2 A 2 x4 x5)) (g25r2 A (g23r1 A 2 x4 x5) (g23r2 A 2 x4 x5))) 2)) [(3000, ⟨[.one (.int .i64 (g27r1 A (g25r1 A (g23r1 A 2 x4 x5) (g23r2 A 2 x4 x5)) (g25r2 A (g23r1 A 2 x4 x5) (g23r2 A 2 x4 x5)))), .one (.str (g27r2 A (g25r1 A (g23r1 A 2 x4 x5) (g23r2 A 2 x4 x5)) (g25r2 A (g23r1 A 2 x4 x5) (g23r2 A 2 x4 x5))))], 59, 1⟩)]
                  | false => none
                | false => kk (bO false) [(3000, ⟨[.one (.int .i64 (g25r1 A (g23r1 A 2 x4 x5) (g23r2 A 2 x4 x5))), .one (.str (g25r2 A (g23r1 A 2 x4 x5) (g23r2 A 2 x4 x5)))], 59, 1⟩)]
              | false => none
            | false => kk (bO false) [(3000, ⟨[.one (.int .i64 (g23r1 A 2 x4 x5)), .one (.str (g23r2 A 2 x4 x5))], 59, 1⟩)]
          | false => none
        | false => kk (bO false) [(3000, ⟨[.one (.int .i64 x4), .one (.str x5)], 59, 1⟩)]
      | false => kk (bO false) [(3000, ⟨[.one (.int .i64 x4), .one (.str x5)], 59, 1⟩)]
    | false => none
  | false => none
def g8 {R : Type} (A : Ar) (n : Nat) (kk : AV → Heap → Option R)  : Option R :=
  match g9ok A with
  | true => match g18ok A [0, 2, 97, 98, 99] with
    | true => g8J5 A n kk  (g9r0 A) 0 0 [] (g18r0 A [0, 2, 97, 98, 99]) (g18r1 A [0, 2, 97, 98, 99])
    | false => none
  | false => none
section
variable {R : Type} {A : Ar} {n : Nat} {kk : AV → Heap → Option R} {tb : Nat → List Bool → St → Option R} (st : Stp (g8N A kk) tb)
include st
theorem g8J5_go {x0 : Int} {x1 : Nat} {x2 : Nat} {x3 : List Nat} {x4 : Int} {x5 : List Nat} : Prs (fun k => tb k (pth 31) (g8J5s x0 x1 x2 x3 x4 x5)) (g8J5 A n kk x0 x1 x2 x3 x4 x5) := by
  unfold g8J5
  exact st.g (pc (SxB13api _ (SxB13api _ (SxB13api _ (SxB13api _ (SxB13api _ (SxB13api _ (SxB13api _ (SxB13api _ (SxB13api _ (pf _) pn) (pf _)) pn) (pf _)) pn) (pf _)) (pf _)) pn) pn) (by kernel_rfl))
theorem g8_go  : Prs (fun k => funN A gtys (g8O A) g8an g8cut (bodyOf Try.f8) g8res [] [] kk (tb k)) (g8 A n kk ) := by
  unfold g8
  exact pc (SxB13api _ (SxB13api _ (g8J5_go st) pn) pn) (by kernel_rfl)
end
def g8is (o : Option AV) : Bool := match o with
  | some (.v (.cell (.bool _))) => true
  | _ => false
def g8g0 (o : Option AV) : Bool := match o with
  | some (.v (.cell (.bool x))) => x
  | _ => false
theorem g8is_spec {o : Option AV} (h : g8is o = true) : o = some (.v (.cell (.bool (g8g0 o)))) := by
  unfold g8is at h
  split at h
  · rfl
  · cases h
def g8v (A : Ar)  : Option AV := g8 A (100000) (fun v _ => some v) 
def g8ok (A : Ar)  : Bool := g8is (g8v A )
def g8r0 (A : Ar)  : Bool := g8g0 (g8v A )
theorem g8ok_spec {A : Ar} (h : g8ok A = true) : g8v A = some (.v (.cell (.bool (g8r0 A)))) := g8is_spec h
def g8o (A : Ar) (args : List AV) : Option (Bool × AV) := match args with
  | [] => some (g8ok A , .v (.cell (.bool (g8r0 A))))
  | _ => none
theorem g8o_sound : ∀ args v, g8o realA args = some (true, v) → Fn1 Try.prog 8 args v := by
  intro args v h
  unfold g8o at h
  split at h
  · simp only [Option.some.injEq, Prod.mk.injEq] at h
    obtain ⟨hc, h⟩ := h
    subst h
    · skip
      exact fn1_ofG mixed gtysOK g8O_sound g8O_det (an := g8an) (cut := g8cut) Try.func8 (c := bodyOf Try.f8) rfl (by kernel_rfl) Try.call8 (Nat.le_of_ble_eq_true rfl) (fun b => rfl) (fun _ => (show g8v realA  = _ from g8ok_spec hc)) fun _ st => g8_go st
  · cases h
attribute [local irreducible] g8ok g8r0
def g10O (A : Ar) : Orc := orcOf []
theorem g10O_sound : OSound Try.prog (g10O realA) := orc_sound fun f g hm args v hv => by
  cases hm
theorem g10O_det : ODet (g10O realA) := orc_det _
def g10an : Ann := [(0, ([0], [])), (1, ([1], [1000])), (2, ([1], [1000])), (3, ([1], [1000]))]
def g10res : List ResultVar := [.tmp 2]
def g10cut : List Nat := []
noncomputable def g10N {R : Type} (A : Ar) (kk : AV → Heap → Option R) (t : List Bool → St → Option R) (p : List Bool) (s : St) : Option R := nodeN A gtys (g10O A) g10an g10cut t (bodyOf Try.f10) (finD gtys g10res kk) p s
def g10 {R : Type} (A : Ar) (n : Nat) (kk : AV → Heap → Option R) (a0 a1 a2 : Int) (a3 : List Nat) : Option R :=
  match A.ic .lss a0 0 with
  | true => kk (i6 (A.ib .rem .i64 (A.ib .sub .i64 0 (A.ib .add .i64 a0 1)) 3)) [(1000, ⟨[.one (.int .i64 a0), .one (.int .i64 a1), .one (.int .i64 a2), .one (.str a3)], 30, 1⟩)]
  | false => kk (i6 (A.ib .rem .i64 a0 3)) [(1000, ⟨[.one (.int .i64 a0), .one (.int .i64 a1), .one (.int .i64 a2), .one (.str a3)], 30, 1⟩)]
section
variable {R : Type} {A : Ar} {n : Nat} {kk : AV → Heap → Option R} {tb : Nat → List Bool → St → Option R} (st : Stp (g10N A kk) tb)
include st
theorem g10_go {a0 : Int} {a1 : Int} {a2 : Int} {a3 : List Nat} : Prs (fun k => funN A gtys (g10O A) g10an g10cut (bodyOf Try.f10) g10res [(.v (.agg [.one (.int .i64 a0), .one (.int .i64 a1), .one (.int .i64 a2), .one (.str a3)]))] [] kk (tb k)) (g10 A n kk a0 a1 a2 a3) := by
  unfold g10
  exact pc (SxB13api _ (pf _) (pf _)) (by kernel_rfl)
end
def g10is (o : Option AV) : Bool := match o with
  | some (.v (.cell (.int .i64 _))) => true
  | _ => false
def g10g0 (o : Option AV) : Int := match o with
  | some (.v (.cell (.int .i64 x))) => x
  | _ => 0
theorem g10is_spec {o : Option AV} (h : g10is o = true) : o = some (.v (.cell (.int .i64 (g10g0 o)))) := by
  unfold g10is at h
  split at h
  · rfl
  · cases h
def g10v (A : Ar) (a0 a1 a2 : Int) (a3 : List Nat) : Option AV := g10 A (100000) (fun v _ => some v) a0 a1 a2 a3
def g10ok (A : Ar) (a0 a1 a2 : Int) (a3 : List Nat) : Bool := g10is (g10v A a0 a1 a2 a3)
def g10r0 (A : Ar) (a0 a1 a2 : Int) (a3 : List Nat) : Int := g10g0 (g10v A a0 a1 a2 a3)
theorem g10ok_spec {A : Ar} {a0 a1 a2 a3} (h : g10ok A a0 a1 a2 a3 = true) : g10v A a0 a1 a2 a3 = some (.v (.cell (.int .i64 (g10r0 A a0 a1 a2 a3)))) := g10is_spec h
def g10o (A : Ar) (args : List AV) : Option (Bool × AV) := match args with
  | [.v (.agg [.one (.int .i64 a0), .one (.int .i64 a1), .one (.int .i64 a2), .one (.str a3)])] => some (g10ok A a0 a1 a2 a3, .v (.cell (.int .i64 (g10r0 A a0 a1 a2 a3))))
  | _ => none
theorem g10o_sound : ∀ args v, g10o realA args = some (true, v) → Fn1 Try.prog 10 args v := by
  intro args v h
  unfold g10o at h
  split at h
  · rename_i a0 a1 a2 a3
    simp only [Option.some.injEq, Prod.mk.injEq] at h
    obtain ⟨hc, h⟩ := h
    subst h
    · skip
      exact fn1_ofG mixed gtysOK g10O_sound g10O_det (an := g10an) (cut := g10cut) Try.func10 (c := bodyOf Try.f10) rfl (by kernel_rfl) Try.call10 (Nat.le_of_ble_eq_true rfl) (fun b => rfl) (fun _ => (show g10v realA a0 a1 a2 a3 = _ from g10ok_spec hc)) fun _ st => g10_go st
  · cases h
attribute [local irreducible] g10ok g10r0
end Go.Sx
