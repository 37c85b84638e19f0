import Derived.Test.YtloapdnklljaoaaChecked
import Derived.Test.YtloapdnklljaoaaSxK3
import Derived.Test.YtloapdnklljaoaaSxNi
namespace Go.Sx
open Go.Proofs
set_option linter.unusedVariables false
theorem mixed : Try.prog.follows .mixedOrders = true := Try.checked.mixed
def gtyList : List (Nat × Ty) := [(3, ⟨.int .i64, 1, 8, (.cell (.int .i64 0)), [], 0, 0, false⟩),
  (4, ⟨.bool, 1, 1, (.cell (.bool false)), [], 0, 0, false⟩),
  (5, ⟨.int .u8, 1, 1, (.cell (.nat .u8 0)), [], 0, 0, false⟩),
  (9, ⟨.string, 1, 16, (.cell (.str [])), [], 0, 0, false⟩),
  (22, ⟨.slice, 1, 24, (.cell .nils), [], 0, 30, false⟩),
  (24, ⟨.ptr, 1, 8, (.cell .nilp), [], 0, 0, false⟩),
  (28, ⟨.struct, 2, 24, (.agg [.one (.str []), .one (.int .i64 0)]), [(0, 9), (1, 3)], 0, 0, false⟩),
  (30, ⟨.struct, 4, 40, (.agg [.ints .i64 3 [0, 0, 0], .one (.str [])]), [(0, 3), (1, 3), (2, 3), (3, 9)], 0, 0, false⟩),
  (35, ⟨.int .i64, 1, 8, (.cell (.int .i64 0)), [], 0, 0, false⟩),
  (39, ⟨.ptr, 1, 8, (.cell .nilp), [], 0, 0, false⟩),
  (50, ⟨.int .u32, 1, 4, (.cell (.nat .u32 0)), [], 0, 0, false⟩),
  (53, ⟨.struct, 1, 8, (.agg [.one (.int .i64 0)]), [(0, 35)], 0, 0, false⟩),
  (54, ⟨.slice, 1, 24, (.cell .nils), [], 0, 5, false⟩),
  (56, ⟨.struct, 2, 32, (.agg [.one (.int .i64 0), .one .nils]), [(0, 53), (1, 54)], 0, 0, false⟩),
  (59, ⟨.struct, 2, 24, (.agg [.one (.int .i64 0), .one (.str [])]), [(0, 53), (1, 9)], 0, 0, false⟩)]
def gtys : Tys := fun t => lk t gtyList
theorem gtysOK0 : allL (fun p => tyB Try.prog p.1 p.2) gtyList = true := by kernel_rfl
theorem gtysOK : TyOK Try.prog gtys := tyOK_of gtysOK0 (eqB_spec gtysOK0 (by kernel_rfl))
def g9O (A : Ar) : Orc := orcOf []
theorem g9O_sound : OSound Try.prog (g9O realA) := orc_sound fun f g hm args v hv => by
  cases hm
theorem g9O_det : ODet (g9O realA) := orc_det _
def g9an : Ann := [(0, ([], [])), (1, ([], []))]
def g9res : List ResultVar := [.tmp 0]
noncomputable def g9D {R : Type} (A : Ar) (n : Nat) (p : List Bool) (K : Ex → St → Option R) (s : St) : Option R := codeD A gtys (g9O A) g9an n (sub (bodyOf Try.f9) p) K s
noncomputable def g9Q {R : Type} (A : Ar) (n : Nat) (p : List Bool) (K : Ex → St → Option R) : Ex → St → Option R := seqC (g9D A n p K) K
noncomputable def g9T {R : Type} (kk : AV → Heap → Option R) : Ex → St → Option R := finD gtys g9res kk
theorem g9Qn {R : Type} (A : Ar) (n : Nat) (p : List Bool) (K : Ex → St → Option R) (s : St) : g9Q A n p K .normal s = g9D A n p K s := rfl
theorem g9F {R : Type} (A : Ar) (n : Nat) (p : List Bool) (i : Nat) (K : Ex → St → Option R) (s s' : St) (hf : firstReg (sub (bodyOf Try.f9) p) = some i) (h : keep g9an i s = keep g9an i s') : g9D A n p K s = g9D A n p K s' := codeD_first hf h K
section
variable {R : Type} (A : Ar) (n : Nat) (K : Ex → St → Option R) (s : St)
theorem g9p1 : g9D A n (pth 1) K s = g9D A n (pth 2) (g9Q A n (pth 3) K) s := by kernel_rfl
theorem g9p3 : g9D A n (pth 3) K s = g9D A n (pth 5) (g9Q A n (pth 7) K) s := by kernel_rfl
theorem g9p7 : g9D A n (pth 7) K s = K .ret s := by kernel_rfl
def g9R0s0 (A : Ar)  : St := ⟨[(0, (.v (.cell .nilp)))], []⟩
theorem g9R0 : g9D A n (pth 2) K ⟨[], []⟩ = K .normal (g9R0s0 A) := by kernel_rfl
def g9R1s0 (A : Ar)  : St := ⟨[(0, (pT 2001 0)), (2, (pT 2001 0)), (1, (.v (.agg [.one (.int .i64 0), .one .nils])))], [(2001, ⟨[.one (.int .i64 0), .one .nils], 56, 1⟩)]⟩
theorem g9R1 : g9D A n (pth 5) K ⟨[], []⟩ = K .normal (g9R1s0 A) := by kernel_rfl
end
def g9 {R : Type} (A : Ar) (n : Nat) (kk : AV → Heap → Option R)  : Option R :=
  kk (pT 2001 0) [(2001, ⟨[.one (.int .i64 0), .one .nils], 56, 1⟩)]
set_option maxRecDepth 100000 in
theorem g9_eq {R : Type} (A : Ar) (n : Nat) (kk : AV → Heap → Option R)  :
    funD A gtys (g9O A) g9an n (bodyOf Try.f9) g9res [] [] kk = g9 A n kk  := by
  have h1 : (g9T kk) .ret (g9R1s0 A) = kk (pT 2001 0) [(2001, ⟨[.one (.int .i64 0), .one .nils], 56, 1⟩)] := by kernel_rfl
  have h2 := (g9p7 A n _ _).trans h1
  have h3 := (g9Qn A n _ _ _).trans h2
  have h4 := (g9F A n _ 1 _ (g9R0s0 A) _ (by kernel_rfl) (by kernel_rfl)).trans (g9R1 A n (g9Q A n (pth 7) (g9T kk)) )
  rw [h3] at h4
  have h5 := (g9p3 A n _ _).trans h4
  have h6 := (g9Qn A n _ _ _).trans h5
  have h7 := (g9F A n _ 0 _ ⟨[], []⟩ _ (by kernel_rfl) (by kernel_rfl)).trans (g9R0 A n (g9Q A n (pth 3) (g9T kk)) )
  rw [h6] at h7
  have h8 := (g9p1 A n _ _).trans h7
  exact (show funD A gtys (g9O A) g9an n (bodyOf Try.f9) g9res [] [] kk = g9D A n (pth 1) (g9T kk) ⟨[], []⟩ from by kernel_rfl).trans (h8.trans (by kernel_rfl))
def g9is (o : Option (AV × Heap)) : Bool := match o with
  | some (.v (.cell (.ptr n0 n1 none)), [(n2, ⟨[.one (.int .i64 _), .one .nils], n3, n4⟩)]) => Nat.beq n0 700 && (Nat.beq n1 0 && (Nat.beq n2 700 && (Nat.beq n3 56 && (Nat.beq n4 1))))
  | _ => false
def g9g0 (o : Option (AV × Heap)) : Int := match o with
  | some (.v (.cell (.ptr _ _ none)), [(_, ⟨[.one (.int .i64 x), .one .nils], _, _⟩)]) => x
  | _ => 0
theorem g9is_spec {o : Option (AV × Heap)} (h : g9is o = true) : o = some ((pT 700 0), [(700, ⟨[.one (.int .i64 (g9g0 o)), .one .nils], 56, 1⟩)]) := by
  unfold g9is at h
  split at h
  · rename_i n0 n1 n2 z3 n3 n4
    simp only [Bool.and_eq_true] at h
    have en0 := beq_true h.1
    subst en0
    replace h := h.2
    have en1 := beq_true h.1
    subst en1
    replace h := h.2
    have en2 := beq_true h.1
    subst en2
    replace h := h.2
    have en3 := beq_true h.1
    subst en3
    replace h := h.2
    have en4 := beq_true h
    subst en4
    rfl
  · cases h
def g9v (A : Ar)  : Option (AV × Heap) := g9 A (100000) (outH [] none) 
def g9ok (A : Ar)  : Bool := g9is (g9v A)
def g9r0 (A : Ar)  : Int := g9g0 (g9v A)
theorem g9ok_spec {A : Ar} (h : g9ok A = true) : g9v A = some ((pT 700 0), [(700, ⟨[.one (.int .i64 (g9r0 A)), .one .nils], 56, 1⟩)]) := g9is_spec h
def g9o (A : Ar) (args : List AV) (h : Heap) : Option (Bool × AV × Heap) := match args, h with
  | [], [] => some (g9ok A, (pT 700 0), [(700, ⟨[.one (.int .i64 (g9r0 A)), .one .nils], 56, 1⟩)])
  | _, _ => none
theorem g9o_sound : ∀ args h v h', g9o realA args h = some (true, v, h') → FnH Try.prog 9 args h v h' := by
  intro args h v h' hh
  unfold g9o at hh
  split at hh
  · simp only [Option.some.injEq, Prod.mk.injEq] at hh
    obtain ⟨hc, hv, hh⟩ := hh
    subst hv
    subst hh
    exact fnh_of mixed gtysOK g9O_sound g9O_det (an := g9an) (n := 100000) Try.func9 (c := bodyOf Try.f9) rfl (by kernel_rfl) Try.call9 (Nat.le_of_ble_eq_true rfl) (pins := []) (nilr := none) (fun _ => (g9_eq realA (100000) (outH [] none) ).trans (show g9v realA = _ from g9ok_spec hc))
  · cases hh
def g18O (A : Ar) : Orc := orcOf []
theorem g18O_sound : OSound Try.prog (g18O realA) := orc_sound fun f g hm args v hv => by
  cases hm
theorem g18O_det : ODet (g18O realA) := orc_det _
def g18an : Ann := [(0, ([0], [])), (1, ([0], []))]
def g18res : List ResultVar := [.tmp 2]
noncomputable def g18D {R : Type} (A : Ar) (n : Nat) (p : List Bool) (K : Ex → St → Option R) (s : St) : Option R := codeD A gtys (g18O A) g18an n (sub (bodyOf Try.f18) p) K s
noncomputable def g18Q {R : Type} (A : Ar) (n : Nat) (p : List Bool) (K : Ex → St → Option R) : Ex → St → Option R := seqC (g18D A n p K) K
noncomputable def g18T {R : Type} (kk : AV → Heap → Option R) : Ex → St → Option R := finD gtys g18res kk
theorem g18Qn {R : Type} (A : Ar) (n : Nat) (p : List Bool) (K : Ex → St → Option R) (s : St) : g18Q A n p K .normal s = g18D A n p K s := rfl
theorem g18F {R : Type} (A : Ar) (n : Nat) (p : List Bool) (i : Nat) (K : Ex → St → Option R) (s s' : St) (hf : firstReg (sub (bodyOf Try.f18) p) = some i) (h : keep g18an i s = keep g18an i s') : g18D A n p K s = g18D A n p K s' := codeD_first hf h K
section
variable {R : Type} (A : Ar) (n : Nat) (K : Ex → St → Option R) (s : St)
theorem g18p1 : g18D A n (pth 1) K s = g18D A n (pth 2) (g18Q A n (pth 3) K) s := by kernel_rfl
theorem g18p3 : g18D A n (pth 3) K s = g18D A n (pth 5) (g18Q A n (pth 7) K) s := by kernel_rfl
theorem g18p7 : g18D A n (pth 7) K s = K .ret s := by kernel_rfl
def g18R0s0 (A : Ar) (x0 : List Nat) : St := ⟨[(2, (.v (.cell .nilp))), (0, (tS x0))], []⟩
theorem g18R0 (x0 : List Nat) : g18D A n (pth 2) K ⟨[(0, (tS x0))], []⟩ = K .normal (g18R0s0 A x0) := by kernel_rfl
def g18R1s0 (A : Ar) (x0 : List Nat) : St := ⟨[(2, (pT 2002 0)), (5, (pT 2002 0)), (4, (.v (.agg [.one (.int .i64 0), .one (.str x0)]))), (3, (tS x0)), (0, (tS x0))], [(2002, ⟨[.one (.int .i64 0), .one (.str x0)], 59, 1⟩)]⟩
theorem g18R1 (x0 : List Nat) : g18D A n (pth 5) K ⟨[(0, (tS x0))], []⟩ = K .normal (g18R1s0 A x0) := by kernel_rfl
end
def g18 {R : Type} (A : Ar) (n : Nat) (kk : AV → Heap → Option R) (x0 : List Nat) : Option R :=
  kk (pT 2002 0) [(2002, ⟨[.one (.int .i64 0), .one (.str x0)], 59, 1⟩)]
set_option maxRecDepth 100000 in
theorem g18_eq {R : Type} (A : Ar) (n : Nat) (kk : AV → Heap → Option R) (x0 : List Nat) :
    funD A gtys (g18O A) g18an n (bodyOf Try.f18) g18res [(tS x0)] [] kk = g18 A n kk x0 := by
  have h1 : (g18T kk) .ret (g18R1s0 A x0) = kk (pT 2002 0) [(2002, ⟨[.one (.int .i64 0), .one (.str x0)], 59, 1⟩)] := by kernel_rfl
  have h2 := (g18p7 A n _ _).trans h1
  have h3 := (g18Qn A n _ _ _).trans h2
  have h4 := (g18F A n _ 1 _ (g18R0s0 A x0) _ (by kernel_rfl) (by kernel_rfl)).trans (g18R1 A n (g18Q A n (pth 7) (g18T kk)) x0)
  rw [h3] at h4
  have h5 := (g18p3 A n _ _).trans h4
  have h6 := (g18Qn A n _ _ _).trans h5
  have h7 := (g18F A n _ 0 _ ⟨[(0, (tS x0))], []⟩ _ (by kernel_rfl) (by kernel_rfl)).trans (g18R0 A n (g18Q A n (pth 3) (g18T kk)) x0)
  rw [h6] at h7
  have h8 := (g18p1 A n _ _).trans h7
  exact (show funD A gtys (g18O A) g18an n (bodyOf Try.f18) g18res [(tS x0)] [] kk = g18D A n (pth 1) (g18T kk) ⟨[(0, (tS x0))], []⟩ from by kernel_rfl).trans (h8.trans (by kernel_rfl))
def g18is (o : Option (AV × Heap)) : Bool := match o with
  | some (.v (.cell (.ptr n0 n1 none)), [(n2, ⟨[.one (.int .i64 _), .one (.str _)], n3, n4⟩)]) => Nat.beq n0 700 && (Nat.beq n1 0 && (Nat.beq n2 700 && (Nat.beq n3 59 && (Nat.beq n4 1))))
  | _ => false
def g18g0 (o : Option (AV × Heap)) : Int := match o with
  | some (.v (.cell (.ptr _ _ none)), [(_, ⟨[.one (.int .i64 x), .one (.str _)], _, _⟩)]) => x
  | _ => 0
def g18g1 (o : Option (AV × Heap)) : List Nat := match o with
  | some (.v (.cell (.ptr _ _ none)), [(_, ⟨[.one (.int .i64 _), .one (.str x)], _, _⟩)]) => x
  | _ => []
theorem g18is_spec {o : Option (AV × Heap)} (h : g18is o = true) : o = some ((pT 700 0), [(700, ⟨[.one (.int .i64 (g18g0 o)), .one (.str (g18g1 o))], 59, 1⟩)]) := by
  unfold g18is at h
  split at h
  · rename_i n0 n1 n2 z3 z4 n3 n4
    simp only [Bool.and_eq_true] at h
    have en0 := beq_true h.1
    subst en0
    replace h := h.2
    have en1 := beq_true h.1
    subst en1
    replace h := h.2
    have en2 := beq_true h.1
    subst en2
    replace h := h.2
    have en3 := beq_true h.1
    subst en3
    replace h := h.2
    have en4 := beq_true h
    subst en4
    rfl
  · cases h
def g18v (A : Ar) (x0 : List Nat) : Option (AV × Heap) := g18 A (100000) (outH [] none) x0
def g18ok (A : Ar) (x0 : List Nat) : Bool := g18is (g18v A x0)
def g18r0 (A : Ar) (x0 : List Nat) : Int := g18g0 (g18v A x0)
def g18r1 (A : Ar) (x0 : List Nat) : List Nat := g18g1 (g18v A x0)
theorem g18ok_spec {A : Ar} {x0} (h : g18ok A x0 = true) : g18v A x0 = some ((pT 700 0), [(700, ⟨[.one (.int .i64 (g18r0 A x0)), .one (.str (g18r1 A x0))], 59, 1⟩)]) := g18is_spec h
def g18o (A : Ar) (args : List AV) (h : Heap) : Option (Bool × AV × Heap) := match args, h with
  | [.v (.cell (.str x0))], [] => some (g18ok A x0, (pT 700 0), [(700, ⟨[.one (.int .i64 (g18r0 A x0)), .one (.str (g18r1 A x0))], 59, 1⟩)])
  | _, _ => none
theorem g18o_sound : ∀ args h v h', g18o realA args h = some (true, v, h') → FnH Try.prog 18 args h v h' := by
  intro args h v h' hh
  unfold g18o at hh
  split at hh
  · rename_i x0
    simp only [Option.some.injEq, Prod.mk.injEq] at hh
    obtain ⟨hc, hv, hh⟩ := hh
    subst hv
    subst hh
    exact fnh_of mixed gtysOK g18O_sound g18O_det (an := g18an) (n := 100000) Try.func18 (c := bodyOf Try.f18) rfl (by kernel_rfl) Try.call18 (Nat.le_of_ble_eq_true rfl) (pins := []) (nilr := none) (fun _ => (g18_eq realA (100000) (outH [] none) x0).trans (show g18v realA x0 = _ from g18ok_spec hc))
  · cases hh
def g29O (A : Ar) : Orc := orcOf []
theorem g29O_sound : OSound Try.prog (g29O realA) := orc_sound fun f g hm args v hv => by
  cases hm
theorem g29O_det : ODet (g29O realA) := orc_det _
def g29an : Ann := [(0, ([0, 1, 2], [0, 1])), (1, ([0, 1, 2], [0, 1])), (2, ([0, 2], [0, 1])), (3, ([0], [0, 1]))]
def g29res : List ResultVar := [.tmp 6]
noncomputable def g29D {R : Type} (A : Ar) (n : Nat) (p : List Bool) (K : Ex → St → Option R) (s : St) : Option R := codeD A gtys (g29O A) g29an n (sub (bodyOf Try.f29) p) K s
noncomputable def g29Q {R : Type} (A : Ar) (n : Nat) (p : List Bool) (K : Ex → St → Option R) : Ex → St → Option R := seqC (g29D A n p K) K
noncomputable def g29T {R : Type} (kk : AV → Heap → Option R) : Ex → St → Option R := finD gtys g29res kk
theorem g29Qn {R : Type} (A : Ar) (n : Nat) (p : List Bool) (K : Ex → St → Option R) (s : St) : g29Q A n p K .normal s = g29D A n p K s := rfl
theorem g29F {R : Type} (A : Ar) (n : Nat) (p : List Bool) (i : Nat) (K : Ex → St → Option R) (s s' : St) (hf : firstReg (sub (bodyOf Try.f29) p) = some i) (h : keep g29an i s = keep g29an i s') : g29D A n p K s = g29D A n p K s' := codeD_first hf h K
section
variable {R : Type} (A : Ar) (n : Nat) (K : Ex → St → Option R) (s : St)
theorem g29p1 : g29D A n (pth 1) K s = g29D A n (pth 2) (g29Q A n (pth 3) K) s := by kernel_rfl
theorem g29p3 : g29D A n (pth 3) K s = g29D A n (pth 5) (g29Q A n (pth 7) K) s := by kernel_rfl
theorem g29p5 : g29D A n (pth 5) K s = g29D A n (pth 9) (g29Q A n (pth 13) K) s := by kernel_rfl
theorem g29p13 (t : Bool) : ev s (.tmp 15) = some (.v (.cell (.bool t))) → g29D A n (pth 13) K s = (match t with
    | true => g29D A n (pth 21) K s
    | false => g29D A n (pth 29) K s) := codeD_cond t
theorem g29p29 : g29D A n (pth 29) K s = K .normal s := by kernel_rfl
theorem g29p7 : g29D A n (pth 7) K s = g29D A n (pth 11) (g29Q A n (pth 15) K) s := by kernel_rfl
theorem g29p15 : g29D A n (pth 15) K s = K .ret s := by kernel_rfl
def g29R3s0 (A : Ar) (x0 : Int) (x1 x2 : Nat) (x3 : List Nat) : St := ⟨[(6, (bO (A.ic .eql x0 0))), (24, (bO (A.ic .eql x0 0))), (23, (i6 x0)), (22, (pT 0 0)), (21, (pT 0 0)), (20, (pT 0 0)), (0, (pT 0 0))], [(0, ⟨[.one (.int .i64 x0), .one (.sl 1 none x1 1)], 56, 1⟩), (1, ⟨[.nums .u8 x2 x3], 5, 2⟩)]⟩
theorem g29R3 (x0 : Int) (x1 x2 : Nat) (x3 : List Nat) : g29D A n (pth 11) K ⟨[(0, (pT 0 0))], [(0, ⟨[.one (.int .i64 x0), .one (.sl 1 none x1 1)], 56, 1⟩), (1, ⟨[.nums .u8 x2 x3], 5, 2⟩)]⟩ = K .normal (g29R3s0 A x0 x1 x2 x3) := by kernel_rfl
def g29R0s0 (A : Ar) (x0 : Bool) (x1 x2 : Int) (x3 x4 : Nat) (x5 : List Nat) : St := ⟨[(6, (bO false)), (0, (pT 0 0)), (1, (bO x0)), (2, (i6 x1))], [(0, ⟨[.one (.int .i64 x2), .one (.sl 1 none x3 1)], 56, 1⟩), (1, ⟨[.nums .u8 x4 x5], 5, 2⟩)]⟩
theorem g29R0 (x0 : Bool) (x1 x2 : Int) (x3 x4 : Nat) (x5 : List Nat) : g29D A n (pth 2) K ⟨[(0, (pT 0 0)), (1, (bO x0)), (2, (i6 x1))], [(0, ⟨[.one (.int .i64 x2), .one (.sl 1 none x3 1)], 56, 1⟩), (1, ⟨[.nums .u8 x4 x5], 5, 2⟩)]⟩ = K .normal (g29R0s0 A x0 x1 x2 x3 x4 x5) := by kernel_rfl
def g29R1s0 (A : Ar) (x0 : Bool) (x1 x2 : Int) (x3 x4 : Nat) (x5 : List Nat) : St := ⟨[(15, (bO (!x0))), (14, (bO (!x0))), (13, (bO x0)), (12, (bO true)), (11, (bO (A.ic .eql x2 0))), (10, (i6 x2)), (9, (pT 0 0)), (8, (pT 0 0)), (7, (pT 0 0)), (0, (pT 0 0)), (1, (bO x0)), (2, (i6 x1))], [(0, ⟨[.one (.int .i64 x2), .one (.sl 1 none x3 1)], 56, 1⟩), (1, ⟨[.nums .u8 x4 x5], 5, 2⟩)]⟩
def g29R1s1 (A : Ar) (x0 : Bool) (x1 x2 : Int) (x3 x4 : Nat) (x5 : List Nat) : St := ⟨[(15, (bO false)), (14, uN), (13, uN), (12, (bO false)), (11, (bO (A.ic .eql x2 0))), (10, (i6 x2)), (9, (pT 0 0)), (8, (pT 0 0)), (7, (pT 0 0)), (0, (pT 0 0)), (1, (bO x0)), (2, (i6 x1))], [(0, ⟨[.one (.int .i64 x2), .one (.sl 1 none x3 1)], 56, 1⟩), (1, ⟨[.nums .u8 x4 x5], 5, 2⟩)]⟩
theorem g29R1 (x0 : Bool) (x1 x2 : Int) (x3 x4 : Nat) (x5 : List Nat) : g29D A n (pth 9) K ⟨[(0, (pT 0 0)), (1, (bO x0)), (2, (i6 x1))], [(0, ⟨[.one (.int .i64 x2), .one (.sl 1 none x3 1)], 56, 1⟩), (1, ⟨[.nums .u8 x4 x5], 5, 2⟩)]⟩ = match (generalizing := false) A.ic .eql x2 0 with
    | true => K .normal (g29R1s0 A x0 x1 x2 x3 x4 x5)
    | false => K .normal (g29R1s1 A x0 x1 x2 x3 x4 x5) := by kernel_rfl
def g29R2s0 (A : Ar) (x0 x1 : Int) (x2 x3 : Nat) (x4 : List Nat) : St := ⟨[(19, (pT 0 0)), (18, (pT 0 0)), (17, (i6 x0)), (16, (pT 0 0)), (0, (pT 0 0)), (2, (i6 x0))], [(0, ⟨[.one (.int .i64 x0), .one (.sl 1 none x2 1)], 56, 1⟩), (1, ⟨[.nums .u8 x3 x4], 5, 2⟩)]⟩
theorem g29R2 (x0 x1 : Int) (x2 x3 : Nat) (x4 : List Nat) : g29D A n (pth 21) K ⟨[(0, (pT 0 0)), (2, (i6 x0))], [(0, ⟨[.one (.int .i64 x1), .one (.sl 1 none x2 1)], 56, 1⟩), (1, ⟨[.nums .u8 x3 x4], 5, 2⟩)]⟩ = K .normal (g29R2s0 A x0 x1 x2 x3 x4) := by kernel_rfl
end
def g29J3 {R : Type} (A : Ar) (n : Nat) (kk : AV → Heap → Option R)  (x0 : Int) (x1 x2 : Nat) (x3 : List Nat) : Option R :=
  kk (bO (A.ic .eql x0 0)) [(0, ⟨[.one (.int .i64 x0), .one (.sl 1 none x1 1)], 56, 1⟩), (1, ⟨[.nums .u8 x2 x3], 5, 2⟩)]
set_option maxRecDepth 100000 in
theorem g29J3_eq {R : Type} (A : Ar) (n : Nat) (kk : AV → Heap → Option R)    (s : St) (x0 : Int) (x1 x2 : Nat) (x3 : List Nat) (h : keep g29an 3 s = ⟨[(0, (pT 0 0))], [(0, ⟨[.one (.int .i64 x0), .one (.sl 1 none x1 1)], 56, 1⟩), (1, ⟨[.nums .u8 x2 x3], 5, 2⟩)]⟩) :
    g29D A n (pth 7) (g29T kk) s = g29J3 A n kk  x0 x1 x2 x3 := by
  have h1 : (g29T kk) .ret (g29R3s0 A x0 x1 x2 x3) = kk (bO (A.ic .eql x0 0)) [(0, ⟨[.one (.int .i64 x0), .one (.sl 1 none x1 1)], 56, 1⟩), (1, ⟨[.nums .u8 x2 x3], 5, 2⟩)] := by kernel_rfl
  have h2 := (g29p15 A n _ _).trans h1
  have h3 := (g29Qn A n _ _ _).trans h2
  have h4 := (g29F A n _ 3 _ ⟨[(0, (pT 0 0))], [(0, ⟨[.one (.int .i64 x0), .one (.sl 1 none x1 1)], 56, 1⟩), (1, ⟨[.nums .u8 x2 x3], 5, 2⟩)]⟩ _ (by kernel_rfl) (by kernel_rfl)).trans (g29R3 A n (g29Q A n (pth 15) (g29T kk)) x0 x1 x2 x3)
  rw [h3] at h4
  have h5 := (g29p7 A n _ _).trans h4
  exact (g29F A n _ 3 _ _ ⟨[(0, (pT 0 0))], [(0, ⟨[.one (.int .i64 x0), .one (.sl 1 none x1 1)], 56, 1⟩), (1, ⟨[.nums .u8 x2 x3], 5, 2⟩)]⟩ (by kernel_rfl) (h.trans (by kernel_rfl))).trans (h5.trans (by kernel_rfl))
def g29 {R : Type} (A : Ar) (n : Nat) (kk : AV → Heap → Option R) (x0 : Bool) (x1 x2 : Int) (x3 x4 : Nat) (x5 : List Nat) : Option R :=
  match (generalizing := false) A.ic .eql x2 0 with
  | true => match (generalizing := false) !x0 with
    | true => g29J3 A n kk  x1 x3 x4 x5
    | false => g29J3 A n kk  x2 x3 x4 x5
  | false => g29J3 A n kk  x2 x3 x4 x5
set_option maxRecDepth 100000 in
theorem g29_eq {R : Type} (A : Ar) (n : Nat) (kk : AV → Heap → Option R) (x0 : Bool) (x1 x2 : Int) (x3 x4 : Nat) (x5 : List Nat) :
    funD A gtys (g29O A) g29an n (bodyOf Try.f29) g29res [(pT 0 0), (bO x0), (i6 x1)] [(0, ⟨[.one (.int .i64 x2), .one (.sl 1 none x3 1)], 56, 1⟩), (1, ⟨[.nums .u8 x4 x5], 5, 2⟩)] kk = g29 A n kk x0 x1 x2 x3 x4 x5 := by
  have h1 := (g29Qn A n _ _ _).trans (g29J3_eq A n kk     (g29R2s0 A x1 x2 x3 x4 x5) x1 x3 x4 x5 (by kernel_rfl))
  have h2 := (g29F A n _ 2 _ (g29R1s0 A x0 x1 x2 x3 x4 x5) _ (by kernel_rfl) (by kernel_rfl)).trans (g29R2 A n (g29Q A n (pth 7) (g29T kk)) x1 x2 x3 x4 x5)
  rw [h1] at h2
  have h3 := (g29Qn A n _ _ _).trans (g29J3_eq A n kk     (g29R1s0 A x0 x1 x2 x3 x4 x5) x2 x3 x4 x5 (by kernel_rfl))
  have h4 := (g29p29 A n _ _).trans h3
  have h5 := g29p13 A n (g29Q A n (pth 7) (g29T kk)) (g29R1s0 A x0 x1 x2 x3 x4 x5) (!x0) (by kernel_rfl)
  rw [h2, h4] at h5
  have h6 := (g29Qn A n _ _ _).trans h5
  have h7 := (g29Qn A n _ _ _).trans (g29J3_eq A n kk     (g29R1s1 A x0 x1 x2 x3 x4 x5) x2 x3 x4 x5 (by kernel_rfl))
  have h8 := (g29p29 A n _ _).trans h7
  have h9 := (g29p13 A n (g29Q A n (pth 7) (g29T kk)) (g29R1s1 A x0 x1 x2 x3 x4 x5) false (by kernel_rfl)).trans h8
  have h10 := (g29Qn A n _ _ _).trans h9
  have h11 := (g29F A n _ 1 _ (g29R0s0 A x0 x1 x2 x3 x4 x5) _ (by kernel_rfl) (by kernel_rfl)).trans (g29R1 A n (g29Q A n (pth 13) (g29Q A n (pth 7) (g29T kk))) x0 x1 x2 x3 x4 x5)
  rw [h6, h10] at h11
  have h12 := (g29p5 A n _ _).trans h11
  have h13 := (g29p3 A n _ _).trans h12
  have h14 := (g29Qn A n _ _ _).trans h13
  have h15 := (g29F A n _ 0 _ ⟨[(0, (pT 0 0)), (1, (bO x0)), (2, (i6 x1))], [(0, ⟨[.one (.int .i64 x2), .one (.sl 1 none x3 1)], 56, 1⟩), (1, ⟨[.nums .u8 x4 x5], 5, 2⟩)]⟩ _ (by kernel_rfl) (by kernel_rfl)).trans (g29R0 A n (g29Q A n (pth 3) (g29T kk)) x0 x1 x2 x3 x4 x5)
  rw [h14] at h15
  have h16 := (g29p1 A n _ _).trans h15
  exact (show funD A gtys (g29O A) g29an n (bodyOf Try.f29) g29res [(pT 0 0), (bO x0), (i6 x1)] [(0, ⟨[.one (.int .i64 x2), .one (.sl 1 none x3 1)], 56, 1⟩), (1, ⟨[.nums .u8 x4 x5], 5, 2⟩)] kk = g29D A n (pth 1) (g29T kk) ⟨[(0, (pT 0 0)), (1, (bO x0)), (2, (i6 x1))], [(0, ⟨[.one (.int .i64 x2), .one (.sl 1 none x3 1)], 56, 1⟩), (1, ⟨[.nums .u8 x4 x5], 5, 2⟩)]⟩ from by kernel_rfl).trans (h16.trans (by kernel_rfl))
def g29is (o : Option (AV × Heap)) : Bool := match o with
  | some (.v (.cell (.bool _)), [(n0, ⟨[.one (.int .i64 _), .one (.sl n1 none _ n2)], n3, n4⟩), (n5, ⟨[.nums .u8 _ _], n6, n7⟩)]) => Nat.beq n0 0 && (Nat.beq n1 1 && (Nat.beq n2 1 && (Nat.beq n3 56 && (Nat.beq n4 1 && (Nat.beq n5 1 && (Nat.beq n6 5 && (Nat.beq n7 2)))))))
  | _ => false
def g29g0 (o : Option (AV × Heap)) : Bool := match o with
  | some (.v (.cell (.bool x)), [(_, ⟨[.one (.int .i64 _), .one (.sl _ none _ _)], _, _⟩), (_, ⟨[.nums .u8 _ _], _, _⟩)]) => x
  | _ => false
def g29g1 (o : Option (AV × Heap)) : Int := match o with
  | some (.v (.cell (.bool _)), [(_, ⟨[.one (.int .i64 x), .one (.sl _ none _ _)], _, _⟩), (_, ⟨[.nums .u8 _ _], _, _⟩)]) => x
  | _ => 0
def g29g2 (o : Option (AV × Heap)) : Nat := match o with
  | some (.v (.cell (.bool _)), [(_, ⟨[.one (.int .i64 _), .one (.sl _ none x _)], _, _⟩), (_, ⟨[.nums .u8 _ _], _, _⟩)]) => x
  | _ => 0
def g29g3 (o : Option (AV × Heap)) : Nat := match o with
  | some (.v (.cell (.bool _)), [(_, ⟨[.one (.int .i64 _), .one (.sl _ none _ _)], _, _⟩), (_, ⟨[.nums .u8 x _], _, _⟩)]) => x
  | _ => 0
def g29g4 (o : Option (AV × Heap)) : List Nat := match o with
  | some (.v (.cell (.bool _)), [(_, ⟨[.one (.int .i64 _), .one (.sl _ none _ _)], _, _⟩), (_, ⟨[.nums .u8 _ x], _, _⟩)]) => x
  | _ => []
theorem g29is_spec {o : Option (AV × Heap)} (h : g29is o = true) : o = some ((bO (g29g0 o)), [(0, ⟨[.one (.int .i64 (g29g1 o)), .one (.sl 1 none (g29g2 o) 1)], 56, 1⟩), (1, ⟨[.nums .u8 (g29g3 o) (g29g4 o)], 5, 2⟩)]) := by
  unfold g29is at h
  split at h
  · rename_i z0 n0 z2 n1 z4 n2 n3 n4 n5 z9 z10 n6 n7
    simp only [Bool.and_eq_true] at h
    have en0 := beq_true h.1
    subst en0
    replace h := h.2
    have en1 := beq_true h.1
    subst en1
    replace h := h.2
    have en2 := beq_true h.1
    subst en2
    replace h := h.2
    have en3 := beq_true h.1
    subst en3
    replace h := h.2
    have en4 := beq_true h.1
    subst en4
    replace h := h.2
    have en5 := beq_true h.1
    subst en5
    replace h := h.2
    have en6 := beq_true h.1
    subst en6
    replace h := h.2
    have en7 := beq_true h
    subst en7
    rfl
  · cases h
def g29v (A : Ar) (x0 : Bool) (x1 x2 : Int) (x3 x4 : Nat) (x5 : List Nat) : Option (AV × Heap) := g29 A (100000) (outH [0, 1] none) x0 x1 x2 x3 x4 x5
def g29ok (A : Ar) (x0 : Bool) (x1 x2 : Int) (x3 x4 : Nat) (x5 : List Nat) : Bool := g29is (g29v A x0 x1 x2 x3 x4 x5)
def g29r0 (A : Ar) (x0 : Bool) (x1 x2 : Int) (x3 x4 : Nat) (x5 : List Nat) : Bool := g29g0 (g29v A x0 x1 x2 x3 x4 x5)
def g29r1 (A : Ar) (x0 : Bool) (x1 x2 : Int) (x3 x4 : Nat) (x5 : List Nat) : Int := g29g1 (g29v A x0 x1 x2 x3 x4 x5)
def g29r2 (A : Ar) (x0 : Bool) (x1 x2 : Int) (x3 x4 : Nat) (x5 : List Nat) : Nat := g29g2 (g29v A x0 x1 x2 x3 x4 x5)
def g29r3 (A : Ar) (x0 : Bool) (x1 x2 : Int) (x3 x4 : Nat) (x5 : List Nat) : Nat := g29g3 (g29v A x0 x1 x2 x3 x4 x5)
def g29r4 (A : Ar) (x0 : Bool) (x1 x2 : Int) (x3 x4 : Nat) (x5 : List Nat) : List Nat := g29g4 (g29v A x0 x1 x2 x3 x4 x5)
theorem g29ok_spec {A : Ar} {x0 x1 x2 x3 x4 x5} (h : g29ok A x0 x1 x2 x3 x4 x5 = true) : g29v A x0 x1 x2 x3 x4 x5 = some ((bO (g29r0 A x0 x1 x2 x3 x4 x5)), [(0, ⟨[.one (.int .i64 (g29r1 A x0 x1 x2 x3 x4 x5)), .one (.sl 1 none (g29r2 A x0 x1 x2 x3 x4 x5) 1)], 56, 1⟩), (1, ⟨[.nums .u8 (g29r3 A x0 x1 x2 x3 x4 x5) (g29r4 A x0 x1 x2 x3 x4 x5)], 5, 2⟩)]) := g29is_spec h
def g29o (A : Ar) (args : List AV) (h : Heap) : Option (Bool × AV × Heap) := match args, h with
  | [.v (.cell (.ptr n0 n1 none)), .v (.cell (.bool x0)), .v (.cell (.int .i64 x1))], [(n2, ⟨[.one (.int .i64 x2), .one (.sl n3 none x3 n4)], n5, n6⟩), (n7, ⟨[.nums .u8 x4 x5], n8, n9⟩)] => match Nat.beq n0 0 && (Nat.beq n1 0 && (Nat.beq n2 0 && (Nat.beq n3 1 && (Nat.beq n4 1 && (Nat.beq n5 56 && (Nat.beq n6 1 && (Nat.beq n7 1 && (Nat.beq n8 5 && (Nat.beq n9 2))))))))) with
    | true => some (g29ok A x0 x1 x2 x3 x4 x5, (bO (g29r0 A x0 x1 x2 x3 x4 x5)), [(0, ⟨[.one (.int .i64 (g29r1 A x0 x1 x2 x3 x4 x5)), .one (.sl 1 none (g29r2 A x0 x1 x2 x3 x4 x5) 1)], 56, 1⟩), (1, ⟨[.nums .u8 (g29r3 A x0 x1 x2 x3 x4 x5) (g29r4 A x0 x1 x2 x3 x4 x5)], 5, 2⟩)])
    | false => none
  | _, _ => none
theorem g29o_sound : ∀ args h v h', g29o realA args h = some (true, v, h') → FnH Try.prog 29 args h v h' := by
  intro args h v h' hh
  unfold g29o at hh
  split at hh
  · rename_i n0 n1 x0 x1 n2 x2 n3 x3 n4 n5 n6 n7 x4 x5 n8 n9
    split at hh
    case h_2 => cases hh
    rename_i hc0
    simp only [Option.some.injEq, Prod.mk.injEq] at hh
    obtain ⟨hc, hv, hh⟩ := hh
    subst hv
    subst hh
    simp only [Bool.and_eq_true] at hc0
    have en0 := beq_true hc0.1
    subst en0
    replace hc0 := hc0.2
    have en1 := beq_true hc0.1
    subst en1
    replace hc0 := hc0.2
    have en2 := beq_true hc0.1
    subst en2
    replace hc0 := hc0.2
    have en3 := beq_true hc0.1
    subst en3
    replace hc0 := hc0.2
    have en4 := beq_true hc0.1
    subst en4
    replace hc0 := hc0.2
    have en5 := beq_true hc0.1
    subst en5
    replace hc0 := hc0.2
    have en6 := beq_true hc0.1
    subst en6
    replace hc0 := hc0.2
    have en7 := beq_true hc0.1
    subst en7
    replace hc0 := hc0.2
    have en8 := beq_true hc0.1
    subst en8
    replace hc0 := hc0.2
    have en9 := beq_true hc0
    subst en9
    exact fnh_of mixed gtysOK g29O_sound g29O_det (an := g29an) (n := 100000) Try.func29 (c := bodyOf Try.f29) rfl (by kernel_rfl) Try.call29 (Nat.le_of_ble_eq_true rfl) (pins := [0, 1]) (nilr := none) (fun _ => (g29_eq realA (100000) (outH [0, 1] none) x0 x1 x2 x3 x4 x5).trans (show g29v realA x0 x1 x2 x3 x4 x5 = _ from g29ok_spec hc))
  · cases hh
def g11O (A : Ar) : Orc := orcH [] [(29, ⟨[], none, (g29o A)⟩)]
theorem g11O_sound : OSound Try.prog (g11O realA) := orcH_sound (fun f g hm args v hv => by
    cases hm) (fun f e hm args h v h' hv => by
    simp only [List.mem_cons, List.not_mem_nil, or_false, Prod.mk.injEq] at hm
    rcases hm with ⟨rfl, rfl⟩
    · exact g29o_sound _ _ _ _ hv)
theorem g11O_det : ODet (g11O realA) := orcH_det _ _
def g11an : Ann := [(0, ([0, 1, 2], [0, 501])), (1, ([0, 1, 2], [0, 501])), (2, ([0, 1, 2, 34, 35], [0, 501])), (3, ([0, 1, 2, 34, 35], [0, 501])), (4, ([0, 1, 2, 6, 34, 35], [0, 501])), (5, ([0, 1, 2, 34, 35], [0, 501]))]
def g11res : List ResultVar := []
abbrev g11t0 (A : Ar) (x0 x1 x2 : Int) (x3 x4 : Nat) (x5 : List Nat) : Bool := g29r0 A (A.ic .lss x0 (A.ish .shl .i64 1 (A.toN (A.ib .mul .i64 8 x1)))) 1 (g29r1 A (A.ic .geq x0 0) 1 x2 x3 x4 x5) (g29r2 A (A.ic .geq x0 0) 1 x2 x3 x4 x5) (g29r3 A (A.ic .geq x0 0) 1 x2 x3 x4 x5) (g29r4 A (A.ic .geq x0 0) 1 x2 x3 x4 x5)
abbrev g11t1 (A : Ar) (x0 x1 x2 : Int) (x3 x4 : Nat) (x5 : List Nat) : Int := g29r1 A (A.ic .lss x0 (A.ish .shl .i64 1 (A.toN (A.ib .mul .i64 8 x1)))) 1 (g29r1 A (A.ic .geq x0 0) 1 x2 x3 x4 x5) (g29r2 A (A.ic .geq x0 0) 1 x2 x3 x4 x5) (g29r3 A (A.ic .geq x0 0) 1 x2 x3 x4 x5) (g29r4 A (A.ic .geq x0 0) 1 x2 x3 x4 x5)
abbrev g11t2 (A : Ar) (x0 x1 x2 : Int) (x3 x4 : Nat) (x5 : List Nat) : Nat := g29r2 A (A.ic .lss x0 (A.ish .shl .i64 1 (A.toN (A.ib .mul .i64 8 x1)))) 1 (g29r1 A (A.ic .geq x0 0) 1 x2 x3 x4 x5) (g29r2 A (A.ic .geq x0 0) 1 x2 x3 x4 x5) (g29r3 A (A.ic .geq x0 0) 1 x2 x3 x4 x5) (g29r4 A (A.ic .geq x0 0) 1 x2 x3 x4 x5)
abbrev g11t3 (A : Ar) (x0 x1 x2 : Int) (x3 x4 : Nat) (x5 : List Nat) : Nat := g29r3 A (A.ic .lss x0 (A.ish .shl .i64 1 (A.toN (A.ib .mul .i64 8 x1)))) 1 (g29r1 A (A.ic .geq x0 0) 1 x2 x3 x4 x5) (g29r2 A (A.ic .geq x0 0) 1 x2 x3 x4 x5) (g29r3 A (A.ic .geq x0 0) 1 x2 x3 x4 x5) (g29r4 A (A.ic .geq x0 0) 1 x2 x3 x4 x5)
abbrev g11t4 (A : Ar) (x0 x1 x2 : Int) (x3 x4 : Nat) (x5 : List Nat) : List Nat := g29r4 A (A.ic .lss x0 (A.ish .shl .i64 1 (A.toN (A.ib .mul .i64 8 x1)))) 1 (g29r1 A (A.ic .geq x0 0) 1 x2 x3 x4 x5) (g29r2 A (A.ic .geq x0 0) 1 x2 x3 x4 x5) (g29r3 A (A.ic .geq x0 0) 1 x2 x3 x4 x5) (g29r4 A (A.ic .geq x0 0) 1 x2 x3 x4 x5)
abbrev g11t5 (A : Ar) (x0 x1 x2 : Int) (x3 x4 : Nat) (x5 : List Nat) : Bool := g29r0 A (A.ic .lss x0 (A.ish .shl .i64 1 (A.toN (A.ib .mul .i64 8 x1)))) 1 (g29r1 A false 1 x2 x3 x4 x5) (g29r2 A false 1 x2 x3 x4 x5) (g29r3 A false 1 x2 x3 x4 x5) (g29r4 A false 1 x2 x3 x4 x5)
abbrev g11t6 (A : Ar) (x0 x1 x2 : Int) (x3 x4 : Nat) (x5 : List Nat) : Int := g29r1 A (A.ic .lss x0 (A.ish .shl .i64 1 (A.toN (A.ib .mul .i64 8 x1)))) 1 (g29r1 A false 1 x2 x3 x4 x5) (g29r2 A false 1 x2 x3 x4 x5) (g29r3 A false 1 x2 x3 x4 x5) (g29r4 A false 1 x2 x3 x4 x5)
abbrev g11t7 (A : Ar) (x0 x1 x2 : Int) (x3 x4 : Nat) (x5 : List Nat) : Nat := g29r2 A (A.ic .lss x0 (A.ish .shl .i64 1 (A.toN (A.ib .mul .i64 8 x1)))) 1 (g29r1 A false 1 x2 x3 x4 x5) (g29r2 A false 1 x2 x3 x4 x5) (g29r3 A false 1 x2 x3 x4 x5) (g29r4 A false 1 x2 x3 x4 x5)
abbrev g11t8 (A : Ar) (x0 x1 x2 : Int) (x3 x4 : Nat) (x5 : List Nat) : Nat := g29r3 A (A.ic .lss x0 (A.ish .shl .i64 1 (A.toN (A.ib .mul .i64 8 x1)))) 1 (g29r1 A false 1 x2 x3 x4 x5) (g29r2 A false 1 x2 x3 x4 x5) (g29r3 A false 1 x2 x3 x4 x5) (g29r4 A false 1 x2 x3 x4 x5)
abbrev g11t9 (A : Ar) (x0 x1 x2 : Int) (x3 x4 : Nat) (x5 : List Nat) : List Nat := g29r4 A (A.ic .lss x0 (A.ish .shl .i64 1 (A.toN (A.ib .mul .i64 8 x1)))) 1 (g29r1 A false 1 x2 x3 x4 x5) (g29r2 A false 1 x2 x3 x4 x5) (g29r3 A false 1 x2 x3 x4 x5) (g29r4 A false 1 x2 x3 x4 x5)
noncomputable def g11D {R : Type} (A : Ar) (n : Nat) (p : List Bool) (K : Ex → St → Option R) (s : St) : Option R := codeD A gtys (g11O A) g11an n (sub (bodyOf Try.f11) p) K s
noncomputable def g11V {R : Type} (A : Ar) (n : Nat) (p : List Bool) (m : Nat) (K : Ex → St → Option R) (s : St) : Option R := loopD (fun K' s'' => codeD A gtys (g11O A) g11an n (sub (bodyOf Try.f11) p) K' s'') m K s
noncomputable def g11Q {R : Type} (A : Ar) (n : Nat) (p : List Bool) (K : Ex → St → Option R) : Ex → St → Option R := seqC (g11D A n p K) K
noncomputable def g11W {R : Type} (A : Ar) (n : Nat) (p : List Bool) (m : Nat) (K : Ex → St → Option R) : Ex → St → Option R := seqC (g11V A n p m K) K
noncomputable def g11T {R : Type} (kk : AV → Heap → Option R) : Ex → St → Option R := finD gtys g11res kk
theorem g11Qn {R : Type} (A : Ar) (n : Nat) (p : List Bool) (K : Ex → St → Option R) (s : St) : g11Q A n p K .normal s = g11D A n p K s := rfl
theorem g11Qe {R : Type} (A : Ar) (n : Nat) (p : List Bool) (K : Ex → St → Option R) (i : Nat) (s : St) : g11Q A n p K (.exit i) s = K (.exit i) s := rfl
theorem g11Qr {R : Type} (A : Ar) (n : Nat) (p : List Bool) (K : Ex → St → Option R) (s : St) : g11Q A n p K .ret s = K .ret s := rfl
theorem g11Wn {R : Type} (A : Ar) (n : Nat) (p : List Bool) (m : Nat) (K : Ex → St → Option R) (s : St) : g11W A n p m K .normal s = g11V A n p m K s := rfl
theorem g11We {R : Type} (A : Ar) (n : Nat) (p : List Bool) (m : Nat) (K : Ex → St → Option R) (i : Nat) (s : St) : g11W A n p m K (.exit i) s = K (.exit i) s := rfl
theorem g11Vs {R : Type} (A : Ar) (n : Nat) (p : List Bool) (m : Nat) (K : Ex → St → Option R) (s : St) : g11V A n p (m + 1) K s = g11D A n p (g11W A n p m K) s := rfl
theorem g11F {R : Type} (A : Ar) (n : Nat) (p : List Bool) (i : Nat) (K : Ex → St → Option R) (s s' : St) (hf : firstReg (sub (bodyOf Try.f11) p) = some i) (h : keep g11an i s = keep g11an i s') : g11D A n p K s = g11D A n p K s' := codeD_first hf h K
section
variable {R : Type} (A : Ar) (n : Nat) (K : Ex → St → Option R) (s : St)
theorem g11p1 : g11D A n (pth 1) K s = g11D A n (pth 2) (g11Q A n (pth 3) K) s := by kernel_rfl
theorem g11p2 : g11D A n (pth 2) K s = g11D A n (pth 4) (g11Q A n (pth 6) K) s := by kernel_rfl
theorem g11p6 (t : Bool) : ev s (.tmp 33) = some (.v (.cell (.bool t))) → g11D A n (pth 6) K s = (match t with
    | true => g11D A n (pth 10) K s
    | false => g11D A n (pth 14) K s) := codeD_cond t
theorem g11p10 : g11D A n (pth 10) K s = K .ret s := by kernel_rfl
theorem g11p14 : g11D A n (pth 14) K s = K .normal s := by kernel_rfl
theorem g11p3 : g11D A n (pth 3) K s = g11D A n (pth 5) (g11Q A n (pth 7) K) s := by kernel_rfl
theorem g11p7 : g11D A n (pth 7) K s = g11D A n (pth 11) (blockK 0 K) s := by kernel_rfl
theorem g11p11 : g11D A n (pth 11) K s = g11V A n (pth 19) n K s := by kernel_rfl
theorem g11p19 : g11D A n (pth 19) K s = g11D A n (pth 35) (g11Q A n (pth 51) K) s := by kernel_rfl
theorem g11p51 : g11D A n (pth 51) K s = g11D A n (pth 83) (g11Q A n (pth 115) K) s := by kernel_rfl
theorem g11p83 (t : Bool) : ev s (.tmp 36) = some (.v (.cell (.bool t))) → g11D A n (pth 83) K s = (match t with
    | true => g11D A n (pth 147) K s
    | false => g11D A n (pth 211) K s) := codeD_cond t
theorem g11p147 : g11D A n (pth 147) K s = K .normal s := by kernel_rfl
theorem g11p211 : g11D A n (pth 211) K s = K (.exit 0) s := by kernel_rfl
theorem g11p115 : g11D A n (pth 115) K s = g11D A n (pth 179) (g11Q A n (pth 243) K) s := by kernel_rfl
theorem g11p179 : g11D A n (pth 179) K s = g11D A n (pth 307) (blockK 1 K) s := by kernel_rfl
theorem g11p307 : g11D A n (pth 307) K s = g11D A n (pth 563) (g11Q A n (pth 819) K) s := by kernel_rfl
def g11R3s0 (A : Ar) (x0 x1 : Int) (x2 x3 x4 : Int) (x5 x6 : Nat) (x7 : List Nat) : St := ⟨[(6, (i6 x3)), (37, (i6 x3)), (0, (pT 0 0)), (1, (i6 x0)), (2, (i6 x1)), (34, (i6 x2)), (35, (i6 x3))], [(0, ⟨[.one (.int .i64 x4), .one (.sl 501 none x5 1)], 56, 1⟩), (501, ⟨[.nums .u8 x6 x7], 5, 2⟩)]⟩
theorem g11R3 (x0 x1 : Int) (x2 x3 x4 : Int) (x5 x6 : Nat) (x7 : List Nat) : g11D A n (pth 563) K ⟨[(0, (pT 0 0)), (1, (i6 x0)), (2, (i6 x1)), (34, (i6 x2)), (35, (i6 x3))], [(0, ⟨[.one (.int .i64 x4), .one (.sl 501 none x5 1)], 56, 1⟩), (501, ⟨[.nums .u8 x6 x7], 5, 2⟩)]⟩ = K .normal (g11R3s0 A x0 x1 x2 x3 x4 x5 x6 x7) := by kernel_rfl
def g11R4s0 (A : Ar) (x0 x1 : Int) (x2 x3 : Int) (x4 x5 : Int) (x6 x7 : Nat) (x8 : List Nat) : St := ⟨[(54, (pT 0 1)), (53, (pT 0 0)), (52, (sL 501 none ((x8 ++ ([A.i2n .u8 (A.ish .shr .i64 x0 (A.toN (A.ib .mul .i64 8 (A.ib .sub .i64 (A.ib .sub .i64 x1 1) x2))))].take 1)).length) 1)), (51, (sL 5013 none 1 1)), (50, (u8v (A.i2n .u8 (A.ish .shr .i64 x0 (A.toN (A.ib .mul .i64 8 (A.ib .sub .i64 (A.ib .sub .i64 x1 1) x2))))))), (49, (i6 (A.ish .shr .i64 x0 (A.toN (A.ib .mul .i64 8 (A.ib .sub .i64 (A.ib .sub .i64 x1 1) x2)))))), (48, (i6 (A.ib .mul .i64 8 (A.ib .sub .i64 (A.ib .sub .i64 x1 1) x2)))), (47, (i6 (A.ib .sub .i64 (A.ib .sub .i64 x1 1) x2))), (46, (i6 x2)), (45, (i6 (A.ib .sub .i64 x1 1))), (44, (i6 x1)), (43, (i6 x0)), (42, (.v (.cell .top))), (41, (pT 0 1)), (40, (pT 0 0)), (39, (pT 0 0)), (38, (pT 0 0)), (0, (pT 0 0)), (1, (i6 x0)), (2, (i6 x1)), (6, (i6 x2)), (34, (i6 x3)), (35, (i6 x4))], [(501, ⟨[.nums .u8 ((x8 ++ ([A.i2n .u8 (A.ish .shr .i64 x0 (A.toN (A.ib .mul .i64 8 (A.ib .sub .i64 (A.ib .sub .i64 x1 1) x2))))].take 1)).length) (x8 ++ ([A.i2n .u8 (A.ish .shr .i64 x0 (A.toN (A.ib .mul .i64 8 (A.ib .sub .i64 (A.ib .sub .i64 x1 1) x2))))].take 1))], 5, 2⟩), (5013, ⟨[.nums .u8 1 [A.i2n .u8 (A.ish .shr .i64 x0 (A.toN (A.ib .mul .i64 8 (A.ib .sub .i64 (A.ib .sub .i64 x1 1) x2))))]], 5, 2⟩), (0, ⟨[.one (.int .i64 x5), .one (.sl 501 none ((x8 ++ ([A.i2n .u8 (A.ish .shr .i64 x0 (A.toN (A.ib .mul .i64 8 (A.ib .sub .i64 (A.ib .sub .i64 x1 1) x2))))].take 1)).length) 1)], 56, 1⟩)]⟩
theorem g11R4 (x0 x1 : Int) (x2 x3 : Int) (x4 x5 : Int) (x6 x7 : Nat) (x8 : List Nat) : g11D A n (pth 819) K ⟨[(0, (pT 0 0)), (1, (i6 x0)), (2, (i6 x1)), (6, (i6 x2)), (34, (i6 x3)), (35, (i6 x4))], [(0, ⟨[.one (.int .i64 x5), .one (.sl 501 none x6 1)], 56, 1⟩), (501, ⟨[.nums .u8 x7 x8], 5, 2⟩)]⟩ = match (generalizing := false) A.neg (A.ib .mul .i64 8 (A.ib .sub .i64 (A.ib .sub .i64 x1 1) x2)) with
    | true => none
    | false => match (generalizing := false) A.eq x6 (x7 + 0) with
      | true => match (generalizing := false) A.le ((x8 ++ ([A.i2n .u8 (A.ish .shr .i64 x0 (A.toN (A.ib .mul .i64 8 (A.ib .sub .i64 (A.ib .sub .i64 x1 1) x2))))].take 1)).length) 140737488355328 with
        | true => K .normal (g11R4s0 A x0 x1 x2 x3 x4 x5 x6 x7 x8)
        | false => none
      | false => none := by kernel_rfl
def g11R5s0 (A : Ar) (x0 x1 : Int) (x2 x3 x4 : Int) (x5 x6 : Nat) (x7 : List Nat) : St := ⟨[(35, (i6 (A.ib .add .i64 x3 1))), (55, (i6 (A.ib .add .i64 x3 1))), (0, (pT 0 0)), (1, (i6 x0)), (2, (i6 x1)), (34, (i6 x2)), (35, (i6 x3))], [(0, ⟨[.one (.int .i64 x4), .one (.sl 501 none x5 1)], 56, 1⟩), (501, ⟨[.nums .u8 x6 x7], 5, 2⟩)]⟩
theorem g11R5 (x0 x1 : Int) (x2 x3 x4 : Int) (x5 x6 : Nat) (x7 : List Nat) : g11D A n (pth 243) K ⟨[(0, (pT 0 0)), (1, (i6 x0)), (2, (i6 x1)), (34, (i6 x2)), (35, (i6 x3))], [(0, ⟨[.one (.int .i64 x4), .one (.sl 501 none x5 1)], 56, 1⟩), (501, ⟨[.nums .u8 x6 x7], 5, 2⟩)]⟩ = K .normal (g11R5s0 A x0 x1 x2 x3 x4 x5 x6 x7) := by kernel_rfl
def g11R2s0 (A : Ar) (x0 x1 : Int) (x2 x3 x4 : Int) (x5 x6 : Nat) (x7 : List Nat) : St := ⟨[(36, (bO (A.ic .lss x3 x2))), (0, (pT 0 0)), (1, (i6 x0)), (2, (i6 x1)), (34, (i6 x2)), (35, (i6 x3))], [(0, ⟨[.one (.int .i64 x4), .one (.sl 501 none x5 1)], 56, 1⟩), (501, ⟨[.nums .u8 x6 x7], 5, 2⟩)]⟩
theorem g11R2 (x0 x1 : Int) (x2 x3 x4 : Int) (x5 x6 : Nat) (x7 : List Nat) : g11D A n (pth 35) K ⟨[(0, (pT 0 0)), (1, (i6 x0)), (2, (i6 x1)), (34, (i6 x2)), (35, (i6 x3))], [(0, ⟨[.one (.int .i64 x4), .one (.sl 501 none x5 1)], 56, 1⟩), (501, ⟨[.nums .u8 x6 x7], 5, 2⟩)]⟩ = K .normal (g11R2s0 A x0 x1 x2 x3 x4 x5 x6 x7) := by kernel_rfl
def g11R1s0 (A : Ar) (x0 x1 x2 : Int) (x3 x4 : Nat) (x5 : List Nat) : St := ⟨[(35, (i6 0)), (34, (i6 x1)), (0, (pT 0 0)), (1, (i6 x0)), (2, (i6 x1))], [(0, ⟨[.one (.int .i64 x2), .one (.sl 501 none x3 1)], 56, 1⟩), (501, ⟨[.nums .u8 x4 x5], 5, 2⟩)]⟩
theorem g11R1 (x0 x1 x2 : Int) (x3 x4 : Nat) (x5 : List Nat) : g11D A n (pth 5) K ⟨[(0, (pT 0 0)), (1, (i6 x0)), (2, (i6 x1))], [(0, ⟨[.one (.int .i64 x2), .one (.sl 501 none x3 1)], 56, 1⟩), (501, ⟨[.nums .u8 x4 x5], 5, 2⟩)]⟩ = K .normal (g11R1s0 A x0 x1 x2 x3 x4 x5) := by kernel_rfl
def g11R0s0 (A : Ar) (x0 x1 x2 : Int) (x3 x4 : Nat) (x5 : List Nat) : St := ⟨[(33, (bO true)), (32, uN), (31, uN), (30, uN), (29, uN), (28, uN), (27, uN), (26, uN), (25, uN), (24, uN), (23, uN), (22, (bO true)), (21, (bO (!(g29r0 A (A.ic .geq x0 0) 1 x2 x3 x4 x5)))), (20, (bO (g29r0 A (A.ic .geq x0 0) 1 x2 x3 x4 x5))), (19, (bO (A.ic .geq x0 0))), (18, (bO (A.ic .geq x0 0))), (17, (i6 x0)), (16, (bO true)), (15, (bO (A.ic .leq x1 7))), (14, (bO (A.ic .leq x1 7))), (13, (i6 x1)), (12, (bO true)), (11, (bO (A.ic .geq x1 1))), (10, (i6 x1)), (9, (pT 0 0)), (8, (pT 0 0)), (7, (pT 0 0)), (0, (pT 0 0)), (1, (i6 x0)), (2, (i6 x1))], [(0, ⟨[.one (.int .i64 (g29r1 A (A.ic .geq x0 0) 1 x2 x3 x4 x5)), .one (.sl 501 none (g29r2 A (A.ic .geq x0 0) 1 x2 x3 x4 x5) 1)], 56, 1⟩), (501, ⟨[.nums .u8 (g29r3 A (A.ic .geq x0 0) 1 x2 x3 x4 x5) (g29r4 A (A.ic .geq x0 0) 1 x2 x3 x4 x5)], 5, 2⟩)]⟩
def g11R0s1 (A : Ar) (x0 x1 x2 : Int) (x3 x4 : Nat) (x5 : List Nat) : St := ⟨[(33, (bO (!(g11t0 A x0 x1 x2 x3 x4 x5)))), (32, (bO (!(g11t0 A x0 x1 x2 x3 x4 x5)))), (31, (bO (g11t0 A x0 x1 x2 x3 x4 x5))), (30, (bO (A.ic .lss x0 (A.ish .shl .i64 1 (A.toN (A.ib .mul .i64 8 x1)))))), (29, (i6 (A.ish .shl .i64 1 (A.toN (A.ib .mul .i64 8 x1))))), (28, (i6 (A.ib .mul .i64 8 x1))), (27, (i6 x1)), (26, (i6 x0)), (25, (pT 0 0)), (24, (pT 0 0)), (23, (pT 0 0)), (22, (bO false)), (21, (bO (!(g29r0 A (A.ic .geq x0 0) 1 x2 x3 x4 x5)))), (20, (bO (g29r0 A (A.ic .geq x0 0) 1 x2 x3 x4 x5))), (19, (bO (A.ic .geq x0 0))), (18, (bO (A.ic .geq x0 0))), (17, (i6 x0)), (16, (bO true)), (15, (bO (A.ic .leq x1 7))), (14, (bO (A.ic .leq x1 7))), (13, (i6 x1)), (12, (bO true)), (11, (bO (A.ic .geq x1 1))), (10, (i6 x1)), (9, (pT 0 0)), (8, (pT 0 0)), (7, (pT 0 0)), (0, (pT 0 0)), (1, (i6 x0)), (2, (i6 x1))], [(0, ⟨[.one (.int .i64 (g11t1 A x0 x1 x2 x3 x4 x5)), .one (.sl 501 none (g11t2 A x0 x1 x2 x3 x4 x5) 1)], 56, 1⟩), (501, ⟨[.nums .u8 (g11t3 A x0 x1 x2 x3 x4 x5) (g11t4 A x0 x1 x2 x3 x4 x5)], 5, 2⟩)]⟩
def g11R0s2 (A : Ar) (x0 x1 x2 : Int) (x3 x4 : Nat) (x5 : List Nat) : St := ⟨[(33, (bO true)), (32, uN), (31, uN), (30, uN), (29, uN), (28, uN), (27, uN), (26, uN), (25, uN), (24, uN), (23, uN), (22, (bO true)), (21, (bO (!(g29r0 A false 1 x2 x3 x4 x5)))), (20, (bO (g29r0 A false 1 x2 x3 x4 x5))), (19, (bO false)), (18, uN), (17, uN), (16, (bO false)), (15, (bO (A.ic .leq x1 7))), (14, (bO (A.ic .leq x1 7))), (13, (i6 x1)), (12, (bO true)), (11, (bO (A.ic .geq x1 1))), (10, (i6 x1)), (9, (pT 0 0)), (8, (pT 0 0)), (7, (pT 0 0)), (0, (pT 0 0)), (1, (i6 x0)), (2, (i6 x1))], [(0, ⟨[.one (.int .i64 (g29r1 A false 1 x2 x3 x4 x5)), .one (.sl 501 none (g29r2 A false 1 x2 x3 x4 x5) 1)], 56, 1⟩), (501, ⟨[.nums .u8 (g29r3 A false 1 x2 x3 x4 x5) (g29r4 A false 1 x2 x3 x4 x5)], 5, 2⟩)]⟩
def g11R0s3 (A : Ar) (x0 x1 x2 : Int) (x3 x4 : Nat) (x5 : List Nat) : St := ⟨[(33, (bO (!(g11t5 A x0 x1 x2 x3 x4 x5)))), (32, (bO (!(g11t5 A x0 x1 x2 x3 x4 x5)))), (31, (bO (g11t5 A x0 x1 x2 x3 x4 x5))), (30, (bO (A.ic .lss x0 (A.ish .shl .i64 1 (A.toN (A.ib .mul .i64 8 x1)))))), (29, (i6 (A.ish .shl .i64 1 (A.toN (A.ib .mul .i64 8 x1))))), (28, (i6 (A.ib .mul .i64 8 x1))), (27, (i6 x1)), (26, (i6 x0)), (25, (pT 0 0)), (24, (pT 0 0)), (23, (pT 0 0)), (22, (bO false)), (21, (bO (!(g29r0 A false 1 x2 x3 x4 x5)))), (20, (bO (g29r0 A false 1 x2 x3 x4 x5))), (19, (bO false)), (18, uN), (17, uN), (16, (bO false)), (15, (bO (A.ic .leq x1 7))), (14, (bO (A.ic .leq x1 7))), (13, (i6 x1)), (12, (bO true)), (11, (bO (A.ic .geq x1 1))), (10, (i6 x1)), (9, (pT 0 0)), (8, (pT 0 0)), (7, (pT 0 0)), (0, (pT 0 0)), (1, (i6 x0)), (2, (i6 x1))], [(0, ⟨[.one (.int .i64 (g11t6 A x0 x1 x2 x3 x4 x5)), .one (.sl 501 none (g11t7 A x0 x1 x2 x3 x4 x5) 1)], 56, 1⟩), (501, ⟨[.nums .u8 (g11t8 A x0 x1 x2 x3 x4 x5) (g11t9 A x0 x1 x2 x3 x4 x5)], 5, 2⟩)]⟩
def g11R0s4 (A : Ar) (x0 x1 x2 : Int) (x3 x4 : Nat) (x5 : List Nat) : St := ⟨[(33, (bO true)), (32, uN), (31, uN), (30, uN), (29, uN), (28, uN), (27, uN), (26, uN), (25, uN), (24, uN), (23, uN), (22, (bO true)), (21, (bO (!(g29r0 A false 1 x2 x3 x4 x5)))), (20, (bO (g29r0 A false 1 x2 x3 x4 x5))), (19, (bO false)), (18, uN), (17, uN), (16, (bO false)), (15, (bO false)), (14, uN), (13, uN), (12, (bO false)), (11, (bO (A.ic .geq x1 1))), (10, (i6 x1)), (9, (pT 0 0)), (8, (pT 0 0)), (7, (pT 0 0)), (0, (pT 0 0)), (1, (i6 x0)), (2, (i6 x1))], [(0, ⟨[.one (.int .i64 (g29r1 A false 1 x2 x3 x4 x5)), .one (.sl 501 none (g29r2 A false 1 x2 x3 x4 x5) 1)], 56, 1⟩), (501, ⟨[.nums .u8 (g29r3 A false 1 x2 x3 x4 x5) (g29r4 A false 1 x2 x3 x4 x5)], 5, 2⟩)]⟩
def g11R0s5 (A : Ar) (x0 x1 x2 : Int) (x3 x4 : Nat) (x5 : List Nat) : St := ⟨[(33, (bO (!(g11t5 A x0 x1 x2 x3 x4 x5)))), (32, (bO (!(g11t5 A x0 x1 x2 x3 x4 x5)))), (31, (bO (g11t5 A x0 x1 x2 x3 x4 x5))), (30, (bO (A.ic .lss x0 (A.ish .shl .i64 1 (A.toN (A.ib .mul .i64 8 x1)))))), (29, (i6 (A.ish .shl .i64 1 (A.toN (A.ib .mul .i64 8 x1))))), (28, (i6 (A.ib .mul .i64 8 x1))), (27, (i6 x1)), (26, (i6 x0)), (25, (pT 0 0)), (24, (pT 0 0)), (23, (pT 0 0)), (22, (bO false)), (21, (bO (!(g29r0 A false 1 x2 x3 x4 x5)))), (20, (bO (g29r0 A false 1 x2 x3 x4 x5))), (19, (bO false)), (18, uN), (17, uN), (16, (bO false)), (15, (bO false)), (14, uN), (13, uN), (12, (bO false)), (11, (bO (A.ic .geq x1 1))), (10, (i6 x1)), (9, (pT 0 0)), (8, (pT 0 0)), (7, (pT 0 0)), (0, (pT 0 0)), (1, (i6 x0)), (2, (i6 x1))], [(0, ⟨[.one (.int .i64 (g11t6 A x0 x1 x2 x3 x4 x5)), .one (.sl 501 none (g11t7 A x0 x1 x2 x3 x4 x5) 1)], 56, 1⟩), (501, ⟨[.nums .u8 (g11t8 A x0 x1 x2 x3 x4 x5) (g11t9 A x0 x1 x2 x3 x4 x5)], 5, 2⟩)]⟩
theorem g11R0 (x0 x1 x2 : Int) (x3 x4 : Nat) (x5 : List Nat) : g11D A n (pth 4) K ⟨[(0, (pT 0 0)), (1, (i6 x0)), (2, (i6 x1))], [(0, ⟨[.one (.int .i64 x2), .one (.sl 501 none x3 1)], 56, 1⟩), (501, ⟨[.nums .u8 x4 x5], 5, 2⟩)]⟩ = match (generalizing := false) A.ic .geq x1 1 with
    | true => match (generalizing := false) A.ic .leq x1 7 with
      | true => match (generalizing := false) g29ok A (A.ic .geq x0 0) 1 x2 x3 x4 x5 with
        | true => match (generalizing := false) !(g29r0 A (A.ic .geq x0 0) 1 x2 x3 x4 x5) with
          | true => K .normal (g11R0s0 A x0 x1 x2 x3 x4 x5)
          | false => match (generalizing := false) A.neg (A.ib .mul .i64 8 x1) with
            | true => none
            | false => match (generalizing := false) g29ok A (A.ic .lss x0 (A.ish .shl .i64 1 (A.toN (A.ib .mul .i64 8 x1)))) 1 (g29r1 A (A.ic .geq x0 0) 1 x2 x3 x4 x5) (g29r2 A (A.ic .geq x0 0) 1 x2 x3 x4 x5) (g29r3 A (A.ic .geq x0 0) 1 x2 x3 x4 x5) (g29r4 A (A.ic .geq x0 0) 1 x2 x3 x4 x5) with
              | true => K .normal (g11R0s1 A x0 x1 x2 x3 x4 x5)
              | false => none
        | false => none
      | false => match (generalizing := false) g29ok A false 1 x2 x3 x4 x5 with
        | true => match (generalizing := false) !(g29r0 A false 1 x2 x3 x4 x5) with
          | true => K .normal (g11R0s2 A x0 x1 x2 x3 x4 x5)
          | false => match (generalizing := false) A.neg (A.ib .mul .i64 8 x1) with
            | true => none
            | false => match (generalizing := false) g29ok A (A.ic .lss x0 (A.ish .shl .i64 1 (A.toN (A.ib .mul .i64 8 x1)))) 1 (g29r1 A false 1 x2 x3 x4 x5) (g29r2 A false 1 x2 x3 x4 x5) (g29r3 A false 1 x2 x3 x4 x5) (g29r4 A false 1 x2 x3 x4 x5) with
              | true => K .normal (g11R0s3 A x0 x1 x2 x3 x4 x5)
              | false => none
        | false => none
    | false => match (generalizing := false) g29ok A false 1 x2 x3 x4 x5 with
      | true => match (generalizing := false) !(g29r0 A false 1 x2 x3 x4 x5) with
        | true => K .normal (g11R0s4 A x0 x1 x2 x3 x4 x5)
        | false => match (generalizing := false) A.neg (A.ib .mul .i64 8 x1) with
          | true => none
          | false => match (generalizing := false) g29ok A (A.ic .lss x0 (A.ish .shl .i64 1 (A.toN (A.ib .mul .i64 8 x1)))) 1 (g29r1 A false 1 x2 x3 x4 x5) (g29r2 A false 1 x2 x3 x4 x5) (g29r3 A false 1 x2 x3 x4 x5) (g29r4 A false 1 x2 x3 x4 x5) with
            | true => K .normal (g11R0s5 A x0 x1 x2 x3 x4 x5)
            | false => none
      | false => none := by kernel_rfl
end
def g11J3 {R : Type} (A : Ar) (n : Nat) (kk : AV → Heap → Option R) (lg11L2 : Int → Int → Int → Int → Int → Nat → Nat → List Nat → Option R) (x0 x1 : Int) (x2 x3 x4 : Int) (x5 x6 : Nat) (x7 : List Nat) : Option R :=
  match (generalizing := false) A.neg (A.ib .mul .i64 8 (A.ib .sub .i64 (A.ib .sub .i64 x1 1) x3)) with
  | true => none
  | false => match (generalizing := false) A.eq x5 (x6 + 0) with
    | true => match (generalizing := false) A.le ((x7 ++ ([A.i2n .u8 (A.ish .shr .i64 x0 (A.toN (A.ib .mul .i64 8 (A.ib .sub .i64 (A.ib .sub .i64 x1 1) x3))))].take 1)).length) 140737488355328 with
      | true => lg11L2 x0 x1 x2 (A.ib .add .i64 x3 1) x4 ((x7 ++ ([A.i2n .u8 (A.ish .shr .i64 x0 (A.toN (A.ib .mul .i64 8 (A.ib .sub .i64 (A.ib .sub .i64 x1 1) x3))))].take 1)).length) ((x7 ++ ([A.i2n .u8 (A.ish .shr .i64 x0 (A.toN (A.ib .mul .i64 8 (A.ib .sub .i64 (A.ib .sub .i64 x1 1) x3))))].take 1)).length) (x7 ++ ([A.i2n .u8 (A.ish .shr .i64 x0 (A.toN (A.ib .mul .i64 8 (A.ib .sub .i64 (A.ib .sub .i64 x1 1) x3))))].take 1))
      | false => none
    | false => none
set_option maxRecDepth 100000 in
theorem g11J3_eq {R : Type} (A : Ar) (n : Nat) (kk : AV → Heap → Option R) (m0 : Nat) (lg11L2 : Int → Int → Int → Int → Int → Nat → Nat → List Nat → Option R) 
    (hg11L2 : ∀ (s : St) (x0 x1 : Int) (x2 x3 x4 : Int) (x5 x6 : Nat) (x7 : List Nat), keep g11an 2 s = ⟨[(0, (pT 0 0)), (1, (i6 x0)), (2, (i6 x1)), (34, (i6 x2)), (35, (i6 x3))], [(0, ⟨[.one (.int .i64 x4), .one (.sl 501 none x5 1)], 56, 1⟩), (501, ⟨[.nums .u8 x6 x7], 5, 2⟩)]⟩ → g11V A n (pth 19) m0 (blockK 0 (g11T kk)) s = lg11L2 x0 x1 x2 x3 x4 x5 x6 x7) (s : St) (x0 x1 : Int) (x2 x3 x4 : Int) (x5 x6 : Nat) (x7 : List Nat) (h : keep g11an 3 s = ⟨[(0, (pT 0 0)), (1, (i6 x0)), (2, (i6 x1)), (34, (i6 x2)), (35, (i6 x3))], [(0, ⟨[.one (.int .i64 x4), .one (.sl 501 none x5 1)], 56, 1⟩), (501, ⟨[.nums .u8 x6 x7], 5, 2⟩)]⟩) :
    g11D A n (pth 115) (g11W A n (pth 19) m0 (blockK 0 (g11T kk))) s = g11J3 A n kk lg11L2 x0 x1 x2 x3 x4 x5 x6 x7 := by
  have h1 := (g11Wn A n _ _ _ _).trans (hg11L2 (g11R5s0 A x0 x1 x2 x3 x4 ((x7 ++ ([A.i2n .u8 (A.ish .shr .i64 x0 (A.toN (A.ib .mul .i64 8 (A.ib .sub .i64 (A.ib .sub .i64 x1 1) x3))))].take 1)).length) ((x7 ++ ([A.i2n .u8 (A.ish .shr .i64 x0 (A.toN (A.ib .mul .i64 8 (A.ib .sub .i64 (A.ib .sub .i64 x1 1) x3))))].take 1)).length) (x7 ++ ([A.i2n .u8 (A.ish .shr .i64 x0 (A.toN (A.ib .mul .i64 8 (A.ib .sub .i64 (A.ib .sub .i64 x1 1) x3))))].take 1))) x0 x1 x2 (A.ib .add .i64 x3 1) x4 ((x7 ++ ([A.i2n .u8 (A.ish .shr .i64 x0 (A.toN (A.ib .mul .i64 8 (A.ib .sub .i64 (A.ib .sub .i64 x1 1) x3))))].take 1)).length) ((x7 ++ ([A.i2n .u8 (A.ish .shr .i64 x0 (A.toN (A.ib .mul .i64 8 (A.ib .sub .i64 (A.ib .sub .i64 x1 1) x3))))].take 1)).length) (x7 ++ ([A.i2n .u8 (A.ish .shr .i64 x0 (A.toN (A.ib .mul .i64 8 (A.ib .sub .i64 (A.ib .sub .i64 x1 1) x3))))].take 1)) (by kernel_rfl))
  have h2 := (g11F A n _ 5 _ (g11R4s0 A x0 x1 x3 x2 x3 x4 x5 x6 x7) _ (by kernel_rfl) (by kernel_rfl)).trans (g11R5 A n (g11W A n (pth 19) m0 (blockK 0 (g11T kk))) x0 x1 x2 x3 x4 ((x7 ++ ([A.i2n .u8 (A.ish .shr .i64 x0 (A.toN (A.ib .mul .i64 8 (A.ib .sub .i64 (A.ib .sub .i64 x1 1) x3))))].take 1)).length) ((x7 ++ ([A.i2n .u8 (A.ish .shr .i64 x0 (A.toN (A.ib .mul .i64 8 (A.ib .sub .i64 (A.ib .sub .i64 x1 1) x3))))].take 1)).length) (x7 ++ ([A.i2n .u8 (A.ish .shr .i64 x0 (A.toN (A.ib .mul .i64 8 (A.ib .sub .i64 (A.ib .sub .i64 x1 1) x3))))].take 1)))
  rw [h1] at h2
  have h3 := (g11Qn A n _ _ _).trans h2
  have h4 := (blockK_n 1 _ _).trans h3
  have h5 := (g11F A n _ 4 _ (g11R3s0 A x0 x1 x2 x3 x4 x5 x6 x7) _ (by kernel_rfl) (by kernel_rfl)).trans (g11R4 A n (blockK 1 (g11Q A n (pth 243) (g11W A n (pth 19) m0 (blockK 0 (g11T kk))))) x0 x1 x3 x2 x3 x4 x5 x6 x7)
  rw [h4] at h5
  have h6 := (g11Qn A n _ _ _).trans h5
  have h7 := (g11F A n _ 3 _ ⟨[(0, (pT 0 0)), (1, (i6 x0)), (2, (i6 x1)), (34, (i6 x2)), (35, (i6 x3))], [(0, ⟨[.one (.int .i64 x4), .one (.sl 501 none x5 1)], 56, 1⟩), (501, ⟨[.nums .u8 x6 x7], 5, 2⟩)]⟩ _ (by kernel_rfl) (by kernel_rfl)).trans (g11R3 A n (g11Q A n (pth 819) (blockK 1 (g11Q A n (pth 243) (g11W A n (pth 19) m0 (blockK 0 (g11T kk)))))) x0 x1 x2 x3 x4 x5 x6 x7)
  rw [h6] at h7
  have h8 := (g11p307 A n _ _).trans h7
  have h9 := (g11p179 A n _ _).trans h8
  have h10 := (g11p115 A n _ _).trans h9
  exact (g11F A n _ 3 _ _ ⟨[(0, (pT 0 0)), (1, (i6 x0)), (2, (i6 x1)), (34, (i6 x2)), (35, (i6 x3))], [(0, ⟨[.one (.int .i64 x4), .one (.sl 501 none x5 1)], 56, 1⟩), (501, ⟨[.nums .u8 x6 x7], 5, 2⟩)]⟩ (by kernel_rfl) (h.trans (by kernel_rfl))).trans (h10.trans (by kernel_rfl))
def g11L2 {R : Type} (A : Ar) (n : Nat) (kk : AV → Heap → Option R)  : Nat → Int → Int → Int → Int → Int → Nat → Nat → List Nat → Option R
  | 0, _, _, _, _, _, _, _, _ => none
  | m + 1, x0, x1, x2, x3, x4, x5, x6, x7 => match (generalizing := false) A.ic .lss x3 x2 with
  | true => g11J3 A n kk (g11L2 A n kk  m) x0 x1 x2 x3 x4 x5 x6 x7
  | false => kk (.tup []) [(0, ⟨[.one (.int .i64 x4), .one (.sl 501 none x5 1)], 56, 1⟩), (501, ⟨[.nums .u8 x6 x7], 5, 2⟩)]
set_option maxRecDepth 100000 in
theorem g11L2_eq {R : Type} (A : Ar) (n : Nat) (kk : AV → Heap → Option R)    (m : Nat) (s : St) (x0 x1 : Int) (x2 x3 x4 : Int) (x5 x6 : Nat) (x7 : List Nat) (h : keep g11an 2 s = ⟨[(0, (pT 0 0)), (1, (i6 x0)), (2, (i6 x1)), (34, (i6 x2)), (35, (i6 x3))], [(0, ⟨[.one (.int .i64 x4), .one (.sl 501 none x5 1)], 56, 1⟩), (501, ⟨[.nums .u8 x6 x7], 5, 2⟩)]⟩) :
    g11V A n (pth 19) m (blockK 0 (g11T kk)) s = g11L2 A n kk  m x0 x1 x2 x3 x4 x5 x6 x7 := by
  induction m generalizing s x0 x1 x2 x3 x4 x5 x6 x7 with
  | zero => rfl
  | succ m ih =>
    have h1 := (g11Qn A n _ _ _).trans (g11J3_eq A n kk m (g11L2 A n kk  m) ih  (g11R2s0 A x0 x1 x2 x3 x4 x5 x6 x7) x0 x1 x2 x3 x4 x5 x6 x7 (by kernel_rfl))
    have h2 := (g11p147 A n _ _).trans h1
    have h3 : (g11T kk) .normal (g11R2s0 A x0 x1 x2 x3 x4 x5 x6 x7) = kk (.tup []) [(0, ⟨[.one (.int .i64 x4), .one (.sl 501 none x5 1)], 56, 1⟩), (501, ⟨[.nums .u8 x6 x7], 5, 2⟩)] := by kernel_rfl
    have h4 := (blockK_hit 0 _ _).trans h3
    have h5 := (g11We A n (pth 19) m _ _ _).trans h4
    have h6 := (g11Qe A n (pth 115) _ _ _).trans h5
    have h7 := (g11p211 A n _ _).trans h6
    have h8 := g11p83 A n (g11Q A n (pth 115) (g11W A n (pth 19) m (blockK 0 (g11T kk)))) (g11R2s0 A x0 x1 x2 x3 x4 x5 x6 x7) (A.ic .lss x3 x2) (by kernel_rfl)
    rw [h2, h7] at h8
    have h9 := (g11p51 A n _ _).trans h8
    have h10 := (g11Qn A n _ _ _).trans h9
    have h11 := (g11F A n _ 2 _ ⟨[(0, (pT 0 0)), (1, (i6 x0)), (2, (i6 x1)), (34, (i6 x2)), (35, (i6 x3))], [(0, ⟨[.one (.int .i64 x4), .one (.sl 501 none x5 1)], 56, 1⟩), (501, ⟨[.nums .u8 x6 x7], 5, 2⟩)]⟩ _ (by kernel_rfl) (by kernel_rfl)).trans (g11R2 A n (g11Q A n (pth 51) (g11W A n (pth 19) m (blockK 0 (g11T kk)))) x0 x1 x2 x3 x4 x5 x6 x7)
    rw [h10] at h11
    have h12 := (g11p19 A n _ _).trans h11
    exact (loopD_first (s' := ⟨[(0, (pT 0 0)), (1, (i6 x0)), (2, (i6 x1)), (34, (i6 x2)), (35, (i6 x3))], [(0, ⟨[.one (.int .i64 x4), .one (.sl 501 none x5 1)], 56, 1⟩), (501, ⟨[.nums .u8 x6 x7], 5, 2⟩)]⟩) (id := 2) (by kernel_rfl) (h.trans (by kernel_rfl)) _).trans ((g11Vs A n _ m _ _).trans (h12.trans (by kernel_rfl)))
def g11J1 {R : Type} (A : Ar) (n : Nat) (kk : AV → Heap → Option R)  (x0 x1 x2 : Int) (x3 x4 : Nat) (x5 : List Nat) : Option R :=
  g11L2 A n kk  n x0 x1 x1 0 x2 x3 x4 x5
set_option maxRecDepth 100000 in
theorem g11J1_eq {R : Type} (A : Ar) (n : Nat) (kk : AV → Heap → Option R)    (s : St) (x0 x1 x2 : Int) (x3 x4 : Nat) (x5 : List Nat) (h : keep g11an 1 s = ⟨[(0, (pT 0 0)), (1, (i6 x0)), (2, (i6 x1))], [(0, ⟨[.one (.int .i64 x2), .one (.sl 501 none x3 1)], 56, 1⟩), (501, ⟨[.nums .u8 x4 x5], 5, 2⟩)]⟩) :
    g11D A n (pth 3) (g11T kk) s = g11J1 A n kk  x0 x1 x2 x3 x4 x5 := by
  have h1 := (g11p11 A n _ _).trans (g11L2_eq A n kk    n (g11R1s0 A x0 x1 x2 x3 x4 x5) x0 x1 x1 0 x2 x3 x4 x5 (by kernel_rfl))
  have h2 := (g11p7 A n _ _).trans h1
  have h3 := (g11Qn A n _ _ _).trans h2
  have h4 := (g11F A n _ 1 _ ⟨[(0, (pT 0 0)), (1, (i6 x0)), (2, (i6 x1))], [(0, ⟨[.one (.int .i64 x2), .one (.sl 501 none x3 1)], 56, 1⟩), (501, ⟨[.nums .u8 x4 x5], 5, 2⟩)]⟩ _ (by kernel_rfl) (by kernel_rfl)).trans (g11R1 A n (g11Q A n (pth 7) (g11T kk)) x0 x1 x2 x3 x4 x5)
  rw [h3] at h4
  have h5 := (g11p3 A n _ _).trans h4
  exact (g11F A n _ 1 _ _ ⟨[(0, (pT 0 0)), (1, (i6 x0)), (2, (i6 x1))], [(0, ⟨[.one (.int .i64 x2), .one (.sl 501 none x3 1)], 56, 1⟩), (501, ⟨[.nums .u8 x4 x5], 5, 2⟩)]⟩ (by kernel_rfl) (h.trans (by kernel_rfl))).trans (h5.trans (by kernel_rfl))
def g11 {R : Type} (A : Ar) (n : Nat) (kk : AV → Heap → Option R) (x0 x1 x2 : Int) (x3 x4 : Nat) (x5 : List Nat) : Option R :=
  match (generalizing := false) A.ic .geq x1 1 with
  | true => match (generalizing := false) A.ic .leq x1 7 with
    | true => match (generalizing := false) g29ok A (A.ic .geq x0 0) 1 x2 x3 x4 x5 with
      | true => match (generalizing := false) !(g29r0 A (A.ic .geq x0 0) 1 x2 x3 x4 x5) with
        | true => kk (.tup []) [(0, ⟨[.one (.int .i64 (g29r1 A (A.ic .geq x0 0) 1 x2 x3 x4 x5)), .one (.sl 501 none (g29r2 A (A.ic .geq x0 0) 1 x2 x3 x4 x5) 1)], 56, 1⟩), (501, ⟨[.nums .u8 (g29r3 A (A.ic .geq x0 0) 1 x2 x3 x4 x5) (g29r4 A (A.ic .geq x0 0) 1 x2 x3 x4 x5)], 5, 2⟩)]
        | false => match (generalizing := false) A.neg (A.ib .mul .i64 8 x1) with
          | true => none
          | false => match (generalizing := false) g29ok A (A.ic .lss x0 (A.ish .shl .i64 1 (A.toN (A.ib .mul .i64 8 x1)))) 1 (g29r1 A (A.ic .geq x0 0) 1 x2 x3 x4 x5) (g29r2 A (A.ic .geq x0 0) 1 x2 x3 x4 x5) (g29r3 A (A.ic .geq x0 0) 1 x2 x3 x4 x5) (g29r4 A (A.ic .geq x0 0) 1 x2 x3 x4 x5) with
            | true => match (generalizing := false) !(g11t0 A x0 x1 x2 x3 x4 x5) with
              | true => kk (.tup []) [(0, ⟨[.one (.int .i64 (g11t1 A x0 x1 x2 x3 x4 x5)), .one (.sl 501 none (g11t2 A x0 x1 x2 x3 x4 x5) 1)], 56, 1⟩), (501, ⟨[.nums .u8 (g11t3 A x0 x1 x2 x3 x4 x5) (g11t4 A x0 x1 x2 x3 x4 x5)], 5, 2⟩)]
              | false => g11J1 A n kk  x0 x1 (g11t1 A x0 x1 x2 x3 x4 x5) (g11t2 A x0 x1 x2 x3 x4 x5) (g11t3 A x0 x1 x2 x3 x4 x5) (g11t4 A x0 x1 x2 x3 x4 x5)
            | false => none
      | false => none
    | false => match (generalizing := false) g29ok A false 1 x2 x3 x4 x5 with
      | true => match (generalizing := false) !(g29r0 A false 1 x2 x3 x4 x5) with
        | true => kk (.tup []) [(0, ⟨[.one (.int .i64 (g29r1 A false 1 x2 x3 x4 x5)), .one (.sl 501 none (g29r2 A false 1 x2 x3 x4 x5) 1)], 56, 1⟩), (501, ⟨[.nums .u8 (g29r3 A false 1 x2 x3 x4 x5) (g29r4 A false 1 x2 x3 x4 x5)], 5, 2⟩)]
        | false => match (generalizing := false) A.neg (A.ib .mul .i64 8 x1) with
          | true => none
          | false => match (generalizing := false) g29ok A (A.ic .lss x0 (A.ish .shl .i64 1 (A.toN (A.ib .mul .i64 8 x1)))) 1 (g29r1 A false 1 x2 x3 x4 x5) (g29r2 A false 1 x2 x3 x4 x5) (g29r3 A false 1 x2 x3 x4 x5) (g29r4 A false 1 x2 x3 x4 x5) with
            | true => match (generalizing := false) !(g11t5 A x0 x1 x2 x3 x4 x5) with
              | true => kk (.tup []) [(0, ⟨[.one (.int .i64 (g11t6 A x0 x1 x2 x3 x4 x5)), .one (.sl 501 none (g11t7 A x0 x1 x2 x3 x4 x5) 1)], 56, 1⟩), (501, ⟨[.nums .u8 (g11t8 A x0 x1 x2 x3 x4 x5) (g11t9 A x0 x1 x2 x3 x4 x5)], 5, 2⟩)]
              | false => g11J1 A n kk  x0 x1 (g11t6 A x0 x1 x2 x3 x4 x5) (g11t7 A x0 x1 x2 x3 x4 x5) (g11t8 A x0 x1 x2 x3 x4 x5) (g11t9 A x0 x1 x2 x3 x4 x5)
            | false => none
      | false => none
  | false => match (generalizing := false) g29ok A false 1 x2 x3 x4 x5 with
    | true => match (generalizing := false) !(g29r0 A false 1 x2 x3 x4 x5) with
      | true => kk (.tup []) [(0, ⟨[.one (.int .i64 (g29r1 A false 1 x2 x3 x4 x5)), .one (.sl 501 none (g29r2 A false 1 x2 x3 x4 x5) 1)], 56, 1⟩), (501, ⟨[.nums .u8 (g29r3 A false 1 x2 x3 x4 x5) (g29r4 A false 1 x2 x3 x4 x5)], 5, 2⟩)]
      | false => match (generalizing := false) A.neg (A.ib .mul .i64 8 x1) with
        | true => none
        | false => match (generalizing := false) g29ok A (A.ic .lss x0 (A.ish .shl .i64 1 (A.toN (A.ib .mul .i64 8 x1)))) 1 (g29r1 A false 1 x2 x3 x4 x5) (g29r2 A false 1 x2 x3 x4 x5) (g29r3 A false 1 x2 x3 x4 x5) (g29r4 A false 1 x2 x3 x4 x5) with
          | true => match (generalizing := false) !(g11t5 A x0 x1 x2 x3 x4 x5) with
            | true => kk (.tup []) [(0, ⟨[.one (.int .i64 (g11t6 A x0 x1 x2 x3 x4 x5)), .one (.sl 501 none (g11t7 A x0 x1 x2 x3 x4 x5) 1)], 56, 1⟩), (501, ⟨[.nums .u8 (g11t8 A x0 x1 x2 x3 x4 x5) (g11t9 A x0 x1 x2 x3 x4 x5)], 5, 2⟩)]
            | false => g11J1 A n kk  x0 x1 (g11t6 A x0 x1 x2 x3 x4 x5) (g11t7 A x0 x1 x2 x3 x4 x5) (g11t8 A x0 x1 x2 x3 x4 x5) (g11t9 A x0 x1 x2 x3 x4 x5)
          | false => none
    | false => none
set_option maxRecDepth 100000 in
theorem g11_eq {R : Type} (A : Ar) (n : Nat) (kk : AV → Heap → Option R) (x0 x1 x2 : Int) (x3 x4 : Nat) (x5 : List Nat) :
    funD A gtys (g11O A) g11an n (bodyOf Try.f11) g11res [(pT 0 0), (i6 x0), (i6 x1)] [(0, ⟨[.one (.int .i64 x2), .one (.sl 501 none x3 1)], 56, 1⟩), (501, ⟨[.nums .u8 x4 x5], 5, 2⟩)] kk = g11 A n kk x0 x1 x2 x3 x4 x5 := by
  have h1 : (g11T kk) .ret (g11R0s0 A x0 x1 x2 x3 x4 x5) = kk (.tup []) [(0, ⟨[.one (.int .i64 (g29r1 A (A.ic .geq x0 0) 1 x2 x3 x4 x5)), .one (.sl 501 none (g29r2 A (A.ic .geq x0 0) 1 x2 x3 x4 x5) 1)], 56, 1⟩), (501, ⟨[.nums .u8 (g29r3 A (A.ic .geq x0 0) 1 x2 x3 x4 x5) (g29r4 A (A.ic .geq x0 0) 1 x2 x3 x4 x5)], 5, 2⟩)] := by kernel_rfl
  have h2 := (g11Qr A n (pth 3) _ _).trans h1
  have h3 := (g11p10 A n _ _).trans h2
  have h4 := (g11p6 A n (g11Q A n (pth 3) (g11T kk)) (g11R0s0 A x0 x1 x2 x3 x4 x5) true (by kernel_rfl)).trans h3
  have h5 := (g11Qn A n _ _ _).trans h4
  have h6 : (g11T kk) .ret (g11R0s1 A x0 x1 x2 x3 x4 x5) = kk (.tup []) [(0, ⟨[.one (.int .i64 (g11t1 A x0 x1 x2 x3 x4 x5)), .one (.sl 501 none (g11t2 A x0 x1 x2 x3 x4 x5) 1)], 56, 1⟩), (501, ⟨[.nums .u8 (g11t3 A x0 x1 x2 x3 x4 x5) (g11t4 A x0 x1 x2 x3 x4 x5)], 5, 2⟩)] := by kernel_rfl
  have h7 := (g11Qr A n (pth 3) _ _).trans h6
  have h8 := (g11p10 A n _ _).trans h7
  have h9 := (g11Qn A n _ _ _).trans (g11J1_eq A n kk     (g11R0s1 A x0 x1 x2 x3 x4 x5) x0 x1 (g11t1 A x0 x1 x2 x3 x4 x5) (g11t2 A x0 x1 x2 x3 x4 x5) (g11t3 A x0 x1 x2 x3 x4 x5) (g11t4 A x0 x1 x2 x3 x4 x5) (by kernel_rfl))
  have h10 := (g11p14 A n _ _).trans h9
  have h11 := g11p6 A n (g11Q A n (pth 3) (g11T kk)) (g11R0s1 A x0 x1 x2 x3 x4 x5) (!(g11t0 A x0 x1 x2 x3 x4 x5)) (by kernel_rfl)
  rw [h8, h10] at h11
  have h12 := (g11Qn A n _ _ _).trans h11
  have h13 : (g11T kk) .ret (g11R0s2 A x0 x1 x2 x3 x4 x5) = kk (.tup []) [(0, ⟨[.one (.int .i64 (g29r1 A false 1 x2 x3 x4 x5)), .one (.sl 501 none (g29r2 A false 1 x2 x3 x4 x5) 1)], 56, 1⟩), (501, ⟨[.nums .u8 (g29r3 A false 1 x2 x3 x4 x5) (g29r4 A false 1 x2 x3 x4 x5)], 5, 2⟩)] := by kernel_rfl
  have h14 := (g11Qr A n (pth 3) _ _).trans h13
  have h15 := (g11p10 A n _ _).trans h14
  have h16 := (g11p6 A n (g11Q A n (pth 3) (g11T kk)) (g11R0s2 A x0 x1 x2 x3 x4 x5) true (by kernel_rfl)).trans h15
  have h17 := (g11Qn A n _ _ _).trans h16
  have h18 : (g11T kk) .ret (g11R0s3 A x0 x1 x2 x3 x4 x5) = kk (.tup []) [(0, ⟨[.one (.int .i64 (g11t6 A x0 x1 x2 x3 x4 x5)), .one (.sl 501 none (g11t7 A x0 x1 x2 x3 x4 x5) 1)], 56, 1⟩), (501, ⟨[.nums .u8 (g11t8 A x0 x1 x2 x3 x4 x5) (g11t9 A x0 x1 x2 x3 x4 x5)], 5, 2⟩)] := by kernel_rfl
  have h19 := (g11Qr A n (pth 3) _ _).trans h18
  have h20 := (g11p10 A n _ _).trans h19
  have h21 := (g11Qn A n _ _ _).trans (g11J1_eq A n kk     (g11R0s3 A x0 x1 x2 x3 x4 x5) x0 x1 (g11t6 A x0 x1 x2 x3 x4 x5) (g11t7 A x0 x1 x2 x3 x4 x5) (g11t8 A x0 x1 x2 x3 x4 x5) (g11t9 A x0 x1 x2 x3 x4 x5) (by kernel_rfl))
  have h22 := (g11p14 A n _ _).trans h21
  have h23 := g11p6 A n (g11Q A n (pth 3) (g11T kk)) (g11R0s3 A x0 x1 x2 x3 x4 x5) (!(g11t5 A x0 x1 x2 x3 x4 x5)) (by kernel_rfl)
  rw [h20, h22] at h23
  have h24 := (g11Qn A n _ _ _).trans h23
  have h25 : (g11T kk) .ret (g11R0s4 A x0 x1 x2 x3 x4 x5) = kk (.tup []) [(0, ⟨[.one (.int .i64 (g29r1 A false 1 x2 x3 x4 x5)), .one (.sl 501 none (g29r2 A false 1 x2 x3 x4 x5) 1)], 56, 1⟩), (501, ⟨[.nums .u8 (g29r3 A false 1 x2 x3 x4 x5) (g29r4 A false 1 x2 x3 x4 x5)], 5, 2⟩)] := by kernel_rfl
  have h26 := (g11Qr A n (pth 3) _ _).trans h25
  have h27 := (g11p10 A n _ _).trans h26
  have h28 := (g11p6 A n (g11Q A n (pth 3) (g11T kk)) (g11R0s4 A x0 x1 x2 x3 x4 x5) true (by kernel_rfl)).trans h27
  have h29 := (g11Qn A n _ _ _).trans h28
  have h30 : (g11T kk) .ret (g11R0s5 A x0 x1 x2 x3 x4 x5) = kk (.tup []) [(0, ⟨[.one (.int .i64 (g11t6 A x0 x1 x2 x3 x4 x5)), .one (.sl 501 none (g11t7 A x0 x1 x2 x3 x4 x5) 1)], 56, 1⟩), (501, ⟨[.nums .u8 (g11t8 A x0 x1 x2 x3 x4 x5) (g11t9 A x0 x1 x2 x3 x4 x5)], 5, 2⟩)] := by kernel_rfl
  have h31 := (g11Qr A n (pth 3) _ _).trans h30
  have h32 := (g11p10 A n _ _).trans h31
  have h33 := (g11Qn A n _ _ _).trans (g11J1_eq A n kk     (g11R0s5 A x0 x1 x2 x3 x4 x5) x0 x1 (g11t6 A x0 x1 x2 x3 x4 x5) (g11t7 A x0 x1 x2 x3 x4 x5) (g11t8 A x0 x1 x2 x3 x4 x5) (g11t9 A x0 x1 x2 x3 x4 x5) (by kernel_rfl))
  have h34 := (g11p14 A n _ _).trans h33
  have h35 := g11p6 A n (g11Q A n (pth 3) (g11T kk)) (g11R0s5 A x0 x1 x2 x3 x4 x5) (!(g11t5 A x0 x1 x2 x3 x4 x5)) (by kernel_rfl)
  rw [h32, h34] at h35
  have h36 := (g11Qn A n _ _ _).trans h35
  have h37 := (g11F A n _ 0 _ ⟨[(0, (pT 0 0)), (1, (i6 x0)), (2, (i6 x1))], [(0, ⟨[.one (.int .i64 x2), .one (.sl 501 none x3 1)], 56, 1⟩), (501, ⟨[.nums .u8 x4 x5], 5, 2⟩)]⟩ _ (by kernel_rfl) (by kernel_rfl)).trans (g11R0 A n (g11Q A n (pth 6) (g11Q A n (pth 3) (g11T kk))) x0 x1 x2 x3 x4 x5)
  rw [h5, h12, h17, h24, h29, h36] at h37
  have h38 := (g11p2 A n _ _).trans h37
  have h39 := (g11p1 A n _ _).trans h38
  exact (show funD A gtys (g11O A) g11an n (bodyOf Try.f11) g11res [(pT 0 0), (i6 x0), (i6 x1)] [(0, ⟨[.one (.int .i64 x2), .one (.sl 501 none x3 1)], 56, 1⟩), (501, ⟨[.nums .u8 x4 x5], 5, 2⟩)] kk = g11D A n (pth 1) (g11T kk) ⟨[(0, (pT 0 0)), (1, (i6 x0)), (2, (i6 x1))], [(0, ⟨[.one (.int .i64 x2), .one (.sl 501 none x3 1)], 56, 1⟩), (501, ⟨[.nums .u8 x4 x5], 5, 2⟩)]⟩ from by kernel_rfl).trans (h39.trans (by kernel_rfl))
def g11is (o : Option (AV × Heap)) : Bool := match o with
  | some (.tup [], [(n0, ⟨[.one (.int .i64 _), .one (.sl n1 none _ n2)], n3, n4⟩), (n5, ⟨[.nums .u8 _ _], n6, n7⟩)]) => Nat.beq n0 0 && (Nat.beq n1 501 && (Nat.beq n2 1 && (Nat.beq n3 56 && (Nat.beq n4 1 && (Nat.beq n5 501 && (Nat.beq n6 5 && (Nat.beq n7 2)))))))
  | _ => false
def g11g0 (o : Option (AV × Heap)) : Int := match o with
  | some (.tup [], [(_, ⟨[.one (.int .i64 x), .one (.sl _ none _ _)], _, _⟩), (_, ⟨[.nums .u8 _ _], _, _⟩)]) => x
  | _ => 0
def g11g1 (o : Option (AV × Heap)) : Nat := match o with
  | some (.tup [], [(_, ⟨[.one (.int .i64 _), .one (.sl _ none x _)], _, _⟩), (_, ⟨[.nums .u8 _ _], _, _⟩)]) => x
  | _ => 0
def g11g2 (o : Option (AV × Heap)) : Nat := match o with
  | some (.tup [], [(_, ⟨[.one (.int .i64 _), .one (.sl _ none _ _)], _, _⟩), (_, ⟨[.nums .u8 x _], _, _⟩)]) => x
  | _ => 0
def g11g3 (o : Option (AV × Heap)) : List Nat := match o with
  | some (.tup [], [(_, ⟨[.one (.int .i64 _), .one (.sl _ none _ _)], _, _⟩), (_, ⟨[.nums .u8 _ x], _, _⟩)]) => x
  | _ => []
theorem g11is_spec {o : Option (AV × Heap)} (h : g11is o = true) : o = some ((.tup []), [(0, ⟨[.one (.int .i64 (g11g0 o)), .one (.sl 501 none (g11g1 o) 1)], 56, 1⟩), (501, ⟨[.nums .u8 (g11g2 o) (g11g3 o)], 5, 2⟩)]) := by
  unfold g11is at h
  split at h
  · rename_i n0 z1 n1 z3 n2 n3 n4 n5 z8 z9 n6 n7
    simp only [Bool.and_eq_true] at h
    have en0 := beq_true h.1
    subst en0
    replace h := h.2
    have en1 := beq_true h.1
    subst en1
    replace h := h.2
    have en2 := beq_true h.1
    subst en2
    replace h := h.2
    have en3 := beq_true h.1
    subst en3
    replace h := h.2
    have en4 := beq_true h.1
    subst en4
    replace h := h.2
    have en5 := beq_true h.1
    subst en5
    replace h := h.2
    have en6 := beq_true h.1
    subst en6
    replace h := h.2
    have en7 := beq_true h
    subst en7
    rfl
  · cases h
def g11v (A : Ar) (x0 x1 x2 : Int) (x3 x4 : Nat) (x5 : List Nat) : Option (AV × Heap) := g11 A (100000) (outH [0, 501] none) x0 x1 x2 x3 x4 x5
def g11ok (A : Ar) (x0 x1 x2 : Int) (x3 x4 : Nat) (x5 : List Nat) : Bool := g11is (g11v A x0 x1 x2 x3 x4 x5)
def g11r0 (A : Ar) (x0 x1 x2 : Int) (x3 x4 : Nat) (x5 : List Nat) : Int := g11g0 (g11v A x0 x1 x2 x3 x4 x5)
def g11r1 (A : Ar) (x0 x1 x2 : Int) (x3 x4 : Nat) (x5 : List Nat) : Nat := g11g1 (g11v A x0 x1 x2 x3 x4 x5)
def g11r2 (A : Ar) (x0 x1 x2 : Int) (x3 x4 : Nat) (x5 : List Nat) : Nat := g11g2 (g11v A x0 x1 x2 x3 x4 x5)
def g11r3 (A : Ar) (x0 x1 x2 : Int) (x3 x4 : Nat) (x5 : List Nat) : List Nat := g11g3 (g11v A x0 x1 x2 x3 x4 x5)
theorem g11ok_spec {A : Ar} {x0 x1 x2 x3 x4 x5} (h : g11ok A x0 x1 x2 x3 x4 x5 = true) : g11v A x0 x1 x2 x3 x4 x5 = some ((.tup []), [(0, ⟨[.one (.int .i64 (g11r0 A x0 x1 x2 x3 x4 x5)), .one (.sl 501 none (g11r1 A x0 x1 x2 x3 x4 x5) 1)], 56, 1⟩), (501, ⟨[.nums .u8 (g11r2 A x0 x1 x2 x3 x4 x5) (g11r3 A x0 x1 x2 x3 x4 x5)], 5, 2⟩)]) := g11is_spec h
def g11o (A : Ar) (args : List AV) (h : Heap) : Option (Bool × AV × Heap) := match args, h with
  | [.v (.cell (.ptr n0 n1 none)), .v (.cell (.int .i64 x0)), .v (.cell (.int .i64 x1))], [(n2, ⟨[.one (.int .i64 x2), .one (.sl n3 none x3 n4)], n5, n6⟩), (n7, ⟨[.nums .u8 x4 x5], n8, n9⟩)] => match Nat.beq n0 0 && (Nat.beq n1 0 && (Nat.beq n2 0 && (Nat.beq n3 501 && (Nat.beq n4 1 && (Nat.beq n5 56 && (Nat.beq n6 1 && (Nat.beq n7 501 && (Nat.beq n8 5 && (Nat.beq n9 2))))))))) with
    | true => some (g11ok A x0 x1 x2 x3 x4 x5, (.tup []), [(0, ⟨[.one (.int .i64 (g11r0 A x0 x1 x2 x3 x4 x5)), .one (.sl 501 none (g11r1 A x0 x1 x2 x3 x4 x5) 1)], 56, 1⟩), (501, ⟨[.nums .u8 (g11r2 A x0 x1 x2 x3 x4 x5) (g11r3 A x0 x1 x2 x3 x4 x5)], 5, 2⟩)])
    | false => none
  | _, _ => none
theorem g11o_sound : ∀ args h v h', g11o realA args h = some (true, v, h') → FnH Try.prog 11 args h v h' := by
  intro args h v h' hh
  unfold g11o at hh
  split at hh
  · rename_i n0 n1 x0 x1 n2 x2 n3 x3 n4 n5 n6 n7 x4 x5 n8 n9
    split at hh
    case h_2 => cases hh
    rename_i hc0
    simp only [Option.some.injEq, Prod.mk.injEq] at hh
    obtain ⟨hc, hv, hh⟩ := hh
    subst hv
    subst hh
    simp only [Bool.and_eq_true] at hc0
    have en0 := beq_true hc0.1
    subst en0
    replace hc0 := hc0.2
    have en1 := beq_true hc0.1
    subst en1
    replace hc0 := hc0.2
    have en2 := beq_true hc0.1
    subst en2
    replace hc0 := hc0.2
    have en3 := beq_true hc0.1
    subst en3
    replace hc0 := hc0.2
    have en4 := beq_true hc0.1
    subst en4
    replace hc0 := hc0.2
    have en5 := beq_true hc0.1
    subst en5
    replace hc0 := hc0.2
    have en6 := beq_true hc0.1
    subst en6
    replace hc0 := hc0.2
    have en7 := beq_true hc0.1
    subst en7
    replace hc0 := hc0.2
    have en8 := beq_true hc0.1
    subst en8
    replace hc0 := hc0.2
    have en9 := beq_true hc0
    subst en9
    exact fnh_of mixed gtysOK g11O_sound g11O_det (an := g11an) (n := 100000) Try.func11 (c := bodyOf Try.f11) rfl (by kernel_rfl) Try.call11 (Nat.le_of_ble_eq_true rfl) (pins := [0, 501]) (nilr := none) (fun _ => (g11_eq realA (100000) (outH [0, 501] none) x0 x1 x2 x3 x4 x5).trans (show g11v realA x0 x1 x2 x3 x4 x5 = _ from g11ok_spec hc))
  · cases hh
def g13O (A : Ar) : Orc := orcOf []
theorem g13O_sound : OSound Try.prog (g13O realA) := orc_sound fun f g hm args v hv => by
  cases hm
theorem g13O_det : ODet (g13O realA) := orc_det _
def g13an : Ann := [(0, ([0, 1], [0, 501])), (1, ([0, 1], [0, 501]))]
def g13res : List ResultVar := []
noncomputable def g13D {R : Type} (A : Ar) (n : Nat) (p : List Bool) (K : Ex → St → Option R) (s : St) : Option R := codeD A gtys (g13O A) g13an n (sub (bodyOf Try.f13) p) K s
noncomputable def g13Q {R : Type} (A : Ar) (n : Nat) (p : List Bool) (K : Ex → St → Option R) : Ex → St → Option R := seqC (g13D A n p K) K
noncomputable def g13T {R : Type} (kk : AV → Heap → Option R) : Ex → St → Option R := finD gtys g13res kk
theorem g13Qn {R : Type} (A : Ar) (n : Nat) (p : List Bool) (K : Ex → St → Option R) (s : St) : g13Q A n p K .normal s = g13D A n p K s := rfl
theorem g13F {R : Type} (A : Ar) (n : Nat) (p : List Bool) (i : Nat) (K : Ex → St → Option R) (s s' : St) (hf : firstReg (sub (bodyOf Try.f13) p) = some i) (h : keep g13an i s = keep g13an i s') : g13D A n p K s = g13D A n p K s' := codeD_first hf h K
section
variable {R : Type} (A : Ar) (n : Nat) (K : Ex → St → Option R) (s : St)
theorem g13p1 : g13D A n (pth 1) K s = g13D A n (pth 2) (g13Q A n (pth 3) K) s := by kernel_rfl
theorem g13p3 (t : Bool) : ev s (.tmp 9) = some (.v (.cell (.bool t))) → g13D A n (pth 3) K s = (match t with
    | true => g13D A n (pth 5) K s
    | false => g13D A n (pth 7) K s) := codeD_cond t
theorem g13p7 : g13D A n (pth 7) K s = K .normal s := by kernel_rfl
def g13R0s0 (A : Ar) (x0 : List Nat) (x1 : Int) (x2 x3 : Nat) (x4 : List Nat) : St := ⟨[(9, (bO (A.ic .eql x1 0))), (8, (i6 x1)), (7, (pT 0 0)), (6, (pT 0 0)), (5, (pT 0 0)), (4, (pT 0 0)), (0, (pT 0 0)), (1, (tS x0))], [(0, ⟨[.one (.int .i64 x1), .one (.sl 501 none x2 1)], 56, 1⟩), (501, ⟨[.nums .u8 x3 x4], 5, 2⟩)]⟩
theorem g13R0 (x0 : List Nat) (x1 : Int) (x2 x3 : Nat) (x4 : List Nat) : g13D A n (pth 2) K ⟨[(0, (pT 0 0)), (1, (tS x0))], [(0, ⟨[.one (.int .i64 x1), .one (.sl 501 none x2 1)], 56, 1⟩), (501, ⟨[.nums .u8 x3 x4], 5, 2⟩)]⟩ = K .normal (g13R0s0 A x0 x1 x2 x3 x4) := by kernel_rfl
def g13R1s0 (A : Ar) (x0 : List Nat) (x1 : Int) (x2 x3 : Nat) (x4 : List Nat) : St := ⟨[(18, (pT 0 1)), (17, (pT 0 0)), (16, (sL 501 none ((x4 ++ x0).length) 1)), (15, (tS x0)), (14, (.v (.cell .top))), (13, (pT 0 1)), (12, (pT 0 0)), (11, (pT 0 0)), (10, (pT 0 0)), (0, (pT 0 0)), (1, (tS x0))], [(501, ⟨[.nums .u8 ((x4 ++ x0).length) (x4 ++ x0)], 5, 2⟩), (0, ⟨[.one (.int .i64 x1), .one (.sl 501 none ((x4 ++ x0).length) 1)], 56, 1⟩)]⟩
theorem g13R1 (x0 : List Nat) (x1 : Int) (x2 x3 : Nat) (x4 : List Nat) : g13D A n (pth 5) K ⟨[(0, (pT 0 0)), (1, (tS x0))], [(0, ⟨[.one (.int .i64 x1), .one (.sl 501 none x2 1)], 56, 1⟩), (501, ⟨[.nums .u8 x3 x4], 5, 2⟩)]⟩ = match (generalizing := false) A.eq x2 (x3 + 0) with
    | true => match (generalizing := false) A.le ((x4 ++ x0).length) 140737488355328 with
      | true => K .normal (g13R1s0 A x0 x1 x2 x3 x4)
      | false => none
    | false => none := by kernel_rfl
end
def g13 {R : Type} (A : Ar) (n : Nat) (kk : AV → Heap → Option R) (x0 : List Nat) (x1 : Int) (x2 x3 : Nat) (x4 : List Nat) : Option R :=
  match (generalizing := false) A.ic .eql x1 0 with
  | true => match (generalizing := false) A.eq x2 (x3 + 0) with
    | true => match (generalizing := false) A.le ((x4 ++ x0).length) 140737488355328 with
      | true => kk (.tup []) [(501, ⟨[.nums .u8 ((x4 ++ x0).length) (x4 ++ x0)], 5, 2⟩), (0, ⟨[.one (.int .i64 x1), .one (.sl 501 none ((x4 ++ x0).length) 1)], 56, 1⟩)]
      | false => none
    | false => none
  | false => kk (.tup []) [(0, ⟨[.one (.int .i64 x1), .one (.sl 501 none x2 1)], 56, 1⟩), (501, ⟨[.nums .u8 x3 x4], 5, 2⟩)]
set_option maxRecDepth 100000 in
theorem g13_eq {R : Type} (A : Ar) (n : Nat) (kk : AV → Heap → Option R) (x0 : List Nat) (x1 : Int) (x2 x3 : Nat) (x4 : List Nat) :
    funD A gtys (g13O A) g13an n (bodyOf Try.f13) g13res [(pT 0 0), (tS x0)] [(0, ⟨[.one (.int .i64 x1), .one (.sl 501 none x2 1)], 56, 1⟩), (501, ⟨[.nums .u8 x3 x4], 5, 2⟩)] kk = g13 A n kk x0 x1 x2 x3 x4 := by
  have h1 : (g13T kk) .normal (g13R1s0 A x0 x1 x2 x3 x4) = kk (.tup []) [(501, ⟨[.nums .u8 ((x4 ++ x0).length) (x4 ++ x0)], 5, 2⟩), (0, ⟨[.one (.int .i64 x1), .one (.sl 501 none ((x4 ++ x0).length) 1)], 56, 1⟩)] := by kernel_rfl
  have h2 := (g13F A n _ 1 _ (g13R0s0 A x0 x1 x2 x3 x4) _ (by kernel_rfl) (by kernel_rfl)).trans (g13R1 A n (g13T kk) x0 x1 x2 x3 x4)
  rw [h1] at h2
  have h3 : (g13T kk) .normal (g13R0s0 A x0 x1 x2 x3 x4) = kk (.tup []) [(0, ⟨[.one (.int .i64 x1), .one (.sl 501 none x2 1)], 56, 1⟩), (501, ⟨[.nums .u8 x3 x4], 5, 2⟩)] := by kernel_rfl
  have h4 := (g13p7 A n _ _).trans h3
  have h5 := g13p3 A n (g13T kk) (g13R0s0 A x0 x1 x2 x3 x4) (A.ic .eql x1 0) (by kernel_rfl)
  rw [h2, h4] at h5
  have h6 := (g13Qn A n _ _ _).trans h5
  have h7 := (g13F A n _ 0 _ ⟨[(0, (pT 0 0)), (1, (tS x0))], [(0, ⟨[.one (.int .i64 x1), .one (.sl 501 none x2 1)], 56, 1⟩), (501, ⟨[.nums .u8 x3 x4], 5, 2⟩)]⟩ _ (by kernel_rfl) (by kernel_rfl)).trans (g13R0 A n (g13Q A n (pth 3) (g13T kk)) x0 x1 x2 x3 x4)
  rw [h6] at h7
  have h8 := (g13p1 A n _ _).trans h7
  exact (show funD A gtys (g13O A) g13an n (bodyOf Try.f13) g13res [(pT 0 0), (tS x0)] [(0, ⟨[.one (.int .i64 x1), .one (.sl 501 none x2 1)], 56, 1⟩), (501, ⟨[.nums .u8 x3 x4], 5, 2⟩)] kk = g13D A n (pth 1) (g13T kk) ⟨[(0, (pT 0 0)), (1, (tS x0))], [(0, ⟨[.one (.int .i64 x1), .one (.sl 501 none x2 1)], 56, 1⟩), (501, ⟨[.nums .u8 x3 x4], 5, 2⟩)]⟩ from by kernel_rfl).trans (h8.trans (by kernel_rfl))
def g13is (o : Option (AV × Heap)) : Bool := match o with
  | some (.tup [], [(n0, ⟨[.one (.int .i64 _), .one (.sl n1 none _ n2)], n3, n4⟩), (n5, ⟨[.nums .u8 _ _], n6, n7⟩)]) => Nat.beq n0 0 && (Nat.beq n1 501 && (Nat.beq n2 1 && (Nat.beq n3 56 && (Nat.beq n4 1 && (Nat.beq n5 501 && (Nat.beq n6 5 && (Nat.beq n7 2)))))))
  | _ => false
def g13g0 (o : Option (AV × Heap)) : Int := match o with
  | some (.tup [], [(_, ⟨[.one (.int .i64 x), .one (.sl _ none _ _)], _, _⟩), (_, ⟨[.nums .u8 _ _], _, _⟩)]) => x
  | _ => 0
def g13g1 (o : Option (AV × Heap)) : Nat := match o with
  | some (.tup [], [(_, ⟨[.one (.int .i64 _), .one (.sl _ none x _)], _, _⟩), (_, ⟨[.nums .u8 _ _], _, _⟩)]) => x
  | _ => 0
def g13g2 (o : Option (AV × Heap)) : Nat := match o with
  | some (.tup [], [(_, ⟨[.one (.int .i64 _), .one (.sl _ none _ _)], _, _⟩), (_, ⟨[.nums .u8 x _], _, _⟩)]) => x
  | _ => 0
def g13g3 (o : Option (AV × Heap)) : List Nat := match o with
  | some (.tup [], [(_, ⟨[.one (.int .i64 _), .one (.sl _ none _ _)], _, _⟩), (_, ⟨[.nums .u8 _ x], _, _⟩)]) => x
  | _ => []
theorem g13is_spec {o : Option (AV × Heap)} (h : g13is o = true) : o = some ((.tup []), [(0, ⟨[.one (.int .i64 (g13g0 o)), .one (.sl 501 none (g13g1 o) 1)], 56, 1⟩), (501, ⟨[.nums .u8 (g13g2 o) (g13g3 o)], 5, 2⟩)]) := by
  unfold g13is at h
  split at h
  · rename_i n0 z1 n1 z3 n2 n3 n4 n5 z8 z9 n6 n7
    simp only [Bool.and_eq_true] at h
    have en0 := beq_true h.1
    subst en0
    replace h := h.2
    have en1 := beq_true h.1
    subst en1
    replace h := h.2
    have en2 := beq_true h.1
    subst en2
    replace h := h.2
    have en3 := beq_true h.1
    subst en3
    replace h := h.2
    have en4 := beq_true h.1
    subst en4
    replace h := h.2
    have en5 := beq_true h.1
    subst en5
    replace h := h.2
    have en6 := beq_true h.1
    subst en6
    replace h := h.2
    have en7 := beq_true h
    subst en7
    rfl
  · cases h
def g13v (A : Ar) (x0 : List Nat) (x1 : Int) (x2 x3 : Nat) (x4 : List Nat) : Option (AV × Heap) := g13 A (100000) (outH [0, 501] none) x0 x1 x2 x3 x4
def g13ok (A : Ar) (x0 : List Nat) (x1 : Int) (x2 x3 : Nat) (x4 : List Nat) : Bool := g13is (g13v A x0 x1 x2 x3 x4)
def g13r0 (A : Ar) (x0 : List Nat) (x1 : Int) (x2 x3 : Nat) (x4 : List Nat) : Int := g13g0 (g13v A x0 x1 x2 x3 x4)
def g13r1 (A : Ar) (x0 : List Nat) (x1 : Int) (x2 x3 : Nat) (x4 : List Nat) : Nat := g13g1 (g13v A x0 x1 x2 x3 x4)
def g13r2 (A : Ar) (x0 : List Nat) (x1 : Int) (x2 x3 : Nat) (x4 : List Nat) : Nat := g13g2 (g13v A x0 x1 x2 x3 x4)
def g13r3 (A : Ar) (x0 : List Nat) (x1 : Int) (x2 x3 : Nat) (x4 : List Nat) : List Nat := g13g3 (g13v A x0 x1 x2 x3 x4)
theorem g13ok_spec {A : Ar} {x0 x1 x2 x3 x4} (h : g13ok A x0 x1 x2 x3 x4 = true) : g13v A x0 x1 x2 x3 x4 = some ((.tup []), [(0, ⟨[.one (.int .i64 (g13r0 A x0 x1 x2 x3 x4)), .one (.sl 501 none (g13r1 A x0 x1 x2 x3 x4) 1)], 56, 1⟩), (501, ⟨[.nums .u8 (g13r2 A x0 x1 x2 x3 x4) (g13r3 A x0 x1 x2 x3 x4)], 5, 2⟩)]) := g13is_spec h
def g13o (A : Ar) (args : List AV) (h : Heap) : Option (Bool × AV × Heap) := match args, h with
  | [.v (.cell (.ptr n0 n1 none)), .v (.cell (.str x0))], [(n2, ⟨[.one (.int .i64 x1), .one (.sl n3 none x2 n4)], n5, n6⟩), (n7, ⟨[.nums .u8 x3 x4], n8, n9⟩)] => match Nat.beq n0 0 && (Nat.beq n1 0 && (Nat.beq n2 0 && (Nat.beq n3 501 && (Nat.beq n4 1 && (Nat.beq n5 56 && (Nat.beq n6 1 && (Nat.beq n7 501 && (Nat.beq n8 5 && (Nat.beq n9 2))))))))) with
    | true => some (g13ok A x0 x1 x2 x3 x4, (.tup []), [(0, ⟨[.one (.int .i64 (g13r0 A x0 x1 x2 x3 x4)), .one (.sl 501 none (g13r1 A x0 x1 x2 x3 x4) 1)], 56, 1⟩), (501, ⟨[.nums .u8 (g13r2 A x0 x1 x2 x3 x4) (g13r3 A x0 x1 x2 x3 x4)], 5, 2⟩)])
    | false => none
  | _, _ => none
theorem g13o_sound : ∀ args h v h', g13o realA args h = some (true, v, h') → FnH Try.prog 13 args h v h' := by
  intro args h v h' hh
  unfold g13o at hh
  split at hh
  · rename_i n0 n1 x0 n2 x1 n3 x2 n4 n5 n6 n7 x3 x4 n8 n9
    split at hh
    case h_2 => cases hh
    rename_i hc0
    simp only [Option.some.injEq, Prod.mk.injEq] at hh
    obtain ⟨hc, hv, hh⟩ := hh
    subst hv
    subst hh
    simp only [Bool.and_eq_true] at hc0
    have en0 := beq_true hc0.1
    subst en0
    replace hc0 := hc0.2
    have en1 := beq_true hc0.1
    subst en1
    replace hc0 := hc0.2
    have en2 := beq_true hc0.1
    subst en2
    replace hc0 := hc0.2
    have en3 := beq_true hc0.1
    subst en3
    replace hc0 := hc0.2
    have en4 := beq_true hc0.1
    subst en4
    replace hc0 := hc0.2
    have en5 := beq_true hc0.1
    subst en5
    replace hc0 := hc0.2
    have en6 := beq_true hc0.1
    subst en6
    replace hc0 := hc0.2
    have en7 := beq_true hc0.1
    subst en7
    replace hc0 := hc0.2
    have en8 := beq_true hc0.1
    subst en8
    replace hc0 := hc0.2
    have en9 := beq_true hc0
    subst en9
    exact fnh_of mixed gtysOK g13O_sound g13O_det (an := g13an) (n := 100000) Try.func13 (c := bodyOf Try.f13) rfl (by kernel_rfl) Try.call13 (Nat.le_of_ble_eq_true rfl) (pins := [0, 501]) (nilr := none) (fun _ => (g13_eq realA (100000) (outH [0, 501] none) x0 x1 x2 x3 x4).trans (show g13v realA x0 x1 x2 x3 x4 = _ from g13ok_spec hc))
  · cases hh
def g15O (A : Ar) : Orc := orcH [] [(11, ⟨[0, 1], (some (0, 1, 1, ⟨[.nums .u8 0 []], 5, 2⟩)), (g11o A)⟩), (13, ⟨[0, 1], (some (0, 1, 1, ⟨[.nums .u8 0 []], 5, 2⟩)), (g13o A)⟩)]
theorem g15O_sound : OSound Try.prog (g15O realA) := orcH_sound (fun f g hm args v hv => by
    cases hm) (fun f e hm args h v h' hv => by
    simp only [List.mem_cons, List.not_mem_nil, or_false, Prod.mk.injEq] at hm
    rcases hm with ⟨rfl, rfl⟩ | ⟨rfl, rfl⟩
    · exact g11o_sound _ _ _ _ hv
    · exact g13o_sound _ _ _ _ hv)
theorem g15O_det : ODet (g15O realA) := orcH_det _ _
def g15an : Ann := [(0, ([0, 1, 2], [0, 501])), (1, ([0, 1], [0, 501]))]
def g15res : List ResultVar := []
abbrev g15t0 (A : Ar) (x0 : List Nat) (x1 x2 : Int) (x3 x4 : Nat) (x5 : List Nat) : Int := g13r0 A x0 (g11r0 A (A.ofN x0.length) x1 x2 x3 x4 x5) (g11r1 A (A.ofN x0.length) x1 x2 x3 x4 x5) (g11r2 A (A.ofN x0.length) x1 x2 x3 x4 x5) (g11r3 A (A.ofN x0.length) x1 x2 x3 x4 x5)
abbrev g15t1 (A : Ar) (x0 : List Nat) (x1 x2 : Int) (x3 x4 : Nat) (x5 : List Nat) : Nat := g13r1 A x0 (g11r0 A (A.ofN x0.length) x1 x2 x3 x4 x5) (g11r1 A (A.ofN x0.length) x1 x2 x3 x4 x5) (g11r2 A (A.ofN x0.length) x1 x2 x3 x4 x5) (g11r3 A (A.ofN x0.length) x1 x2 x3 x4 x5)
abbrev g15t2 (A : Ar) (x0 : List Nat) (x1 x2 : Int) (x3 x4 : Nat) (x5 : List Nat) : Nat := g13r2 A x0 (g11r0 A (A.ofN x0.length) x1 x2 x3 x4 x5) (g11r1 A (A.ofN x0.length) x1 x2 x3 x4 x5) (g11r2 A (A.ofN x0.length) x1 x2 x3 x4 x5) (g11r3 A (A.ofN x0.length) x1 x2 x3 x4 x5)
abbrev g15t3 (A : Ar) (x0 : List Nat) (x1 x2 : Int) (x3 x4 : Nat) (x5 : List Nat) : List Nat := g13r3 A x0 (g11r0 A (A.ofN x0.length) x1 x2 x3 x4 x5) (g11r1 A (A.ofN x0.length) x1 x2 x3 x4 x5) (g11r2 A (A.ofN x0.length) x1 x2 x3 x4 x5) (g11r3 A (A.ofN x0.length) x1 x2 x3 x4 x5)
noncomputable def g15D {R : Type} (A : Ar) (n : Nat) (p : List Bool) (K : Ex → St → Option R) (s : St) : Option R := codeD A gtys (g15O A) g15an n (sub (bodyOf Try.f15) p) K s
noncomputable def g15Q {R : Type} (A : Ar) (n : Nat) (p : List Bool) (K : Ex → St → Option R) : Ex → St → Option R := seqC (g15D A n p K) K
noncomputable def g15T {R : Type} (kk : AV → Heap → Option R) : Ex → St → Option R := finD gtys g15res kk
theorem g15Qn {R : Type} (A : Ar) (n : Nat) (p : List Bool) (K : Ex → St → Option R) (s : St) : g15Q A n p K .normal s = g15D A n p K s := rfl
theorem g15F {R : Type} (A : Ar) (n : Nat) (p : List Bool) (i : Nat) (K : Ex → St → Option R) (s s' : St) (hf : firstReg (sub (bodyOf Try.f15) p) = some i) (h : keep g15an i s = keep g15an i s') : g15D A n p K s = g15D A n p K s' := codeD_first hf h K
section
variable {R : Type} (A : Ar) (n : Nat) (K : Ex → St → Option R) (s : St)
theorem g15p1 : g15D A n (pth 1) K s = g15D A n (pth 2) (g15Q A n (pth 3) K) s := by kernel_rfl
def g15R0s0 (A : Ar) (x0 : List Nat) (x1 x2 : Int) (x3 x4 : Nat) (x5 : List Nat) : St := ⟨[(10, (.tup [])), (9, (i6 x1)), (8, (i6 (A.ofN x0.length))), (7, (tS x0)), (6, (pT 0 0)), (0, (pT 0 0)), (1, (tS x0)), (2, (i6 x1))], [(0, ⟨[.one (.int .i64 (g11r0 A (A.ofN x0.length) x1 x2 x3 x4 x5)), .one (.sl 501 none (g11r1 A (A.ofN x0.length) x1 x2 x3 x4 x5) 1)], 56, 1⟩), (501, ⟨[.nums .u8 (g11r2 A (A.ofN x0.length) x1 x2 x3 x4 x5) (g11r3 A (A.ofN x0.length) x1 x2 x3 x4 x5)], 5, 2⟩)]⟩
theorem g15R0 (x0 : List Nat) (x1 x2 : Int) (x3 x4 : Nat) (x5 : List Nat) : g15D A n (pth 2) K ⟨[(0, (pT 0 0)), (1, (tS x0)), (2, (i6 x1))], [(0, ⟨[.one (.int .i64 x2), .one (.sl 501 none x3 1)], 56, 1⟩), (501, ⟨[.nums .u8 x4 x5], 5, 2⟩)]⟩ = match (generalizing := false) g11ok A (A.ofN x0.length) x1 x2 x3 x4 x5 with
    | true => K .normal (g15R0s0 A x0 x1 x2 x3 x4 x5)
    | false => none := by kernel_rfl
def g15R1s0 (A : Ar) (x0 : List Nat) (x1 : Int) (x2 x3 : Nat) (x4 : List Nat) : St := ⟨[(13, (.tup [])), (12, (tS x0)), (11, (pT 0 0)), (0, (pT 0 0)), (1, (tS x0))], [(0, ⟨[.one (.int .i64 (g13r0 A x0 x1 x2 x3 x4)), .one (.sl 501 none (g13r1 A x0 x1 x2 x3 x4) 1)], 56, 1⟩), (501, ⟨[.nums .u8 (g13r2 A x0 x1 x2 x3 x4) (g13r3 A x0 x1 x2 x3 x4)], 5, 2⟩)]⟩
theorem g15R1 (x0 : List Nat) (x1 : Int) (x2 x3 : Nat) (x4 : List Nat) : g15D A n (pth 3) K ⟨[(0, (pT 0 0)), (1, (tS x0))], [(0, ⟨[.one (.int .i64 x1), .one (.sl 501 none x2 1)], 56, 1⟩), (501, ⟨[.nums .u8 x3 x4], 5, 2⟩)]⟩ = match (generalizing := false) g13ok A x0 x1 x2 x3 x4 with
    | true => K .normal (g15R1s0 A x0 x1 x2 x3 x4)
    | false => none := by kernel_rfl
end
def g15 {R : Type} (A : Ar) (n : Nat) (kk : AV → Heap → Option R) (x0 : List Nat) (x1 x2 : Int) (x3 x4 : Nat) (x5 : List Nat) : Option R :=
  match (generalizing := false) g11ok A (A.ofN x0.length) x1 x2 x3 x4 x5 with
  | true => match (generalizing := false) g13ok A x0 (g11r0 A (A.ofN x0.length) x1 x2 x3 x4 x5) (g11r1 A (A.ofN x0.length) x1 x2 x3 x4 x5) (g11r2 A (A.ofN x0.length) x1 x2 x3 x4 x5) (g11r3 A (A.ofN x0.length) x1 x2 x3 x4 x5) with
    | true => kk (.tup []) [(0, ⟨[.one (.int .i64 (g15t0 A x0 x1 x2 x3 x4 x5)), .one (.sl 501 none (g15t1 A x0 x1 x2 x3 x4 x5) 1)], 56, 1⟩), (501, ⟨[.nums .u8 (g15t2 A x0 x1 x2 x3 x4 x5) (g15t3 A x0 x1 x2 x3 x4 x5)], 5, 2⟩)]
    | false => none
  | false => none
set_option maxRecDepth 100000 in
theorem g15_eq {R : Type} (A : Ar) (n : Nat) (kk : AV → Heap → Option R) (x0 : List Nat) (x1 x2 : Int) (x3 x4 : Nat) (x5 : List Nat) :
    funD A gtys (g15O A) g15an n (bodyOf Try.f15) g15res [(pT 0 0), (tS x0), (i6 x1)] [(0, ⟨[.one (.int .i64 x2), .one (.sl 501 none x3 1)], 56, 1⟩), (501, ⟨[.nums .u8 x4 x5], 5, 2⟩)] kk = g15 A n kk x0 x1 x2 x3 x4 x5 := by
  have h1 : (g15T kk) .normal (g15R1s0 A x0 (g11r0 A (A.ofN x0.length) x1 x2 x3 x4 x5) (g11r1 A (A.ofN x0.length) x1 x2 x3 x4 x5) (g11r2 A (A.ofN x0.length) x1 x2 x3 x4 x5) (g11r3 A (A.ofN x0.length) x1 x2 x3 x4 x5)) = kk (.tup []) [(0, ⟨[.one (.int .i64 (g15t0 A x0 x1 x2 x3 x4 x5)), .one (.sl 501 none (g15t1 A x0 x1 x2 x3 x4 x5) 1)], 56, 1⟩), (501, ⟨[.nums .u8 (g15t2 A x0 x1 x2 x3 x4 x5) (g15t3 A x0 x1 x2 x3 x4 x5)], 5, 2⟩)] := by kernel_rfl
  have h2 := (g15F A n _ 1 _ (g15R0s0 A x0 x1 x2 x3 x4 x5) _ (by kernel_rfl) (by kernel_rfl)).trans (g15R1 A n (g15T kk) x0 (g11r0 A (A.ofN x0.length) x1 x2 x3 x4 x5) (g11r1 A (A.ofN x0.length) x1 x2 x3 x4 x5) (g11r2 A (A.ofN x0.length) x1 x2 x3 x4 x5) (g11r3 A (A.ofN x0.length) x1 x2 x3 x4 x5))
  rw [h1] at h2
  have h3 := (g15Qn A n _ _ _).trans h2
  have h4 := (g15F A n _ 0 _ ⟨[(0, (pT 0 0)), (1, (tS x0)), (2, (i6 x1))], [(0, ⟨[.one (.int .i64 x2), .one (.sl 501 none x3 1)], 56, 1⟩), (501, ⟨[.nums .u8 x4 x5], 5, 2⟩)]⟩ _ (by kernel_rfl) (by kernel_rfl)).trans (g15R0 A n (g15Q A n (pth 3) (g15T kk)) x0 x1 x2 x3 x4 x5)
  rw [h3] at h4
  have h5 := (g15p1 A n _ _).trans h4
  exact (show funD A gtys (g15O A) g15an n (bodyOf Try.f15) g15res [(pT 0 0), (tS x0), (i6 x1)] [(0, ⟨[.one (.int .i64 x2), .one (.sl 501 none x3 1)], 56, 1⟩), (501, ⟨[.nums .u8 x4 x5], 5, 2⟩)] kk = g15D A n (pth 1) (g15T kk) ⟨[(0, (pT 0 0)), (1, (tS x0)), (2, (i6 x1))], [(0, ⟨[.one (.int .i64 x2), .one (.sl 501 none x3 1)], 56, 1⟩), (501, ⟨[.nums .u8 x4 x5], 5, 2⟩)]⟩ from by kernel_rfl).trans (h5.trans (by kernel_rfl))
def g15is (o : Option (AV × Heap)) : Bool := match o with
  | some (.tup [], [(n0, ⟨[.one (.int .i64 _), .one (.sl n1 none _ n2)], n3, n4⟩), (n5, ⟨[.nums .u8 _ _], n6, n7⟩)]) => Nat.beq n0 0 && (Nat.beq n1 501 && (Nat.beq n2 1 && (Nat.beq n3 56 && (Nat.beq n4 1 && (Nat.beq n5 501 && (Nat.beq n6 5 && (Nat.beq n7 2)))))))
  | _ => false
def g15g0 (o : Option (AV × Heap)) : Int := match o with
  | some (.tup [], [(_, ⟨[.one (.int .i64 x), .one (.sl _ none _ _)], _, _⟩), (_, ⟨[.nums .u8 _ _], _, _⟩)]) => x
  | _ => 0
def g15g1 (o : Option (AV × Heap)) : Nat := match o with
  | some (.tup [], [(_, ⟨[.one (.int .i64 _), .one (.sl _ none x _)], _, _⟩), (_, ⟨[.nums .u8 _ _], _, _⟩)]) => x
  | _ => 0
def g15g2 (o : Option (AV × Heap)) : Nat := match o with
  | some (.tup [], [(_, ⟨[.one (.int .i64 _), .one (.sl _ none _ _)], _, _⟩), (_, ⟨[.nums .u8 x _], _, _⟩)]) => x
  | _ => 0
def g15g3 (o : Option (AV × Heap)) : List Nat := match o with
  | some (.tup [], [(_, ⟨[.one (.int .i64 _), .one (.sl _ none _ _)], _, _⟩), (_, ⟨[.nums .u8 _ x], _, _⟩)]) => x
  | _ => []
theorem g15is_spec {o : Option (AV × Heap)} (h : g15is o = true) : o = some ((.tup []), [(0, ⟨[.one (.int .i64 (g15g0 o)), .one (.sl 501 none (g15g1 o) 1)], 56, 1⟩), (501, ⟨[.nums .u8 (g15g2 o) (g15g3 o)], 5, 2⟩)]) := by
  unfold g15is at h
  split at h
  · rename_i n0 z1 n1 z3 n2 n3 n4 n5 z8 z9 n6 n7
    simp only [Bool.and_eq_true] at h
    have en0 := beq_true h.1
    subst en0
    replace h := h.2
    have en1 := beq_true h.1
    subst en1
    replace h := h.2
    have en2 := beq_true h.1
    subst en2
    replace h := h.2
    have en3 := beq_true h.1
    subst en3
    replace h := h.2
    have en4 := beq_true h.1
    subst en4
    replace h := h.2
    have en5 := beq_true h.1
    subst en5
    replace h := h.2
    have en6 := beq_true h.1
    subst en6
    replace h := h.2
    have en7 := beq_true h
    subst en7
    rfl
  · cases h
def g15v (A : Ar) (x0 : List Nat) (x1 x2 : Int) (x3 x4 : Nat) (x5 : List Nat) : Option (AV × Heap) := g15 A (100000) (outH [0, 501] none) x0 x1 x2 x3 x4 x5
def g15ok (A : Ar) (x0 : List Nat) (x1 x2 : Int) (x3 x4 : Nat) (x5 : List Nat) : Bool := g15is (g15v A x0 x1 x2 x3 x4 x5)
def g15r0 (A : Ar) (x0 : List Nat) (x1 x2 : Int) (x3 x4 : Nat) (x5 : List Nat) : Int := g15g0 (g15v A x0 x1 x2 x3 x4 x5)
def g15r1 (A : Ar) (x0 : List Nat) (x1 x2 : Int) (x3 x4 : Nat) (x5 : List Nat) : Nat := g15g1 (g15v A x0 x1 x2 x3 x4 x5)
def g15r2 (A : Ar) (x0 : List Nat) (x1 x2 : Int) (x3 x4 : Nat) (x5 : List Nat) : Nat := g15g2 (g15v A x0 x1 x2 x3 x4 x5)
def g15r3 (A : Ar) (x0 : List Nat) (x1 x2 : Int) (x3 x4 : Nat) (x5 : List Nat) : List Nat := g15g3 (g15v A x0 x1 x2 x3 x4 x5)
theorem g15ok_spec {A : Ar} {x0 x1 x2 x3 x4 x5} (h : g15ok A x0 x1 x2 x3 x4 x5 = true) : g15v A x0 x1 x2 x3 x4 x5 = some ((.tup []), [(0, ⟨[.one (.int .i64 (g15r0 A x0 x1 x2 x3 x4 x5)), .one (.sl 501 none (g15r1 A x0 x1 x2 x3 x4 x5) 1)], 56, 1⟩), (501, ⟨[.nums .u8 (g15r2 A x0 x1 x2 x3 x4 x5) (g15r3 A x0 x1 x2 x3 x4 x5)], 5, 2⟩)]) := g15is_spec h
def g15o (A : Ar) (args : List AV) (h : Heap) : Option (Bool × AV × Heap) := match args, h with
  | [.v (.cell (.ptr n0 n1 none)), .v (.cell (.str x0)), .v (.cell (.int .i64 x1))], [(n2, ⟨[.one (.int .i64 x2), .one (.sl n3 none x3 n4)], n5, n6⟩), (n7, ⟨[.nums .u8 x4 x5], n8, n9⟩)] => match Nat.beq n0 0 && (Nat.beq n1 0 && (Nat.beq n2 0 && (Nat.beq n3 501 && (Nat.beq n4 1 && (Nat.beq n5 56 && (Nat.beq n6 1 && (Nat.beq n7 501 && (Nat.beq n8 5 && (Nat.beq n9 2))))))))) with
    | true => some (g15ok A x0 x1 x2 x3 x4 x5, (.tup []), [(0, ⟨[.one (.int .i64 (g15r0 A x0 x1 x2 x3 x4 x5)), .one (.sl 501 none (g15r1 A x0 x1 x2 x3 x4 x5) 1)], 56, 1⟩), (501, ⟨[.nums .u8 (g15r2 A x0 x1 x2 x3 x4 x5) (g15r3 A x0 x1 x2 x3 x4 x5)], 5, 2⟩)])
    | false => none
  | _, _ => none
theorem g15o_sound : ∀ args h v h', g15o realA args h = some (true, v, h') → FnH Try.prog 15 args h v h' := by
  intro args h v h' hh
  unfold g15o at hh
  split at hh
  · rename_i n0 n1 x0 x1 n2 x2 n3 x3 n4 n5 n6 n7 x4 x5 n8 n9
    split at hh
    case h_2 => cases hh
    rename_i hc0
    simp only [Option.some.injEq, Prod.mk.injEq] at hh
    obtain ⟨hc, hv, hh⟩ := hh
    subst hv
    subst hh
    simp only [Bool.and_eq_true] at hc0
    have en0 := beq_true hc0.1
    subst en0
    replace hc0 := hc0.2
    have en1 := beq_true hc0.1
    subst en1
    replace hc0 := hc0.2
    have en2 := beq_true hc0.1
    subst en2
    replace hc0 := hc0.2
    have en3 := beq_true hc0.1
    subst en3
    replace hc0 := hc0.2
    have en4 := beq_true hc0.1
    subst en4
    replace hc0 := hc0.2
    have en5 := beq_true hc0.1
    subst en5
    replace hc0 := hc0.2
    have en6 := beq_true hc0.1
    subst en6
    replace hc0 := hc0.2
    have en7 := beq_true hc0.1
    subst en7
    replace hc0 := hc0.2
    have en8 := beq_true hc0.1
    subst en8
    replace hc0 := hc0.2
    have en9 := beq_true hc0
    subst en9
    exact fnh_of mixed gtysOK g15O_sound g15O_det (an := g15an) (n := 100000) Try.func15 (c := bodyOf Try.f15) rfl (by kernel_rfl) Try.call15 (Nat.le_of_ble_eq_true rfl) (pins := [0, 501]) (nilr := none) (fun _ => (g15_eq realA (100000) (outH [0, 501] none) x0 x1 x2 x3 x4 x5).trans (show g15v realA x0 x1 x2 x3 x4 x5 = _ from g15ok_spec hc))
  · cases hh
def g17O (A : Ar) : Orc := orcOf []
theorem g17O_sound : OSound Try.prog (g17O realA) := orc_sound fun f g hm args v hv => by
  cases hm
theorem g17O_det : ODet (g17O realA) := orc_det _
def g17an : Ann := [(0, ([0], [0, 501])), (1, ([0], [0, 501])), (2, ([0], [0, 501])), (3, ([0], [0, 501]))]
def g17res : List ResultVar := [.tmp 2, .tmp 3]
noncomputable def g17D {R : Type} (A : Ar) (n : Nat) (p : List Bool) (K : Ex → St → Option R) (s : St) : Option R := codeD A gtys (g17O A) g17an n (sub (bodyOf Try.f17) p) K s
noncomputable def g17Q {R : Type} (A : Ar) (n : Nat) (p : List Bool) (K : Ex → St → Option R) : Ex → St → Option R := seqC (g17D A n p K) K
noncomputable def g17T {R : Type} (kk : AV → Heap → Option R) : Ex → St → Option R := finD gtys g17res kk
theorem g17Qn {R : Type} (A : Ar) (n : Nat) (p : List Bool) (K : Ex → St → Option R) (s : St) : g17Q A n p K .normal s = g17D A n p K s := rfl
theorem g17Qr {R : Type} (A : Ar) (n : Nat) (p : List Bool) (K : Ex → St → Option R) (s : St) : g17Q A n p K .ret s = K .ret s := rfl
theorem g17F {R : Type} (A : Ar) (n : Nat) (p : List Bool) (i : Nat) (K : Ex → St → Option R) (s s' : St) (hf : firstReg (sub (bodyOf Try.f17) p) = some i) (h : keep g17an i s = keep g17an i s') : g17D A n p K s = g17D A n p K s' := codeD_first hf h K
section
variable {R : Type} (A : Ar) (n : Nat) (K : Ex → St → Option R) (s : St)
theorem g17p1 : g17D A n (pth 1) K s = g17D A n (pth 2) (g17Q A n (pth 3) K) s := by kernel_rfl
theorem g17p3 : g17D A n (pth 3) K s = g17D A n (pth 5) (g17Q A n (pth 7) K) s := by kernel_rfl
theorem g17p5 : g17D A n (pth 5) K s = g17D A n (pth 9) (g17Q A n (pth 13) K) s := by kernel_rfl
theorem g17p13 (t : Bool) : ev s (.tmp 9) = some (.v (.cell (.bool t))) → g17D A n (pth 13) K s = (match t with
    | true => g17D A n (pth 21) K s
    | false => g17D A n (pth 29) K s) := codeD_cond t
theorem g17p21 : g17D A n (pth 21) K s = g17D A n (pth 37) (g17Q A n (pth 53) K) s := by kernel_rfl
theorem g17p53 : g17D A n (pth 53) K s = K .ret s := by kernel_rfl
theorem g17p29 : g17D A n (pth 29) K s = K .normal s := by kernel_rfl
theorem g17p7 : g17D A n (pth 7) K s = g17D A n (pth 11) (g17Q A n (pth 15) K) s := by kernel_rfl
theorem g17p15 : g17D A n (pth 15) K s = K .ret s := by kernel_rfl
def g17R3s0 (A : Ar) (x0 : Int) (x1 x2 : Nat) (x3 : List Nat) : St := ⟨[(3, (i6 0)), (2, (tS (x3.take x1))), (19, (tS (x3.take x1))), (18, (sL 501 none x1 1)), (17, (pT 0 1)), (16, (pT 0 0)), (15, (pT 0 0)), (0, (pT 0 0))], [(0, ⟨[.one (.int .i64 x0), .one (.sl 501 none x1 1)], 56, 1⟩), (501, ⟨[.nums .u8 x2 x3], 5, 2⟩)]⟩
theorem g17R3 (x0 : Int) (x1 x2 : Nat) (x3 : List Nat) : g17D A n (pth 11) K ⟨[(0, (pT 0 0))], [(0, ⟨[.one (.int .i64 x0), .one (.sl 501 none x1 1)], 56, 1⟩), (501, ⟨[.nums .u8 x2 x3], 5, 2⟩)]⟩ = K .normal (g17R3s0 A x0 x1 x2 x3) := by kernel_rfl
def g17R0s0 (A : Ar) (x0 : Int) (x1 x2 : Nat) (x3 : List Nat) : St := ⟨[(3, (i6 0)), (2, (tS [])), (0, (pT 0 0))], [(0, ⟨[.one (.int .i64 x0), .one (.sl 501 none x1 1)], 56, 1⟩), (501, ⟨[.nums .u8 x2 x3], 5, 2⟩)]⟩
theorem g17R0 (x0 : Int) (x1 x2 : Nat) (x3 : List Nat) : g17D A n (pth 2) K ⟨[(0, (pT 0 0))], [(0, ⟨[.one (.int .i64 x0), .one (.sl 501 none x1 1)], 56, 1⟩), (501, ⟨[.nums .u8 x2 x3], 5, 2⟩)]⟩ = K .normal (g17R0s0 A x0 x1 x2 x3) := by kernel_rfl
def g17R1s0 (A : Ar) (x0 : Int) (x1 x2 : Nat) (x3 : List Nat) : St := ⟨[(9, (bO (A.ic .neq x0 0))), (8, (i6 x0)), (7, (pT 0 0)), (6, (pT 0 0)), (5, (pT 0 0)), (4, (pT 0 0)), (0, (pT 0 0))], [(0, ⟨[.one (.int .i64 x0), .one (.sl 501 none x1 1)], 56, 1⟩), (501, ⟨[.nums .u8 x2 x3], 5, 2⟩)]⟩
theorem g17R1 (x0 : Int) (x1 x2 : Nat) (x3 : List Nat) : g17D A n (pth 9) K ⟨[(0, (pT 0 0))], [(0, ⟨[.one (.int .i64 x0), .one (.sl 501 none x1 1)], 56, 1⟩), (501, ⟨[.nums .u8 x2 x3], 5, 2⟩)]⟩ = K .normal (g17R1s0 A x0 x1 x2 x3) := by kernel_rfl
def g17R2s0 (A : Ar) (x0 : Int) (x1 x2 : Nat) (x3 : List Nat) : St := ⟨[(3, (i6 x0)), (2, (tS [])), (14, (i6 x0)), (13, (pT 0 0)), (12, (pT 0 0)), (11, (pT 0 0)), (10, (pT 0 0)), (0, (pT 0 0))], [(0, ⟨[.one (.int .i64 x0), .one (.sl 501 none x1 1)], 56, 1⟩), (501, ⟨[.nums .u8 x2 x3], 5, 2⟩)]⟩
theorem g17R2 (x0 : Int) (x1 x2 : Nat) (x3 : List Nat) : g17D A n (pth 37) K ⟨[(0, (pT 0 0))], [(0, ⟨[.one (.int .i64 x0), .one (.sl 501 none x1 1)], 56, 1⟩), (501, ⟨[.nums .u8 x2 x3], 5, 2⟩)]⟩ = K .normal (g17R2s0 A x0 x1 x2 x3) := by kernel_rfl
end
def g17J3 {R : Type} (A : Ar) (n : Nat) (kk : AV → Heap → Option R)  (x0 : Int) (x1 x2 : Nat) (x3 : List Nat) : Option R :=
  kk (.tup [(.cell (.str (x3.take x1))), (.cell (.int .i64 0))]) [(0, ⟨[.one (.int .i64 x0), .one (.sl 501 none x1 1)], 56, 1⟩), (501, ⟨[.nums .u8 x2 x3], 5, 2⟩)]
set_option maxRecDepth 100000 in
theorem g17J3_eq {R : Type} (A : Ar) (n : Nat) (kk : AV → Heap → Option R)    (s : St) (x0 : Int) (x1 x2 : Nat) (x3 : List Nat) (h : keep g17an 3 s = ⟨[(0, (pT 0 0))], [(0, ⟨[.one (.int .i64 x0), .one (.sl 501 none x1 1)], 56, 1⟩), (501, ⟨[.nums .u8 x2 x3], 5, 2⟩)]⟩) :
    g17D A n (pth 7) (g17T kk) s = g17J3 A n kk  x0 x1 x2 x3 := by
  have h1 : (g17T kk) .ret (g17R3s0 A x0 x1 x2 x3) = kk (.tup [(.cell (.str (x3.take x1))), (.cell (.int .i64 0))]) [(0, ⟨[.one (.int .i64 x0), .one (.sl 501 none x1 1)], 56, 1⟩), (501, ⟨[.nums .u8 x2 x3], 5, 2⟩)] := by kernel_rfl
  have h2 := (g17p15 A n _ _).trans h1
  have h3 := (g17Qn A n _ _ _).trans h2
  have h4 := (g17F A n _ 3 _ ⟨[(0, (pT 0 0))], [(0, ⟨[.one (.int .i64 x0), .one (.sl 501 none x1 1)], 56, 1⟩), (501, ⟨[.nums .u8 x2 x3], 5, 2⟩)]⟩ _ (by kernel_rfl) (by kernel_rfl)).trans (g17R3 A n (g17Q A n (pth 15) (g17T kk)) x0 x1 x2 x3)
  rw [h3] at h4
  have h5 := (g17p7 A n _ _).trans h4
  exact (g17F A n _ 3 _ _ ⟨[(0, (pT 0 0))], [(0, ⟨[.one (.int .i64 x0), .one (.sl 501 none x1 1)], 56, 1⟩), (501, ⟨[.nums .u8 x2 x3], 5, 2⟩)]⟩ (by kernel_rfl) (h.trans (by kernel_rfl))).trans (h5.trans (by kernel_rfl))
def g17 {R : Type} (A : Ar) (n : Nat) (kk : AV → Heap → Option R) (x0 : Int) (x1 x2 : Nat) (x3 : List Nat) : Option R :=
  match (generalizing := false) A.ic .neq x0 0 with
  | true => kk (.tup [(.cell (.str [])), (.cell (.int .i64 x0))]) [(0, ⟨[.one (.int .i64 x0), .one (.sl 501 none x1 1)], 56, 1⟩), (501, ⟨[.nums .u8 x2 x3], 5, 2⟩)]
  | false => g17J3 A n kk  x0 x1 x2 x3
set_option maxRecDepth 100000 in
theorem g17_eq {R : Type} (A : Ar) (n : Nat) (kk : AV → Heap → Option R) (x0 : Int) (x1 x2 : Nat) (x3 : List Nat) :
    funD A gtys (g17O A) g17an n (bodyOf Try.f17) g17res [(pT 0 0)] [(0, ⟨[.one (.int .i64 x0), .one (.sl 501 none x1 1)], 56, 1⟩), (501, ⟨[.nums .u8 x2 x3], 5, 2⟩)] kk = g17 A n kk x0 x1 x2 x3 := by
  have h1 : (g17T kk) .ret (g17R2s0 A x0 x1 x2 x3) = kk (.tup [(.cell (.str [])), (.cell (.int .i64 x0))]) [(0, ⟨[.one (.int .i64 x0), .one (.sl 501 none x1 1)], 56, 1⟩), (501, ⟨[.nums .u8 x2 x3], 5, 2⟩)] := by kernel_rfl
  have h2 := (g17Qr A n (pth 7) _ _).trans h1
  have h3 := (g17p53 A n _ _).trans h2
  have h4 := (g17Qn A n _ _ _).trans h3
  have h5 := (g17F A n _ 2 _ (g17R1s0 A x0 x1 x2 x3) _ (by kernel_rfl) (by kernel_rfl)).trans (g17R2 A n (g17Q A n (pth 53) (g17Q A n (pth 7) (g17T kk))) x0 x1 x2 x3)
  rw [h4] at h5
  have h6 := (g17p21 A n _ _).trans h5
  have h7 := (g17Qn A n _ _ _).trans (g17J3_eq A n kk     (g17R1s0 A x0 x1 x2 x3) x0 x1 x2 x3 (by kernel_rfl))
  have h8 := (g17p29 A n _ _).trans h7
  have h9 := g17p13 A n (g17Q A n (pth 7) (g17T kk)) (g17R1s0 A x0 x1 x2 x3) (A.ic .neq x0 0) (by kernel_rfl)
  rw [h6, h8] at h9
  have h10 := (g17Qn A n _ _ _).trans h9
  have h11 := (g17F A n _ 1 _ (g17R0s0 A x0 x1 x2 x3) _ (by kernel_rfl) (by kernel_rfl)).trans (g17R1 A n (g17Q A n (pth 13) (g17Q A n (pth 7) (g17T kk))) x0 x1 x2 x3)
  rw [h10] at h11
  have h12 := (g17p5 A n _ _).trans h11
  have h13 := (g17p3 A n _ _).trans h12
  have h14 := (g17Qn A n _ _ _).trans h13
  have h15 := (g17F A n _ 0 _ ⟨[(0, (pT 0 0))], [(0, ⟨[.one (.int .i64 x0), .one (.sl 501 none x1 1)], 56, 1⟩), (501, ⟨[.nums .u8 x2 x3], 5, 2⟩)]⟩ _ (by kernel_rfl) (by kernel_rfl)).trans (g17R0 A n (g17Q A n (pth 3) (g17T kk)) x0 x1 x2 x3)
  rw [h14] at h15
  have h16 := (g17p1 A n _ _).trans h15
  exact (show funD A gtys (g17O A) g17an n (bodyOf Try.f17) g17res [(pT 0 0)] [(0, ⟨[.one (.int .i64 x0), .one (.sl 501 none x1 1)], 56, 1⟩), (501, ⟨[.nums .u8 x2 x3], 5, 2⟩)] kk = g17D A n (pth 1) (g17T kk) ⟨[(0, (pT 0 0))], [(0, ⟨[.one (.int .i64 x0), .one (.sl 501 none x1 1)], 56, 1⟩), (501, ⟨[.nums .u8 x2 x3], 5, 2⟩)]⟩ from by kernel_rfl).trans (h16.trans (by kernel_rfl))
def g17is (o : Option (AV × Heap)) : Bool := match o with
  | some (.tup [(.cell (.str _)), (.cell (.int .i64 _))], [(n0, ⟨[.one (.int .i64 _), .one (.sl n1 none _ n2)], n3, n4⟩), (n5, ⟨[.nums .u8 _ _], n6, n7⟩)]) => Nat.beq n0 0 && (Nat.beq n1 501 && (Nat.beq n2 1 && (Nat.beq n3 56 && (Nat.beq n4 1 && (Nat.beq n5 501 && (Nat.beq n6 5 && (Nat.beq n7 2)))))))
  | _ => false
def g17g0 (o : Option (AV × Heap)) : List Nat := match o with
  | some (.tup [(.cell (.str x)), (.cell (.int .i64 _))], [(_, ⟨[.one (.int .i64 _), .one (.sl _ none _ _)], _, _⟩), (_, ⟨[.nums .u8 _ _], _, _⟩)]) => x
  | _ => []
def g17g1 (o : Option (AV × Heap)) : Int := match o with
  | some (.tup [(.cell (.str _)), (.cell (.int .i64 x))], [(_, ⟨[.one (.int .i64 _), .one (.sl _ none _ _)], _, _⟩), (_, ⟨[.nums .u8 _ _], _, _⟩)]) => x
  | _ => 0
def g17g2 (o : Option (AV × Heap)) : Int := match o with
  | some (.tup [(.cell (.str _)), (.cell (.int .i64 _))], [(_, ⟨[.one (.int .i64 x), .one (.sl _ none _ _)], _, _⟩), (_, ⟨[.nums .u8 _ _], _, _⟩)]) => x
  | _ => 0
def g17g3 (o : Option (AV × Heap)) : Nat := match o with
  | some (.tup [(.cell (.str _)), (.cell (.int .i64 _))], [(_, ⟨[.one (.int .i64 _), .one (.sl _ none x _)], _, _⟩), (_, ⟨[.nums .u8 _ _], _, _⟩)]) => x
  | _ => 0
def g17g4 (o : Option (AV × Heap)) : Nat := match o with
  | some (.tup [(.cell (.str _)), (.cell (.int .i64 _))], [(_, ⟨[.one (.int .i64 _), .one (.sl _ none _ _)], _, _⟩), (_, ⟨[.nums .u8 x _], _, _⟩)]) => x
  | _ => 0
def g17g5 (o : Option (AV × Heap)) : List Nat := match o with
  | some (.tup [(.cell (.str _)), (.cell (.int .i64 _))], [(_, ⟨[.one (.int .i64 _), .one (.sl _ none _ _)], _, _⟩), (_, ⟨[.nums .u8 _ x], _, _⟩)]) => x
  | _ => []
theorem g17is_spec {o : Option (AV × Heap)} (h : g17is o = true) : o = some ((.tup [(.cell (.str (g17g0 o))), (.cell (.int .i64 (g17g1 o)))]), [(0, ⟨[.one (.int .i64 (g17g2 o)), .one (.sl 501 none (g17g3 o) 1)], 56, 1⟩), (501, ⟨[.nums .u8 (g17g4 o) (g17g5 o)], 5, 2⟩)]) := by
  unfold g17is at h
  split at h
  · rename_i z0 z1 n0 z3 n1 z5 n2 n3 n4 n5 z10 z11 n6 n7
    simp only [Bool.and_eq_true] at h
    have en0 := beq_true h.1
    subst en0
    replace h := h.2
    have en1 := beq_true h.1
    subst en1
    replace h := h.2
    have en2 := beq_true h.1
    subst en2
    replace h := h.2
    have en3 := beq_true h.1
    subst en3
    replace h := h.2
    have en4 := beq_true h.1
    subst en4
    replace h := h.2
    have en5 := beq_true h.1
    subst en5
    replace h := h.2
    have en6 := beq_true h.1
    subst en6
    replace h := h.2
    have en7 := beq_true h
    subst en7
    rfl
  · cases h
def g17v (A : Ar) (x0 : Int) (x1 x2 : Nat) (x3 : List Nat) : Option (AV × Heap) := g17 A (100000) (outH [0, 501] none) x0 x1 x2 x3
def g17ok (A : Ar) (x0 : Int) (x1 x2 : Nat) (x3 : List Nat) : Bool := g17is (g17v A x0 x1 x2 x3)
def g17r0 (A : Ar) (x0 : Int) (x1 x2 : Nat) (x3 : List Nat) : List Nat := g17g0 (g17v A x0 x1 x2 x3)
def g17r1 (A : Ar) (x0 : Int) (x1 x2 : Nat) (x3 : List Nat) : Int := g17g1 (g17v A x0 x1 x2 x3)
def g17r2 (A : Ar) (x0 : Int) (x1 x2 : Nat) (x3 : List Nat) : Int := g17g2 (g17v A x0 x1 x2 x3)
def g17r3 (A : Ar) (x0 : Int) (x1 x2 : Nat) (x3 : List Nat) : Nat := g17g3 (g17v A x0 x1 x2 x3)
def g17r4 (A : Ar) (x0 : Int) (x1 x2 : Nat) (x3 : List Nat) : Nat := g17g4 (g17v A x0 x1 x2 x3)
def g17r5 (A : Ar) (x0 : Int) (x1 x2 : Nat) (x3 : List Nat) : List Nat := g17g5 (g17v A x0 x1 x2 x3)
theorem g17ok_spec {A : Ar} {x0 x1 x2 x3} (h : g17ok A x0 x1 x2 x3 = true) : g17v A x0 x1 x2 x3 = some ((.tup [(.cell (.str (g17r0 A x0 x1 x2 x3))), (.cell (.int .i64 (g17r1 A x0 x1 x2 x3)))]), [(0, ⟨[.one (.int .i64 (g17r2 A x0 x1 x2 x3)), .one (.sl 501 none (g17r3 A x0 x1 x2 x3) 1)], 56, 1⟩), (501, ⟨[.nums .u8 (g17r4 A x0 x1 x2 x3) (g17r5 A x0 x1 x2 x3)], 5, 2⟩)]) := g17is_spec h
def g17o (A : Ar) (args : List AV) (h : Heap) : Option (Bool × AV × Heap) := match args, h with
  | [.v (.cell (.ptr n0 n1 none))], [(n2, ⟨[.one (.int .i64 x0), .one (.sl n3 none x1 n4)], n5, n6⟩), (n7, ⟨[.nums .u8 x2 x3], n8, n9⟩)] => match Nat.beq n0 0 && (Nat.beq n1 0 && (Nat.beq n2 0 && (Nat.beq n3 501 && (Nat.beq n4 1 && (Nat.beq n5 56 && (Nat.beq n6 1 && (Nat.beq n7 501 && (Nat.beq n8 5 && (Nat.beq n9 2))))))))) with
    | true => some (g17ok A x0 x1 x2 x3, (.tup [(.cell (.str (g17r0 A x0 x1 x2 x3))), (.cell (.int .i64 (g17r1 A x0 x1 x2 x3)))]), [(0, ⟨[.one (.int .i64 (g17r2 A x0 x1 x2 x3)), .one (.sl 501 none (g17r3 A x0 x1 x2 x3) 1)], 56, 1⟩), (501, ⟨[.nums .u8 (g17r4 A x0 x1 x2 x3) (g17r5 A x0 x1 x2 x3)], 5, 2⟩)])
    | false => none
  | _, _ => none
theorem g17o_sound : ∀ args h v h', g17o realA args h = some (true, v, h') → FnH Try.prog 17 args h v h' := by
  intro args h v h' hh
  unfold g17o at hh
  split at hh
  · rename_i n0 n1 n2 x0 n3 x1 n4 n5 n6 n7 x2 x3 n8 n9
    split at hh
    case h_2 => cases hh
    rename_i hc0
    simp only [Option.some.injEq, Prod.mk.injEq] at hh
    obtain ⟨hc, hv, hh⟩ := hh
    subst hv
    subst hh
    simp only [Bool.and_eq_true] at hc0
    have en0 := beq_true hc0.1
    subst en0
    replace hc0 := hc0.2
    have en1 := beq_true hc0.1
    subst en1
    replace hc0 := hc0.2
    have en2 := beq_true hc0.1
    subst en2
    replace hc0 := hc0.2
    have en3 := beq_true hc0.1
    subst en3
    replace hc0 := hc0.2
    have en4 := beq_true hc0.1
    subst en4
    replace hc0 := hc0.2
    have en5 := beq_true hc0.1
    subst en5
    replace hc0 := hc0.2
    have en6 := beq_true hc0.1
    subst en6
    replace hc0 := hc0.2
    have en7 := beq_true hc0.1
    subst en7
    replace hc0 := hc0.2
    have en8 := beq_true hc0.1
    subst en8
    replace hc0 := hc0.2
    have en9 := beq_true hc0
    subst en9
    exact fnh_of mixed gtysOK g17O_sound g17O_det (an := g17an) (n := 100000) Try.func17 (c := bodyOf Try.f17) rfl (by kernel_rfl) Try.call17 (Nat.le_of_ble_eq_true rfl) (pins := [0, 501]) (nilr := none) (fun _ => (g17_eq realA (100000) (outH [0, 501] none) x0 x1 x2 x3).trans (show g17v realA x0 x1 x2 x3 = _ from g17ok_spec hc))
  · cases hh
def g29a_O (A : Ar) : Orc := orcOf []
theorem g29a_O_sound : OSound Try.prog (g29a_O realA) := orc_sound fun f g hm args v hv => by
  cases hm
theorem g29a_O_det : ODet (g29a_O realA) := orc_det _
def g29a_an : Ann := [(0, ([0, 1, 2], [0])), (1, ([0, 1, 2], [0])), (2, ([0, 2], [0])), (3, ([0], [0]))]
def g29a_res : List ResultVar := [.tmp 6]
noncomputable def g29a_D {R : Type} (A : Ar) (n : Nat) (p : List Bool) (K : Ex → St → Option R) (s : St) : Option R := codeD A gtys (g29a_O A) g29a_an n (sub (bodyOf Try.f29) p) K s
noncomputable def g29a_Q {R : Type} (A : Ar) (n : Nat) (p : List Bool) (K : Ex → St → Option R) : Ex → St → Option R := seqC (g29a_D A n p K) K
noncomputable def g29a_T {R : Type} (kk : AV → Heap → Option R) : Ex → St → Option R := finD gtys g29a_res kk
theorem g29a_Qn {R : Type} (A : Ar) (n : Nat) (p : List Bool) (K : Ex → St → Option R) (s : St) : g29a_Q A n p K .normal s = g29a_D A n p K s := rfl
theorem g29a_F {R : Type} (A : Ar) (n : Nat) (p : List Bool) (i : Nat) (K : Ex → St → Option R) (s s' : St) (hf : firstReg (sub (bodyOf Try.f29) p) = some i) (h : keep g29a_an i s = keep g29a_an i s') : g29a_D A n p K s = g29a_D A n p K s' := codeD_first hf h K
section
variable {R : Type} (A : Ar) (n : Nat) (K : Ex → St → Option R) (s : St)
theorem g29a_p1 : g29a_D A n (pth 1) K s = g29a_D A n (pth 2) (g29a_Q A n (pth 3) K) s := by kernel_rfl
theorem g29a_p3 : g29a_D A n (pth 3) K s = g29a_D A n (pth 5) (g29a_Q A n (pth 7) K) s := by kernel_rfl
theorem g29a_p5 : g29a_D A n (pth 5) K s = g29a_D A n (pth 9) (g29a_Q A n (pth 13) K) s := by kernel_rfl
theorem g29a_p13 (t : Bool) : ev s (.tmp 15) = some (.v (.cell (.bool t))) → g29a_D A n (pth 13) K s = (match t with
    | true => g29a_D A n (pth 21) K s
    | false => g29a_D A n (pth 29) K s) := codeD_cond t
theorem g29a_p29 : g29a_D A n (pth 29) K s = K .normal s := by kernel_rfl
theorem g29a_p7 : g29a_D A n (pth 7) K s = g29a_D A n (pth 11) (g29a_Q A n (pth 15) K) s := by kernel_rfl
theorem g29a_p15 : g29a_D A n (pth 15) K s = K .ret s := by kernel_rfl
def g29a_R3s0 (A : Ar) (x0 : Int) (x1 : List Nat) : St := ⟨[(6, (bO (A.ic .eql x0 0))), (24, (bO (A.ic .eql x0 0))), (23, (i6 x0)), (22, (pT 0 0)), (21, (pT 0 0)), (20, (pT 0 0)), (0, (pT 0 0))], [(0, ⟨[.one (.int .i64 x0), .one (.str x1)], 59, 1⟩)]⟩
theorem g29a_R3 (x0 : Int) (x1 : List Nat) : g29a_D A n (pth 11) K ⟨[(0, (pT 0 0))], [(0, ⟨[.one (.int .i64 x0), .one (.str x1)], 59, 1⟩)]⟩ = K .normal (g29a_R3s0 A x0 x1) := by kernel_rfl
def g29a_R0s0 (A : Ar) (x0 : Bool) (x1 x2 : Int) (x3 : List Nat) : St := ⟨[(6, (bO false)), (0, (pT 0 0)), (1, (bO x0)), (2, (i6 x1))], [(0, ⟨[.one (.int .i64 x2), .one (.str x3)], 59, 1⟩)]⟩
theorem g29a_R0 (x0 : Bool) (x1 x2 : Int) (x3 : List Nat) : g29a_D A n (pth 2) K ⟨[(0, (pT 0 0)), (1, (bO x0)), (2, (i6 x1))], [(0, ⟨[.one (.int .i64 x2), .one (.str x3)], 59, 1⟩)]⟩ = K .normal (g29a_R0s0 A x0 x1 x2 x3) := by kernel_rfl
def g29a_R1s0 (A : Ar) (x0 : Bool) (x1 x2 : Int) (x3 : List Nat) : St := ⟨[(15, (bO (!x0))), (14, (bO (!x0))), (13, (bO x0)), (12, (bO true)), (11, (bO (A.ic .eql x2 0))), (10, (i6 x2)), (9, (pT 0 0)), (8, (pT 0 0)), (7, (pT 0 0)), (0, (pT 0 0)), (1, (bO x0)), (2, (i6 x1))], [(0, ⟨[.one (.int .i64 x2), .one (.str x3)], 59, 1⟩)]⟩
def g29a_R1s1 (A : Ar) (x0 : Bool) (x1 x2 : Int) (x3 : List Nat) : St := ⟨[(15, (bO false)), (14, uN), (13, uN), (12, (bO false)), (11, (bO (A.ic .eql x2 0))), (10, (i6 x2)), (9, (pT 0 0)), (8, (pT 0 0)), (7, (pT 0 0)), (0, (pT 0 0)), (1, (bO x0)), (2, (i6 x1))], [(0, ⟨[.one (.int .i64 x2), .one (.str x3)], 59, 1⟩)]⟩
theorem g29a_R1 (x0 : Bool) (x1 x2 : Int) (x3 : List Nat) : g29a_D A n (pth 9) K ⟨[(0, (pT 0 0)), (1, (bO x0)), (2, (i6 x1))], [(0, ⟨[.one (.int .i64 x2), .one (.str x3)], 59, 1⟩)]⟩ = match (generalizing := false) A.ic .eql x2 0 with
    | true => K .normal (g29a_R1s0 A x0 x1 x2 x3)
    | false => K .normal (g29a_R1s1 A x0 x1 x2 x3) := by kernel_rfl
def g29a_R2s0 (A : Ar) (x0 x1 : Int) (x2 : List Nat) : St := ⟨[(19, (pT 0 0)), (18, (pT 0 0)), (17, (i6 x0)), (16, (pT 0 0)), (0, (pT 0 0)), (2, (i6 x0))], [(0, ⟨[.one (.int .i64 x0), .one (.str x2)], 59, 1⟩)]⟩
theorem g29a_R2 (x0 x1 : Int) (x2 : List Nat) : g29a_D A n (pth 21) K ⟨[(0, (pT 0 0)), (2, (i6 x0))], [(0, ⟨[.one (.int .i64 x1), .one (.str x2)], 59, 1⟩)]⟩ = K .normal (g29a_R2s0 A x0 x1 x2) := by kernel_rfl
end
def g29a_J3 {R : Type} (A : Ar) (n : Nat) (kk : AV → Heap → Option R)  (x0 : Int) (x1 : List Nat) : Option R :=
  kk (bO (A.ic .eql x0 0)) [(0, ⟨[.one (.int .i64 x0), .one (.str x1)], 59, 1⟩)]
set_option maxRecDepth 100000 in
theorem g29a_J3_eq {R : Type} (A : Ar) (n : Nat) (kk : AV → Heap → Option R)    (s : St) (x0 : Int) (x1 : List Nat) (h : keep g29a_an 3 s = ⟨[(0, (pT 0 0))], [(0, ⟨[.one (.int .i64 x0), .one (.str x1)], 59, 1⟩)]⟩) :
    g29a_D A n (pth 7) (g29a_T kk) s = g29a_J3 A n kk  x0 x1 := by
  have h1 : (g29a_T kk) .ret (g29a_R3s0 A x0 x1) = kk (bO (A.ic .eql x0 0)) [(0, ⟨[.one (.int .i64 x0), .one (.str x1)], 59, 1⟩)] := by kernel_rfl
  have h2 := (g29a_p15 A n _ _).trans h1
  have h3 := (g29a_Qn A n _ _ _).trans h2
  have h4 := (g29a_F A n _ 3 _ ⟨[(0, (pT 0 0))], [(0, ⟨[.one (.int .i64 x0), .one (.str x1)], 59, 1⟩)]⟩ _ (by kernel_rfl) (by kernel_rfl)).trans (g29a_R3 A n (g29a_Q A n (pth 15) (g29a_T kk)) x0 x1)
  rw [h3] at h4
  have h5 := (g29a_p7 A n _ _).trans h4
  exact (g29a_F A n _ 3 _ _ ⟨[(0, (pT 0 0))], [(0, ⟨[.one (.int .i64 x0), .one (.str x1)], 59, 1⟩)]⟩ (by kernel_rfl) (h.trans (by kernel_rfl))).trans (h5.trans (by kernel_rfl))
def g29a_ {R : Type} (A : Ar) (n : Nat) (kk : AV → Heap → Option R) (x0 : Bool) (x1 x2 : Int) (x3 : List Nat) : Option R :=
  match (generalizing := false) A.ic .eql x2 0 with
  | true => match (generalizing := false) !x0 with
    | true => g29a_J3 A n kk  x1 x3
    | false => g29a_J3 A n kk  x2 x3
  | false => g29a_J3 A n kk  x2 x3
set_option maxRecDepth 100000 in
theorem g29a__eq {R : Type} (A : Ar) (n : Nat) (kk : AV → Heap → Option R) (x0 : Bool) (x1 x2 : Int) (x3 : List Nat) :
    funD A gtys (g29a_O A) g29a_an n (bodyOf Try.f29) g29a_res [(pT 0 0), (bO x0), (i6 x1)] [(0, ⟨[.one (.int .i64 x2), .one (.str x3)], 59, 1⟩)] kk = g29a_ A n kk x0 x1 x2 x3 := by
  have h1 := (g29a_Qn A n _ _ _).trans (g29a_J3_eq A n kk     (g29a_R2s0 A x1 x2 x3) x1 x3 (by kernel_rfl))
  have h2 := (g29a_F A n _ 2 _ (g29a_R1s0 A x0 x1 x2 x3) _ (by kernel_rfl) (by kernel_rfl)).trans (g29a_R2 A n (g29a_Q A n (pth 7) (g29a_T kk)) x1 x2 x3)
  rw [h1] at h2
  have h3 := (g29a_Qn A n _ _ _).trans (g29a_J3_eq A n kk     (g29a_R1s0 A x0 x1 x2 x3) x2 x3 (by kernel_rfl))
  have h4 := (g29a_p29 A n _ _).trans h3
  have h5 := g29a_p13 A n (g29a_Q A n (pth 7) (g29a_T kk)) (g29a_R1s0 A x0 x1 x2 x3) (!x0) (by kernel_rfl)
  rw [h2, h4] at h5
  have h6 := (g29a_Qn A n _ _ _).trans h5
  have h7 := (g29a_Qn A n _ _ _).trans (g29a_J3_eq A n kk     (g29a_R1s1 A x0 x1 x2 x3) x2 x3 (by kernel_rfl))
  have h8 := (g29a_p29 A n _ _).trans h7
  have h9 := (g29a_p13 A n (g29a_Q A n (pth 7) (g29a_T kk)) (g29a_R1s1 A x0 x1 x2 x3) false (by kernel_rfl)).trans h8
  have h10 := (g29a_Qn A n _ _ _).trans h9
  have h11 := (g29a_F A n _ 1 _ (g29a_R0s0 A x0 x1 x2 x3) _ (by kernel_rfl) (by kernel_rfl)).trans (g29a_R1 A n (g29a_Q A n (pth 13) (g29a_Q A n (pth 7) (g29a_T kk))) x0 x1 x2 x3)
  rw [h6, h10] at h11
  have h12 := (g29a_p5 A n _ _).trans h11
  have h13 := (g29a_p3 A n _ _).trans h12
  have h14 := (g29a_Qn A n _ _ _).trans h13
  have h15 := (g29a_F A n _ 0 _ ⟨[(0, (pT 0 0)), (1, (bO x0)), (2, (i6 x1))], [(0, ⟨[.one (.int .i64 x2), .one (.str x3)], 59, 1⟩)]⟩ _ (by kernel_rfl) (by kernel_rfl)).trans (g29a_R0 A n (g29a_Q A n (pth 3) (g29a_T kk)) x0 x1 x2 x3)
  rw [h14] at h15
  have h16 := (g29a_p1 A n _ _).trans h15
  exact (show funD A gtys (g29a_O A) g29a_an n (bodyOf Try.f29) g29a_res [(pT 0 0), (bO x0), (i6 x1)] [(0, ⟨[.one (.int .i64 x2), .one (.str x3)], 59, 1⟩)] kk = g29a_D A n (pth 1) (g29a_T kk) ⟨[(0, (pT 0 0)), (1, (bO x0)), (2, (i6 x1))], [(0, ⟨[.one (.int .i64 x2), .one (.str x3)], 59, 1⟩)]⟩ from by kernel_rfl).trans (h16.trans (by kernel_rfl))
def g29a_is (o : Option (AV × Heap)) : Bool := match o with
  | some (.v (.cell (.bool _)), [(n0, ⟨[.one (.int .i64 _), .one (.str _)], n1, n2⟩)]) => Nat.beq n0 0 && (Nat.beq n1 59 && (Nat.beq n2 1))
  | _ => false
def g29a_g0 (o : Option (AV × Heap)) : Bool := match o with
  | some (.v (.cell (.bool x)), [(_, ⟨[.one (.int .i64 _), .one (.str _)], _, _⟩)]) => x
  | _ => false
def g29a_g1 (o : Option (AV × Heap)) : Int := match o with
  | some (.v (.cell (.bool _)), [(_, ⟨[.one (.int .i64 x), .one (.str _)], _, _⟩)]) => x
  | _ => 0
def g29a_g2 (o : Option (AV × Heap)) : List Nat := match o with
  | some (.v (.cell (.bool _)), [(_, ⟨[.one (.int .i64 _), .one (.str x)], _, _⟩)]) => x
  | _ => []
theorem g29a_is_spec {o : Option (AV × Heap)} (h : g29a_is o = true) : o = some ((bO (g29a_g0 o)), [(0, ⟨[.one (.int .i64 (g29a_g1 o)), .one (.str (g29a_g2 o))], 59, 1⟩)]) := by
  unfold g29a_is at h
  split at h
  · rename_i z0 n0 z2 z3 n1 n2
    simp only [Bool.and_eq_true] at h
    have en0 := beq_true h.1
    subst en0
    replace h := h.2
    have en1 := beq_true h.1
    subst en1
    replace h := h.2
    have en2 := beq_true h
    subst en2
    rfl
  · cases h
def g29a_v (A : Ar) (x0 : Bool) (x1 x2 : Int) (x3 : List Nat) : Option (AV × Heap) := g29a_ A (100000) (outH [0] none) x0 x1 x2 x3
def g29a_ok (A : Ar) (x0 : Bool) (x1 x2 : Int) (x3 : List Nat) : Bool := g29a_is (g29a_v A x0 x1 x2 x3)
def g29a_r0 (A : Ar) (x0 : Bool) (x1 x2 : Int) (x3 : List Nat) : Bool := g29a_g0 (g29a_v A x0 x1 x2 x3)
def g29a_r1 (A : Ar) (x0 : Bool) (x1 x2 : Int) (x3 : List Nat) : Int := g29a_g1 (g29a_v A x0 x1 x2 x3)
def g29a_r2 (A : Ar) (x0 : Bool) (x1 x2 : Int) (x3 : List Nat) : List Nat := g29a_g2 (g29a_v A x0 x1 x2 x3)
theorem g29a_ok_spec {A : Ar} {x0 x1 x2 x3} (h : g29a_ok A x0 x1 x2 x3 = true) : g29a_v A x0 x1 x2 x3 = some ((bO (g29a_r0 A x0 x1 x2 x3)), [(0, ⟨[.one (.int .i64 (g29a_r1 A x0 x1 x2 x3)), .one (.str (g29a_r2 A x0 x1 x2 x3))], 59, 1⟩)]) := g29a_is_spec h
def g29a_o (A : Ar) (args : List AV) (h : Heap) : Option (Bool × AV × Heap) := match args, h with
  | [.v (.cell (.ptr n0 n1 none)), .v (.cell (.bool x0)), .v (.cell (.int .i64 x1))], [(n2, ⟨[.one (.int .i64 x2), .one (.str x3)], n3, n4⟩)] => match Nat.beq n0 0 && (Nat.beq n1 0 && (Nat.beq n2 0 && (Nat.beq n3 59 && (Nat.beq n4 1)))) with
    | true => some (g29a_ok A x0 x1 x2 x3, (bO (g29a_r0 A x0 x1 x2 x3)), [(0, ⟨[.one (.int .i64 (g29a_r1 A x0 x1 x2 x3)), .one (.str (g29a_r2 A x0 x1 x2 x3))], 59, 1⟩)])
    | false => none
  | _, _ => none
theorem g29a_o_sound : ∀ args h v h', g29a_o realA args h = some (true, v, h') → FnH Try.prog 29 args h v h' := by
  intro args h v h' hh
  unfold g29a_o at hh
  split at hh
  · rename_i n0 n1 x0 x1 n2 x2 x3 n3 n4
    split at hh
    case h_2 => cases hh
    rename_i hc0
    simp only [Option.some.injEq, Prod.mk.injEq] at hh
    obtain ⟨hc, hv, hh⟩ := hh
    subst hv
    subst hh
    simp only [Bool.and_eq_true] at hc0
    have en0 := beq_true hc0.1
    subst en0
    replace hc0 := hc0.2
    have en1 := beq_true hc0.1
    subst en1
    replace hc0 := hc0.2
    have en2 := beq_true hc0.1
    subst en2
    replace hc0 := hc0.2
    have en3 := beq_true hc0.1
    subst en3
    replace hc0 := hc0.2
    have en4 := beq_true hc0
    subst en4
    exact fnh_of mixed gtysOK g29a_O_sound g29a_O_det (an := g29a_an) (n := 100000) Try.func29 (c := bodyOf Try.f29) rfl (by kernel_rfl) Try.call29 (Nat.le_of_ble_eq_true rfl) (pins := [0]) (nilr := none) (fun _ => (g29a__eq realA (100000) (outH [0] none) x0 x1 x2 x3).trans (show g29a_v realA x0 x1 x2 x3 = _ from g29a_ok_spec hc))
  · cases hh
def g21O (A : Ar) : Orc := orcH [] [(29, ⟨[], none, (ho2 (g29o A) (g29a_o A))⟩)]
theorem g21O_sound : OSound Try.prog (g21O realA) := orcH_sound (fun f g hm args v hv => by
    cases hm) (fun f e hm args h v h' hv => by
    simp only [List.mem_cons, List.not_mem_nil, or_false, Prod.mk.injEq] at hm
    rcases hm with ⟨rfl, rfl⟩
    · exact (ho2_sound g29o_sound g29a_o_sound) _ _ _ _ hv)
theorem g21O_det : ODet (g21O realA) := orcH_det _ _
def g21an : Ann := [(0, ([0, 1], [0])), (1, ([0, 1], [0])), (2, ([], [0])), (3, ([0, 1], [0])), (4, ([0, 1, 5], [0])), (5, ([5], [0]))]
def g21res : List ResultVar := [.tmp 4]
abbrev g21t0 (A : Ar) (x0 x1 : Int) (x2 : List Nat) : Bool := g29a_r0 A (A.ic .leq x0 (A.ofN ((g29a_r2 A (A.ic .geq x0 0) 1 x1 x2).length))) 2 (g29a_r1 A (A.ic .geq x0 0) 1 x1 x2) (g29a_r2 A (A.ic .geq x0 0) 1 x1 x2)
abbrev g21t1 (A : Ar) (x0 x1 : Int) (x2 : List Nat) : Int := g29a_r1 A (A.ic .leq x0 (A.ofN ((g29a_r2 A (A.ic .geq x0 0) 1 x1 x2).length))) 2 (g29a_r1 A (A.ic .geq x0 0) 1 x1 x2) (g29a_r2 A (A.ic .geq x0 0) 1 x1 x2)
abbrev g21t2 (A : Ar) (x0 x1 : Int) (x2 : List Nat) : List Nat := g29a_r2 A (A.ic .leq x0 (A.ofN ((g29a_r2 A (A.ic .geq x0 0) 1 x1 x2).length))) 2 (g29a_r1 A (A.ic .geq x0 0) 1 x1 x2) (g29a_r2 A (A.ic .geq x0 0) 1 x1 x2)
noncomputable def g21D {R : Type} (A : Ar) (n : Nat) (p : List Bool) (K : Ex → St → Option R) (s : St) : Option R := codeD A gtys (g21O A) g21an n (sub (bodyOf Try.f21) p) K s
noncomputable def g21Q {R : Type} (A : Ar) (n : Nat) (p : List Bool) (K : Ex → St → Option R) : Ex → St → Option R := seqC (g21D A n p K) K
noncomputable def g21T {R : Type} (kk : AV → Heap → Option R) : Ex → St → Option R := finD gtys g21res kk
theorem g21Qn {R : Type} (A : Ar) (n : Nat) (p : List Bool) (K : Ex → St → Option R) (s : St) : g21Q A n p K .normal s = g21D A n p K s := rfl
theorem g21Qr {R : Type} (A : Ar) (n : Nat) (p : List Bool) (K : Ex → St → Option R) (s : St) : g21Q A n p K .ret s = K .ret s := rfl
theorem g21F {R : Type} (A : Ar) (n : Nat) (p : List Bool) (i : Nat) (K : Ex → St → Option R) (s s' : St) (hf : firstReg (sub (bodyOf Try.f21) p) = some i) (h : keep g21an i s = keep g21an i s') : g21D A n p K s = g21D A n p K s' := codeD_first hf h K
section
variable {R : Type} (A : Ar) (n : Nat) (K : Ex → St → Option R) (s : St)
theorem g21p1 : g21D A n (pth 1) K s = g21D A n (pth 2) (g21Q A n (pth 3) K) s := by kernel_rfl
theorem g21p3 : g21D A n (pth 3) K s = g21D A n (pth 5) (g21Q A n (pth 7) K) s := by kernel_rfl
theorem g21p5 : g21D A n (pth 5) K s = g21D A n (pth 9) (g21Q A n (pth 13) K) s := by kernel_rfl
theorem g21p13 (t : Bool) : ev s (.tmp 26) = some (.v (.cell (.bool t))) → g21D A n (pth 13) K s = (match t with
    | true => g21D A n (pth 21) K s
    | false => g21D A n (pth 29) K s) := codeD_cond t
theorem g21p21 : g21D A n (pth 21) K s = g21D A n (pth 37) (g21Q A n (pth 53) K) s := by kernel_rfl
theorem g21p53 : g21D A n (pth 53) K s = K .ret s := by kernel_rfl
theorem g21p29 : g21D A n (pth 29) K s = K .normal s := by kernel_rfl
theorem g21p7 : g21D A n (pth 7) K s = g21D A n (pth 11) (g21Q A n (pth 15) K) s := by kernel_rfl
theorem g21p15 : g21D A n (pth 15) K s = g21D A n (pth 23) (g21Q A n (pth 31) K) s := by kernel_rfl
theorem g21p31 : g21D A n (pth 31) K s = g21D A n (pth 47) (g21Q A n (pth 63) K) s := by kernel_rfl
theorem g21p63 : g21D A n (pth 63) K s = K .ret s := by kernel_rfl
def g21R3s0 (A : Ar) (x0 x1 : Int) (x2 : List Nat) : St := ⟨[(5, (tS ((x2.take (A.toN x0)).drop 0))), (32, (tS ((x2.take (A.toN x0)).drop 0))), (31, (i6 x0)), (30, (tS x2)), (29, (pT 0 1)), (28, (pT 0 0)), (27, (pT 0 0)), (0, (pT 0 0)), (1, (i6 x0))], [(0, ⟨[.one (.int .i64 x1), .one (.str x2)], 59, 1⟩)]⟩
theorem g21R3 (x0 x1 : Int) (x2 : List Nat) : g21D A n (pth 11) K ⟨[(0, (pT 0 0)), (1, (i6 x0))], [(0, ⟨[.one (.int .i64 x1), .one (.str x2)], 59, 1⟩)]⟩ = match (generalizing := false) A.neg x0 with
    | true => none
    | false => match (generalizing := false) A.le (A.toN x0) x2.length with
      | true => K .normal (g21R3s0 A x0 x1 x2)
      | false => none := by kernel_rfl
def g21R4s0 (A : Ar) (x0 : Int) (x1 : List Nat) (x2 : Int) (x3 : List Nat) : St := ⟨[(41, (pT 0 1)), (40, (pT 0 0)), (39, (tS ((x3.take x3.length).drop (A.toN x0)))), (38, (i6 x0)), (37, (tS x3)), (36, (pT 0 1)), (35, (pT 0 0)), (34, (pT 0 0)), (33, (pT 0 0)), (0, (pT 0 0)), (1, (i6 x0)), (5, (tS x1))], [(0, ⟨[.one (.int .i64 x2), .one (.str ((x3.take x3.length).drop (A.toN x0)))], 59, 1⟩)]⟩
theorem g21R4 (x0 : Int) (x1 : List Nat) (x2 : Int) (x3 : List Nat) : g21D A n (pth 23) K ⟨[(0, (pT 0 0)), (1, (i6 x0)), (5, (tS x1))], [(0, ⟨[.one (.int .i64 x2), .one (.str x3)], 59, 1⟩)]⟩ = match (generalizing := false) A.neg x0 with
    | true => none
    | false => match (generalizing := false) A.le (A.toN x0) x3.length with
      | true => K .normal (g21R4s0 A x0 x1 x2 x3)
      | false => none := by kernel_rfl
def g21R5s0 (A : Ar) (x0 : List Nat) (x1 : Int) (x2 : List Nat) : St := ⟨[(4, (tS x0)), (42, (tS x0)), (5, (tS x0))], [(0, ⟨[.one (.int .i64 x1), .one (.str x2)], 59, 1⟩)]⟩
theorem g21R5 (x0 : List Nat) (x1 : Int) (x2 : List Nat) : g21D A n (pth 47) K ⟨[(5, (tS x0))], [(0, ⟨[.one (.int .i64 x1), .one (.str x2)], 59, 1⟩)]⟩ = K .normal (g21R5s0 A x0 x1 x2) := by kernel_rfl
def g21R0s0 (A : Ar) (x0 x1 : Int) (x2 : List Nat) : St := ⟨[(4, (tS [])), (0, (pT 0 0)), (1, (i6 x0))], [(0, ⟨[.one (.int .i64 x1), .one (.str x2)], 59, 1⟩)]⟩
theorem g21R0 (x0 x1 : Int) (x2 : List Nat) : g21D A n (pth 2) K ⟨[(0, (pT 0 0)), (1, (i6 x0))], [(0, ⟨[.one (.int .i64 x1), .one (.str x2)], 59, 1⟩)]⟩ = K .normal (g21R0s0 A x0 x1 x2) := by kernel_rfl
def g21R1s0 (A : Ar) (x0 x1 : Int) (x2 : List Nat) : St := ⟨[(26, (bO true)), (25, uN), (24, uN), (23, uN), (22, uN), (21, uN), (20, uN), (19, uN), (18, uN), (17, uN), (16, uN), (15, uN), (14, uN), (13, (bO true)), (12, (bO (!(g29a_r0 A (A.ic .geq x0 0) 1 x1 x2)))), (11, (bO (g29a_r0 A (A.ic .geq x0 0) 1 x1 x2))), (10, (bO (A.ic .geq x0 0))), (9, (i6 x0)), (8, (pT 0 0)), (7, (pT 0 0)), (6, (pT 0 0)), (0, (pT 0 0)), (1, (i6 x0))], [(0, ⟨[.one (.int .i64 (g29a_r1 A (A.ic .geq x0 0) 1 x1 x2)), .one (.str (g29a_r2 A (A.ic .geq x0 0) 1 x1 x2))], 59, 1⟩)]⟩
def g21R1s1 (A : Ar) (x0 x1 : Int) (x2 : List Nat) : St := ⟨[(26, (bO (!(g21t0 A x0 x1 x2)))), (25, (bO (!(g21t0 A x0 x1 x2)))), (24, (bO (g21t0 A x0 x1 x2))), (23, (bO (A.ic .leq x0 (A.ofN ((g29a_r2 A (A.ic .geq x0 0) 1 x1 x2).length))))), (22, (i6 (A.ofN ((g29a_r2 A (A.ic .geq x0 0) 1 x1 x2).length)))), (21, (tS (g29a_r2 A (A.ic .geq x0 0) 1 x1 x2))), (20, (pT 0 1)), (19, (pT 0 0)), (18, (pT 0 0)), (17, (i6 x0)), (16, (pT 0 0)), (15, (pT 0 0)), (14, (pT 0 0)), (13, (bO false)), (12, (bO (!(g29a_r0 A (A.ic .geq x0 0) 1 x1 x2)))), (11, (bO (g29a_r0 A (A.ic .geq x0 0) 1 x1 x2))), (10, (bO (A.ic .geq x0 0))), (9, (i6 x0)), (8, (pT 0 0)), (7, (pT 0 0)), (6, (pT 0 0)), (0, (pT 0 0)), (1, (i6 x0))], [(0, ⟨[.one (.int .i64 (g21t1 A x0 x1 x2)), .one (.str (g21t2 A x0 x1 x2))], 59, 1⟩)]⟩
theorem g21R1 (x0 x1 : Int) (x2 : List Nat) : g21D A n (pth 9) K ⟨[(0, (pT 0 0)), (1, (i6 x0))], [(0, ⟨[.one (.int .i64 x1), .one (.str x2)], 59, 1⟩)]⟩ = match (generalizing := false) g29a_ok A (A.ic .geq x0 0) 1 x1 x2 with
    | true => match (generalizing := false) !(g29a_r0 A (A.ic .geq x0 0) 1 x1 x2) with
      | true => K .normal (g21R1s0 A x0 x1 x2)
      | false => match (generalizing := false) g29a_ok A (A.ic .leq x0 (A.ofN ((g29a_r2 A (A.ic .geq x0 0) 1 x1 x2).length))) 2 (g29a_r1 A (A.ic .geq x0 0) 1 x1 x2) (g29a_r2 A (A.ic .geq x0 0) 1 x1 x2) with
        | true => K .normal (g21R1s1 A x0 x1 x2)
        | false => none
    | false => none := by kernel_rfl
def g21R2s0 (A : Ar) (x0 : Int) (x1 : List Nat) : St := ⟨[(4, (tS []))], [(0, ⟨[.one (.int .i64 x0), .one (.str x1)], 59, 1⟩)]⟩
theorem g21R2 (x0 : Int) (x1 : List Nat) : g21D A n (pth 37) K ⟨[], [(0, ⟨[.one (.int .i64 x0), .one (.str x1)], 59, 1⟩)]⟩ = K .normal (g21R2s0 A x0 x1) := by kernel_rfl
end
def g21J3 {R : Type} (A : Ar) (n : Nat) (kk : AV → Heap → Option R)  (x0 x1 : Int) (x2 : List Nat) : Option R :=
  match (generalizing := false) A.neg x0 with
  | true => none
  | false => match (generalizing := false) A.le (A.toN x0) x2.length with
    | true => match (generalizing := false) A.neg x0 with
      | true => none
      | false => match (generalizing := false) A.le (A.toN x0) x2.length with
        | true => kk (tS ((x2.take (A.toN x0)).drop 0)) [(0, ⟨[.one (.int .i64 x1), .one (.str ((x2.take x2.length).drop (A.toN x0)))], 59, 1⟩)]
        | false => none
    | false => none
set_option maxRecDepth 100000 in
theorem g21J3_eq {R : Type} (A : Ar) (n : Nat) (kk : AV → Heap → Option R)    (s : St) (x0 x1 : Int) (x2 : List Nat) (h : keep g21an 3 s = ⟨[(0, (pT 0 0)), (1, (i6 x0))], [(0, ⟨[.one (.int .i64 x1), .one (.str x2)], 59, 1⟩)]⟩) :
    g21D A n (pth 7) (g21T kk) s = g21J3 A n kk  x0 x1 x2 := by
  have h1 : (g21T kk) .ret (g21R5s0 A ((x2.take (A.toN x0)).drop 0) x1 ((x2.take x2.length).drop (A.toN x0))) = kk (tS ((x2.take (A.toN x0)).drop 0)) [(0, ⟨[.one (.int .i64 x1), .one (.str ((x2.take x2.length).drop (A.toN x0)))], 59, 1⟩)] := by kernel_rfl
  have h2 := (g21p63 A n _ _).trans h1
  have h3 := (g21Qn A n _ _ _).trans h2
  have h4 := (g21F A n _ 5 _ (g21R4s0 A x0 ((x2.take (A.toN x0)).drop 0) x1 x2) _ (by kernel_rfl) (by kernel_rfl)).trans (g21R5 A n (g21Q A n (pth 63) (g21T kk)) ((x2.take (A.toN x0)).drop 0) x1 ((x2.take x2.length).drop (A.toN x0)))
  rw [h3] at h4
  have h5 := (g21p31 A n _ _).trans h4
  have h6 := (g21Qn A n _ _ _).trans h5
  have h7 := (g21F A n _ 4 _ (g21R3s0 A x0 x1 x2) _ (by kernel_rfl) (by kernel_rfl)).trans (g21R4 A n (g21Q A n (pth 31) (g21T kk)) x0 ((x2.take (A.toN x0)).drop 0) x1 x2)
  rw [h6] at h7
  have h8 := (g21p15 A n _ _).trans h7
  have h9 := (g21Qn A n _ _ _).trans h8
  have h10 := (g21F A n _ 3 _ ⟨[(0, (pT 0 0)), (1, (i6 x0))], [(0, ⟨[.one (.int .i64 x1), .one (.str x2)], 59, 1⟩)]⟩ _ (by kernel_rfl) (by kernel_rfl)).trans (g21R3 A n (g21Q A n (pth 15) (g21T kk)) x0 x1 x2)
  rw [h9] at h10
  have h11 := (g21p7 A n _ _).trans h10
  exact (g21F A n _ 3 _ _ ⟨[(0, (pT 0 0)), (1, (i6 x0))], [(0, ⟨[.one (.int .i64 x1), .one (.str x2)], 59, 1⟩)]⟩ (by kernel_rfl) (h.trans (by kernel_rfl))).trans (h11.trans (by kernel_rfl))
def g21 {R : Type} (A : Ar) (n : Nat) (kk : AV → Heap → Option R) (x0 x1 : Int) (x2 : List Nat) : Option R :=
  match (generalizing := false) g29a_ok A (A.ic .geq x0 0) 1 x1 x2 with
  | true => match (generalizing := false) !(g29a_r0 A (A.ic .geq x0 0) 1 x1 x2) with
    | true => kk (tS []) [(0, ⟨[.one (.int .i64 (g29a_r1 A (A.ic .geq x0 0) 1 x1 x2)), .one (.str (g29a_r2 A (A.ic .geq x0 0) 1 x1 x2))], 59, 1⟩)]
    | false => match (generalizing := false) g29a_ok A (A.ic .leq x0 (A.ofN ((g29a_r2 A (A.ic .geq x0 0) 1 x1 x2).length))) 2 (g29a_r1 A (A.ic .geq x0 0) 1 x1 x2) (g29a_r2 A (A.ic .geq x0 0) 1 x1 x2) with
      | true => match (generalizing := false) !(g21t0 A x0 x1 x2) with
        | true => kk (tS []) [(0, ⟨[.one (.int .i64 (g21t1 A x0 x1 x2)), .one (.str (g21t2 A x0 x1 x2))], 59, 1⟩)]
        | false => g21J3 A n kk  x0 (g21t1 A x0 x1 x2) (g21t2 A x0 x1 x2)
      | false => none
  | false => none
set_option maxRecDepth 100000 in
theorem g21_eq {R : Type} (A : Ar) (n : Nat) (kk : AV → Heap → Option R) (x0 x1 : Int) (x2 : List Nat) :
    funD A gtys (g21O A) g21an n (bodyOf Try.f21) g21res [(pT 0 0), (i6 x0)] [(0, ⟨[.one (.int .i64 x1), .one (.str x2)], 59, 1⟩)] kk = g21 A n kk x0 x1 x2 := by
  have h1 : (g21T kk) .ret (g21R2s0 A (g29a_r1 A (A.ic .geq x0 0) 1 x1 x2) (g29a_r2 A (A.ic .geq x0 0) 1 x1 x2)) = kk (tS []) [(0, ⟨[.one (.int .i64 (g29a_r1 A (A.ic .geq x0 0) 1 x1 x2)), .one (.str (g29a_r2 A (A.ic .geq x0 0) 1 x1 x2))], 59, 1⟩)] := by kernel_rfl
  have h2 := (g21Qr A n (pth 7) _ _).trans h1
  have h3 := (g21p53 A n _ _).trans h2
  have h4 := (g21Qn A n _ _ _).trans h3
  have h5 := (g21F A n _ 2 _ (g21R1s0 A x0 x1 x2) _ (by kernel_rfl) (by kernel_rfl)).trans (g21R2 A n (g21Q A n (pth 53) (g21Q A n (pth 7) (g21T kk))) (g29a_r1 A (A.ic .geq x0 0) 1 x1 x2) (g29a_r2 A (A.ic .geq x0 0) 1 x1 x2))
  rw [h4] at h5
  have h6 := (g21p21 A n _ _).trans h5
  have h7 := (g21p13 A n (g21Q A n (pth 7) (g21T kk)) (g21R1s0 A x0 x1 x2) true (by kernel_rfl)).trans h6
  have h8 := (g21Qn A n _ _ _).trans h7
  have h9 : (g21T kk) .ret (g21R2s0 A (g21t1 A x0 x1 x2) (g21t2 A x0 x1 x2)) = kk (tS []) [(0, ⟨[.one (.int .i64 (g21t1 A x0 x1 x2)), .one (.str (g21t2 A x0 x1 x2))], 59, 1⟩)] := by kernel_rfl
  have h10 := (g21Qr A n (pth 7) _ _).trans h9
  have h11 := (g21p53 A n _ _).trans h10
  have h12 := (g21Qn A n _ _ _).trans h11
  have h13 := (g21F A n _ 2 _ (g21R1s1 A x0 x1 x2) _ (by kernel_rfl) (by kernel_rfl)).trans (g21R2 A n (g21Q A n (pth 53) (g21Q A n (pth 7) (g21T kk))) (g21t1 A x0 x1 x2) (g21t2 A x0 x1 x2))
  rw [h12] at h13
  have h14 := (g21p21 A n _ _).trans h13
  have h15 := (g21Qn A n _ _ _).trans (g21J3_eq A n kk     (g21R1s1 A x0 x1 x2) x0 (g21t1 A x0 x1 x2) (g21t2 A x0 x1 x2) (by kernel_rfl))
  have h16 := (g21p29 A n _ _).trans h15
  have h17 := g21p13 A n (g21Q A n (pth 7) (g21T kk)) (g21R1s1 A x0 x1 x2) (!(g21t0 A x0 x1 x2)) (by kernel_rfl)
  rw [h14, h16] at h17
  have h18 := (g21Qn A n _ _ _).trans h17
  have h19 := (g21F A n _ 1 _ (g21R0s0 A x0 x1 x2) _ (by kernel_rfl) (by kernel_rfl)).trans (g21R1 A n (g21Q A n (pth 13) (g21Q A n (pth 7) (g21T kk))) x0 x1 x2)
  rw [h8, h18] at h19
  have h20 := (g21p5 A n _ _).trans h19
  have h21 := (g21p3 A n _ _).trans h20
  have h22 := (g21Qn A n _ _ _).trans h21
  have h23 := (g21F A n _ 0 _ ⟨[(0, (pT 0 0)), (1, (i6 x0))], [(0, ⟨[.one (.int .i64 x1), .one (.str x2)], 59, 1⟩)]⟩ _ (by kernel_rfl) (by kernel_rfl)).trans (g21R0 A n (g21Q A n (pth 3) (g21T kk)) x0 x1 x2)
  rw [h22] at h23
  have h24 := (g21p1 A n _ _).trans h23
  exact (show funD A gtys (g21O A) g21an n (bodyOf Try.f21) g21res [(pT 0 0), (i6 x0)] [(0, ⟨[.one (.int .i64 x1), .one (.str x2)], 59, 1⟩)] kk = g21D A n (pth 1) (g21T kk) ⟨[(0, (pT 0 0)), (1, (i6 x0))], [(0, ⟨[.one (.int .i64 x1), .one (.str x2)], 59, 1⟩)]⟩ from by kernel_rfl).trans (h24.trans (by kernel_rfl))
def g21is (o : Option (AV × Heap)) : Bool := match o with
  | some (.v (.cell (.str _)), [(n0, ⟨[.one (.int .i64 _), .one (.str _)], n1, n2⟩)]) => Nat.beq n0 0 && (Nat.beq n1 59 && (Nat.beq n2 1))
  | _ => false
def g21g0 (o : Option (AV × Heap)) : List Nat := match o with
  | some (.v (.cell (.str x)), [(_, ⟨[.one (.int .i64 _), .one (.str _)], _, _⟩)]) => x
  | _ => []
def g21g1 (o : Option (AV × Heap)) : Int := match o with
  | some (.v (.cell (.str _)), [(_, ⟨[.one (.int .i64 x), .one (.str _)], _, _⟩)]) => x
  | _ => 0
def g21g2 (o : Option (AV × Heap)) : List Nat := match o with
  | some (.v (.cell (.str _)), [(_, ⟨[.one (.int .i64 _), .one (.str x)], _, _⟩)]) => x
  | _ => []
theorem g21is_spec {o : Option (AV × Heap)} (h : g21is o = true) : o = some ((tS (g21g0 o)), [(0, ⟨[.one (.int .i64 (g21g1 o)), .one (.str (g21g2 o))], 59, 1⟩)]) := by
  unfold g21is at h
  split at h
  · rename_i z0 n0 z2 z3 n1 n2
    simp only [Bool.and_eq_true] at h
    have en0 := beq_true h.1
    subst en0
    replace h := h.2
    have en1 := beq_true h.1
    subst en1
    replace h := h.2
    have en2 := beq_true h
    subst en2
    rfl
  · cases h
def g21v (A : Ar) (x0 x1 : Int) (x2 : List Nat) : Option (AV × Heap) := g21 A (100000) (outH [0] none) x0 x1 x2
def g21ok (A : Ar) (x0 x1 : Int) (x2 : List Nat) : Bool := g21is (g21v A x0 x1 x2)
def g21r0 (A : Ar) (x0 x1 : Int) (x2 : List Nat) : List Nat := g21g0 (g21v A x0 x1 x2)
def g21r1 (A : Ar) (x0 x1 : Int) (x2 : List Nat) : Int := g21g1 (g21v A x0 x1 x2)
def g21r2 (A : Ar) (x0 x1 : Int) (x2 : List Nat) : List Nat := g21g2 (g21v A x0 x1 x2)
theorem g21ok_spec {A : Ar} {x0 x1 x2} (h : g21ok A x0 x1 x2 = true) : g21v A x0 x1 x2 = some ((tS (g21r0 A x0 x1 x2)), [(0, ⟨[.one (.int .i64 (g21r1 A x0 x1 x2)), .one (.str (g21r2 A x0 x1 x2))], 59, 1⟩)]) := g21is_spec h
def g21o (A : Ar) (args : List AV) (h : Heap) : Option (Bool × AV × Heap) := match args, h with
  | [.v (.cell (.ptr n0 n1 none)), .v (.cell (.int .i64 x0))], [(n2, ⟨[.one (.int .i64 x1), .one (.str x2)], n3, n4⟩)] => match Nat.beq n0 0 && (Nat.beq n1 0 && (Nat.beq n2 0 && (Nat.beq n3 59 && (Nat.beq n4 1)))) with
    | true => some (g21ok A x0 x1 x2, (tS (g21r0 A x0 x1 x2)), [(0, ⟨[.one (.int .i64 (g21r1 A x0 x1 x2)), .one (.str (g21r2 A x0 x1 x2))], 59, 1⟩)])
    | false => none
  | _, _ => none
theorem g21o_sound : ∀ args h v h', g21o realA args h = some (true, v, h') → FnH Try.prog 21 args h v h' := by
  intro args h v h' hh
  unfold g21o at hh
  split at hh
  · rename_i n0 n1 x0 n2 x1 x2 n3 n4
    split at hh
    case h_2 => cases hh
    rename_i hc0
    simp only [Option.some.injEq, Prod.mk.injEq] at hh
    obtain ⟨hc, hv, hh⟩ := hh
    subst hv
    subst hh
    simp only [Bool.and_eq_true] at hc0
    have en0 := beq_true hc0.1
    subst en0
    replace hc0 := hc0.2
    have en1 := beq_true hc0.1
    subst en1
    replace hc0 := hc0.2
    have en2 := beq_true hc0.1
    subst en2
    replace hc0 := hc0.2
    have en3 := beq_true hc0.1
    subst en3
    replace hc0 := hc0.2
    have en4 := beq_true hc0
    subst en4
    exact fnh_of mixed gtysOK g21O_sound g21O_det (an := g21an) (n := 100000) Try.func21 (c := bodyOf Try.f21) rfl (by kernel_rfl) Try.call21 (Nat.le_of_ble_eq_true rfl) (pins := [0]) (nilr := none) (fun _ => (g21_eq realA (100000) (outH [0] none) x0 x1 x2).trans (show g21v realA x0 x1 x2 = _ from g21ok_spec hc))
  · cases hh
def g19O (A : Ar) : Orc := orcH [] [(29, ⟨[], none, (ho2 (g29o A) (g29a_o A))⟩), (21, ⟨[], none, (g21o A)⟩)]
theorem g19O_sound : OSound Try.prog (g19O realA) := orcH_sound (fun f g hm args v hv => by
    cases hm) (fun f e hm args h v h' hv => by
    simp only [List.mem_cons, List.not_mem_nil, or_false, Prod.mk.injEq] at hm
    rcases hm with ⟨rfl, rfl⟩ | ⟨rfl, rfl⟩
    · exact (ho2_sound g29o_sound g29a_o_sound) _ _ _ _ hv
    · exact g21o_sound _ _ _ _ hv)
theorem g19O_det : ODet (g19O realA) := orcH_det _ _
def g19an : Ann := [(0, ([0, 1], [0])), (1, ([0, 1], [0])), (2, ([], [0])), (3, ([0, 1], [0])), (4, ([0, 1, 5], [0])), (5, ([5, 22, 23, 24], [0, 5003])), (6, ([5, 22, 23, 24], [0, 5003])), (7, ([5, 7, 22, 23, 24], [0, 5003])), (8, ([5, 22, 23, 24], [0, 5003])), (9, ([5], [0]))]
def g19res : List ResultVar := [.tmp 4]
noncomputable def g19D {R : Type} (A : Ar) (n : Nat) (p : List Bool) (K : Ex → St → Option R) (s : St) : Option R := codeD A gtys (g19O A) g19an n (sub (bodyOf Try.f19) p) K s
noncomputable def g19V {R : Type} (A : Ar) (n : Nat) (p : List Bool) (m : Nat) (K : Ex → St → Option R) (s : St) : Option R := loopD (fun K' s'' => codeD A gtys (g19O A) g19an n (sub (bodyOf Try.f19) p) K' s'') m K s
noncomputable def g19Q {R : Type} (A : Ar) (n : Nat) (p : List Bool) (K : Ex → St → Option R) : Ex → St → Option R := seqC (g19D A n p K) K
noncomputable def g19W {R : Type} (A : Ar) (n : Nat) (p : List Bool) (m : Nat) (K : Ex → St → Option R) : Ex → St → Option R := seqC (g19V A n p m K) K
noncomputable def g19T {R : Type} (kk : AV → Heap → Option R) : Ex → St → Option R := finD gtys g19res kk
theorem g19Qn {R : Type} (A : Ar) (n : Nat) (p : List Bool) (K : Ex → St → Option R) (s : St) : g19Q A n p K .normal s = g19D A n p K s := rfl
theorem g19Qe {R : Type} (A : Ar) (n : Nat) (p : List Bool) (K : Ex → St → Option R) (i : Nat) (s : St) : g19Q A n p K (.exit i) s = K (.exit i) s := rfl
theorem g19Qr {R : Type} (A : Ar) (n : Nat) (p : List Bool) (K : Ex → St → Option R) (s : St) : g19Q A n p K .ret s = K .ret s := rfl
theorem g19Wn {R : Type} (A : Ar) (n : Nat) (p : List Bool) (m : Nat) (K : Ex → St → Option R) (s : St) : g19W A n p m K .normal s = g19V A n p m K s := rfl
theorem g19We {R : Type} (A : Ar) (n : Nat) (p : List Bool) (m : Nat) (K : Ex → St → Option R) (i : Nat) (s : St) : g19W A n p m K (.exit i) s = K (.exit i) s := rfl
theorem g19Vs {R : Type} (A : Ar) (n : Nat) (p : List Bool) (m : Nat) (K : Ex → St → Option R) (s : St) : g19V A n p (m + 1) K s = g19D A n p (g19W A n p m K) s := rfl
theorem g19F {R : Type} (A : Ar) (n : Nat) (p : List Bool) (i : Nat) (K : Ex → St → Option R) (s s' : St) (hf : firstReg (sub (bodyOf Try.f19) p) = some i) (h : keep g19an i s = keep g19an i s') : g19D A n p K s = g19D A n p K s' := codeD_first hf h K
section
variable {R : Type} (A : Ar) (n : Nat) (K : Ex → St → Option R) (s : St)
theorem g19p1 : g19D A n (pth 1) K s = g19D A n (pth 2) (g19Q A n (pth 3) K) s := by kernel_rfl
theorem g19p3 : g19D A n (pth 3) K s = g19D A n (pth 5) (g19Q A n (pth 7) K) s := by kernel_rfl
theorem g19p5 : g19D A n (pth 5) K s = g19D A n (pth 9) (g19Q A n (pth 13) K) s := by kernel_rfl
theorem g19p13 (t : Bool) : ev s (.tmp 18) = some (.v (.cell (.bool t))) → g19D A n (pth 13) K s = (match t with
    | true => g19D A n (pth 21) K s
    | false => g19D A n (pth 29) K s) := codeD_cond t
theorem g19p21 : g19D A n (pth 21) K s = g19D A n (pth 37) (g19Q A n (pth 53) K) s := by kernel_rfl
theorem g19p53 : g19D A n (pth 53) K s = K .ret s := by kernel_rfl
theorem g19p29 : g19D A n (pth 29) K s = K .normal s := by kernel_rfl
theorem g19p7 : g19D A n (pth 7) K s = g19D A n (pth 11) (g19Q A n (pth 15) K) s := by kernel_rfl
theorem g19p15 : g19D A n (pth 15) K s = g19D A n (pth 23) (g19Q A n (pth 31) K) s := by kernel_rfl
theorem g19p23 : g19D A n (pth 23) K s = g19D A n (pth 39) (g19Q A n (pth 55) K) s := by kernel_rfl
theorem g19p55 : g19D A n (pth 55) K s = g19D A n (pth 87) (blockK 0 K) s := by kernel_rfl
theorem g19p87 : g19D A n (pth 87) K s = g19V A n (pth 151) n K s := by kernel_rfl
theorem g19p151 : g19D A n (pth 151) K s = g19D A n (pth 279) (g19Q A n (pth 407) K) s := by kernel_rfl
theorem g19p407 : g19D A n (pth 407) K s = g19D A n (pth 663) (g19Q A n (pth 919) K) s := by kernel_rfl
theorem g19p663 (t : Bool) : ev s (.tmp 25) = some (.v (.cell (.bool t))) → g19D A n (pth 663) K s = (match t with
    | true => g19D A n (pth 1175) K s
    | false => g19D A n (pth 1687) K s) := codeD_cond t
theorem g19p1175 : g19D A n (pth 1175) K s = K .normal s := by kernel_rfl
theorem g19p1687 : g19D A n (pth 1687) K s = K (.exit 0) s := by kernel_rfl
theorem g19p919 : g19D A n (pth 919) K s = g19D A n (pth 1431) (g19Q A n (pth 1943) K) s := by kernel_rfl
theorem g19p1431 : g19D A n (pth 1431) K s = g19D A n (pth 2455) (blockK 1 K) s := by kernel_rfl
theorem g19p2455 : g19D A n (pth 2455) K s = g19D A n (pth 4503) (g19Q A n (pth 6551) K) s := by kernel_rfl
theorem g19p31 : g19D A n (pth 31) K s = g19D A n (pth 47) (g19Q A n (pth 63) K) s := by kernel_rfl
theorem g19p63 : g19D A n (pth 63) K s = K .ret s := by kernel_rfl
def g19R6s0 (A : Ar) (x0 : Int) (x1 : Nat) (x2 x3 x4 : Int) (x5 : List Nat) (x6 : Nat) (x7 : List Nat) : St := ⟨[(7, (u8v (x7.getD (A.toN x3) 0))), (27, (u8v (x7.getD (A.toN x3) 0))), (26, (.v (.cell (.ptr 5003 0 (some ⟨A.toN x3, 1, x1, A.toN x3, 0, 1⟩))))), (5, (i6 x0)), (22, (sL 5003 none x1 1)), (23, (i6 x2)), (24, (i6 x3))], [(0, ⟨[.one (.int .i64 x4), .one (.str x5)], 59, 1⟩), (5003, ⟨[.nums .u8 x6 x7], 5, 1⟩)]⟩
theorem g19R6 (x0 : Int) (x1 : Nat) (x2 x3 x4 : Int) (x5 : List Nat) (x6 : Nat) (x7 : List Nat) : g19D A n (pth 4503) K ⟨[(5, (i6 x0)), (22, (sL 5003 none x1 1)), (23, (i6 x2)), (24, (i6 x3))], [(0, ⟨[.one (.int .i64 x4), .one (.str x5)], 59, 1⟩), (5003, ⟨[.nums .u8 x6 x7], 5, 1⟩)]⟩ = match (generalizing := false) A.neg x3 with
    | true => none
    | false => match (generalizing := false) A.lt (A.toN x3) x1 with
      | true => K .normal (g19R6s0 A x0 x1 x2 x3 x4 x5 x6 x7)
      | false => none := by kernel_rfl
def g19R7s0 (A : Ar) (x0 : Int) (x1 x2 : Nat) (x3 x4 x5 : Int) (x6 : List Nat) (x7 : Nat) (x8 : List Nat) : St := ⟨[(5, (i6 (A.ib .or .i64 (A.ish .shl .i64 x0 8) (A.ofN x1)))), (32, (i6 (A.ib .or .i64 (A.ish .shl .i64 x0 8) (A.ofN x1)))), (31, (i6 (A.ofN x1))), (30, (u8v x1)), (29, (i6 (A.ish .shl .i64 x0 8))), (28, (i6 x0)), (5, (i6 x0)), (7, (u8v x1)), (22, (sL 5003 none x2 1)), (23, (i6 x3)), (24, (i6 x4))], [(0, ⟨[.one (.int .i64 x5), .one (.str x6)], 59, 1⟩), (5003, ⟨[.nums .u8 x7 x8], 5, 1⟩)]⟩
theorem g19R7 (x0 : Int) (x1 x2 : Nat) (x3 x4 x5 : Int) (x6 : List Nat) (x7 : Nat) (x8 : List Nat) : g19D A n (pth 6551) K ⟨[(5, (i6 x0)), (7, (u8v x1)), (22, (sL 5003 none x2 1)), (23, (i6 x3)), (24, (i6 x4))], [(0, ⟨[.one (.int .i64 x5), .one (.str x6)], 59, 1⟩), (5003, ⟨[.nums .u8 x7 x8], 5, 1⟩)]⟩ = K .normal (g19R7s0 A x0 x1 x2 x3 x4 x5 x6 x7 x8) := by kernel_rfl
def g19R8s0 (A : Ar) (x0 : Int) (x1 : Nat) (x2 x3 x4 : Int) (x5 : List Nat) (x6 : Nat) (x7 : List Nat) : St := ⟨[(24, (i6 (A.ib .add .i64 x3 1))), (33, (i6 (A.ib .add .i64 x3 1))), (5, (i6 x0)), (22, (sL 5003 none x1 1)), (23, (i6 x2)), (24, (i6 x3))], [(0, ⟨[.one (.int .i64 x4), .one (.str x5)], 59, 1⟩), (5003, ⟨[.nums .u8 x6 x7], 5, 1⟩)]⟩
theorem g19R8 (x0 : Int) (x1 : Nat) (x2 x3 x4 : Int) (x5 : List Nat) (x6 : Nat) (x7 : List Nat) : g19D A n (pth 1943) K ⟨[(5, (i6 x0)), (22, (sL 5003 none x1 1)), (23, (i6 x2)), (24, (i6 x3))], [(0, ⟨[.one (.int .i64 x4), .one (.str x5)], 59, 1⟩), (5003, ⟨[.nums .u8 x6 x7], 5, 1⟩)]⟩ = K .normal (g19R8s0 A x0 x1 x2 x3 x4 x5 x6 x7) := by kernel_rfl
def g19R5s0 (A : Ar) (x0 : Int) (x1 : Nat) (x2 x3 x4 : Int) (x5 : List Nat) (x6 : Nat) (x7 : List Nat) : St := ⟨[(25, (bO (A.ic .lss x3 x2))), (5, (i6 x0)), (22, (sL 5003 none x1 1)), (23, (i6 x2)), (24, (i6 x3))], [(0, ⟨[.one (.int .i64 x4), .one (.str x5)], 59, 1⟩), (5003, ⟨[.nums .u8 x6 x7], 5, 1⟩)]⟩
theorem g19R5 (x0 : Int) (x1 : Nat) (x2 x3 x4 : Int) (x5 : List Nat) (x6 : Nat) (x7 : List Nat) : g19D A n (pth 279) K ⟨[(5, (i6 x0)), (22, (sL 5003 none x1 1)), (23, (i6 x2)), (24, (i6 x3))], [(0, ⟨[.one (.int .i64 x4), .one (.str x5)], 59, 1⟩), (5003, ⟨[.nums .u8 x6 x7], 5, 1⟩)]⟩ = K .normal (g19R5s0 A x0 x1 x2 x3 x4 x5 x6 x7) := by kernel_rfl
def g19R9s0 (A : Ar) (x0 x1 : Int) (x2 : List Nat) : St := ⟨[(4, (i6 x0)), (34, (i6 x0)), (5, (i6 x0))], [(0, ⟨[.one (.int .i64 x1), .one (.str x2)], 59, 1⟩)]⟩
theorem g19R9 (x0 x1 : Int) (x2 : List Nat) : g19D A n (pth 47) K ⟨[(5, (i6 x0))], [(0, ⟨[.one (.int .i64 x1), .one (.str x2)], 59, 1⟩)]⟩ = K .normal (g19R9s0 A x0 x1 x2) := by kernel_rfl
def g19R3s0 (A : Ar) (x0 x1 : Int) (x2 : List Nat) : St := ⟨[(5, (i6 0)), (0, (pT 0 0)), (1, (i6 x0))], [(0, ⟨[.one (.int .i64 x1), .one (.str x2)], 59, 1⟩)]⟩
theorem g19R3 (x0 x1 : Int) (x2 : List Nat) : g19D A n (pth 11) K ⟨[(0, (pT 0 0)), (1, (i6 x0))], [(0, ⟨[.one (.int .i64 x1), .one (.str x2)], 59, 1⟩)]⟩ = K .normal (g19R3s0 A x0 x1 x2) := by kernel_rfl
def g19R4s0 (A : Ar) (x0 x1 x2 : Int) (x3 : List Nat) : St := ⟨[(24, (i6 0)), (23, (i6 (A.ofN ((g21r0 A x0 x2 x3).length)))), (22, (sL 5003 none ((g21r0 A x0 x2 x3).length) 1)), (21, (tS (g21r0 A x0 x2 x3))), (20, (i6 x0)), (19, (pT 0 0)), (0, (pT 0 0)), (1, (i6 x0)), (5, (i6 x1))], [(5003, ⟨[.nums .u8 ((g21r0 A x0 x2 x3).length) (g21r0 A x0 x2 x3)], 5, 1⟩), (0, ⟨[.one (.int .i64 (g21r1 A x0 x2 x3)), .one (.str (g21r2 A x0 x2 x3))], 59, 1⟩)]⟩
theorem g19R4 (x0 x1 x2 : Int) (x3 : List Nat) : g19D A n (pth 39) K ⟨[(0, (pT 0 0)), (1, (i6 x0)), (5, (i6 x1))], [(0, ⟨[.one (.int .i64 x2), .one (.str x3)], 59, 1⟩)]⟩ = match (generalizing := false) g21ok A x0 x2 x3 with
    | true => match (generalizing := false) A.le ((g21r0 A x0 x2 x3).length) 9223372036854775807 with
      | true => K .normal (g19R4s0 A x0 x1 x2 x3)
      | false => none
    | false => none := by kernel_rfl
def g19R0s0 (A : Ar) (x0 x1 : Int) (x2 : List Nat) : St := ⟨[(4, (i6 0)), (0, (pT 0 0)), (1, (i6 x0))], [(0, ⟨[.one (.int .i64 x1), .one (.str x2)], 59, 1⟩)]⟩
theorem g19R0 (x0 x1 : Int) (x2 : List Nat) : g19D A n (pth 2) K ⟨[(0, (pT 0 0)), (1, (i6 x0))], [(0, ⟨[.one (.int .i64 x1), .one (.str x2)], 59, 1⟩)]⟩ = K .normal (g19R0s0 A x0 x1 x2) := by kernel_rfl
def g19R1s0 (A : Ar) (x0 x1 : Int) (x2 : List Nat) : St := ⟨[(18, (bO (!(g29a_r0 A (A.ic .leq x0 7) 1 x1 x2)))), (17, (bO (g29a_r0 A (A.ic .leq x0 7) 1 x1 x2))), (16, (bO (A.ic .leq x0 7))), (15, (bO (A.ic .leq x0 7))), (14, (i6 x0)), (13, (bO true)), (12, (bO (A.ic .geq x0 1))), (11, (i6 x0)), (10, (pT 0 0)), (9, (pT 0 0)), (8, (pT 0 0)), (0, (pT 0 0)), (1, (i6 x0))], [(0, ⟨[.one (.int .i64 (g29a_r1 A (A.ic .leq x0 7) 1 x1 x2)), .one (.str (g29a_r2 A (A.ic .leq x0 7) 1 x1 x2))], 59, 1⟩)]⟩
def g19R1s1 (A : Ar) (x0 x1 : Int) (x2 : List Nat) : St := ⟨[(18, (bO (!(g29a_r0 A false 1 x1 x2)))), (17, (bO (g29a_r0 A false 1 x1 x2))), (16, (bO false)), (15, uN), (14, uN), (13, (bO false)), (12, (bO (A.ic .geq x0 1))), (11, (i6 x0)), (10, (pT 0 0)), (9, (pT 0 0)), (8, (pT 0 0)), (0, (pT 0 0)), (1, (i6 x0))], [(0, ⟨[.one (.int .i64 (g29a_r1 A false 1 x1 x2)), .one (.str (g29a_r2 A false 1 x1 x2))], 59, 1⟩)]⟩
theorem g19R1 (x0 x1 : Int) (x2 : List Nat) : g19D A n (pth 9) K ⟨[(0, (pT 0 0)), (1, (i6 x0))], [(0, ⟨[.one (.int .i64 x1), .one (.str x2)], 59, 1⟩)]⟩ = match (generalizing := false) A.ic .geq x0 1 with
    | true => match (generalizing := false) g29a_ok A (A.ic .leq x0 7) 1 x1 x2 with
      | true => K .normal (g19R1s0 A x0 x1 x2)
      | false => none
    | false => match (generalizing := false) g29a_ok A false 1 x1 x2 with
      | true => K .normal (g19R1s1 A x0 x1 x2)
      | false => none := by kernel_rfl
def g19R2s0 (A : Ar) (x0 : Int) (x1 : List Nat) : St := ⟨[(4, (i6 0))], [(0, ⟨[.one (.int .i64 x0), .one (.str x1)], 59, 1⟩)]⟩
theorem g19R2 (x0 : Int) (x1 : List Nat) : g19D A n (pth 37) K ⟨[], [(0, ⟨[.one (.int .i64 x0), .one (.str x1)], 59, 1⟩)]⟩ = K .normal (g19R2s0 A x0 x1) := by kernel_rfl
end
def g19J6 {R : Type} (A : Ar) (n : Nat) (kk : AV → Heap → Option R) (lg19L5 : Int → Nat → Int → Int → Int → List Nat → Nat → List Nat → Option R) (x0 : Int) (x1 : Nat) (x2 x3 x4 : Int) (x5 : List Nat) (x6 : Nat) (x7 : List Nat) : Option R :=
  match (generalizing := false) A.neg x3 with
  | true => none
  | false => match (generalizing := false) A.lt (A.toN x3) x1 with
    | true => lg19L5 (A.ib .or .i64 (A.ish .shl .i64 x0 8) (A.ofN (x7.getD (A.toN x3) 0))) x1 x2 (A.ib .add .i64 x3 1) x4 x5 x6 x7
    | false => none
set_option maxRecDepth 100000 in
theorem g19J6_eq {R : Type} (A : Ar) (n : Nat) (kk : AV → Heap → Option R) (m0 : Nat) (lg19L5 : Int → Nat → Int → Int → Int → List Nat → Nat → List Nat → Option R) 
    (hg19L5 : ∀ (s : St) (x0 : Int) (x1 : Nat) (x2 x3 x4 : Int) (x5 : List Nat) (x6 : Nat) (x7 : List Nat), keep g19an 5 s = ⟨[(5, (i6 x0)), (22, (sL 5003 none x1 1)), (23, (i6 x2)), (24, (i6 x3))], [(0, ⟨[.one (.int .i64 x4), .one (.str x5)], 59, 1⟩), (5003, ⟨[.nums .u8 x6 x7], 5, 1⟩)]⟩ → g19V A n (pth 151) m0 (blockK 0 (g19Q A n (pth 31) (g19T kk))) s = lg19L5 x0 x1 x2 x3 x4 x5 x6 x7) (s : St) (x0 : Int) (x1 : Nat) (x2 x3 x4 : Int) (x5 : List Nat) (x6 : Nat) (x7 : List Nat) (h : keep g19an 6 s = ⟨[(5, (i6 x0)), (22, (sL 5003 none x1 1)), (23, (i6 x2)), (24, (i6 x3))], [(0, ⟨[.one (.int .i64 x4), .one (.str x5)], 59, 1⟩), (5003, ⟨[.nums .u8 x6 x7], 5, 1⟩)]⟩) :
    g19D A n (pth 919) (g19W A n (pth 151) m0 (blockK 0 (g19Q A n (pth 31) (g19T kk)))) s = g19J6 A n kk lg19L5 x0 x1 x2 x3 x4 x5 x6 x7 := by
  have h1 := (g19Wn A n _ _ _ _).trans (hg19L5 (g19R8s0 A (A.ib .or .i64 (A.ish .shl .i64 x0 8) (A.ofN (x7.getD (A.toN x3) 0))) x1 x2 x3 x4 x5 x6 x7) (A.ib .or .i64 (A.ish .shl .i64 x0 8) (A.ofN (x7.getD (A.toN x3) 0))) x1 x2 (A.ib .add .i64 x3 1) x4 x5 x6 x7 (by kernel_rfl))
  have h2 := (g19F A n _ 8 _ (g19R7s0 A x0 (x7.getD (A.toN x3) 0) x1 x2 x3 x4 x5 x6 x7) _ (by kernel_rfl) (by kernel_rfl)).trans (g19R8 A n (g19W A n (pth 151) m0 (blockK 0 (g19Q A n (pth 31) (g19T kk)))) (A.ib .or .i64 (A.ish .shl .i64 x0 8) (A.ofN (x7.getD (A.toN x3) 0))) x1 x2 x3 x4 x5 x6 x7)
  rw [h1] at h2
  have h3 := (g19Qn A n _ _ _).trans h2
  have h4 := (blockK_n 1 _ _).trans h3
  have h5 := (g19F A n _ 7 _ (g19R6s0 A x0 x1 x2 x3 x4 x5 x6 x7) _ (by kernel_rfl) (by kernel_rfl)).trans (g19R7 A n (blockK 1 (g19Q A n (pth 1943) (g19W A n (pth 151) m0 (blockK 0 (g19Q A n (pth 31) (g19T kk)))))) x0 (x7.getD (A.toN x3) 0) x1 x2 x3 x4 x5 x6 x7)
  rw [h4] at h5
  have h6 := (g19Qn A n _ _ _).trans h5
  have h7 := (g19F A n _ 6 _ ⟨[(5, (i6 x0)), (22, (sL 5003 none x1 1)), (23, (i6 x2)), (24, (i6 x3))], [(0, ⟨[.one (.int .i64 x4), .one (.str x5)], 59, 1⟩), (5003, ⟨[.nums .u8 x6 x7], 5, 1⟩)]⟩ _ (by kernel_rfl) (by kernel_rfl)).trans (g19R6 A n (g19Q A n (pth 6551) (blockK 1 (g19Q A n (pth 1943) (g19W A n (pth 151) m0 (blockK 0 (g19Q A n (pth 31) (g19T kk))))))) x0 x1 x2 x3 x4 x5 x6 x7)
  rw [h6] at h7
  have h8 := (g19p2455 A n _ _).trans h7
  have h9 := (g19p1431 A n _ _).trans h8
  have h10 := (g19p919 A n _ _).trans h9
  exact (g19F A n _ 6 _ _ ⟨[(5, (i6 x0)), (22, (sL 5003 none x1 1)), (23, (i6 x2)), (24, (i6 x3))], [(0, ⟨[.one (.int .i64 x4), .one (.str x5)], 59, 1⟩), (5003, ⟨[.nums .u8 x6 x7], 5, 1⟩)]⟩ (by kernel_rfl) (h.trans (by kernel_rfl))).trans (h10.trans (by kernel_rfl))
def g19L5 {R : Type} (A : Ar) (n : Nat) (kk : AV → Heap → Option R)  : Nat → Int → Nat → Int → Int → Int → List Nat → Nat → List Nat → Option R
  | 0, _, _, _, _, _, _, _, _ => none
  | m + 1, x0, x1, x2, x3, x4, x5, x6, x7 => match (generalizing := false) A.ic .lss x3 x2 with
  | true => g19J6 A n kk (g19L5 A n kk  m) x0 x1 x2 x3 x4 x5 x6 x7
  | false => kk (i6 x0) [(0, ⟨[.one (.int .i64 x4), .one (.str x5)], 59, 1⟩)]
set_option maxRecDepth 100000 in
theorem g19L5_eq {R : Type} (A : Ar) (n : Nat) (kk : AV → Heap → Option R)    (m : Nat) (s : St) (x0 : Int) (x1 : Nat) (x2 x3 x4 : Int) (x5 : List Nat) (x6 : Nat) (x7 : List Nat) (h : keep g19an 5 s = ⟨[(5, (i6 x0)), (22, (sL 5003 none x1 1)), (23, (i6 x2)), (24, (i6 x3))], [(0, ⟨[.one (.int .i64 x4), .one (.str x5)], 59, 1⟩), (5003, ⟨[.nums .u8 x6 x7], 5, 1⟩)]⟩) :
    g19V A n (pth 151) m (blockK 0 (g19Q A n (pth 31) (g19T kk))) s = g19L5 A n kk  m x0 x1 x2 x3 x4 x5 x6 x7 := by
  induction m generalizing s x0 x1 x2 x3 x4 x5 x6 x7 with
  | zero => rfl
  | succ m ih =>
    have h1 := (g19Qn A n _ _ _).trans (g19J6_eq A n kk m (g19L5 A n kk  m) ih  (g19R5s0 A x0 x1 x2 x3 x4 x5 x6 x7) x0 x1 x2 x3 x4 x5 x6 x7 (by kernel_rfl))
    have h2 := (g19p1175 A n _ _).trans h1
    have h3 : (g19T kk) .ret (g19R9s0 A x0 x4 x5) = kk (i6 x0) [(0, ⟨[.one (.int .i64 x4), .one (.str x5)], 59, 1⟩)] := by kernel_rfl
    have h4 := (g19p63 A n _ _).trans h3
    have h5 := (g19Qn A n _ _ _).trans h4
    have h6 := (g19F A n _ 9 _ (g19R5s0 A x0 x1 x2 x3 x4 x5 x6 x7) _ (by kernel_rfl) (by kernel_rfl)).trans (g19R9 A n (g19Q A n (pth 63) (g19T kk)) x0 x4 x5)
    rw [h5] at h6
    have h7 := (g19p31 A n _ _).trans h6
    have h8 := (g19Qn A n _ _ _).trans h7
    have h9 := (blockK_hit 0 _ _).trans h8
    have h10 := (g19We A n (pth 151) m _ _ _).trans h9
    have h11 := (g19Qe A n (pth 919) _ _ _).trans h10
    have h12 := (g19p1687 A n _ _).trans h11
    have h13 := g19p663 A n (g19Q A n (pth 919) (g19W A n (pth 151) m (blockK 0 (g19Q A n (pth 31) (g19T kk))))) (g19R5s0 A x0 x1 x2 x3 x4 x5 x6 x7) (A.ic .lss x3 x2) (by kernel_rfl)
    rw [h2, h12] at h13
    have h14 := (g19p407 A n _ _).trans h13
    have h15 := (g19Qn A n _ _ _).trans h14
    have h16 := (g19F A n _ 5 _ ⟨[(5, (i6 x0)), (22, (sL 5003 none x1 1)), (23, (i6 x2)), (24, (i6 x3))], [(0, ⟨[.one (.int .i64 x4), .one (.str x5)], 59, 1⟩), (5003, ⟨[.nums .u8 x6 x7], 5, 1⟩)]⟩ _ (by kernel_rfl) (by kernel_rfl)).trans (g19R5 A n (g19Q A n (pth 407) (g19W A n (pth 151) m (blockK 0 (g19Q A n (pth 31) (g19T kk))))) x0 x1 x2 x3 x4 x5 x6 x7)
    rw [h15] at h16
    have h17 := (g19p151 A n _ _).trans h16
    exact (loopD_first (s' := ⟨[(5, (i6 x0)), (22, (sL 5003 none x1 1)), (23, (i6 x2)), (24, (i6 x3))], [(0, ⟨[.one (.int .i64 x4), .one (.str x5)], 59, 1⟩), (5003, ⟨[.nums .u8 x6 x7], 5, 1⟩)]⟩) (id := 5) (by kernel_rfl) (h.trans (by kernel_rfl)) _).trans ((g19Vs A n _ m _ _).trans (h17.trans (by kernel_rfl)))
def g19J3 {R : Type} (A : Ar) (n : Nat) (kk : AV → Heap → Option R)  (x0 x1 : Int) (x2 : List Nat) : Option R :=
  match (generalizing := false) g21ok A x0 x1 x2 with
  | true => match (generalizing := false) A.le ((g21r0 A x0 x1 x2).length) 9223372036854775807 with
    | true => g19L5 A n kk  n 0 ((g21r0 A x0 x1 x2).length) (A.ofN ((g21r0 A x0 x1 x2).length)) 0 (g21r1 A x0 x1 x2) (g21r2 A x0 x1 x2) ((g21r0 A x0 x1 x2).length) (g21r0 A x0 x1 x2)
    | false => none
  | false => none
set_option maxRecDepth 100000 in
theorem g19J3_eq {R : Type} (A : Ar) (n : Nat) (kk : AV → Heap → Option R)    (s : St) (x0 x1 : Int) (x2 : List Nat) (h : keep g19an 3 s = ⟨[(0, (pT 0 0)), (1, (i6 x0))], [(0, ⟨[.one (.int .i64 x1), .one (.str x2)], 59, 1⟩)]⟩) :
    g19D A n (pth 7) (g19T kk) s = g19J3 A n kk  x0 x1 x2 := by
  have h1 := (g19p87 A n _ _).trans (g19L5_eq A n kk    n (g19R4s0 A x0 0 x1 x2) 0 ((g21r0 A x0 x1 x2).length) (A.ofN ((g21r0 A x0 x1 x2).length)) 0 (g21r1 A x0 x1 x2) (g21r2 A x0 x1 x2) ((g21r0 A x0 x1 x2).length) (g21r0 A x0 x1 x2) (by kernel_rfl))
  have h2 := (g19p55 A n _ _).trans h1
  have h3 := (g19Qn A n _ _ _).trans h2
  have h4 := (g19F A n _ 4 _ (g19R3s0 A x0 x1 x2) _ (by kernel_rfl) (by kernel_rfl)).trans (g19R4 A n (g19Q A n (pth 55) (g19Q A n (pth 31) (g19T kk))) x0 0 x1 x2)
  rw [h3] at h4
  have h5 := (g19p23 A n _ _).trans h4
  have h6 := (g19p15 A n _ _).trans h5
  have h7 := (g19Qn A n _ _ _).trans h6
  have h8 := (g19F A n _ 3 _ ⟨[(0, (pT 0 0)), (1, (i6 x0))], [(0, ⟨[.one (.int .i64 x1), .one (.str x2)], 59, 1⟩)]⟩ _ (by kernel_rfl) (by kernel_rfl)).trans (g19R3 A n (g19Q A n (pth 15) (g19T kk)) x0 x1 x2)
  rw [h7] at h8
  have h9 := (g19p7 A n _ _).trans h8
  exact (g19F A n _ 3 _ _ ⟨[(0, (pT 0 0)), (1, (i6 x0))], [(0, ⟨[.one (.int .i64 x1), .one (.str x2)], 59, 1⟩)]⟩ (by kernel_rfl) (h.trans (by kernel_rfl))).trans (h9.trans (by kernel_rfl))
def g19 {R : Type} (A : Ar) (n : Nat) (kk : AV → Heap → Option R) (x0 x1 : Int) (x2 : List Nat) : Option R :=
  match (generalizing := false) A.ic .geq x0 1 with
  | true => match (generalizing := false) g29a_ok A (A.ic .leq x0 7) 1 x1 x2 with
    | true => match (generalizing := false) !(g29a_r0 A (A.ic .leq x0 7) 1 x1 x2) with
      | true => kk (i6 0) [(0, ⟨[.one (.int .i64 (g29a_r1 A (A.ic .leq x0 7) 1 x1 x2)), .one (.str (g29a_r2 A (A.ic .leq x0 7) 1 x1 x2))], 59, 1⟩)]
      | false => g19J3 A n kk  x0 (g29a_r1 A (A.ic .leq x0 7) 1 x1 x2) (g29a_r2 A (A.ic .leq x0 7) 1 x1 x2)
    | false => none
  | false => match (generalizing := false) g29a_ok A false 1 x1 x2 with
    | true => match (generalizing := false) !(g29a_r0 A false 1 x1 x2) with
      | true => kk (i6 0) [(0, ⟨[.one (.int .i64 (g29a_r1 A false 1 x1 x2)), .one (.str (g29a_r2 A false 1 x1 x2))], 59, 1⟩)]
      | false => g19J3 A n kk  x0 (g29a_r1 A false 1 x1 x2) (g29a_r2 A false 1 x1 x2)
    | false => none
set_option maxRecDepth 100000 in
theorem g19_eq {R : Type} (A : Ar) (n : Nat) (kk : AV → Heap → Option R) (x0 x1 : Int) (x2 : List Nat) :
    funD A gtys (g19O A) g19an n (bodyOf Try.f19) g19res [(pT 0 0), (i6 x0)] [(0, ⟨[.one (.int .i64 x1), .one (.str x2)], 59, 1⟩)] kk = g19 A n kk x0 x1 x2 := by
  have h1 : (g19T kk) .ret (g19R2s0 A (g29a_r1 A (A.ic .leq x0 7) 1 x1 x2) (g29a_r2 A (A.ic .leq x0 7) 1 x1 x2)) = kk (i6 0) [(0, ⟨[.one (.int .i64 (g29a_r1 A (A.ic .leq x0 7) 1 x1 x2)), .one (.str (g29a_r2 A (A.ic .leq x0 7) 1 x1 x2))], 59, 1⟩)] := by kernel_rfl
  have h2 := (g19Qr A n (pth 7) _ _).trans h1
  have h3 := (g19p53 A n _ _).trans h2
  have h4 := (g19Qn A n _ _ _).trans h3
  have h5 := (g19F A n _ 2 _ (g19R1s0 A x0 x1 x2) _ (by kernel_rfl) (by kernel_rfl)).trans (g19R2 A n (g19Q A n (pth 53) (g19Q A n (pth 7) (g19T kk))) (g29a_r1 A (A.ic .leq x0 7) 1 x1 x2) (g29a_r2 A (A.ic .leq x0 7) 1 x1 x2))
  rw [h4] at h5
  have h6 := (g19p21 A n _ _).trans h5
  have h7 := (g19Qn A n _ _ _).trans (g19J3_eq A n kk     (g19R1s0 A x0 x1 x2) x0 (g29a_r1 A (A.ic .leq x0 7) 1 x1 x2) (g29a_r2 A (A.ic .leq x0 7) 1 x1 x2) (by kernel_rfl))
  have h8 := (g19p29 A n _ _).trans h7
  have h9 := g19p13 A n (g19Q A n (pth 7) (g19T kk)) (g19R1s0 A x0 x1 x2) (!(g29a_r0 A (A.ic .leq x0 7) 1 x1 x2)) (by kernel_rfl)
  rw [h6, h8] at h9
  have h10 := (g19Qn A n _ _ _).trans h9
  have h11 : (g19T kk) .ret (g19R2s0 A (g29a_r1 A false 1 x1 x2) (g29a_r2 A false 1 x1 x2)) = kk (i6 0) [(0, ⟨[.one (.int .i64 (g29a_r1 A false 1 x1 x2)), .one (.str (g29a_r2 A false 1 x1 x2))], 59, 1⟩)] := by kernel_rfl
  have h12 := (g19Qr A n (pth 7) _ _).trans h11
  have h13 := (g19p53 A n _ _).trans h12
  have h14 := (g19Qn A n _ _ _).trans h13
  have h15 := (g19F A n _ 2 _ (g19R1s1 A x0 x1 x2) _ (by kernel_rfl) (by kernel_rfl)).trans (g19R2 A n (g19Q A n (pth 53) (g19Q A n (pth 7) (g19T kk))) (g29a_r1 A false 1 x1 x2) (g29a_r2 A false 1 x1 x2))
  rw [h14] at h15
  have h16 := (g19p21 A n _ _).trans h15
  have h17 := (g19Qn A n _ _ _).trans (g19J3_eq A n kk     (g19R1s1 A x0 x1 x2) x0 (g29a_r1 A false 1 x1 x2) (g29a_r2 A false 1 x1 x2) (by kernel_rfl))
  have h18 := (g19p29 A n _ _).trans h17
  have h19 := g19p13 A n (g19Q A n (pth 7) (g19T kk)) (g19R1s1 A x0 x1 x2) (!(g29a_r0 A false 1 x1 x2)) (by kernel_rfl)
  rw [h16, h18] at h19
  have h20 := (g19Qn A n _ _ _).trans h19
  have h21 := (g19F A n _ 1 _ (g19R0s0 A x0 x1 x2) _ (by kernel_rfl) (by kernel_rfl)).trans (g19R1 A n (g19Q A n (pth 13) (g19Q A n (pth 7) (g19T kk))) x0 x1 x2)
  rw [h10, h20] at h21
  have h22 := (g19p5 A n _ _).trans h21
  have h23 := (g19p3 A n _ _).trans h22
  have h24 := (g19Qn A n _ _ _).trans h23
  have h25 := (g19F A n _ 0 _ ⟨[(0, (pT 0 0)), (1, (i6 x0))], [(0, ⟨[.one (.int .i64 x1), .one (.str x2)], 59, 1⟩)]⟩ _ (by kernel_rfl) (by kernel_rfl)).trans (g19R0 A n (g19Q A n (pth 3) (g19T kk)) x0 x1 x2)
  rw [h24] at h25
  have h26 := (g19p1 A n _ _).trans h25
  exact (show funD A gtys (g19O A) g19an n (bodyOf Try.f19) g19res [(pT 0 0), (i6 x0)] [(0, ⟨[.one (.int .i64 x1), .one (.str x2)], 59, 1⟩)] kk = g19D A n (pth 1) (g19T kk) ⟨[(0, (pT 0 0)), (1, (i6 x0))], [(0, ⟨[.one (.int .i64 x1), .one (.str x2)], 59, 1⟩)]⟩ from by kernel_rfl).trans (h26.trans (by kernel_rfl))
def g19is (o : Option (AV × Heap)) : Bool := match o with
  | some (.v (.cell (.int .i64 _)), [(n0, ⟨[.one (.int .i64 _), .one (.str _)], n1, n2⟩)]) => Nat.beq n0 0 && (Nat.beq n1 59 && (Nat.beq n2 1))
  | _ => false
def g19g0 (o : Option (AV × Heap)) : Int := match o with
  | some (.v (.cell (.int .i64 x)), [(_, ⟨[.one (.int .i64 _), .one (.str _)], _, _⟩)]) => x
  | _ => 0
def g19g1 (o : Option (AV × Heap)) : Int := match o with
  | some (.v (.cell (.int .i64 _)), [(_, ⟨[.one (.int .i64 x), .one (.str _)], _, _⟩)]) => x
  | _ => 0
def g19g2 (o : Option (AV × Heap)) : List Nat := match o with
  | some (.v (.cell (.int .i64 _)), [(_, ⟨[.one (.int .i64 _), .one (.str x)], _, _⟩)]) => x
  | _ => []
theorem g19is_spec {o : Option (AV × Heap)} (h : g19is o = true) : o = some ((i6 (g19g0 o)), [(0, ⟨[.one (.int .i64 (g19g1 o)), .one (.str (g19g2 o))], 59, 1⟩)]) := by
  unfold g19is at h
  split at h
  · rename_i z0 n0 z2 z3 n1 n2
    simp only [Bool.and_eq_true] at h
    have en0 := beq_true h.1
    subst en0
    replace h := h.2
    have en1 := beq_true h.1
    subst en1
    replace h := h.2
    have en2 := beq_true h
    subst en2
    rfl
  · cases h
def g19v (A : Ar) (x0 x1 : Int) (x2 : List Nat) : Option (AV × Heap) := g19 A (100000) (outH [0] none) x0 x1 x2
def g19ok (A : Ar) (x0 x1 : Int) (x2 : List Nat) : Bool := g19is (g19v A x0 x1 x2)
def g19r0 (A : Ar) (x0 x1 : Int) (x2 : List Nat) : Int := g19g0 (g19v A x0 x1 x2)
def g19r1 (A : Ar) (x0 x1 : Int) (x2 : List Nat) : Int := g19g1 (g19v A x0 x1 x2)
def g19r2 (A : Ar) (x0 x1 : Int) (x2 : List Nat) : List Nat := g19g2 (g19v A x0 x1 x2)
theorem g19ok_spec {A : Ar} {x0 x1 x2} (h : g19ok A x0 x1 x2 = true) : g19v A x0 x1 x2 = some ((i6 (g19r0 A x0 x1 x2)), [(0, ⟨[.one (.int .i64 (g19r1 A x0 x1 x2)), .one (.str (g19r2 A x0 x1 x2))], 59, 1⟩)]) := g19is_spec h
def g19o (A : Ar) (args : List AV) (h : Heap) : Option (Bool × AV × Heap) := match args, h with
  | [.v (.cell (.ptr n0 n1 none)), .v (.cell (.int .i64 x0))], [(n2, ⟨[.one (.int .i64 x1), .one (.str x2)], n3, n4⟩)] => match Nat.beq n0 0 && (Nat.beq n1 0 && (Nat.beq n2 0 && (Nat.beq n3 59 && (Nat.beq n4 1)))) with
    | true => some (g19ok A x0 x1 x2, (i6 (g19r0 A x0 x1 x2)), [(0, ⟨[.one (.int .i64 (g19r1 A x0 x1 x2)), .one (.str (g19r2 A x0 x1 x2))], 59, 1⟩)])
    | false => none
  | _, _ => none
theorem g19o_sound : ∀ args h v h', g19o realA args h = some (true, v, h') → FnH Try.prog 19 args h v h' := by
  intro args h v h' hh
  unfold g19o at hh
  split at hh
  · rename_i n0 n1 x0 n2 x1 x2 n3 n4
    split at hh
    case h_2 => cases hh
    rename_i hc0
    simp only [Option.some.injEq, Prod.mk.injEq] at hh
    obtain ⟨hc, hv, hh⟩ := hh
    subst hv
    subst hh
    simp only [Bool.and_eq_true] at hc0
    have en0 := beq_true hc0.1
    subst en0
    replace hc0 := hc0.2
    have en1 := beq_true hc0.1
    subst en1
    replace hc0 := hc0.2
    have en2 := beq_true hc0.1
    subst en2
    replace hc0 := hc0.2
    have en3 := beq_true hc0.1
    subst en3
    replace hc0 := hc0.2
    have en4 := beq_true hc0
    subst en4
    exact fnh_of mixed gtysOK g19O_sound g19O_det (an := g19an) (n := 100000) Try.func19 (c := bodyOf Try.f19) rfl (by kernel_rfl) Try.call19 (Nat.le_of_ble_eq_true rfl) (pins := [0]) (nilr := none) (fun _ => (g19_eq realA (100000) (outH [0] none) x0 x1 x2).trans (show g19v realA x0 x1 x2 = _ from g19ok_spec hc))
  · cases hh
def g23O (A : Ar) : Orc := orcH [] [(19, ⟨[], none, (g19o A)⟩), (21, ⟨[], none, (g21o A)⟩)]
theorem g23O_sound : OSound Try.prog (g23O realA) := orcH_sound (fun f g hm args v hv => by
    cases hm) (fun f e hm args h v h' hv => by
    simp only [List.mem_cons, List.not_mem_nil, or_false, Prod.mk.injEq] at hm
    rcases hm with ⟨rfl, rfl⟩ | ⟨rfl, rfl⟩
    · exact g19o_sound _ _ _ _ hv
    · exact g21o_sound _ _ _ _ hv)
theorem g23O_det : ODet (g23O realA) := orcH_det _ _
def g23an : Ann := [(0, ([0, 1], [0])), (1, ([0, 1], [0])), (2, ([0, 5], [0]))]
def g23res : List ResultVar := [.tmp 4]
noncomputable def g23D {R : Type} (A : Ar) (n : Nat) (p : List Bool) (K : Ex → St → Option R) (s : St) : Option R := codeD A gtys (g23O A) g23an n (sub (bodyOf Try.f23) p) K s
noncomputable def g23Q {R : Type} (A : Ar) (n : Nat) (p : List Bool) (K : Ex → St → Option R) : Ex → St → Option R := seqC (g23D A n p K) K
noncomputable def g23T {R : Type} (kk : AV → Heap → Option R) : Ex → St → Option R := finD gtys g23res kk
theorem g23Qn {R : Type} (A : Ar) (n : Nat) (p : List Bool) (K : Ex → St → Option R) (s : St) : g23Q A n p K .normal s = g23D A n p K s := rfl
theorem g23F {R : Type} (A : Ar) (n : Nat) (p : List Bool) (i : Nat) (K : Ex → St → Option R) (s s' : St) (hf : firstReg (sub (bodyOf Try.f23) p) = some i) (h : keep g23an i s = keep g23an i s') : g23D A n p K s = g23D A n p K s' := codeD_first hf h K
section
variable {R : Type} (A : Ar) (n : Nat) (K : Ex → St → Option R) (s : St)
theorem g23p1 : g23D A n (pth 1) K s = g23D A n (pth 2) (g23Q A n (pth 3) K) s := by kernel_rfl
theorem g23p3 : g23D A n (pth 3) K s = g23D A n (pth 5) (g23Q A n (pth 7) K) s := by kernel_rfl
theorem g23p7 : g23D A n (pth 7) K s = g23D A n (pth 11) (g23Q A n (pth 15) K) s := by kernel_rfl
theorem g23p15 : g23D A n (pth 15) K s = K .ret s := by kernel_rfl
def g23R0s0 (A : Ar) (x0 x1 : Int) (x2 : List Nat) : St := ⟨[(4, (tS [])), (0, (pT 0 0)), (1, (i6 x0))], [(0, ⟨[.one (.int .i64 x1), .one (.str x2)], 59, 1⟩)]⟩
theorem g23R0 (x0 x1 : Int) (x2 : List Nat) : g23D A n (pth 2) K ⟨[(0, (pT 0 0)), (1, (i6 x0))], [(0, ⟨[.one (.int .i64 x1), .one (.str x2)], 59, 1⟩)]⟩ = K .normal (g23R0s0 A x0 x1 x2) := by kernel_rfl
def g23R1s0 (A : Ar) (x0 x1 : Int) (x2 : List Nat) : St := ⟨[(5, (i6 (g19r0 A x0 x1 x2))), (8, (i6 (g19r0 A x0 x1 x2))), (7, (i6 x0)), (6, (pT 0 0)), (0, (pT 0 0)), (1, (i6 x0))], [(0, ⟨[.one (.int .i64 (g19r1 A x0 x1 x2)), .one (.str (g19r2 A x0 x1 x2))], 59, 1⟩)]⟩
theorem g23R1 (x0 x1 : Int) (x2 : List Nat) : g23D A n (pth 5) K ⟨[(0, (pT 0 0)), (1, (i6 x0))], [(0, ⟨[.one (.int .i64 x1), .one (.str x2)], 59, 1⟩)]⟩ = match (generalizing := false) g19ok A x0 x1 x2 with
    | true => K .normal (g23R1s0 A x0 x1 x2)
    | false => none := by kernel_rfl
def g23R2s0 (A : Ar) (x0 x1 : Int) (x2 : List Nat) : St := ⟨[(4, (tS (g21r0 A x0 x1 x2))), (11, (tS (g21r0 A x0 x1 x2))), (10, (i6 x0)), (9, (pT 0 0)), (0, (pT 0 0)), (5, (i6 x0))], [(0, ⟨[.one (.int .i64 (g21r1 A x0 x1 x2)), .one (.str (g21r2 A x0 x1 x2))], 59, 1⟩)]⟩
theorem g23R2 (x0 x1 : Int) (x2 : List Nat) : g23D A n (pth 11) K ⟨[(0, (pT 0 0)), (5, (i6 x0))], [(0, ⟨[.one (.int .i64 x1), .one (.str x2)], 59, 1⟩)]⟩ = match (generalizing := false) g21ok A x0 x1 x2 with
    | true => K .normal (g23R2s0 A x0 x1 x2)
    | false => none := by kernel_rfl
end
def g23 {R : Type} (A : Ar) (n : Nat) (kk : AV → Heap → Option R) (x0 x1 : Int) (x2 : List Nat) : Option R :=
  match (generalizing := false) g19ok A x0 x1 x2 with
  | true => match (generalizing := false) g21ok A (g19r0 A x0 x1 x2) (g19r1 A x0 x1 x2) (g19r2 A x0 x1 x2) with
    | true => kk (tS (g21r0 A (g19r0 A x0 x1 x2) (g19r1 A x0 x1 x2) (g19r2 A x0 x1 x2))) [(0, ⟨[.one (.int .i64 (g21r1 A (g19r0 A x0 x1 x2) (g19r1 A x0 x1 x2) (g19r2 A x0 x1 x2))), .one (.str (g21r2 A (g19r0 A x0 x1 x2) (g19r1 A x0 x1 x2) (g19r2 A x0 x1 x2)))], 59, 1⟩)]
    | false => none
  | false => none
set_option maxRecDepth 100000 in
theorem g23_eq {R : Type} (A : Ar) (n : Nat) (kk : AV → Heap → Option R) (x0 x1 : Int) (x2 : List Nat) :
    funD A gtys (g23O A) g23an n (bodyOf Try.f23) g23res [(pT 0 0), (i6 x0)] [(0, ⟨[.one (.int .i64 x1), .one (.str x2)], 59, 1⟩)] kk = g23 A n kk x0 x1 x2 := by
  have h1 : (g23T kk) .ret (g23R2s0 A (g19r0 A x0 x1 x2) (g19r1 A x0 x1 x2) (g19r2 A x0 x1 x2)) = kk (tS (g21r0 A (g19r0 A x0 x1 x2) (g19r1 A x0 x1 x2) (g19r2 A x0 x1 x2))) [(0, ⟨[.one (.int .i64 (g21r1 A (g19r0 A x0 x1 x2) (g19r1 A x0 x1 x2) (g19r2 A x0 x1 x2))), .one (.str (g21r2 A (g19r0 A x0 x1 x2) (g19r1 A x0 x1 x2) (g19r2 A x0 x1 x2)))], 59, 1⟩)] := by kernel_rfl
  have h2 := (g23p15 A n _ _).trans h1
  have h3 := (g23Qn A n _ _ _).trans h2
  have h4 := (g23F A n _ 2 _ (g23R1s0 A x0 x1 x2) _ (by kernel_rfl) (by kernel_rfl)).trans (g23R2 A n (g23Q A n (pth 15) (g23T kk)) (g19r0 A x0 x1 x2) (g19r1 A x0 x1 x2) (g19r2 A x0 x1 x2))
  rw [h3] at h4
  have h5 := (g23p7 A n _ _).trans h4
  have h6 := (g23Qn A n _ _ _).trans h5
  have h7 := (g23F A n _ 1 _ (g23R0s0 A x0 x1 x2) _ (by kernel_rfl) (by kernel_rfl)).trans (g23R1 A n (g23Q A n (pth 7) (g23T kk)) x0 x1 x2)
  rw [h6] at h7
  have h8 := (g23p3 A n _ _).trans h7
  have h9 := (g23Qn A n _ _ _).trans h8
  have h10 := (g23F A n _ 0 _ ⟨[(0, (pT 0 0)), (1, (i6 x0))], [(0, ⟨[.one (.int .i64 x1), .one (.str x2)], 59, 1⟩)]⟩ _ (by kernel_rfl) (by kernel_rfl)).trans (g23R0 A n (g23Q A n (pth 3) (g23T kk)) x0 x1 x2)
  rw [h9] at h10
  have h11 := (g23p1 A n _ _).trans h10
  exact (show funD A gtys (g23O A) g23an n (bodyOf Try.f23) g23res [(pT 0 0), (i6 x0)] [(0, ⟨[.one (.int .i64 x1), .one (.str x2)], 59, 1⟩)] kk = g23D A n (pth 1) (g23T kk) ⟨[(0, (pT 0 0)), (1, (i6 x0))], [(0, ⟨[.one (.int .i64 x1), .one (.str x2)], 59, 1⟩)]⟩ from by kernel_rfl).trans (h11.trans (by kernel_rfl))
def g23is (o : Option (AV × Heap)) : Bool := match o with
  | some (.v (.cell (.str _)), [(n0, ⟨[.one (.int .i64 _), .one (.str _)], n1, n2⟩)]) => Nat.beq n0 0 && (Nat.beq n1 59 && (Nat.beq n2 1))
  | _ => false
def g23g0 (o : Option (AV × Heap)) : List Nat := match o with
  | some (.v (.cell (.str x)), [(_, ⟨[.one (.int .i64 _), .one (.str _)], _, _⟩)]) => x
  | _ => []
def g23g1 (o : Option (AV × Heap)) : Int := match o with
  | some (.v (.cell (.str _)), [(_, ⟨[.one (.int .i64 x), .one (.str _)], _, _⟩)]) => x
  | _ => 0
def g23g2 (o : Option (AV × Heap)) : List Nat := match o with
  | some (.v (.cell (.str _)), [(_, ⟨[.one (.int .i64 _), .one (.str x)], _, _⟩)]) => x
  | _ => []
theorem g23is_spec {o : Option (AV × Heap)} (h : g23is o = true) : o = some ((tS (g23g0 o)), [(0, ⟨[.one (.int .i64 (g23g1 o)), .one (.str (g23g2 o))], 59, 1⟩)]) := by
  unfold g23is at h
  split at h
  · rename_i z0 n0 z2 z3 n1 n2
    simp only [Bool.and_eq_true] at h
    have en0 := beq_true h.1
    subst en0
    replace h := h.2
    have en1 := beq_true h.1
    subst en1
    replace h := h.2
    have en2 := beq_true h
    subst en2
    rfl
  · cases h
def g23v (A : Ar) (x0 x1 : Int) (x2 : List Nat) : Option (AV × Heap) := g23 A (100000) (outH [0] none) x0 x1 x2
def g23ok (A : Ar) (x0 x1 : Int) (x2 : List Nat) : Bool := g23is (g23v A x0 x1 x2)
def g23r0 (A : Ar) (x0 x1 : Int) (x2 : List Nat) : List Nat := g23g0 (g23v A x0 x1 x2)
def g23r1 (A : Ar) (x0 x1 : Int) (x2 : List Nat) : Int := g23g1 (g23v A x0 x1 x2)
def g23r2 (A : Ar) (x0 x1 : Int) (x2 : List Nat) : List Nat := g23g2 (g23v A x0 x1 x2)
theorem g23ok_spec {A : Ar} {x0 x1 x2} (h : g23ok A x0 x1 x2 = true) : g23v A x0 x1 x2 = some ((tS (g23r0 A x0 x1 x2)), [(0, ⟨[.one (.int .i64 (g23r1 A x0 x1 x2)), .one (.str (g23r2 A x0 x1 x2))], 59, 1⟩)]) := g23is_spec h
def g23o (A : Ar) (args : List AV) (h : Heap) : Option (Bool × AV × Heap) := match args, h with
  | [.v (.cell (.ptr n0 n1 none)), .v (.cell (.int .i64 x0))], [(n2, ⟨[.one (.int .i64 x1), .one (.str x2)], n3, n4⟩)] => match Nat.beq n0 0 && (Nat.beq n1 0 && (Nat.beq n2 0 && (Nat.beq n3 59 && (Nat.beq n4 1)))) with
    | true => some (g23ok A x0 x1 x2, (tS (g23r0 A x0 x1 x2)), [(0, ⟨[.one (.int .i64 (g23r1 A x0 x1 x2)), .one (.str (g23r2 A x0 x1 x2))], 59, 1⟩)])
    | false => none
  | _, _ => none
theorem g23o_sound : ∀ args h v h', g23o realA args h = some (true, v, h') → FnH Try.prog 23 args h v h' := by
  intro args h v h' hh
  unfold g23o at hh
  split at hh
  · rename_i n0 n1 x0 n2 x1 x2 n3 n4
    split at hh
    case h_2 => cases hh
    rename_i hc0
    simp only [Option.some.injEq, Prod.mk.injEq] at hh
    obtain ⟨hc, hv, hh⟩ := hh
    subst hv
    subst hh
    simp only [Bool.and_eq_true] at hc0
    have en0 := beq_true hc0.1
    subst en0
    replace hc0 := hc0.2
    have en1 := beq_true hc0.1
    subst en1
    replace hc0 := hc0.2
    have en2 := beq_true hc0.1
    subst en2
    replace hc0 := hc0.2
    have en3 := beq_true hc0.1
    subst en3
    replace hc0 := hc0.2
    have en4 := beq_true hc0
    subst en4
    exact fnh_of mixed gtysOK g23O_sound g23O_det (an := g23an) (n := 100000) Try.func23 (c := bodyOf Try.f23) rfl (by kernel_rfl) Try.call23 (Nat.le_of_ble_eq_true rfl) (pins := [0]) (nilr := none) (fun _ => (g23_eq realA (100000) (outH [0] none) x0 x1 x2).trans (show g23v realA x0 x1 x2 = _ from g23ok_spec hc))
  · cases hh
def g25O (A : Ar) : Orc := orcOf []
theorem g25O_sound : OSound Try.prog (g25O realA) := orc_sound fun f g hm args v hv => by
  cases hm
theorem g25O_det : ODet (g25O realA) := orc_det _
def g25an : Ann := [(0, ([0], [0])), (1, ([0], [0])), (2, ([], [0])), (3, ([0], [0]))]
def g25res : List ResultVar := [.tmp 2]
noncomputable def g25D {R : Type} (A : Ar) (n : Nat) (p : List Bool) (K : Ex → St → Option R) (s : St) : Option R := codeD A gtys (g25O A) g25an n (sub (bodyOf Try.f25) p) K s
noncomputable def g25Q {R : Type} (A : Ar) (n : Nat) (p : List Bool) (K : Ex → St → Option R) : Ex → St → Option R := seqC (g25D A n p K) K
noncomputable def g25T {R : Type} (kk : AV → Heap → Option R) : Ex → St → Option R := finD gtys g25res kk
theorem g25Qn {R : Type} (A : Ar) (n : Nat) (p : List Bool) (K : Ex → St → Option R) (s : St) : g25Q A n p K .normal s = g25D A n p K s := rfl
theorem g25Qr {R : Type} (A : Ar) (n : Nat) (p : List Bool) (K : Ex → St → Option R) (s : St) : g25Q A n p K .ret s = K .ret s := rfl
theorem g25F {R : Type} (A : Ar) (n : Nat) (p : List Bool) (i : Nat) (K : Ex → St → Option R) (s s' : St) (hf : firstReg (sub (bodyOf Try.f25) p) = some i) (h : keep g25an i s = keep g25an i s') : g25D A n p K s = g25D A n p K s' := codeD_first hf h K
section
variable {R : Type} (A : Ar) (n : Nat) (K : Ex → St → Option R) (s : St)
theorem g25p1 : g25D A n (pth 1) K s = g25D A n (pth 2) (g25Q A n (pth 3) K) s := by kernel_rfl
theorem g25p3 : g25D A n (pth 3) K s = g25D A n (pth 5) (g25Q A n (pth 7) K) s := by kernel_rfl
theorem g25p5 : g25D A n (pth 5) K s = g25D A n (pth 9) (g25Q A n (pth 13) K) s := by kernel_rfl
theorem g25p13 (t : Bool) : ev s (.tmp 8) = some (.v (.cell (.bool t))) → g25D A n (pth 13) K s = (match t with
    | true => g25D A n (pth 21) K s
    | false => g25D A n (pth 29) K s) := codeD_cond t
theorem g25p21 : g25D A n (pth 21) K s = g25D A n (pth 37) (g25Q A n (pth 53) K) s := by kernel_rfl
theorem g25p53 : g25D A n (pth 53) K s = K .ret s := by kernel_rfl
theorem g25p29 : g25D A n (pth 29) K s = K .normal s := by kernel_rfl
theorem g25p7 : g25D A n (pth 7) K s = g25D A n (pth 11) (g25Q A n (pth 15) K) s := by kernel_rfl
theorem g25p15 : g25D A n (pth 15) K s = K .ret s := by kernel_rfl
def g25R3s0 (A : Ar) (x0 : Int) (x1 : List Nat) : St := ⟨[(2, (i6 (A.ofN x1.length))), (13, (i6 (A.ofN x1.length))), (12, (tS x1)), (11, (pT 0 1)), (10, (pT 0 0)), (9, (pT 0 0)), (0, (pT 0 0))], [(0, ⟨[.one (.int .i64 x0), .one (.str x1)], 59, 1⟩)]⟩
theorem g25R3 (x0 : Int) (x1 : List Nat) : g25D A n (pth 11) K ⟨[(0, (pT 0 0))], [(0, ⟨[.one (.int .i64 x0), .one (.str x1)], 59, 1⟩)]⟩ = K .normal (g25R3s0 A x0 x1) := by kernel_rfl
def g25R0s0 (A : Ar) (x0 : Int) (x1 : List Nat) : St := ⟨[(2, (i6 0)), (0, (pT 0 0))], [(0, ⟨[.one (.int .i64 x0), .one (.str x1)], 59, 1⟩)]⟩
theorem g25R0 (x0 : Int) (x1 : List Nat) : g25D A n (pth 2) K ⟨[(0, (pT 0 0))], [(0, ⟨[.one (.int .i64 x0), .one (.str x1)], 59, 1⟩)]⟩ = K .normal (g25R0s0 A x0 x1) := by kernel_rfl
def g25R1s0 (A : Ar) (x0 : Int) (x1 : List Nat) : St := ⟨[(8, (bO (A.ic .neq x0 0))), (7, (i6 x0)), (6, (pT 0 0)), (5, (pT 0 0)), (4, (pT 0 0)), (3, (pT 0 0)), (0, (pT 0 0))], [(0, ⟨[.one (.int .i64 x0), .one (.str x1)], 59, 1⟩)]⟩
theorem g25R1 (x0 : Int) (x1 : List Nat) : g25D A n (pth 9) K ⟨[(0, (pT 0 0))], [(0, ⟨[.one (.int .i64 x0), .one (.str x1)], 59, 1⟩)]⟩ = K .normal (g25R1s0 A x0 x1) := by kernel_rfl
def g25R2s0 (A : Ar) (x0 : Int) (x1 : List Nat) : St := ⟨[(2, (i6 0))], [(0, ⟨[.one (.int .i64 x0), .one (.str x1)], 59, 1⟩)]⟩
theorem g25R2 (x0 : Int) (x1 : List Nat) : g25D A n (pth 37) K ⟨[], [(0, ⟨[.one (.int .i64 x0), .one (.str x1)], 59, 1⟩)]⟩ = K .normal (g25R2s0 A x0 x1) := by kernel_rfl
end
def g25J3 {R : Type} (A : Ar) (n : Nat) (kk : AV → Heap → Option R)  (x0 : Int) (x1 : List Nat) : Option R :=
  kk (i6 (A.ofN x1.length)) [(0, ⟨[.one (.int .i64 x0), .one (.str x1)], 59, 1⟩)]
set_option maxRecDepth 100000 in
theorem g25J3_eq {R : Type} (A : Ar) (n : Nat) (kk : AV → Heap → Option R)    (s : St) (x0 : Int) (x1 : List Nat) (h : keep g25an 3 s = ⟨[(0, (pT 0 0))], [(0, ⟨[.one (.int .i64 x0), .one (.str x1)], 59, 1⟩)]⟩) :
    g25D A n (pth 7) (g25T kk) s = g25J3 A n kk  x0 x1 := by
  have h1 : (g25T kk) .ret (g25R3s0 A x0 x1) = kk (i6 (A.ofN x1.length)) [(0, ⟨[.one (.int .i64 x0), .one (.str x1)], 59, 1⟩)] := by kernel_rfl
  have h2 := (g25p15 A n _ _).trans h1
  have h3 := (g25Qn A n _ _ _).trans h2
  have h4 := (g25F A n _ 3 _ ⟨[(0, (pT 0 0))], [(0, ⟨[.one (.int .i64 x0), .one (.str x1)], 59, 1⟩)]⟩ _ (by kernel_rfl) (by kernel_rfl)).trans (g25R3 A n (g25Q A n (pth 15) (g25T kk)) x0 x1)
  rw [h3] at h4
  have h5 := (g25p7 A n _ _).trans h4
  exact (g25F A n _ 3 _ _ ⟨[(0, (pT 0 0))], [(0, ⟨[.one (.int .i64 x0), .one (.str x1)], 59, 1⟩)]⟩ (by kernel_rfl) (h.trans (by kernel_rfl))).trans (h5.trans (by kernel_rfl))
def g25 {R : Type} (A : Ar) (n : Nat) (kk : AV → Heap → Option R) (x0 : Int) (x1 : List Nat) : Option R :=
  match (generalizing := false) A.ic .neq x0 0 with
  | true => kk (i6 0) [(0, ⟨[.one (.int .i64 x0), .one (.str x1)], 59, 1⟩)]
  | false => g25J3 A n kk  x0 x1
set_option maxRecDepth 100000 in
theorem g25_eq {R : Type} (A : Ar) (n : Nat) (kk : AV → Heap → Option R) (x0 : Int) (x1 : List Nat) :
    funD A gtys (g25O A) g25an n (bodyOf Try.f25) g25res [(pT 0 0)] [(0, ⟨[.one (.int .i64 x0), .one (.str x1)], 59, 1⟩)] kk = g25 A n kk x0 x1 := by
  have h1 : (g25T kk) .ret (g25R2s0 A x0 x1) = kk (i6 0) [(0, ⟨[.one (.int .i64 x0), .one (.str x1)], 59, 1⟩)] := by kernel_rfl
  have h2 := (g25Qr A n (pth 7) _ _).trans h1
  have h3 := (g25p53 A n _ _).trans h2
  have h4 := (g25Qn A n _ _ _).trans h3
  have h5 := (g25F A n _ 2 _ (g25R1s0 A x0 x1) _ (by kernel_rfl) (by kernel_rfl)).trans (g25R2 A n (g25Q A n (pth 53) (g25Q A n (pth 7) (g25T kk))) x0 x1)
  rw [h4] at h5
  have h6 := (g25p21 A n _ _).trans h5
  have h7 := (g25Qn A n _ _ _).trans (g25J3_eq A n kk     (g25R1s0 A x0 x1) x0 x1 (by kernel_rfl))
  have h8 := (g25p29 A n _ _).trans h7
  have h9 := g25p13 A n (g25Q A n (pth 7) (g25T kk)) (g25R1s0 A x0 x1) (A.ic .neq x0 0) (by kernel_rfl)
  rw [h6, h8] at h9
  have h10 := (g25Qn A n _ _ _).trans h9
  have h11 := (g25F A n _ 1 _ (g25R0s0 A x0 x1) _ (by kernel_rfl) (by kernel_rfl)).trans (g25R1 A n (g25Q A n (pth 13) (g25Q A n (pth 7) (g25T kk))) x0 x1)
  rw [h10] at h11
  have h12 := (g25p5 A n _ _).trans h11
  have h13 := (g25p3 A n _ _).trans h12
  have h14 := (g25Qn A n _ _ _).trans h13
  have h15 := (g25F A n _ 0 _ ⟨[(0, (pT 0 0))], [(0, ⟨[.one (.int .i64 x0), .one (.str x1)], 59, 1⟩)]⟩ _ (by kernel_rfl) (by kernel_rfl)).trans (g25R0 A n (g25Q A n (pth 3) (g25T kk)) x0 x1)
  rw [h14] at h15
  have h16 := (g25p1 A n _ _).trans h15
  exact (show funD A gtys (g25O A) g25an n (bodyOf Try.f25) g25res [(pT 0 0)] [(0, ⟨[.one (.int .i64 x0), .one (.str x1)], 59, 1⟩)] kk = g25D A n (pth 1) (g25T kk) ⟨[(0, (pT 0 0))], [(0, ⟨[.one (.int .i64 x0), .one (.str x1)], 59, 1⟩)]⟩ from by kernel_rfl).trans (h16.trans (by kernel_rfl))
def g25is (o : Option (AV × Heap)) : Bool := match o with
  | some (.v (.cell (.int .i64 _)), [(n0, ⟨[.one (.int .i64 _), .one (.str _)], n1, n2⟩)]) => Nat.beq n0 0 && (Nat.beq n1 59 && (Nat.beq n2 1))
  | _ => false
def g25g0 (o : Option (AV × Heap)) : Int := match o with
  | some (.v (.cell (.int .i64 x)), [(_, ⟨[.one (.int .i64 _), .one (.str _)], _, _⟩)]) => x
  | _ => 0
def g25g1 (o : Option (AV × Heap)) : Int := match o with
  | some (.v (.cell (.int .i64 _)), [(_, ⟨[.one (.int .i64 x), .one (.str _)], _, _⟩)]) => x
  | _ => 0
def g25g2 (o : Option (AV × Heap)) : List Nat := match o with
  | some (.v (.cell (.int .i64 _)), [(_, ⟨[.one (.int .i64 _), .one (.str x)], _, _⟩)]) => x
  | _ => []
theorem g25is_spec {o : Option (AV × Heap)} (h : g25is o = true) : o = some ((i6 (g25g0 o)), [(0, ⟨[.one (.int .i64 (g25g1 o)), .one (.str (g25g2 o))], 59, 1⟩)]) := by
  unfold g25is at h
  split at h
  · rename_i z0 n0 z2 z3 n1 n2
    simp only [Bool.and_eq_true] at h
    have en0 := beq_true h.1
    subst en0
    replace h := h.2
    have en1 := beq_true h.1
    subst en1
    replace h := h.2
    have en2 := beq_true h
    subst en2
    rfl
  · cases h
def g25v (A : Ar) (x0 : Int) (x1 : List Nat) : Option (AV × Heap) := g25 A (100000) (outH [0] none) x0 x1
def g25ok (A : Ar) (x0 : Int) (x1 : List Nat) : Bool := g25is (g25v A x0 x1)
def g25r0 (A : Ar) (x0 : Int) (x1 : List Nat) : Int := g25g0 (g25v A x0 x1)
def g25r1 (A : Ar) (x0 : Int) (x1 : List Nat) : Int := g25g1 (g25v A x0 x1)
def g25r2 (A : Ar) (x0 : Int) (x1 : List Nat) : List Nat := g25g2 (g25v A x0 x1)
theorem g25ok_spec {A : Ar} {x0 x1} (h : g25ok A x0 x1 = true) : g25v A x0 x1 = some ((i6 (g25r0 A x0 x1)), [(0, ⟨[.one (.int .i64 (g25r1 A x0 x1)), .one (.str (g25r2 A x0 x1))], 59, 1⟩)]) := g25is_spec h
def g25o (A : Ar) (args : List AV) (h : Heap) : Option (Bool × AV × Heap) := match args, h with
  | [.v (.cell (.ptr n0 n1 none))], [(n2, ⟨[.one (.int .i64 x0), .one (.str x1)], n3, n4⟩)] => match Nat.beq n0 0 && (Nat.beq n1 0 && (Nat.beq n2 0 && (Nat.beq n3 59 && (Nat.beq n4 1)))) with
    | true => some (g25ok A x0 x1, (i6 (g25r0 A x0 x1)), [(0, ⟨[.one (.int .i64 (g25r1 A x0 x1)), .one (.str (g25r2 A x0 x1))], 59, 1⟩)])
    | false => none
  | _, _ => none
theorem g25o_sound : ∀ args h v h', g25o realA args h = some (true, v, h') → FnH Try.prog 25 args h v h' := by
  intro args h v h' hh
  unfold g25o at hh
  split at hh
  · rename_i n0 n1 n2 x0 x1 n3 n4
    split at hh
    case h_2 => cases hh
    rename_i hc0
    simp only [Option.some.injEq, Prod.mk.injEq] at hh
    obtain ⟨hc, hv, hh⟩ := hh
    subst hv
    subst hh
    simp only [Bool.and_eq_true] at hc0
    have en0 := beq_true hc0.1
    subst en0
    replace hc0 := hc0.2
    have en1 := beq_true hc0.1
    subst en1
    replace hc0 := hc0.2
    have en2 := beq_true hc0.1
    subst en2
    replace hc0 := hc0.2
    have en3 := beq_true hc0.1
    subst en3
    replace hc0 := hc0.2
    have en4 := beq_true hc0
    subst en4
    exact fnh_of mixed gtysOK g25O_sound g25O_det (an := g25an) (n := 100000) Try.func25 (c := bodyOf Try.f25) rfl (by kernel_rfl) Try.call25 (Nat.le_of_ble_eq_true rfl) (pins := [0]) (nilr := none) (fun _ => (g25_eq realA (100000) (outH [0] none) x0 x1).trans (show g25v realA x0 x1 = _ from g25ok_spec hc))
  · cases hh
def g27O (A : Ar) : Orc := orcOf []
theorem g27O_sound : OSound Try.prog (g27O realA) := orc_sound fun f g hm args v hv => by
  cases hm
theorem g27O_det : ODet (g27O realA) := orc_det _
def g27an : Ann := [(0, ([0], [0])), (1, ([0], [0])), (2, ([], [0])), (3, ([0], [0]))]
def g27res : List ResultVar := [.tmp 2]
noncomputable def g27D {R : Type} (A : Ar) (n : Nat) (p : List Bool) (K : Ex → St → Option R) (s : St) : Option R := codeD A gtys (g27O A) g27an n (sub (bodyOf Try.f27) p) K s
noncomputable def g27Q {R : Type} (A : Ar) (n : Nat) (p : List Bool) (K : Ex → St → Option R) : Ex → St → Option R := seqC (g27D A n p K) K
noncomputable def g27T {R : Type} (kk : AV → Heap → Option R) : Ex → St → Option R := finD gtys g27res kk
theorem g27Qn {R : Type} (A : Ar) (n : Nat) (p : List Bool) (K : Ex → St → Option R) (s : St) : g27Q A n p K .normal s = g27D A n p K s := rfl
theorem g27Qr {R : Type} (A : Ar) (n : Nat) (p : List Bool) (K : Ex → St → Option R) (s : St) : g27Q A n p K .ret s = K .ret s := rfl
theorem g27F {R : Type} (A : Ar) (n : Nat) (p : List Bool) (i : Nat) (K : Ex → St → Option R) (s s' : St) (hf : firstReg (sub (bodyOf Try.f27) p) = some i) (h : keep g27an i s = keep g27an i s') : g27D A n p K s = g27D A n p K s' := codeD_first hf h K
section
variable {R : Type} (A : Ar) (n : Nat) (K : Ex → St → Option R) (s : St)
theorem g27p1 : g27D A n (pth 1) K s = g27D A n (pth 2) (g27Q A n (pth 3) K) s := by kernel_rfl
theorem g27p3 : g27D A n (pth 3) K s = g27D A n (pth 5) (g27Q A n (pth 7) K) s := by kernel_rfl
theorem g27p5 : g27D A n (pth 5) K s = g27D A n (pth 9) (g27Q A n (pth 13) K) s := by kernel_rfl
theorem g27p13 (t : Bool) : ev s (.tmp 15) = some (.v (.cell (.bool t))) → g27D A n (pth 13) K s = (match t with
    | true => g27D A n (pth 21) K s
    | false => g27D A n (pth 29) K s) := codeD_cond t
theorem g27p21 : g27D A n (pth 21) K s = g27D A n (pth 37) (g27Q A n (pth 53) K) s := by kernel_rfl
theorem g27p53 : g27D A n (pth 53) K s = K .ret s := by kernel_rfl
theorem g27p29 : g27D A n (pth 29) K s = K .normal s := by kernel_rfl
theorem g27p7 : g27D A n (pth 7) K s = g27D A n (pth 11) (g27Q A n (pth 15) K) s := by kernel_rfl
theorem g27p15 : g27D A n (pth 15) K s = K .ret s := by kernel_rfl
def g27R3s0 (A : Ar) (x0 : Int) (x1 : List Nat) : St := ⟨[(2, (i6 x0)), (20, (i6 x0)), (19, (pT 0 0)), (18, (pT 0 0)), (17, (pT 0 0)), (16, (pT 0 0)), (0, (pT 0 0))], [(0, ⟨[.one (.int .i64 x0), .one (.str x1)], 59, 1⟩)]⟩
theorem g27R3 (x0 : Int) (x1 : List Nat) : g27D A n (pth 11) K ⟨[(0, (pT 0 0))], [(0, ⟨[.one (.int .i64 x0), .one (.str x1)], 59, 1⟩)]⟩ = K .normal (g27R3s0 A x0 x1) := by kernel_rfl
def g27R0s0 (A : Ar) (x0 : Int) (x1 : List Nat) : St := ⟨[(2, (i6 0)), (0, (pT 0 0))], [(0, ⟨[.one (.int .i64 x0), .one (.str x1)], 59, 1⟩)]⟩
theorem g27R0 (x0 : Int) (x1 : List Nat) : g27D A n (pth 2) K ⟨[(0, (pT 0 0))], [(0, ⟨[.one (.int .i64 x0), .one (.str x1)], 59, 1⟩)]⟩ = K .normal (g27R0s0 A x0 x1) := by kernel_rfl
def g27R1s0 (A : Ar) (x0 : Int) (x1 : List Nat) : St := ⟨[(15, (bO (A.sc .neq x1 []))), (14, (bO (A.sc .neq x1 []))), (13, (tS x1)), (12, (pT 0 1)), (11, (pT 0 0)), (10, (pT 0 0)), (9, (bO true)), (8, (bO (A.ic .eql x0 0))), (7, (i6 x0)), (6, (pT 0 0)), (5, (pT 0 0)), (4, (pT 0 0)), (3, (pT 0 0)), (0, (pT 0 0))], [(0, ⟨[.one (.int .i64 x0), .one (.str x1)], 59, 1⟩)]⟩
def g27R1s1 (A : Ar) (x0 : Int) (x1 : List Nat) : St := ⟨[(15, (bO false)), (14, uN), (13, uN), (12, uN), (11, uN), (10, uN), (9, (bO false)), (8, (bO (A.ic .eql x0 0))), (7, (i6 x0)), (6, (pT 0 0)), (5, (pT 0 0)), (4, (pT 0 0)), (3, (pT 0 0)), (0, (pT 0 0))], [(0, ⟨[.one (.int .i64 x0), .one (.str x1)], 59, 1⟩)]⟩
theorem g27R1 (x0 : Int) (x1 : List Nat) : g27D A n (pth 9) K ⟨[(0, (pT 0 0))], [(0, ⟨[.one (.int .i64 x0), .one (.str x1)], 59, 1⟩)]⟩ = match (generalizing := false) A.ic .eql x0 0 with
    | true => K .normal (g27R1s0 A x0 x1)
    | false => K .normal (g27R1s1 A x0 x1) := by kernel_rfl
def g27R2s0 (A : Ar) (x0 : Int) (x1 : List Nat) : St := ⟨[(2, (i6 2))], [(0, ⟨[.one (.int .i64 x0), .one (.str x1)], 59, 1⟩)]⟩
theorem g27R2 (x0 : Int) (x1 : List Nat) : g27D A n (pth 37) K ⟨[], [(0, ⟨[.one (.int .i64 x0), .one (.str x1)], 59, 1⟩)]⟩ = K .normal (g27R2s0 A x0 x1) := by kernel_rfl
end
def g27J3 {R : Type} (A : Ar) (n : Nat) (kk : AV → Heap → Option R)  (x0 : Int) (x1 : List Nat) : Option R :=
  kk (i6 x0) [(0, ⟨[.one (.int .i64 x0), .one (.str x1)], 59, 1⟩)]
set_option maxRecDepth 100000 in
theorem g27J3_eq {R : Type} (A : Ar) (n : Nat) (kk : AV → Heap → Option R)    (s : St) (x0 : Int) (x1 : List Nat) (h : keep g27an 3 s = ⟨[(0, (pT 0 0))], [(0, ⟨[.one (.int .i64 x0), .one (.str x1)], 59, 1⟩)]⟩) :
    g27D A n (pth 7) (g27T kk) s = g27J3 A n kk  x0 x1 := by
  have h1 : (g27T kk) .ret (g27R3s0 A x0 x1) = kk (i6 x0) [(0, ⟨[.one (.int .i64 x0), .one (.str x1)], 59, 1⟩)] := by kernel_rfl
  have h2 := (g27p15 A n _ _).trans h1
  have h3 := (g27Qn A n _ _ _).trans h2
  have h4 := (g27F A n _ 3 _ ⟨[(0, (pT 0 0))], [(0, ⟨[.one (.int .i64 x0), .one (.str x1)], 59, 1⟩)]⟩ _ (by kernel_rfl) (by kernel_rfl)).trans (g27R3 A n (g27Q A n (pth 15) (g27T kk)) x0 x1)
  rw [h3] at h4
  have h5 := (g27p7 A n _ _).trans h4
  exact (g27F A n _ 3 _ _ ⟨[(0, (pT 0 0))], [(0, ⟨[.one (.int .i64 x0), .one (.str x1)], 59, 1⟩)]⟩ (by kernel_rfl) (h.trans (by kernel_rfl))).trans (h5.trans (by kernel_rfl))
def g27 {R : Type} (A : Ar) (n : Nat) (kk : AV → Heap → Option R) (x0 : Int) (x1 : List Nat) : Option R :=
  match (generalizing := false) A.ic .eql x0 0 with
  | true => match (generalizing := false) A.sc .neq x1 [] with
    | true => kk (i6 2) [(0, ⟨[.one (.int .i64 x0), .one (.str x1)], 59, 1⟩)]
    | false => g27J3 A n kk  x0 x1
  | false => g27J3 A n kk  x0 x1
set_option maxRecDepth 100000 in
theorem g27_eq {R : Type} (A : Ar) (n : Nat) (kk : AV → Heap → Option R) (x0 : Int) (x1 : List Nat) :
    funD A gtys (g27O A) g27an n (bodyOf Try.f27) g27res [(pT 0 0)] [(0, ⟨[.one (.int .i64 x0), .one (.str x1)], 59, 1⟩)] kk = g27 A n kk x0 x1 := by
  have h1 : (g27T kk) .ret (g27R2s0 A x0 x1) = kk (i6 2) [(0, ⟨[.one (.int .i64 x0), .one (.str x1)], 59, 1⟩)] := by kernel_rfl
  have h2 := (g27Qr A n (pth 7) _ _).trans h1
  have h3 := (g27p53 A n _ _).trans h2
  have h4 := (g27Qn A n _ _ _).trans h3
  have h5 := (g27F A n _ 2 _ (g27R1s0 A x0 x1) _ (by kernel_rfl) (by kernel_rfl)).trans (g27R2 A n (g27Q A n (pth 53) (g27Q A n (pth 7) (g27T kk))) x0 x1)
  rw [h4] at h5
  have h6 := (g27p21 A n _ _).trans h5
  have h7 := (g27Qn A n _ _ _).trans (g27J3_eq A n kk     (g27R1s0 A x0 x1) x0 x1 (by kernel_rfl))
  have h8 := (g27p29 A n _ _).trans h7
  have h9 := g27p13 A n (g27Q A n (pth 7) (g27T kk)) (g27R1s0 A x0 x1) (A.sc .neq x1 []) (by kernel_rfl)
  rw [h6, h8] at h9
  have h10 := (g27Qn A n _ _ _).trans h9
  have h11 := (g27Qn A n _ _ _).trans (g27J3_eq A n kk     (g27R1s1 A x0 x1) x0 x1 (by kernel_rfl))
  have h12 := (g27p29 A n _ _).trans h11
  have h13 := (g27p13 A n (g27Q A n (pth 7) (g27T kk)) (g27R1s1 A x0 x1) false (by kernel_rfl)).trans h12
  have h14 := (g27Qn A n _ _ _).trans h13
  have h15 := (g27F A n _ 1 _ (g27R0s0 A x0 x1) _ (by kernel_rfl) (by kernel_rfl)).trans (g27R1 A n (g27Q A n (pth 13) (g27Q A n (pth 7) (g27T kk))) x0 x1)
  rw [h10, h14] at h15
  have h16 := (g27p5 A n _ _).trans h15
  have h17 := (g27p3 A n _ _).trans h16
  have h18 := (g27Qn A n _ _ _).trans h17
  have h19 := (g27F A n _ 0 _ ⟨[(0, (pT 0 0))], [(0, ⟨[.one (.int .i64 x0), .one (.str x1)], 59, 1⟩)]⟩ _ (by kernel_rfl) (by kernel_rfl)).trans (g27R0 A n (g27Q A n (pth 3) (g27T kk)) x0 x1)
  rw [h18] at h19
  have h20 := (g27p1 A n _ _).trans h19
  exact (show funD A gtys (g27O A) g27an n (bodyOf Try.f27) g27res [(pT 0 0)] [(0, ⟨[.one (.int .i64 x0), .one (.str x1)], 59, 1⟩)] kk = g27D A n (pth 1) (g27T kk) ⟨[(0, (pT 0 0))], [(0, ⟨[.one (.int .i64 x0), .one (.str x1)], 59, 1⟩)]⟩ from by kernel_rfl).trans (h20.trans (by kernel_rfl))
def g27is (o : Option (AV × Heap)) : Bool := match o with
  | some (.v (.cell (.int .i64 _)), [(n0, ⟨[.one (.int .i64 _), .one (.str _)], n1, n2⟩)]) => Nat.beq n0 0 && (Nat.beq n1 59 && (Nat.beq n2 1))
  | _ => false
def g27g0 (o : Option (AV × Heap)) : Int := match o with
  | some (.v (.cell (.int .i64 x)), [(_, ⟨[.one (.int .i64 _), .one (.str _)], _, _⟩)]) => x
  | _ => 0
def g27g1 (o : Option (AV × Heap)) : Int := match o with
  | some (.v (.cell (.int .i64 _)), [(_, ⟨[.one (.int .i64 x), .one (.str _)], _, _⟩)]) => x
  | _ => 0
def g27g2 (o : Option (AV × Heap)) : List Nat := match o with
  | some (.v (.cell (.int .i64 _)), [(_, ⟨[.one (.int .i64 _), .one (.str x)], _, _⟩)]) => x
  | _ => []
theorem g27is_spec {o : Option (AV × Heap)} (h : g27is o = true) : o = some ((i6 (g27g0 o)), [(0, ⟨[.one (.int .i64 (g27g1 o)), .one (.str (g27g2 o))], 59, 1⟩)]) := by
  unfold g27is at h
  split at h
  · rename_i z0 n0 z2 z3 n1 n2
    simp only [Bool.and_eq_true] at h
    have en0 := beq_true h.1
    subst en0
    replace h := h.2
    have en1 := beq_true h.1
    subst en1
    replace h := h.2
    have en2 := beq_true h
    subst en2
    rfl
  · cases h
def g27v (A : Ar) (x0 : Int) (x1 : List Nat) : Option (AV × Heap) := g27 A (100000) (outH [0] none) x0 x1
def g27ok (A : Ar) (x0 : Int) (x1 : List Nat) : Bool := g27is (g27v A x0 x1)
def g27r0 (A : Ar) (x0 : Int) (x1 : List Nat) : Int := g27g0 (g27v A x0 x1)
def g27r1 (A : Ar) (x0 : Int) (x1 : List Nat) : Int := g27g1 (g27v A x0 x1)
def g27r2 (A : Ar) (x0 : Int) (x1 : List Nat) : List Nat := g27g2 (g27v A x0 x1)
theorem g27ok_spec {A : Ar} {x0 x1} (h : g27ok A x0 x1 = true) : g27v A x0 x1 = some ((i6 (g27r0 A x0 x1)), [(0, ⟨[.one (.int .i64 (g27r1 A x0 x1)), .one (.str (g27r2 A x0 x1))], 59, 1⟩)]) := g27is_spec h
def g27o (A : Ar) (args : List AV) (h : Heap) : Option (Bool × AV × Heap) := match args, h with
  | [.v (.cell (.ptr n0 n1 none))], [(n2, ⟨[.one (.int .i64 x0), .one (.str x1)], n3, n4⟩)] => match Nat.beq n0 0 && (Nat.beq n1 0 && (Nat.beq n2 0 && (Nat.beq n3 59 && (Nat.beq n4 1)))) with
    | true => some (g27ok A x0 x1, (i6 (g27r0 A x0 x1)), [(0, ⟨[.one (.int .i64 (g27r1 A x0 x1)), .one (.str (g27r2 A x0 x1))], 59, 1⟩)])
    | false => none
  | _, _ => none
theorem g27o_sound : ∀ args h v h', g27o realA args h = some (true, v, h') → FnH Try.prog 27 args h v h' := by
  intro args h v h' hh
  unfold g27o at hh
  split at hh
  · rename_i n0 n1 n2 x0 x1 n3 n4
    split at hh
    case h_2 => cases hh
    rename_i hc0
    simp only [Option.some.injEq, Prod.mk.injEq] at hh
    obtain ⟨hc, hv, hh⟩ := hh
    subst hv
    subst hh
    simp only [Bool.and_eq_true] at hc0
    have en0 := beq_true hc0.1
    subst en0
    replace hc0 := hc0.2
    have en1 := beq_true hc0.1
    subst en1
    replace hc0 := hc0.2
    have en2 := beq_true hc0.1
    subst en2
    replace hc0 := hc0.2
    have en3 := beq_true hc0.1
    subst en3
    replace hc0 := hc0.2
    have en4 := beq_true hc0
    subst en4
    exact fnh_of mixed gtysOK g27O_sound g27O_det (an := g27an) (n := 100000) Try.func27 (c := bodyOf Try.f27) rfl (by kernel_rfl) Try.call27 (Nat.le_of_ble_eq_true rfl) (pins := [0]) (nilr := none) (fun _ => (g27_eq realA (100000) (outH [0] none) x0 x1).trans (show g27v realA x0 x1 = _ from g27ok_spec hc))
  · cases hh
def g8O (A : Ar) : Orc := orcN [(9, (1, 1, ⟨[.nums .u8 0 []], 5, 2⟩))] (orcH [] [(9, ⟨[], none, (g9o A)⟩), (18, ⟨[], none, (g18o A)⟩), (15, ⟨[0, 1], (some (0, 1, 1, ⟨[.nums .u8 0 []], 5, 2⟩)), (g15o A)⟩), (17, ⟨[0, 1], none, (g17o A)⟩), (23, ⟨[], none, (g23o A)⟩), (25, ⟨[], none, (g25o A)⟩), (27, ⟨[], none, (g27o A)⟩)])
theorem g8O_sound : OSound Try.prog (g8O realA) := orcN_sound <| orcH_sound (fun f g hm args v hv => by
    cases hm) (fun f e hm args h v h' hv => by
    simp only [List.mem_cons, List.not_mem_nil, or_false, Prod.mk.injEq] at hm
    rcases hm with ⟨rfl, rfl⟩ | ⟨rfl, rfl⟩ | ⟨rfl, rfl⟩ | ⟨rfl, rfl⟩ | ⟨rfl, rfl⟩ | ⟨rfl, rfl⟩ | ⟨rfl, rfl⟩
    · exact g9o_sound _ _ _ _ hv
    · exact g18o_sound _ _ _ _ hv
    · exact g15o_sound _ _ _ _ hv
    · exact g17o_sound _ _ _ _ hv
    · exact g23o_sound _ _ _ _ hv
    · exact g25o_sound _ _ _ _ hv
    · exact g27o_sound _ _ _ _ hv)
theorem g8O_det : ODet (g8O realA) := orcN_det <| orcH_det _ _
def g8an : Ann := [(0, ([], [])), (1, ([], [])), (2, ([1], [2000, 2500])), (3, ([1, 2], [2000, 2500, 3000])), (4, ([], [])), (5, ([1, 2], [2000, 2500, 3000])), (6, ([1, 2], [2000, 2500, 3000])), (7, ([2, 3, 4], [3000]))]
def g8res : List ResultVar := [.tmp 0]
noncomputable def g8D {R : Type} (A : Ar) (n : Nat) (p : List Bool) (K : Ex → St → Option R) (s : St) : Option R := codeD A gtys (g8O A) g8an n (sub (bodyOf Try.f8) p) K s
noncomputable def g8Q {R : Type} (A : Ar) (n : Nat) (p : List Bool) (K : Ex → St → Option R) : Ex → St → Option R := seqC (g8D A n p K) K
noncomputable def g8T {R : Type} (kk : AV → Heap → Option R) : Ex → St → Option R := finD gtys g8res kk
theorem g8Qn {R : Type} (A : Ar) (n : Nat) (p : List Bool) (K : Ex → St → Option R) (s : St) : g8Q A n p K .normal s = g8D A n p K s := rfl
theorem g8F {R : Type} (A : Ar) (n : Nat) (p : List Bool) (i : Nat) (K : Ex → St → Option R) (s s' : St) (hf : firstReg (sub (bodyOf Try.f8) p) = some i) (h : keep g8an i s = keep g8an i s') : g8D A n p K s = g8D A n p K s' := codeD_first hf h K
section
variable {R : Type} (A : Ar) (n : Nat) (K : Ex → St → Option R) (s : St)
theorem g8p1 : g8D A n (pth 1) K s = g8D A n (pth 2) (g8Q A n (pth 3) K) s := by kernel_rfl
theorem g8p3 : g8D A n (pth 3) K s = g8D A n (pth 5) (g8Q A n (pth 7) K) s := by kernel_rfl
theorem g8p7 : g8D A n (pth 7) K s = g8D A n (pth 11) (g8Q A n (pth 15) K) s := by kernel_rfl
theorem g8p15 : g8D A n (pth 15) K s = g8D A n (pth 23) (g8Q A n (pth 31) K) s := by kernel_rfl
theorem g8p23 : g8D A n (pth 23) K s = g8D A n (pth 39) (g8Q A n (pth 55) K) s := by kernel_rfl
theorem g8p55 (t : Bool) : ev s (.tmp 12) = some (.v (.cell (.bool t))) → g8D A n (pth 55) K s = (match t with
    | true => g8D A n (pth 87) K s
    | false => g8D A n (pth 119) K s) := codeD_cond t
theorem g8p119 : g8D A n (pth 119) K s = K .normal s := by kernel_rfl
theorem g8p31 : g8D A n (pth 31) K s = g8D A n (pth 47) (g8Q A n (pth 63) K) s := by kernel_rfl
theorem g8p63 : g8D A n (pth 63) K s = g8D A n (pth 95) (g8Q A n (pth 127) K) s := by kernel_rfl
theorem g8p127 : g8D A n (pth 127) K s = g8D A n (pth 191) (g8Q A n (pth 255) K) s := by kernel_rfl
theorem g8p255 : g8D A n (pth 255) K s = K .ret s := by kernel_rfl
def g8R5s0 (A : Ar) (x0 : Int) (x1 x2 : Nat) (x3 : List Nat) (x4 : Int) (x5 : List Nat) : St := ⟨[(14, (.tup [])), (13, (pT 2000 0)), (1, (pT 2000 0)), (2, (pT 3000 0))], [(2000, ⟨[.one (.int .i64 (g15r0 A [97, 98] 2 x0 x1 x2 x3)), .one (.sl 2500 none (g15r1 A [97, 98] 2 x0 x1 x2 x3) 1)], 56, 1⟩), (2500, ⟨[.nums .u8 (g15r2 A [97, 98] 2 x0 x1 x2 x3) (g15r3 A [97, 98] 2 x0 x1 x2 x3)], 5, 2⟩), (3000, ⟨[.one (.int .i64 x4), .one (.str x5)], 59, 1⟩)]⟩
theorem g8R5 (x0 : Int) (x1 x2 : Nat) (x3 : List Nat) (x4 : Int) (x5 : List Nat) : g8D A n (pth 47) K ⟨[(1, (pT 2000 0)), (2, (pT 3000 0))], [(2000, ⟨[.one (.int .i64 x0), .one (.sl 2500 none x1 1)], 56, 1⟩), (2500, ⟨[.nums .u8 x2 x3], 5, 2⟩), (3000, ⟨[.one (.int .i64 x4), .one (.str x5)], 59, 1⟩)]⟩ = match (generalizing := false) g15ok A [97, 98] 2 x0 x1 x2 x3 with
    | true => K .normal (g8R5s0 A x0 x1 x2 x3 x4 x5)
    | false => none := by kernel_rfl
def g8R6s0 (A : Ar) (x0 : Int) (x1 x2 : Nat) (x3 : List Nat) (x4 : Int) (x5 : List Nat) : St := ⟨[(4, (i6 (g17r1 A x0 x1 x2 x3))), (3, (tS (g17r0 A x0 x1 x2 x3))), (19, (i6 (g17r1 A x0 x1 x2 x3))), (18, (tS (g17r0 A x0 x1 x2 x3))), (15, (.tup [(.cell (.str (g17r0 A x0 x1 x2 x3))), (.cell (.int .i64 (g17r1 A x0 x1 x2 x3)))])), (17, (.tup [(.cell (.str (g17r0 A x0 x1 x2 x3))), (.cell (.int .i64 (g17r1 A x0 x1 x2 x3)))])), (16, (pT 2000 0)), (1, (pT 2000 0)), (2, (pT 3000 0))], [(2000, ⟨[.one (.int .i64 (g17r2 A x0 x1 x2 x3)), .one (.sl 2500 none (g17r3 A x0 x1 x2 x3) 1)], 56, 1⟩), (2500, ⟨[.nums .u8 (g17r4 A x0 x1 x2 x3) (g17r5 A x0 x1 x2 x3)], 5, 2⟩), (3000, ⟨[.one (.int .i64 x4), .one (.str x5)], 59, 1⟩)]⟩
theorem g8R6 (x0 : Int) (x1 x2 : Nat) (x3 : List Nat) (x4 : Int) (x5 : List Nat) : g8D A n (pth 95) K ⟨[(1, (pT 2000 0)), (2, (pT 3000 0))], [(2000, ⟨[.one (.int .i64 x0), .one (.sl 2500 none x1 1)], 56, 1⟩), (2500, ⟨[.nums .u8 x2 x3], 5, 2⟩), (3000, ⟨[.one (.int .i64 x4), .one (.str x5)], 59, 1⟩)]⟩ = match (generalizing := false) g17ok A x0 x1 x2 x3 with
    | true => K .normal (g8R6s0 A x0 x1 x2 x3 x4 x5)
    | false => none := by kernel_rfl
def g8R7s0 (A : Ar) (x0 : List Nat) (x1 x2 : Int) (x3 : List Nat) : St := ⟨[(0, (bO (A.ic .eql (g27r0 A (g25r1 A (g23r1 A 2 x2 x3) (g23r2 A 2 x2 x3)) (g25r2 A (g23r1 A 2 x2 x3) (g23r2 A 2 x2 x3))) 2))), (40, (bO (A.ic .eql (g27r0 A (g25r1 A (g23r1 A 2 x2 x3) (g23r2 A 2 x2 x3)) (g25r2 A (g23r1 A 2 x2 x3) (g23r2 A 2 x2 x3))) 2))), (39, (bO (A.ic .eql (g27r0 A (g25r1 A (g23r1 A 2 x2 x3) (g23r2 A 2 x2 x3)) (g25r2 A (g23r1 A 2 x2 x3) (g23r2 A 2 x2 x3))) 2))), (38, (i6 (g27r0 A (g25r1 A (g23r1 A 2 x2 x3) (g23r2 A 2 x2 x3)) (g25r2 A (g23r1 A 2 x2 x3) (g23r2 A 2 x2 x3))))), (37, (pT 3000 0)), (36, (bO true)), (35, (bO (A.ic .eql (g25r0 A (g23r1 A 2 x2 x3) (g23r2 A 2 x2 x3)) 1))), (34, (bO (A.ic .eql (g25r0 A (g23r1 A 2 x2 x3) (g23r2 A 2 x2 x3)) 1))), (33, (i6 (g25r0 A (g23r1 A 2 x2 x3) (g23r2 A 2 x2 x3)))), (32, (pT 3000 0)), (31, (bO true)), (30, (bO (A.sc .eql (g23r0 A 2 x2 x3) [97, 98]))), (29, (bO (A.sc .eql (g23r0 A 2 x2 x3) [97, 98]))), (28, (tS (g23r0 A 2 x2 x3))), (27, (pT 3000 0)), (26, (bO true)), (25, (bO (A.ic .eql x1 0))), (24, (bO (A.ic .eql x1 0))), (23, (i6 x1)), (22, (bO true)), (21, (bO (A.sc .eql x0 [0, 2, 97, 98]))), (20, (tS x0)), (2, (pT 3000 0)), (3, (tS x0)), (4, (i6 x1))], [(3000, ⟨[.one (.int .i64 (g27r1 A (g25r1 A (g23r1 A 2 x2 x3) (g23r2 A 2 x2 x3)) (g25r2 A (g23r1 A 2 x2 x3) (g23r2 A 2 x2 x3)))), .one (.str (g27r2 A (g25r1 A (g23r1 A 2 x2 x3) (g23r2 A 2 x2 x3)) (g25r2 A (g23r1 A 2 x2 x3) (g23r2 A 2 x2 x3))))], 59, 1⟩)]⟩
def g8R7s1 (A : Ar) (x0 : List Nat) (x1 x2 : Int) (x3 : List Nat) : St := ⟨[(0, (bO false)), (40, (bO false)), (39, uN), (38, uN), (37, uN), (36, (bO false)), (35, (bO (A.ic .eql (g25r0 A (g23r1 A 2 x2 x3) (g23r2 A 2 x2 x3)) 1))), (34, (bO (A.ic .eql (g25r0 A (g23r1 A 2 x2 x3) (g23r2 A 2 x2 x3)) 1))), (33, (i6 (g25r0 A (g23r1 A 2 x2 x3) (g23r2 A 2 x2 x3)))), (32, (pT 3000 0)), (31, (bO true)), (30, (bO (A.sc .eql (g23r0 A 2 x2 x3) [97, 98]))), (29, (bO (A.sc .eql (g23r0 A 2 x2 x3) [97, 98]))), (28, (tS (g23r0 A 2 x2 x3))), (27, (pT 3000 0)), (26, (bO true)), (25, (bO (A.ic .eql x1 0))), (24, (bO (A.ic .eql x1 0))), (23, (i6 x1)), (22, (bO true)), (21, (bO (A.sc .eql x0 [0, 2, 97, 98]))), (20, (tS x0)), (2, (pT 3000 0)), (3, (tS x0)), (4, (i6 x1))], [(3000, ⟨[.one (.int .i64 (g25r1 A (g23r1 A 2 x2 x3) (g23r2 A 2 x2 x3))), .one (.str (g25r2 A (g23r1 A 2 x2 x3) (g23r2 A 2 x2 x3)))], 59, 1⟩)]⟩
def g8R7s2 (A : Ar) (x0 : List Nat) (x1 x2 : Int) (x3 : List Nat) : St := ⟨[(0, (bO false)), (40, (bO false)), (39, uN), (38, uN), (37, uN), (36, (bO false)), (35, (bO false)), (34, uN), (33, uN), (32, uN), (31, (bO false)), (30, (bO (A.sc .eql (g23r0 A 2 x2 x3) [97, 98]))), (29, (bO (A.sc .eql (g23r0 A 2 x2 x3) [97, 98]))), (28, (tS (g23r0 A 2 x2 x3))), (27, (pT 3000 0)), (26, (bO true)), (25, (bO (A.ic .eql x1 0))), (24, (bO (A.ic .eql x1 0))), (23, (i6 x1)), (22, (bO true)), (21, (bO (A.sc .eql x0 [0, 2, 97, 98]))), (20, (tS x0)), (2, (pT 3000 0)), (3, (tS x0)), (4, (i6 x1))], [(3000, ⟨[.one (.int .i64 (g23r1 A 2 x2 x3)), .one (.str (g23r2 A 2 x2 x3))], 59, 1⟩)]⟩
def g8R7s3 (A : Ar) (x0 : List Nat) (x1 x2 : Int) (x3 : List Nat) : St := ⟨[(0, (bO false)), (40, (bO false)), (39, uN), (38, uN), (37, uN), (36, (bO false)), (35, (bO false)), (34, uN), (33, uN), (32, uN), (31, (bO false)), (30, (bO false)), (29, uN), (28, uN), (27, uN), (26, (bO false)), (25, (bO (A.ic .eql x1 0))), (24, (bO (A.ic .eql x1 0))), (23, (i6 x1)), (22, (bO true)), (21, (bO (A.sc .eql x0 [0, 2, 97, 98]))), (20, (tS x0)), (2, (pT 3000 0)), (3, (tS x0)), (4, (i6 x1))], [(3000, ⟨[.one (.int .i64 x2), .one (.str x3)], 59, 1⟩)]⟩
def g8R7s4 (A : Ar) (x0 : List Nat) (x1 x2 : Int) (x3 : List Nat) : St := ⟨[(0, (bO false)), (40, (bO false)), (39, uN), (38, uN), (37, uN), (36, (bO false)), (35, (bO false)), (34, uN), (33, uN), (32, uN), (31, (bO false)), (30, (bO false)), (29, uN), (28, uN), (27, uN), (26, (bO false)), (25, (bO false)), (24, uN), (23, uN), (22, (bO false)), (21, (bO (A.sc .eql x0 [0, 2, 97, 98]))), (20, (tS x0)), (2, (pT 3000 0)), (3, (tS x0)), (4, (i6 x1))], [(3000, ⟨[.one (.int .i64 x2), .one (.str x3)], 59, 1⟩)]⟩
theorem g8R7 (x0 : List Nat) (x1 x2 : Int) (x3 : List Nat) : g8D A n (pth 191) K ⟨[(2, (pT 3000 0)), (3, (tS x0)), (4, (i6 x1))], [(3000, ⟨[.one (.int .i64 x2), .one (.str x3)], 59, 1⟩)]⟩ = match (generalizing := false) A.sc .eql x0 [0, 2, 97, 98] with
    | true => match (generalizing := false) A.ic .eql x1 0 with
      | true => match (generalizing := false) g23ok A 2 x2 x3 with
        | true => match (generalizing := false) A.sc .eql (g23r0 A 2 x2 x3) [97, 98] with
          | true => match (generalizing := false) g25ok A (g23r1 A 2 x2 x3) (g23r2 A 2 x2 x3) with
            | true => match (generalizing := false) A.ic .eql (g25r0 A (g23r1 A 2 x2 x3) (g23r2 A 2 x2 x3)) 1 with
              | true => match (generalizing := false) g27ok A (g25r1 A (g23r1 A 2 x2 x3) (g23r2 A 2 x2 x3)) (g25r2 A (g23r1 A 2 x2 x3) (g23r2 A 2 x2 x3)) with
                | true => K .normal (g8R7s0 A x0 x1 x2 x3)
                | false => none
              | false => K .normal (g8R7s1 A x0 x1 x2 x3)
            | false => none
          | false => K .normal (g8R7s2 A x0 x1 x2 x3)
        | false => none
      | false => K .normal (g8R7s3 A x0 x1 x2 x3)
    | false => K .normal (g8R7s4 A x0 x1 x2 x3) := by kernel_rfl
def g8R0s0 (A : Ar)  : St := ⟨[(0, (bO false))], []⟩
theorem g8R0 : g8D A n (pth 2) K ⟨[], []⟩ = K .normal (g8R0s0 A) := by kernel_rfl
def g8R1s0 (A : Ar)  : St := ⟨[(1, (pT 2000 0)), (5, (pT 2000 0))], [(2500, ⟨[.nums .u8 0 []], 5, 2⟩), (2000, ⟨[.one (.int .i64 (g9r0 A)), .one (.sl 2500 none 0 1)], 56, 1⟩)]⟩
theorem g8R1 : g8D A n (pth 5) K ⟨[], []⟩ = match (generalizing := false) g9ok A with
    | true => K .normal (g8R1s0 A)
    | false => none := by kernel_rfl
def g8R2s0 (A : Ar) (x0 : Int) (x1 x2 : Nat) (x3 : List Nat) : St := ⟨[(2, (pT 3000 0)), (6, (pT 3000 0)), (1, (pT 2000 0))], [(3000, ⟨[.one (.int .i64 (g18r0 A [0, 2, 97, 98, 99])), .one (.str (g18r1 A [0, 2, 97, 98, 99]))], 59, 1⟩), (2000, ⟨[.one (.int .i64 x0), .one (.sl 2500 none x1 1)], 56, 1⟩), (2500, ⟨[.nums .u8 x2 x3], 5, 2⟩)]⟩
theorem g8R2 (x0 : Int) (x1 x2 : Nat) (x3 : List Nat) : g8D A n (pth 11) K ⟨[(1, (pT 2000 0))], [(2000, ⟨[.one (.int .i64 x0), .one (.sl 2500 none x1 1)], 56, 1⟩), (2500, ⟨[.nums .u8 x2 x3], 5, 2⟩)]⟩ = match (generalizing := false) g18ok A [0, 2, 97, 98, 99] with
    | true => K .normal (g8R2s0 A x0 x1 x2 x3)
    | false => none := by kernel_rfl
def g8R3s0 (A : Ar) (x0 : Int) (x1 x2 : Nat) (x3 : List Nat) (x4 : Int) (x5 : List Nat) : St := ⟨[(12, (bO false)), (11, (bO false)), (10, (pT 3000 0)), (9, (bO false)), (8, (bO false)), (7, (pT 2000 0)), (1, (pT 2000 0)), (2, (pT 3000 0))], [(2000, ⟨[.one (.int .i64 x0), .one (.sl 2500 none x1 1)], 56, 1⟩), (2500, ⟨[.nums .u8 x2 x3], 5, 2⟩), (3000, ⟨[.one (.int .i64 x4), .one (.str x5)], 59, 1⟩)]⟩
theorem g8R3 (x0 : Int) (x1 x2 : Nat) (x3 : List Nat) (x4 : Int) (x5 : List Nat) : g8D A n (pth 39) K ⟨[(1, (pT 2000 0)), (2, (pT 3000 0))], [(2000, ⟨[.one (.int .i64 x0), .one (.sl 2500 none x1 1)], 56, 1⟩), (2500, ⟨[.nums .u8 x2 x3], 5, 2⟩), (3000, ⟨[.one (.int .i64 x4), .one (.str x5)], 59, 1⟩)]⟩ = K .normal (g8R3s0 A x0 x1 x2 x3 x4 x5) := by kernel_rfl
end
def g8J5 {R : Type} (A : Ar) (n : Nat) (kk : AV → Heap → Option R)  (x0 : Int) (x1 x2 : Nat) (x3 : List Nat) (x4 : Int) (x5 : List Nat) : Option R :=
  match (generalizing := false) g15ok A [97, 98] 2 x0 x1 x2 x3 with
  | true => match (generalizing := false) g17ok A (g15r0 A [97, 98] 2 x0 x1 x2 x3) (g15r1 A [97, 98] 2 x0 x1 x2 x3) (g15r2 A [97, 98] 2 x0 x1 x2 x3) (g15r3 A [97, 98] 2 x0 x1 x2 x3) with
    | true => match (generalizing := false) A.sc .eql (g17r0 A (g15r0 A [97, 98] 2 x0 x1 x2 x3) (g15r1 A [97, 98] 2 x0 x1 x2 x3) (g15r2 A [97, 98] 2 x0 x1 x2 x3) (g15r3 A [97, 98] 2 x0 x1 x2 x3)) [0, 2, 97, 98] with
      | true => match (generalizing := false) A.ic .eql (g17r1 A (g15r0 A [97, 98] 2 x0 x1 x2 x3) (g15r1 A [97, 98] 2 x0 x1 x2 x3) (g15r2 A [97, 98] 2 x0 x1 x2 x3) (g15r3 A [97, 98] 2 x0 x1 x2 x3)) 0 with
        | true => match (generalizing := false) g23ok A 2 x4 x5 with
          | true => match (generalizing := false) A.sc .eql (g23r0 A 2 x4 x5) [97, 98] with
            | true => match (generalizing := false) g25ok A (g23r1 A 2 x4 x5) (g23r2 A 2 x4 x5) with
              | true => match (generalizing := false) A.ic .eql (g25r0 A (g23r1 A 2 x4 x5) (g23r2 A 2 x4 x5)) 1 with
                | true => match (generalizing := false) g27ok A (g25r1 A (g23r1 A 2 x4 x5) (g23r2 A 2 x4 x5)) (g25r2 A (g23r1 A 2 x4 x5) (g23r2 A 2 x4 x5)) with
                  | true => kk (bO (A.ic .eql (g27r0 A (g25r1 A (g23r1 A 2 x4 x5) (g23r2 A 2 x4 x5)) (g25r2 A (g23r1 A 2 x4 x5) (g23r2 A 2 x4 x5))) 2)) [(3000, ⟨[.one (.int .i64 (g27r1 A (g25r1 A (g23r1 A 2 x4 x5) (g23r2 A 2 x4 x5)) (g25r2 A (g23r1 A 2 x4 x5) (g23r2 A 2 x4 x5)))), .one (.str (g27r2 A (g25r1 A (g23r1 A 2 x4 x5) (g23r2 A 2 x4 x5)) (g25r2 A (g23r1 A 2 x4 x5) (g23r2 A 2 x4 x5))))], 59, 1⟩)]
                  | false => none
                | false => kk (bO false) [(3000, ⟨[.one (.int .i64 (g25r1 A (g23r1 A 2 x4 x5) (g23r2 A 2 x4 x5))), .one (.str (g25r2 A (g23r1 A 2 x4 x5) (g23r2 A 2 x4 x5)))], 59, 1⟩)]
              | false => none
            | false => kk (bO false) [(3000, ⟨[.one (.int .i64 (g23r1 A 2 x4 x5)), .one (.str (g23r2 A 2 x4 x5))], 59, 1⟩)]
          | false => none
        | false => kk (bO false) [(3000, ⟨[.one (.int .i64 x4), .one (.str x5)], 59, 1⟩)]
      | false => kk (bO false) [(3000, ⟨[.one (.int .i64 x4), .one (.str x5)], 59, 1⟩)]
    | false => none
  | false => none
set_option maxRecDepth 100000 in
theorem g8J5_eq {R : Type} (A : Ar) (n : Nat) (kk : AV → Heap → Option R)    (s : St) (x0 : Int) (x1 x2 : Nat) (x3 : List Nat) (x4 : Int) (x5 : List Nat) (h : keep g8an 5 s = ⟨[(1, (pT 2000 0)), (2, (pT 3000 0))], [(2000, ⟨[.one (.int .i64 x0), .one (.sl 2500 none x1 1)], 56, 1⟩), (2500, ⟨[.nums .u8 x2 x3], 5, 2⟩), (3000, ⟨[.one (.int .i64 x4), .one (.str x5)], 59, 1⟩)]⟩) :
    g8D A n (pth 31) (g8T kk) s = g8J5 A n kk  x0 x1 x2 x3 x4 x5 := by
  have h1 : (g8T kk) .ret (g8R7s0 A (g17r0 A (g15r0 A [97, 98] 2 x0 x1 x2 x3) (g15r1 A [97, 98] 2 x0 x1 x2 x3) (g15r2 A [97, 98] 2 x0 x1 x2 x3) (g15r3 A [97, 98] 2 x0 x1 x2 x3)) (g17r1 A (g15r0 A [97, 98] 2 x0 x1 x2 x3) (g15r1 A [97, 98] 2 x0 x1 x2 x3) (g15r2 A [97, 98] 2 x0 x1 x2 x3) (g15r3 A [97, 98] 2 x0 x1 x2 x3)) x4 x5) = kk (bO (A.ic .eql (g27r0 A (g25r1 A (g23r1 A 2 x4 x5) (g23r2 A 2 x4 x5)) (g25r2 A (g23r1 A 2 x4 x5) (g23r2 A 2 x4 x5))) 2)) [(3000, ⟨[.one (.int .i64 (g27r1 A (g25r1 A (g23r1 A 2 x4 x5) (g23r2 A 2 x4 x5)) (g25r2 A (g23r1 A 2 x4 x5) (g23r2 A 2 x4 x5)))), .one (.str (g27r2 A (g25r1 A (g23r1 A 2 x4 x5) (g23r2 A 2 x4 x5)) (g25r2 A (g23r1 A 2 x4 x5) (g23r2 A 2 x4 x5))))], 59, 1⟩)] := by kernel_rfl
  have h2 := (g8p255 A n _ _).trans h1
  have h3 := (g8Qn A n _ _ _).trans h2
  have h4 : (g8T kk) .ret (g8R7s1 A (g17r0 A (g15r0 A [97, 98] 2 x0 x1 x2 x3) (g15r1 A [97, 98] 2 x0 x1 x2 x3) (g15r2 A [97, 98] 2 x0 x1 x2 x3) (g15r3 A [97, 98] 2 x0 x1 x2 x3)) (g17r1 A (g15r0 A [97, 98] 2 x0 x1 x2 x3) (g15r1 A [97, 98] 2 x0 x1 x2 x3) (g15r2 A [97, 98] 2 x0 x1 x2 x3) (g15r3 A [97, 98] 2 x0 x1 x2 x3)) x4 x5) = kk (bO false) [(3000, ⟨[.one (.int .i64 (g25r1 A (g23r1 A 2 x4 x5) (g23r2 A 2 x4 x5))), .one (.str (g25r2 A (g23r1 A 2 x4 x5) (g23r2 A 2 x4 x5)))], 59, 1⟩)] := by kernel_rfl
  have h5 := (g8p255 A n _ _).trans h4
  have h6 := (g8Qn A n _ _ _).trans h5
  have h7 : (g8T kk) .ret (g8R7s2 A (g17r0 A (g15r0 A [97, 98] 2 x0 x1 x2 x3) (g15r1 A [97, 98] 2 x0 x1 x2 x3) (g15r2 A [97, 98] 2 x0 x1 x2 x3) (g15r3 A [97, 98] 2 x0 x1 x2 x3)) (g17r1 A (g15r0 A [97, 98] 2 x0 x1 x2 x3) (g15r1 A [97, 98] 2 x0 x1 x2 x3) (g15r2 A [97, 98] 2 x0 x1 x2 x3) (g15r3 A [97, 98] 2 x0 x1 x2 x3)) x4 x5) = kk (bO false) [(3000, ⟨[.one (.int .i64 (g23r1 A 2 x4 x5)), .one (.str (g23r2 A 2 x4 x5))], 59, 1⟩)] := by kernel_rfl
  have h8 := (g8p255 A n _ _).trans h7
  have h9 := (g8Qn A n _ _ _).trans h8
  have h10 : (g8T kk) .ret (g8R7s3 A (g17r0 A (g15r0 A [97, 98] 2 x0 x1 x2 x3) (g15r1 A [97, 98] 2 x0 x1 x2 x3) (g15r2 A [97, 98] 2 x0 x1 x2 x3) (g15r3 A [97, 98] 2 x0 x1 x2 x3)) (g17r1 A (g15r0 A [97, 98] 2 x0 x1 x2 x3) (g15r1 A [97, 98] 2 x0 x1 x2 x3) (g15r2 A [97, 98] 2 x0 x1 x2 x3) (g15r3 A [97, 98] 2 x0 x1 x2 x3)) x4 x5) = kk (bO false) [(3000, ⟨[.one (.int .i64 x4), .one (.str x5)], 59, 1⟩)] := by kernel_rfl
  have h11 := (g8p255 A n _ _).trans h10
  have h12 := (g8Qn A n _ _ _).trans h11
  have h13 : (g8T kk) .ret (g8R7s4 A (g17r0 A (g15r0 A [97, 98] 2 x0 x1 x2 x3) (g15r1 A [97, 98] 2 x0 x1 x2 x3) (g15r2 A [97, 98] 2 x0 x1 x2 x3) (g15r3 A [97, 98] 2 x0 x1 x2 x3)) (g17r1 A (g15r0 A [97, 98] 2 x0 x1 x2 x3) (g15r1 A [97, 98] 2 x0 x1 x2 x3) (g15r2 A [97, 98] 2 x0 x1 x2 x3) (g15r3 A [97, 98] 2 x0 x1 x2 x3)) x4 x5) = kk (bO false) [(3000, ⟨[.one (.int .i64 x4), .one (.str x5)], 59, 1⟩)] := by kernel_rfl
  have h14 := (g8p255 A n _ _).trans h13
  have h15 := (g8Qn A n _ _ _).trans h14
  have h16 := (g8F A n _ 7 _ (g8R6s0 A (g15r0 A [97, 98] 2 x0 x1 x2 x3) (g15r1 A [97, 98] 2 x0 x1 x2 x3) (g15r2 A [97, 98] 2 x0 x1 x2 x3) (g15r3 A [97, 98] 2 x0 x1 x2 x3) x4 x5) _ (by kernel_rfl) (by kernel_rfl)).trans (g8R7 A n (g8Q A n (pth 255) (g8T kk)) (g17r0 A (g15r0 A [97, 98] 2 x0 x1 x2 x3) (g15r1 A [97, 98] 2 x0 x1 x2 x3) (g15r2 A [97, 98] 2 x0 x1 x2 x3) (g15r3 A [97, 98] 2 x0 x1 x2 x3)) (g17r1 A (g15r0 A [97, 98] 2 x0 x1 x2 x3) (g15r1 A [97, 98] 2 x0 x1 x2 x3) (g15r2 A [97, 98] 2 x0 x1 x2 x3) (g15r3 A [97, 98] 2 x0 x1 x2 x3)) x4 x5)
  rw [h3, h6, h9, h12, h15] at h16
  have h17 := (g8p127 A n _ _).trans h16
  have h18 := (g8Qn A n _ _ _).trans h17
  have h19 := (g8F A n _ 6 _ (g8R5s0 A x0 x1 x2 x3 x4 x5) _ (by kernel_rfl) (by kernel_rfl)).trans (g8R6 A n (g8Q A n (pth 127) (g8T kk)) (g15r0 A [97, 98] 2 x0 x1 x2 x3) (g15r1 A [97, 98] 2 x0 x1 x2 x3) (g15r2 A [97, 98] 2 x0 x1 x2 x3) (g15r3 A [97, 98] 2 x0 x1 x2 x3) x4 x5)
  rw [h18] at h19
  have h20 := (g8p63 A n _ _).trans h19
  have h21 := (g8Qn A n _ _ _).trans h20
  have h22 := (g8F A n _ 5 _ ⟨[(1, (pT 2000 0)), (2, (pT 3000 0))], [(2000, ⟨[.one (.int .i64 x0), .one (.sl 2500 none x1 1)], 56, 1⟩), (2500, ⟨[.nums .u8 x2 x3], 5, 2⟩), (3000, ⟨[.one (.int .i64 x4), .one (.str x5)], 59, 1⟩)]⟩ _ (by kernel_rfl) (by kernel_rfl)).trans (g8R5 A n (g8Q A n (pth 63) (g8T kk)) x0 x1 x2 x3 x4 x5)
  rw [h21] at h22
  have h23 := (g8p31 A n _ _).trans h22
  exact (g8F A n _ 5 _ _ ⟨[(1, (pT 2000 0)), (2, (pT 3000 0))], [(2000, ⟨[.one (.int .i64 x0), .one (.sl 2500 none x1 1)], 56, 1⟩), (2500, ⟨[.nums .u8 x2 x3], 5, 2⟩), (3000, ⟨[.one (.int .i64 x4), .one (.str x5)], 59, 1⟩)]⟩ (by kernel_rfl) (h.trans (by kernel_rfl))).trans (h23.trans (by kernel_rfl))
def g8 {R : Type} (A : Ar) (n : Nat) (kk : AV → Heap → Option R)  : Option R :=
  match (generalizing := false) g9ok A with
  | true => match (generalizing := false) g18ok A [0, 2, 97, 98, 99] with
    | true => g8J5 A n kk  (g9r0 A) 0 0 [] (g18r0 A [0, 2, 97, 98, 99]) (g18r1 A [0, 2, 97, 98, 99])
    | false => none
  | false => none
set_option maxRecDepth 100000 in
theorem g8_eq {R : Type} (A : Ar) (n : Nat) (kk : AV → Heap → Option R)  :
    funD A gtys (g8O A) g8an n (bodyOf Try.f8) g8res [] [] kk = g8 A n kk  := by
  have h1 := (g8Qn A n _ _ _).trans (g8J5_eq A n kk     (g8R3s0 A (g9r0 A) 0 0 [] (g18r0 A [0, 2, 97, 98, 99]) (g18r1 A [0, 2, 97, 98, 99])) (g9r0 A) 0 0 [] (g18r0 A [0, 2, 97, 98, 99]) (g18r1 A [0, 2, 97, 98, 99]) (by kernel_rfl))
  have h2 := (g8p119 A n _ _).trans h1
  have h3 := (g8p55 A n (g8Q A n (pth 31) (g8T kk)) (g8R3s0 A (g9r0 A) 0 0 [] (g18r0 A [0, 2, 97, 98, 99]) (g18r1 A [0, 2, 97, 98, 99])) false (by kernel_rfl)).trans h2
  have h4 := (g8Qn A n _ _ _).trans h3
  have h5 := (g8F A n _ 3 _ (g8R2s0 A (g9r0 A) 0 0 []) _ (by kernel_rfl) (by kernel_rfl)).trans (g8R3 A n (g8Q A n (pth 55) (g8Q A n (pth 31) (g8T kk))) (g9r0 A) 0 0 [] (g18r0 A [0, 2, 97, 98, 99]) (g18r1 A [0, 2, 97, 98, 99]))
  rw [h4] at h5
  have h6 := (g8p23 A n _ _).trans h5
  have h7 := (g8p15 A n _ _).trans h6
  have h8 := (g8Qn A n _ _ _).trans h7
  have h9 := (g8F A n _ 2 _ (g8R1s0 A) _ (by kernel_rfl) (by kernel_rfl)).trans (g8R2 A n (g8Q A n (pth 15) (g8T kk)) (g9r0 A) 0 0 [])
  rw [h8] at h9
  have h10 := (g8p7 A n _ _).trans h9
  have h11 := (g8Qn A n _ _ _).trans h10
  have h12 := (g8F A n _ 1 _ (g8R0s0 A) _ (by kernel_rfl) (by kernel_rfl)).trans (g8R1 A n (g8Q A n (pth 7) (g8T kk)) )
  rw [h11] at h12
  have h13 := (g8p3 A n _ _).trans h12
  have h14 := (g8Qn A n _ _ _).trans h13
  have h15 := (g8F A n _ 0 _ ⟨[], []⟩ _ (by kernel_rfl) (by kernel_rfl)).trans (g8R0 A n (g8Q A n (pth 3) (g8T kk)) )
  rw [h14] at h15
  have h16 := (g8p1 A n _ _).trans h15
  exact (show funD A gtys (g8O A) g8an n (bodyOf Try.f8) g8res [] [] kk = g8D A n (pth 1) (g8T kk) ⟨[], []⟩ from by kernel_rfl).trans (h16.trans (by kernel_rfl))
def g8is (o : Option AV) : Bool := match o with
  | some (.v (.cell (.bool _))) => true
  | _ => false
def g8g0 (o : Option AV) : Bool := match o with
  | some (.v (.cell (.bool x))) => x
  | _ => false
theorem g8is_spec {o : Option AV} (h : g8is o = true) : o = some (.v (.cell (.bool (g8g0 o)))) := by
  unfold g8is at h
  split at h
  · rfl
  · cases h
def g8v (A : Ar)  : Option AV := g8 A (100000) (fun v _ => some v) 
def g8ok (A : Ar)  : Bool := g8is (g8v A )
def g8r0 (A : Ar)  : Bool := g8g0 (g8v A )
theorem g8ok_spec {A : Ar} (h : g8ok A = true) : g8v A = some (.v (.cell (.bool (g8r0 A)))) := g8is_spec h
def g8o (A : Ar) (args : List AV) : Option (Bool × AV) := match args with
  | [] => some (g8ok A , .v (.cell (.bool (g8r0 A))))
  | _ => none
theorem g8o_sound : ∀ args v, g8o realA args = some (true, v) → Fn1 Try.prog 8 args v := by
  intro args v h
  unfold g8o at h
  split at h
  · simp only [Option.some.injEq, Prod.mk.injEq] at h
    obtain ⟨hc, h⟩ := h
    subst h
    · skip
      exact fn1_of mixed gtysOK g8O_sound g8O_det (an := g8an) (n := 100000) Try.func8 (c := bodyOf Try.f8) rfl (by kernel_rfl) Try.call8 (Nat.le_of_ble_eq_true rfl) (fun b => rfl) (fun _ => (g8_eq realA (100000) (fun v _ => some v) ).trans (show g8v realA  = _ from g8ok_spec hc))
  · cases h
end Go.Sx
