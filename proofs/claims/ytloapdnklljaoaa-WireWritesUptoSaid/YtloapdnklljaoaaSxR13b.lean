import Derived.Test.YtloapdnklljaoaaSxR13a
namespace Go.Sx
open Go.Proofs
set_option linter.unusedVariables false
section
variable {R : Type} (A : Ar) (n : Nat) (K : Ex → St → Option R) (s : St)
end
section
variable {R : Type} (A : Ar) (n : Nat) (K : Ex → St → Option R) (s : St)
end
def g10O (A : Ar) : Orc := orcOf []
theorem g10O_sound : OSound Try.prog (g10O realA) := orc_sound fun f g hm args v hv => by
  cases hm
theorem g10O_det : ODet (g10O realA) := orc_det _
def g10an : Ann := [(0, ([0], [])), (1, ([1], [1000])), (2, ([1], [1000])), (3, ([1], [1000]))]
def g10res : List ResultVar := [.tmp 2]
noncomputable def g10D {R : Type} (A : Ar) (n : Nat) (p : List Bool) (K : Ex → St → Option R) (s : St) : Option R := codeD A gtys (g10O A) g10an n (sub (bodyOf Try.f10) p) K s
noncomputable def g10Q {R : Type} (A : Ar) (n : Nat) (p : List Bool) (K : Ex → St → Option R) : Ex → St → Option R := seqC (g10D A n p K) K
noncomputable def g10T {R : Type} (kk : AV → Heap → Option R) : Ex → St → Option R := finD gtys g10res kk
theorem g10Qn {R : Type} (A : Ar) (n : Nat) (p : List Bool) (K : Ex → St → Option R) (s : St) : g10Q A n p K .normal s = g10D A n p K s := rfl
theorem g10Qr {R : Type} (A : Ar) (n : Nat) (p : List Bool) (K : Ex → St → Option R) (s : St) : g10Q A n p K .ret s = K .ret s := rfl
theorem g10F {R : Type} (A : Ar) (n : Nat) (p : List Bool) (i : Nat) (K : Ex → St → Option R) (s s' : St) (hf : firstReg (sub (bodyOf Try.f10) p) = some i) (h : keep g10an i s = keep g10an i s') : g10D A n p K s = g10D A n p K s' := codeD_first hf h K
section
variable {R : Type} (A : Ar) (n : Nat) (K : Ex → St → Option R) (s : St)
theorem g10p1 : g10D A n (pth 1) K s = g10D A n (pth 2) (g10Q A n (pth 3) K) s := by kernel_rfl
theorem g10p3 : g10D A n (pth 3) K s = g10D A n (pth 5) (g10Q A n (pth 7) K) s := by kernel_rfl
theorem g10p5 : g10D A n (pth 5) K s = g10D A n (pth 9) (g10Q A n (pth 13) K) s := by kernel_rfl
theorem g10p13 (t : Bool) : ev s (.tmp 5) = some (.v (.cell (.bool t))) → g10D A n (pth 13) K s = (match t with
    | true => g10D A n (pth 21) K s
    | false => g10D A n (pth 29) K s) := codeD_cond t
theorem g10p21 : g10D A n (pth 21) K s = g10D A n (pth 37) (g10Q A n (pth 53) K) s := by kernel_rfl
theorem g10p53 : g10D A n (pth 53) K s = K .ret s := by kernel_rfl
theorem g10p29 : g10D A n (pth 29) K s = K .normal s := by kernel_rfl
theorem g10p7 : g10D A n (pth 7) K s = g10D A n (pth 11) (g10Q A n (pth 15) K) s := by kernel_rfl
theorem g10p15 : g10D A n (pth 15) K s = K .ret s := by kernel_rfl
def g10R0s0 (A : Ar) (x0 : List Int) (x1 : List Nat) : St := ⟨[(2, (i6 0)), (1, (pT 1000 0)), (0, (.v (.agg [.ints .i64 3 x0, .one (.str x1)])))], [(1000, ⟨[.ints .i64 3 x0, .one (.str x1)], 30, 1⟩)]⟩
theorem g10R0 (x0 : List Int) (x1 : List Nat) : g10D A n (pth 2) K ⟨[(0, (.v (.agg [.ints .i64 3 x0, .one (.str x1)])))], []⟩ = K .normal (g10R0s0 A x0 x1) := by kernel_rfl
def g10R1s0 (A : Ar) (x0 : List Int) (x1 : List Nat) : St := ⟨[(5, (bO (A.ic .lss (x0.getD 0 0) 0))), (4, (i6 (x0.getD 0 0))), (3, (pT 1000 0)), (1, (pT 1000 0))], [(1000, ⟨[.ints .i64 3 x0, .one (.str x1)], 30, 1⟩)]⟩
theorem g10R1 (x0 : List Int) (x1 : List Nat) : g10D A n (pth 9) K ⟨[(1, (pT 1000 0))], [(1000, ⟨[.ints .i64 3 x0, .one (.str x1)], 30, 1⟩)]⟩ = K .normal (g10R1s0 A x0 x1) := by kernel_rfl
def g10R2s0 (A : Ar) (x0 : List Int) (x1 : List Nat) : St := ⟨[(2, (i6 (A.ib .rem .i64 (A.ib .sub .i64 0 (A.ib .add .i64 (x0.getD 0 0) 1)) 3))), (10, (i6 (A.ib .rem .i64 (A.ib .sub .i64 0 (A.ib .add .i64 (x0.getD 0 0) 1)) 3))), (9, (i6 (A.ib .sub .i64 0 (A.ib .add .i64 (x0.getD 0 0) 1)))), (8, (i6 (A.ib .add .i64 (x0.getD 0 0) 1))), (7, (i6 (x0.getD 0 0))), (6, (pT 1000 0)), (1, (pT 1000 0))], [(1000, ⟨[.ints .i64 3 x0, .one (.str x1)], 30, 1⟩)]⟩
theorem g10R2 (x0 : List Int) (x1 : List Nat) : g10D A n (pth 37) K ⟨[(1, (pT 1000 0))], [(1000, ⟨[.ints .i64 3 x0, .one (.str x1)], 30, 1⟩)]⟩ = K .normal (g10R2s0 A x0 x1) := by kernel_rfl
def g10R3s0 (A : Ar) (x0 : List Int) (x1 : List Nat) : St := ⟨[(2, (i6 (A.ib .rem .i64 (x0.getD 0 0) 3))), (13, (i6 (A.ib .rem .i64 (x0.getD 0 0) 3))), (12, (i6 (x0.getD 0 0))), (11, (pT 1000 0)), (1, (pT 1000 0))], [(1000, ⟨[.ints .i64 3 x0, .one (.str x1)], 30, 1⟩)]⟩
theorem g10R3 (x0 : List Int) (x1 : List Nat) : g10D A n (pth 11) K ⟨[(1, (pT 1000 0))], [(1000, ⟨[.ints .i64 3 x0, .one (.str x1)], 30, 1⟩)]⟩ = K .normal (g10R3s0 A x0 x1) := by kernel_rfl
end
def g10 {R : Type} (A : Ar) (n : Nat) (kk : AV → Heap → Option R) (a0 : List Int) (a1 : List Nat) : Option R :=
  match (generalizing := false) A.ic .lss (a0.getD 0 0) 0 with
  | true => kk (i6 (A.ib .rem .i64 (A.ib .sub .i64 0 (A.ib .add .i64 (a0.getD 0 0) 1)) 3)) [(1000, ⟨[.ints .i64 3 a0, .one (.str a1)], 30, 1⟩)]
  | false => kk (i6 (A.ib .rem .i64 (a0.getD 0 0) 3)) [(1000, ⟨[.ints .i64 3 a0, .one (.str a1)], 30, 1⟩)]
set_option maxRecDepth 100000 in
theorem g10_eq {R : Type} (A : Ar) (n : Nat) (kk : AV → Heap → Option R) (a0 : List Int) (a1 : List Nat) :
    funD A gtys (g10O A) g10an n (bodyOf Try.f10) g10res [(.v (.agg [.ints .i64 3 a0, .one (.str a1)]))] [] kk = g10 A n kk a0 a1 := by
  have h1 : (g10T kk) .ret (g10R2s0 A a0 a1) = kk (i6 (A.ib .rem .i64 (A.ib .sub .i64 0 (A.ib .add .i64 (a0.getD 0 0) 1)) 3)) [(1000, ⟨[.ints .i64 3 a0, .one (.str a1)], 30, 1⟩)] := by kernel_rfl
  have h2 := (g10Qr A n (pth 7) _ _).trans h1
  have h3 := (g10p53 A n _ _).trans h2
  have h4 := (g10Qn A n _ _ _).trans h3
  have h5 := (g10F A n _ 2 _ (g10R1s0 A a0 a1) _ (by kernel_rfl) (by kernel_rfl)).trans (g10R2 A n (g10Q A n (pth 53) (g10Q A n (pth 7) (g10T kk))) a0 a1)
  rw [h4] at h5
  have h6 := (g10p21 A n _ _).trans h5
  have h7 : (g10T kk) .ret (g10R3s0 A a0 a1) = kk (i6 (A.ib .rem .i64 (a0.getD 0 0) 3)) [(1000, ⟨[.ints .i64 3 a0, .one (.str a1)], 30, 1⟩)] := by kernel_rfl
  have h8 := (g10p15 A n _ _).trans h7
  have h9 := (g10Qn A n _ _ _).trans h8
  have h10 := (g10F A n _ 3 _ (g10R1s0 A a0 a1) _ (by kernel_rfl) (by kernel_rfl)).trans (g10R3 A n (g10Q A n (pth 15) (g10T kk)) a0 a1)
  rw [h9] at h10
  have h11 := (g10p7 A n _ _).trans h10
  have h12 := (g10Qn A n _ _ _).trans h11
  have h13 := (g10p29 A n _ _).trans h12
  have h14 := g10p13 A n (g10Q A n (pth 7) (g10T kk)) (g10R1s0 A a0 a1) (A.ic .lss (a0.getD 0 0) 0) (by kernel_rfl)
  rw [h6, h13] at h14
  have h15 := (g10Qn A n _ _ _).trans h14
  have h16 := (g10F A n _ 1 _ (g10R0s0 A a0 a1) _ (by kernel_rfl) (by kernel_rfl)).trans (g10R1 A n (g10Q A n (pth 13) (g10Q A n (pth 7) (g10T kk))) a0 a1)
  rw [h15] at h16
  have h17 := (g10p5 A n _ _).trans h16
  have h18 := (g10p3 A n _ _).trans h17
  have h19 := (g10Qn A n _ _ _).trans h18
  have h20 := (g10F A n _ 0 _ ⟨[(0, (.v (.agg [.ints .i64 3 a0, .one (.str a1)])))], []⟩ _ (by kernel_rfl) (by kernel_rfl)).trans (g10R0 A n (g10Q A n (pth 3) (g10T kk)) a0 a1)
  rw [h19] at h20
  have h21 := (g10p1 A n _ _).trans h20
  exact (show funD A gtys (g10O A) g10an n (bodyOf Try.f10) g10res [(.v (.agg [.ints .i64 3 a0, .one (.str a1)]))] [] kk = g10D A n (pth 1) (g10T kk) ⟨[(0, (.v (.agg [.ints .i64 3 a0, .one (.str a1)])))], []⟩ from by kernel_rfl).trans (h21.trans (by kernel_rfl))
def g10is (o : Option AV) : Bool := match o with
  | some (.v (.cell (.int .i64 _))) => true
  | _ => false
def g10g0 (o : Option AV) : Int := match o with
  | some (.v (.cell (.int .i64 x))) => x
  | _ => 0
theorem g10is_spec {o : Option AV} (h : g10is o = true) : o = some (.v (.cell (.int .i64 (g10g0 o)))) := by
  unfold g10is at h
  split at h
  · rfl
  · cases h
def g10v (A : Ar) (a0 : List Int) (a1 : List Nat) : Option AV := g10 A (100000) (fun v _ => some v) a0 a1
def g10ok (A : Ar) (a0 : List Int) (a1 : List Nat) : Bool := g10is (g10v A a0 a1)
def g10r0 (A : Ar) (a0 : List Int) (a1 : List Nat) : Int := g10g0 (g10v A a0 a1)
theorem g10ok_spec {A : Ar} {a0 a1} (h : g10ok A a0 a1 = true) : g10v A a0 a1 = some (.v (.cell (.int .i64 (g10r0 A a0 a1)))) := g10is_spec h
def g10o (A : Ar) (args : List AV) : Option (Bool × AV) := match args with
  | [.v (.agg [.ints .i64 n0 a0, .one (.str a1)])] => some (Nat.beq n0 3 && (g10ok A a0 a1), .v (.cell (.int .i64 (g10r0 A a0 a1))))
  | _ => none
theorem g10o_sound : ∀ args v, g10o realA args = some (true, v) → Fn1 Try.prog 10 args v := by
  intro args v h
  unfold g10o at h
  split at h
  · rename_i n0 a0 a1
    simp only [Option.some.injEq, Prod.mk.injEq] at h
    obtain ⟨hc, h⟩ := h
    subst h
    · skip
      simp only [Bool.and_eq_true] at hc
      have en0 := beq_true hc.1
      subst en0
      replace hc := hc.2
      exact fn1_of mixed gtysOK g10O_sound g10O_det (an := g10an) (n := 100000) Try.func10 (c := bodyOf Try.f10) rfl (by kernel_rfl) Try.call10 (Nat.le_of_ble_eq_true rfl) (fun b => rfl) (fun _ => (g10_eq realA (100000) (fun v _ => some v) a0 a1).trans (show g10v realA a0 a1 = _ from g10ok_spec hc))
  · cases h
def g12O (A : Ar) : Orc := orcOf []
theorem g12O_sound : OSound Try.prog (g12O realA) := orc_sound fun f g hm args v hv => by
  cases hm
theorem g12O_det : ODet (g12O realA) := orc_det _
def g12an : Ann := [(0, ([0, 1, 2], [0])), (1, ([0, 1, 2], [0])), (2, ([0], [0])), (3, ([0, 1, 2], [0])), (4, ([0, 1, 6], [0])), (5, ([0, 1, 6], [0])), (6, ([0, 1, 6], [0]))]
def g12res : List ResultVar := []
noncomputable def g12D {R : Type} (A : Ar) (n : Nat) (p : List Bool) (K : Ex → St → Option R) (s : St) : Option R := codeD A gtys (g12O A) g12an n (sub (bodyOf Try.f12) p) K s
noncomputable def g12V {R : Type} (A : Ar) (n : Nat) (p : List Bool) (m : Nat) (K : Ex → St → Option R) (s : St) : Option R := loopD (fun K' s'' => codeD A gtys (g12O A) g12an n (sub (bodyOf Try.f12) p) K' s'') m K s
noncomputable def g12Q {R : Type} (A : Ar) (n : Nat) (p : List Bool) (K : Ex → St → Option R) : Ex → St → Option R := seqC (g12D A n p K) K
noncomputable def g12W {R : Type} (A : Ar) (n : Nat) (p : List Bool) (m : Nat) (K : Ex → St → Option R) : Ex → St → Option R := seqC (g12V A n p m K) K
noncomputable def g12T {R : Type} (kk : AV → Heap → Option R) : Ex → St → Option R := finD gtys g12res kk
theorem g12Qn {R : Type} (A : Ar) (n : Nat) (p : List Bool) (K : Ex → St → Option R) (s : St) : g12Q A n p K .normal s = g12D A n p K s := rfl
theorem g12Qe {R : Type} (A : Ar) (n : Nat) (p : List Bool) (K : Ex → St → Option R) (i : Nat) (s : St) : g12Q A n p K (.exit i) s = K (.exit i) s := rfl
theorem g12Qr {R : Type} (A : Ar) (n : Nat) (p : List Bool) (K : Ex → St → Option R) (s : St) : g12Q A n p K .ret s = K .ret s := rfl
theorem g12Wn {R : Type} (A : Ar) (n : Nat) (p : List Bool) (m : Nat) (K : Ex → St → Option R) (s : St) : g12W A n p m K .normal s = g12V A n p m K s := rfl
theorem g12We {R : Type} (A : Ar) (n : Nat) (p : List Bool) (m : Nat) (K : Ex → St → Option R) (i : Nat) (s : St) : g12W A n p m K (.exit i) s = K (.exit i) s := rfl
theorem g12Vs {R : Type} (A : Ar) (n : Nat) (p : List Bool) (m : Nat) (K : Ex → St → Option R) (s : St) : g12V A n p (m + 1) K s = g12D A n p (g12W A n p m K) s := rfl
theorem g12F {R : Type} (A : Ar) (n : Nat) (p : List Bool) (i : Nat) (K : Ex → St → Option R) (s s' : St) (hf : firstReg (sub (bodyOf Try.f12) p) = some i) (h : keep g12an i s = keep g12an i s') : g12D A n p K s = g12D A n p K s' := codeD_first hf h K
section
variable {R : Type} (A : Ar) (n : Nat) (K : Ex → St → Option R) (s : St)
theorem g12p1 : g12D A n (pth 1) K s = g12D A n (pth 2) (g12Q A n (pth 3) K) s := by kernel_rfl
theorem g12p2 : g12D A n (pth 2) K s = g12D A n (pth 4) (g12Q A n (pth 6) K) s := by kernel_rfl
theorem g12p6 (t : Bool) : ev s (.tmp 11) = some (.v (.cell (.bool t))) → g12D A n (pth 6) K s = (match t with
    | true => g12D A n (pth 10) K s
    | false => g12D A n (pth 14) K s) := codeD_cond t
theorem g12p10 : g12D A n (pth 10) K s = K .ret s := by kernel_rfl
theorem g12p14 : g12D A n (pth 14) K s = K .normal s := by kernel_rfl
theorem g12p3 : g12D A n (pth 3) K s = g12D A n (pth 5) (g12Q A n (pth 7) K) s := by kernel_rfl
theorem g12p5 : g12D A n (pth 5) K s = g12D A n (pth 9) (g12Q A n (pth 13) K) s := by kernel_rfl
theorem g12p13 (t : Bool) : ev s (.tmp 28) = some (.v (.cell (.bool t))) → g12D A n (pth 13) K s = (match t with
    | true => g12D A n (pth 21) K s
    | false => g12D A n (pth 29) K s) := codeD_cond t
theorem g12p21 : g12D A n (pth 21) K s = g12D A n (pth 37) (g12Q A n (pth 53) K) s := by kernel_rfl
theorem g12p53 : g12D A n (pth 53) K s = K .ret s := by kernel_rfl
theorem g12p29 : g12D A n (pth 29) K s = K .normal s := by kernel_rfl
theorem g12p7 : g12D A n (pth 7) K s = g12D A n (pth 11) (g12Q A n (pth 15) K) s := by kernel_rfl
theorem g12p15 : g12D A n (pth 15) K s = g12D A n (pth 23) (blockK 0 K) s := by kernel_rfl
theorem g12p23 : g12D A n (pth 23) K s = g12V A n (pth 39) n K s := by kernel_rfl
theorem g12p39 : g12D A n (pth 39) K s = g12D A n (pth 71) (g12Q A n (pth 103) K) s := by kernel_rfl
theorem g12p71 : g12D A n (pth 71) K s = g12D A n (pth 135) (g12Q A n (pth 199) K) s := by kernel_rfl
theorem g12p199 (t : Bool) : ev s (.tmp 35) = some (.v (.cell (.bool t))) → g12D A n (pth 199) K s = (match t with
    | true => g12D A n (pth 327) K s
    | false => g12D A n (pth 455) K s) := codeD_cond t
theorem g12p327 : g12D A n (pth 327) K s = K .normal s := by kernel_rfl
theorem g12p455 : g12D A n (pth 455) K s = K (.exit 0) s := by kernel_rfl
theorem g12p103 : g12D A n (pth 103) K s = g12D A n (pth 167) (g12Q A n (pth 231) K) s := by kernel_rfl
theorem g12p167 : g12D A n (pth 167) K s = g12D A n (pth 295) (blockK 1 K) s := by kernel_rfl
def g12R6s0 (A : Ar) (x0 x1 : Int) (x2 : List Nat) (x3 : Int) : St := ⟨[(52, (pT 0 0)), (51, (pT 0 0)), (50, (tS (x2 ++ ([A.i2n .u8 (A.ish .shr .i64 x0 (A.toN (A.ib .mul .i64 8 x1)))].take 1)))), (49, (tS ([A.i2n .u8 (A.ish .shr .i64 x0 (A.toN (A.ib .mul .i64 8 x1)))].take 1))), (48, (sL 7010 none 1 1)), (47, (u8v (A.i2n .u8 (A.ish .shr .i64 x0 (A.toN (A.ib .mul .i64 8 x1)))))), (46, (i6 (A.ish .shr .i64 x0 (A.toN (A.ib .mul .i64 8 x1))))), (45, (i6 (A.ib .mul .i64 8 x1))), (44, (i6 x1)), (43, (i6 x0)), (42, (tS x2)), (41, (pT 0 0)), (40, (pT 0 0)), (39, (pT 0 0)), (38, (pT 0 0)), (0, (pT 0 0)), (1, (i6 x0)), (6, (i6 x1))], [(7010, ⟨[.nums .u8 1 [A.i2n .u8 (A.ish .shr .i64 x0 (A.toN (A.ib .mul .i64 8 x1)))]], 5, 2⟩), (0, ⟨[.one (.str (x2 ++ ([A.i2n .u8 (A.ish .shr .i64 x0 (A.toN (A.ib .mul .i64 8 x1)))].take 1))), .one (.int .i64 x3)], 28, 1⟩)]⟩
theorem g12R6 (x0 x1 : Int) (x2 : List Nat) (x3 : Int) : g12D A n (pth 295) K ⟨[(0, (pT 0 0)), (1, (i6 x0)), (6, (i6 x1))], [(0, ⟨[.one (.str x2), .one (.int .i64 x3)], 28, 1⟩)]⟩ = match (generalizing := false) A.neg (A.ib .mul .i64 8 x1) with
    | true => none
    | false => match (generalizing := false) A.le (x2.length + ([A.i2n .u8 (A.ish .shr .i64 x0 (A.toN (A.ib .mul .i64 8 x1)))].take 1).length) 9223372036854775807 with
      | true => K .normal (g12R6s0 A x0 x1 x2 x3)
      | false => none := by kernel_rfl
def g12R5s0 (A : Ar) (x0 x1 : Int) (x2 : List Nat) (x3 : Int) : St := ⟨[(6, (i6 (A.ib .sub .i64 x1 1))), (37, (i6 (A.ib .sub .i64 x1 1))), (36, (i6 x1)), (0, (pT 0 0)), (1, (i6 x0)), (6, (i6 x1))], [(0, ⟨[.one (.str x2), .one (.int .i64 x3)], 28, 1⟩)]⟩
theorem g12R5 (x0 x1 : Int) (x2 : List Nat) (x3 : Int) : g12D A n (pth 231) K ⟨[(0, (pT 0 0)), (1, (i6 x0)), (6, (i6 x1))], [(0, ⟨[.one (.str x2), .one (.int .i64 x3)], 28, 1⟩)]⟩ = K .normal (g12R5s0 A x0 x1 x2 x3) := by kernel_rfl
def g12R4s0 (A : Ar) (x0 x1 : Int) (x2 : List Nat) (x3 : Int) : St := ⟨[(35, (bO (A.ic .geq x1 0))), (34, (i6 x1)), (0, (pT 0 0)), (1, (i6 x0)), (6, (i6 x1))], [(0, ⟨[.one (.str x2), .one (.int .i64 x3)], 28, 1⟩)]⟩
theorem g12R4 (x0 x1 : Int) (x2 : List Nat) (x3 : Int) : g12D A n (pth 135) K ⟨[(0, (pT 0 0)), (1, (i6 x0)), (6, (i6 x1))], [(0, ⟨[.one (.str x2), .one (.int .i64 x3)], 28, 1⟩)]⟩ = K .normal (g12R4s0 A x0 x1 x2 x3) := by kernel_rfl
def g12R3s0 (A : Ar) (x0 x1 : Int) (x2 : List Nat) (x3 : Int) : St := ⟨[(6, (i6 (A.ib .sub .i64 x1 1))), (33, (i6 (A.ib .sub .i64 x1 1))), (32, (i6 x1)), (0, (pT 0 0)), (1, (i6 x0)), (2, (i6 x1))], [(0, ⟨[.one (.str x2), .one (.int .i64 x3)], 28, 1⟩)]⟩
theorem g12R3 (x0 x1 : Int) (x2 : List Nat) (x3 : Int) : g12D A n (pth 11) K ⟨[(0, (pT 0 0)), (1, (i6 x0)), (2, (i6 x1))], [(0, ⟨[.one (.str x2), .one (.int .i64 x3)], 28, 1⟩)]⟩ = K .normal (g12R3s0 A x0 x1 x2 x3) := by kernel_rfl
def g12R1s0 (A : Ar) (x0 x1 : Int) (x2 : List Nat) (x3 : Int) : St := ⟨[(28, (bO true)), (27, uN), (26, uN), (25, uN), (24, uN), (23, uN), (22, (bO true)), (21, (bO true)), (20, uN), (19, uN), (18, (bO true)), (17, (bO true)), (16, uN), (15, uN), (14, (bO true)), (13, (bO (A.ic .lss x1 1))), (12, (i6 x1)), (0, (pT 0 0)), (1, (i6 x0)), (2, (i6 x1))], [(0, ⟨[.one (.str x2), .one (.int .i64 x3)], 28, 1⟩)]⟩
def g12R1s1 (A : Ar) (x0 x1 : Int) (x2 : List Nat) (x3 : Int) : St := ⟨[(28, (bO true)), (27, uN), (26, uN), (25, uN), (24, uN), (23, uN), (22, (bO true)), (21, (bO true)), (20, uN), (19, uN), (18, (bO true)), (17, (bO (A.ic .gtr x1 7))), (16, (bO (A.ic .gtr x1 7))), (15, (i6 x1)), (14, (bO false)), (13, (bO (A.ic .lss x1 1))), (12, (i6 x1)), (0, (pT 0 0)), (1, (i6 x0)), (2, (i6 x1))], [(0, ⟨[.one (.str x2), .one (.int .i64 x3)], 28, 1⟩)]⟩
def g12R1s2 (A : Ar) (x0 x1 : Int) (x2 : List Nat) (x3 : Int) : St := ⟨[(28, (bO true)), (27, uN), (26, uN), (25, uN), (24, uN), (23, uN), (22, (bO true)), (21, (bO (A.ic .lss x0 0))), (20, (bO (A.ic .lss x0 0))), (19, (i6 x0)), (18, (bO false)), (17, (bO (A.ic .gtr x1 7))), (16, (bO (A.ic .gtr x1 7))), (15, (i6 x1)), (14, (bO false)), (13, (bO (A.ic .lss x1 1))), (12, (i6 x1)), (0, (pT 0 0)), (1, (i6 x0)), (2, (i6 x1))], [(0, ⟨[.one (.str x2), .one (.int .i64 x3)], 28, 1⟩)]⟩
def g12R1s3 (A : Ar) (x0 x1 : Int) (x2 : List Nat) (x3 : Int) : St := ⟨[(28, (bO (A.ic .gtr (A.ish .shr .i64 x0 (A.toN (A.ib .mul .i64 8 x1))) 0))), (27, (bO (A.ic .gtr (A.ish .shr .i64 x0 (A.toN (A.ib .mul .i64 8 x1))) 0))), (26, (i6 (A.ish .shr .i64 x0 (A.toN (A.ib .mul .i64 8 x1))))), (25, (i6 (A.ib .mul .i64 8 x1))), (24, (i6 x1)), (23, (i6 x0)), (22, (bO false)), (21, (bO (A.ic .lss x0 0))), (20, (bO (A.ic .lss x0 0))), (19, (i6 x0)), (18, (bO false)), (17, (bO (A.ic .gtr x1 7))), (16, (bO (A.ic .gtr x1 7))), (15, (i6 x1)), (14, (bO false)), (13, (bO (A.ic .lss x1 1))), (12, (i6 x1)), (0, (pT 0 0)), (1, (i6 x0)), (2, (i6 x1))], [(0, ⟨[.one (.str x2), .one (.int .i64 x3)], 28, 1⟩)]⟩
theorem g12R1 (x0 x1 : Int) (x2 : List Nat) (x3 : Int) : g12D A n (pth 9) K ⟨[(0, (pT 0 0)), (1, (i6 x0)), (2, (i6 x1))], [(0, ⟨[.one (.str x2), .one (.int .i64 x3)], 28, 1⟩)]⟩ = match (generalizing := false) A.ic .lss x1 1 with
    | true => K .normal (g12R1s0 A x0 x1 x2 x3)
    | false => match (generalizing := false) A.ic .gtr x1 7 with
      | true => K .normal (g12R1s1 A x0 x1 x2 x3)
      | false => match (generalizing := false) A.ic .lss x0 0 with
        | true => K .normal (g12R1s2 A x0 x1 x2 x3)
        | false => match (generalizing := false) A.neg (A.ib .mul .i64 8 x1) with
          | true => none
          | false => K .normal (g12R1s3 A x0 x1 x2 x3) := by kernel_rfl
def g12R2s0 (A : Ar) (x0 : List Nat) (x1 : Int) : St := ⟨[(31, (pT 0 1)), (30, (pT 0 0)), (29, (pT 0 0)), (0, (pT 0 0))], [(0, ⟨[.one (.str x0), .one (.int .i64 1)], 28, 1⟩)]⟩
theorem g12R2 (x0 : List Nat) (x1 : Int) : g12D A n (pth 37) K ⟨[(0, (pT 0 0))], [(0, ⟨[.one (.str x0), .one (.int .i64 x1)], 28, 1⟩)]⟩ = K .normal (g12R2s0 A x0 x1) := by kernel_rfl
def g12R0s0 (A : Ar) (x0 x1 : Int) (x2 : List Nat) (x3 : Int) : St := ⟨[(11, (bO (A.ic .neq x3 0))), (10, (i6 x3)), (9, (pT 0 1)), (8, (pT 0 0)), (7, (pT 0 0)), (0, (pT 0 0)), (1, (i6 x0)), (2, (i6 x1))], [(0, ⟨[.one (.str x2), .one (.int .i64 x3)], 28, 1⟩)]⟩
theorem g12R0 (x0 x1 : Int) (x2 : List Nat) (x3 : Int) : g12D A n (pth 4) K ⟨[(0, (pT 0 0)), (1, (i6 x0)), (2, (i6 x1))], [(0, ⟨[.one (.str x2), .one (.int .i64 x3)], 28, 1⟩)]⟩ = K .normal (g12R0s0 A x0 x1 x2 x3) := by kernel_rfl
end
def g12J6 {R : Type} (A : Ar) (n : Nat) (kk : AV → Heap → Option R) (lg12L4 : Int → Int → List Nat → Int → Option R) (x0 x1 : Int) (x2 : List Nat) (x3 : Int) : Option R :=
  match (generalizing := false) A.neg (A.ib .mul .i64 8 x1) with
  | true => none
  | false => match (generalizing := false) A.le (x2.length + ([A.i2n .u8 (A.ish .shr .i64 x0 (A.toN (A.ib .mul .i64 8 x1)))].take 1).length) 9223372036854775807 with
    | true => lg12L4 x0 (A.ib .sub .i64 x1 1) (x2 ++ ([A.i2n .u8 (A.ish .shr .i64 x0 (A.toN (A.ib .mul .i64 8 x1)))].take 1)) x3
    | false => none
set_option maxRecDepth 100000 in
theorem g12J6_eq {R : Type} (A : Ar) (n : Nat) (kk : AV → Heap → Option R) (m0 : Nat) (lg12L4 : Int → Int → List Nat → Int → Option R) 
    (hg12L4 : ∀ (s : St) (x0 x1 : Int) (x2 : List Nat) (x3 : Int), keep g12an 4 s = ⟨[(0, (pT 0 0)), (1, (i6 x0)), (6, (i6 x1))], [(0, ⟨[.one (.str x2), .one (.int .i64 x3)], 28, 1⟩)]⟩ → g12V A n (pth 39) m0 (blockK 0 (g12T kk)) s = lg12L4 x0 x1 x2 x3) (s : St) (x0 x1 : Int) (x2 : List Nat) (x3 : Int) (h : keep g12an 6 s = ⟨[(0, (pT 0 0)), (1, (i6 x0)), (6, (i6 x1))], [(0, ⟨[.one (.str x2), .one (.int .i64 x3)], 28, 1⟩)]⟩) :
    g12D A n (pth 103) (g12W A n (pth 39) m0 (blockK 0 (g12T kk))) s = g12J6 A n kk lg12L4 x0 x1 x2 x3 := by
  have h1 := (g12Wn A n _ _ _ _).trans (hg12L4 (g12R5s0 A x0 x1 (x2 ++ ([A.i2n .u8 (A.ish .shr .i64 x0 (A.toN (A.ib .mul .i64 8 x1)))].take 1)) x3) x0 (A.ib .sub .i64 x1 1) (x2 ++ ([A.i2n .u8 (A.ish .shr .i64 x0 (A.toN (A.ib .mul .i64 8 x1)))].take 1)) x3 (by kernel_rfl))
  have h2 := (g12F A n _ 5 _ (g12R6s0 A x0 x1 x2 x3) _ (by kernel_rfl) (by kernel_rfl)).trans (g12R5 A n (g12W A n (pth 39) m0 (blockK 0 (g12T kk))) x0 x1 (x2 ++ ([A.i2n .u8 (A.ish .shr .i64 x0 (A.toN (A.ib .mul .i64 8 x1)))].take 1)) x3)
  rw [h1] at h2
  have h3 := (g12Qn A n _ _ _).trans h2
  have h4 := (blockK_n 1 _ _).trans h3
  have h5 := (g12F A n _ 6 _ ⟨[(0, (pT 0 0)), (1, (i6 x0)), (6, (i6 x1))], [(0, ⟨[.one (.str x2), .one (.int .i64 x3)], 28, 1⟩)]⟩ _ (by kernel_rfl) (by kernel_rfl)).trans (g12R6 A n (blockK 1 (g12Q A n (pth 231) (g12W A n (pth 39) m0 (blockK 0 (g12T kk))))) x0 x1 x2 x3)
  rw [h4] at h5
  have h6 := (g12p167 A n _ _).trans h5
  have h7 := (g12p103 A n _ _).trans h6
  exact (g12F A n _ 6 _ _ ⟨[(0, (pT 0 0)), (1, (i6 x0)), (6, (i6 x1))], [(0, ⟨[.one (.str x2), .one (.int .i64 x3)], 28, 1⟩)]⟩ (by kernel_rfl) (h.trans (by kernel_rfl))).trans (h7.trans (by kernel_rfl))
def g12L4 {R : Type} (A : Ar) (n : Nat) (kk : AV → Heap → Option R)  : Nat → Int → Int → List Nat → Int → Option R
  | 0, _, _, _, _ => none
  | m + 1, x0, x1, x2, x3 => match (generalizing := false) A.ic .geq x1 0 with
  | true => g12J6 A n kk (g12L4 A n kk  m) x0 x1 x2 x3
  | false => kk (.tup []) [(0, ⟨[.one (.str x2), .one (.int .i64 x3)], 28, 1⟩)]
set_option maxRecDepth 100000 in
theorem g12L4_eq {R : Type} (A : Ar) (n : Nat) (kk : AV → Heap → Option R)    (m : Nat) (s : St) (x0 x1 : Int) (x2 : List Nat) (x3 : Int) (h : keep g12an 4 s = ⟨[(0, (pT 0 0)), (1, (i6 x0)), (6, (i6 x1))], [(0, ⟨[.one (.str x2), .one (.int .i64 x3)], 28, 1⟩)]⟩) :
    g12V A n (pth 39) m (blockK 0 (g12T kk)) s = g12L4 A n kk  m x0 x1 x2 x3 := by
  induction m generalizing s x0 x1 x2 x3 with
  | zero => rfl
  | succ m ih =>
    have h1 := (g12Qn A n _ _ _).trans (g12J6_eq A n kk m (g12L4 A n kk  m) ih  (g12R4s0 A x0 x1 x2 x3) x0 x1 x2 x3 (by kernel_rfl))
    have h2 := (g12p327 A n _ _).trans h1
    have h3 : (g12T kk) .normal (g12R4s0 A x0 x1 x2 x3) = kk (.tup []) [(0, ⟨[.one (.str x2), .one (.int .i64 x3)], 28, 1⟩)] := by kernel_rfl
    have h4 := (blockK_hit 0 _ _).trans h3
    have h5 := (g12We A n (pth 39) m _ _ _).trans h4
    have h6 := (g12Qe A n (pth 103) _ _ _).trans h5
    have h7 := (g12p455 A n _ _).trans h6
    have h8 := g12p199 A n (g12Q A n (pth 103) (g12W A n (pth 39) m (blockK 0 (g12T kk)))) (g12R4s0 A x0 x1 x2 x3) (A.ic .geq x1 0) (by kernel_rfl)
    rw [h2, h7] at h8
    have h9 := (g12Qn A n _ _ _).trans h8
    have h10 := (g12F A n _ 4 _ ⟨[(0, (pT 0 0)), (1, (i6 x0)), (6, (i6 x1))], [(0, ⟨[.one (.str x2), .one (.int .i64 x3)], 28, 1⟩)]⟩ _ (by kernel_rfl) (by kernel_rfl)).trans (g12R4 A n (g12Q A n (pth 199) (g12Q A n (pth 103) (g12W A n (pth 39) m (blockK 0 (g12T kk))))) x0 x1 x2 x3)
    rw [h9] at h10
    have h11 := (g12p71 A n _ _).trans h10
    have h12 := (g12p39 A n _ _).trans h11
    exact (loopD_first (s' := ⟨[(0, (pT 0 0)), (1, (i6 x0)), (6, (i6 x1))], [(0, ⟨[.one (.str x2), .one (.int .i64 x3)], 28, 1⟩)]⟩) (id := 4) (by kernel_rfl) (h.trans (by kernel_rfl)) _).trans ((g12Vs A n _ m _ _).trans (h12.trans (by kernel_rfl)))
def g12J3 {R : Type} (A : Ar) (n : Nat) (kk : AV → Heap → Option R)  (x0 x1 : Int) (x2 : List Nat) (x3 : Int) : Option R :=
  g12L4 A n kk  n x0 (A.ib .sub .i64 x1 1) x2 x3
set_option maxRecDepth 100000 in
theorem g12J3_eq {R : Type} (A : Ar) (n : Nat) (kk : AV → Heap → Option R)    (s : St) (x0 x1 : Int) (x2 : List Nat) (x3 : Int) (h : keep g12an 3 s = ⟨[(0, (pT 0 0)), (1, (i6 x0)), (2, (i6 x1))], [(0, ⟨[.one (.str x2), .one (.int .i64 x3)], 28, 1⟩)]⟩) :
    g12D A n (pth 7) (g12T kk) s = g12J3 A n kk  x0 x1 x2 x3 := by
  have h1 := (g12p23 A n _ _).trans (g12L4_eq A n kk    n (g12R3s0 A x0 x1 x2 x3) x0 (A.ib .sub .i64 x1 1) x2 x3 (by kernel_rfl))
  have h2 := (g12p15 A n _ _).trans h1
  have h3 := (g12Qn A n _ _ _).trans h2
  have h4 := (g12F A n _ 3 _ ⟨[(0, (pT 0 0)), (1, (i6 x0)), (2, (i6 x1))], [(0, ⟨[.one (.str x2), .one (.int .i64 x3)], 28, 1⟩)]⟩ _ (by kernel_rfl) (by kernel_rfl)).trans (g12R3 A n (g12Q A n (pth 15) (g12T kk)) x0 x1 x2 x3)
  rw [h3] at h4
  have h5 := (g12p7 A n _ _).trans h4
  exact (g12F A n _ 3 _ _ ⟨[(0, (pT 0 0)), (1, (i6 x0)), (2, (i6 x1))], [(0, ⟨[.one (.str x2), .one (.int .i64 x3)], 28, 1⟩)]⟩ (by kernel_rfl) (h.trans (by kernel_rfl))).trans (h5.trans (by kernel_rfl))
def g12J1 {R : Type} (A : Ar) (n : Nat) (kk : AV → Heap → Option R)  (x0 x1 : Int) (x2 : List Nat) (x3 : Int) : Option R :=
  match (generalizing := false) A.ic .lss x1 1 with
  | true => kk (.tup []) [(0, ⟨[.one (.str x2), .one (.int .i64 1)], 28, 1⟩)]
  | false => match (generalizing := false) A.ic .gtr x1 7 with
    | true => kk (.tup []) [(0, ⟨[.one (.str x2), .one (.int .i64 1)], 28, 1⟩)]
    | false => match (generalizing := false) A.ic .lss x0 0 with
      | true => kk (.tup []) [(0, ⟨[.one (.str x2), .one (.int .i64 1)], 28, 1⟩)]
      | false => match (generalizing := false) A.neg (A.ib .mul .i64 8 x1) with
        | true => none
        | false => match (generalizing := false) A.ic .gtr (A.ish .shr .i64 x0 (A.toN (A.ib .mul .i64 8 x1))) 0 with
          | true => kk (.tup []) [(0, ⟨[.one (.str x2), .one (.int .i64 1)], 28, 1⟩)]
          | false => g12J3 A n kk  x0 x1 x2 x3
set_option maxRecDepth 100000 in
theorem g12J1_eq {R : Type} (A : Ar) (n : Nat) (kk : AV → Heap → Option R)    (s : St) (x0 x1 : Int) (x2 : List Nat) (x3 : Int) (h : keep g12an 1 s = ⟨[(0, (pT 0 0)), (1, (i6 x0)), (2, (i6 x1))], [(0, ⟨[.one (.str x2), .one (.int .i64 x3)], 28, 1⟩)]⟩) :
    g12D A n (pth 3) (g12T kk) s = g12J1 A n kk  x0 x1 x2 x3 := by
  have h1 : (g12T kk) .ret (g12R2s0 A x2 x3) = kk (.tup []) [(0, ⟨[.one (.str x2), .one (.int .i64 1)], 28, 1⟩)] := by kernel_rfl
  have h2 := (g12Qr A n (pth 7) _ _).trans h1
  have h3 := (g12p53 A n _ _).trans h2
  have h4 := (g12Qn A n _ _ _).trans h3
  have h5 := (g12F A n _ 2 _ (g12R1s0 A x0 x1 x2 x3) _ (by kernel_rfl) (by kernel_rfl)).trans (g12R2 A n (g12Q A n (pth 53) (g12Q A n (pth 7) (g12T kk))) x2 x3)
  rw [h4] at h5
  have h6 := (g12p21 A n _ _).trans h5
  have h7 := (g12p13 A n (g12Q A n (pth 7) (g12T kk)) (g12R1s0 A x0 x1 x2 x3) true (by kernel_rfl)).trans h6
  have h8 := (g12Qn A n _ _ _).trans h7
  have h9 : (g12T kk) .ret (g12R2s0 A x2 x3) = kk (.tup []) [(0, ⟨[.one (.str x2), .one (.int .i64 1)], 28, 1⟩)] := by kernel_rfl
  have h10 := (g12Qr A n (pth 7) _ _).trans h9
  have h11 := (g12p53 A n _ _).trans h10
  have h12 := (g12Qn A n _ _ _).trans h11
  have h13 := (g12F A n _ 2 _ (g12R1s1 A x0 x1 x2 x3) _ (by kernel_rfl) (by kernel_rfl)).trans (g12R2 A n (g12Q A n (pth 53) (g12Q A n (pth 7) (g12T kk))) x2 x3)
  rw [h12] at h13
  have h14 := (g12p21 A n _ _).trans h13
  have h15 := (g12p13 A n (g12Q A n (pth 7) (g12T kk)) (g12R1s1 A x0 x1 x2 x3) true (by kernel_rfl)).trans h14
  have h16 := (g12Qn A n _ _ _).trans h15
  have h17 : (g12T kk) .ret (g12R2s0 A x2 x3) = kk (.tup []) [(0, ⟨[.one (.str x2), .one (.int .i64 1)], 28, 1⟩)] := by kernel_rfl
  have h18 := (g12Qr A n (pth 7) _ _).trans h17
  have h19 := (g12p53 A n _ _).trans h18
  have h20 := (g12Qn A n _ _ _).trans h19
  have h21 := (g12F A n _ 2 _ (g12R1s2 A x0 x1 x2 x3) _ (by kernel_rfl) (by kernel_rfl)).trans (g12R2 A n (g12Q A n (pth 53) (g12Q A n (pth 7) (g12T kk))) x2 x3)
  rw [h20] at h21
  have h22 := (g12p21 A n _ _).trans h21
  have h23 := (g12p13 A n (g12Q A n (pth 7) (g12T kk)) (g12R1s2 A x0 x1 x2 x3) true (by kernel_rfl)).trans h22
  have h24 := (g12Qn A n _ _ _).trans h23
  have h25 : (g12T kk) .ret (g12R2s0 A x2 x3) = kk (.tup []) [(0, ⟨[.one (.str x2), .one (.int .i64 1)], 28, 1⟩)] := by kernel_rfl
  have h26 := (g12Qr A n (pth 7) _ _).trans h25
  have h27 := (g12p53 A n _ _).trans h26
  have h28 := (g12Qn A n _ _ _).trans h27
  have h29 := (g12F A n _ 2 _ (g12R1s3 A x0 x1 x2 x3) _ (by kernel_rfl) (by kernel_rfl)).trans (g12R2 A n (g12Q A n (pth 53) (g12Q A n (pth 7) (g12T kk))) x2 x3)
  rw [h28] at h29
  have h30 := (g12p21 A n _ _).trans h29
  have h31 := (g12Qn A n _ _ _).trans (g12J3_eq A n kk     (g12R1s3 A x0 x1 x2 x3) x0 x1 x2 x3 (by kernel_rfl))
  have h32 := (g12p29 A n _ _).trans h31
  have h33 := g12p13 A n (g12Q A n (pth 7) (g12T kk)) (g12R1s3 A x0 x1 x2 x3) (A.ic .gtr (A.ish .shr .i64 x0 (A.toN (A.ib .mul .i64 8 x1))) 0) (by kernel_rfl)
  rw [h30, h32] at h33
  have h34 := (g12Qn A n _ _ _).trans h33
  have h35 := (g12F A n _ 1 _ ⟨[(0, (pT 0 0)), (1, (i6 x0)), (2, (i6 x1))], [(0, ⟨[.one (.str x2), .one (.int .i64 x3)], 28, 1⟩)]⟩ _ (by kernel_rfl) (by kernel_rfl)).trans (g12R1 A n (g12Q A n (pth 13) (g12Q A n (pth 7) (g12T kk))) x0 x1 x2 x3)
  rw [h8, h16, h24, h34] at h35
  have h36 := (g12p5 A n _ _).trans h35
  have h37 := (g12p3 A n _ _).trans h36
  exact (g12F A n _ 1 _ _ ⟨[(0, (pT 0 0)), (1, (i6 x0)), (2, (i6 x1))], [(0, ⟨[.one (.str x2), .one (.int .i64 x3)], 28, 1⟩)]⟩ (by kernel_rfl) (h.trans (by kernel_rfl))).trans (h37.trans (by kernel_rfl))
def g12 {R : Type} (A : Ar) (n : Nat) (kk : AV → Heap → Option R) (x0 x1 : Int) (x2 : List Nat) (x3 : Int) : Option R :=
  match (generalizing := false) A.ic .neq x3 0 with
  | true => kk (.tup []) [(0, ⟨[.one (.str x2), .one (.int .i64 x3)], 28, 1⟩)]
  | false => g12J1 A n kk  x0 x1 x2 x3
set_option maxRecDepth 100000 in
theorem g12_eq {R : Type} (A : Ar) (n : Nat) (kk : AV → Heap → Option R) (x0 x1 : Int) (x2 : List Nat) (x3 : Int) :
    funD A gtys (g12O A) g12an n (bodyOf Try.f12) g12res [(pT 0 0), (i6 x0), (i6 x1)] [(0, ⟨[.one (.str x2), .one (.int .i64 x3)], 28, 1⟩)] kk = g12 A n kk x0 x1 x2 x3 := by
  have h1 : (g12T kk) .ret (g12R0s0 A x0 x1 x2 x3) = kk (.tup []) [(0, ⟨[.one (.str x2), .one (.int .i64 x3)], 28, 1⟩)] := by kernel_rfl
  have h2 := (g12Qr A n (pth 3) _ _).trans h1
  have h3 := (g12p10 A n _ _).trans h2
  have h4 := (g12Qn A n _ _ _).trans (g12J1_eq A n kk     (g12R0s0 A x0 x1 x2 x3) x0 x1 x2 x3 (by kernel_rfl))
  have h5 := (g12p14 A n _ _).trans h4
  have h6 := g12p6 A n (g12Q A n (pth 3) (g12T kk)) (g12R0s0 A x0 x1 x2 x3) (A.ic .neq x3 0) (by kernel_rfl)
  rw [h3, h5] at h6
  have h7 := (g12Qn A n _ _ _).trans h6
  have h8 := (g12F A n _ 0 _ ⟨[(0, (pT 0 0)), (1, (i6 x0)), (2, (i6 x1))], [(0, ⟨[.one (.str x2), .one (.int .i64 x3)], 28, 1⟩)]⟩ _ (by kernel_rfl) (by kernel_rfl)).trans (g12R0 A n (g12Q A n (pth 6) (g12Q A n (pth 3) (g12T kk))) x0 x1 x2 x3)
  rw [h7] at h8
  have h9 := (g12p2 A n _ _).trans h8
  have h10 := (g12p1 A n _ _).trans h9
  exact (show funD A gtys (g12O A) g12an n (bodyOf Try.f12) g12res [(pT 0 0), (i6 x0), (i6 x1)] [(0, ⟨[.one (.str x2), .one (.int .i64 x3)], 28, 1⟩)] kk = g12D A n (pth 1) (g12T kk) ⟨[(0, (pT 0 0)), (1, (i6 x0)), (2, (i6 x1))], [(0, ⟨[.one (.str x2), .one (.int .i64 x3)], 28, 1⟩)]⟩ from by kernel_rfl).trans (h10.trans (by kernel_rfl))
def g12is (o : Option (AV × Heap)) : Bool := match o with
  | some (.tup [], [(n0, ⟨[.one (.str _), .one (.int .i64 _)], n1, n2⟩)]) => Nat.beq n0 0 && (Nat.beq n1 28 && (Nat.beq n2 1))
  | _ => false
def g12g0 (o : Option (AV × Heap)) : List Nat := match o with
  | some (.tup [], [(_, ⟨[.one (.str x), .one (.int .i64 _)], _, _⟩)]) => x
  | _ => []
def g12g1 (o : Option (AV × Heap)) : Int := match o with
  | some (.tup [], [(_, ⟨[.one (.str _), .one (.int .i64 x)], _, _⟩)]) => x
  | _ => 0
theorem g12is_spec {o : Option (AV × Heap)} (h : g12is o = true) : o = some ((.tup []), [(0, ⟨[.one (.str (g12g0 o)), .one (.int .i64 (g12g1 o))], 28, 1⟩)]) := by
  unfold g12is at h
  split at h
  · rename_i n0 z1 z2 n1 n2
    simp only [Bool.and_eq_true] at h
    have en0 := beq_true h.1
    subst en0
    replace h := h.2
    have en1 := beq_true h.1
    subst en1
    replace h := h.2
    have en2 := beq_true h
    subst en2
    rfl
  · cases h
def g12v (A : Ar) (x0 x1 : Int) (x2 : List Nat) (x3 : Int) : Option (AV × Heap) := g12 A (100000) (outH [0] none) x0 x1 x2 x3
def g12ok (A : Ar) (x0 x1 : Int) (x2 : List Nat) (x3 : Int) : Bool := g12is (g12v A x0 x1 x2 x3)
def g12r0 (A : Ar) (x0 x1 : Int) (x2 : List Nat) (x3 : Int) : List Nat := g12g0 (g12v A x0 x1 x2 x3)
def g12r1 (A : Ar) (x0 x1 : Int) (x2 : List Nat) (x3 : Int) : Int := g12g1 (g12v A x0 x1 x2 x3)
theorem g12ok_spec {A : Ar} {x0 x1 x2 x3} (h : g12ok A x0 x1 x2 x3 = true) : g12v A x0 x1 x2 x3 = some ((.tup []), [(0, ⟨[.one (.str (g12r0 A x0 x1 x2 x3)), .one (.int .i64 (g12r1 A x0 x1 x2 x3))], 28, 1⟩)]) := g12is_spec h
def g12o (A : Ar) (args : List AV) (h : Heap) : Option (Bool × AV × Heap) := match args, h with
  | [.v (.cell (.ptr n0 n1 none)), .v (.cell (.int .i64 x0)), .v (.cell (.int .i64 x1))], [(n2, ⟨[.one (.str x2), .one (.int .i64 x3)], n3, n4⟩)] => match Nat.beq n0 0 && (Nat.beq n1 0 && (Nat.beq n2 0 && (Nat.beq n3 28 && (Nat.beq n4 1)))) with
    | true => some (g12ok A x0 x1 x2 x3, (.tup []), [(0, ⟨[.one (.str (g12r0 A x0 x1 x2 x3)), .one (.int .i64 (g12r1 A x0 x1 x2 x3))], 28, 1⟩)])
    | false => none
  | _, _ => none
theorem g12o_sound : ∀ args h v h', g12o realA args h = some (true, v, h') → FnH Try.prog 12 args h v h' := by
  intro args h v h' hh
  unfold g12o at hh
  split at hh
  · rename_i n0 n1 x0 x1 n2 x2 x3 n3 n4
    split at hh
    case h_2 => cases hh
    rename_i hc0
    simp only [Option.some.injEq, Prod.mk.injEq] at hh
    obtain ⟨hc, hv, hh⟩ := hh
    subst hv
    subst hh
    simp only [Bool.and_eq_true] at hc0
    have en0 := beq_true hc0.1
    subst en0
    replace hc0 := hc0.2
    have en1 := beq_true hc0.1
    subst en1
    replace hc0 := hc0.2
    have en2 := beq_true hc0.1
    subst en2
    replace hc0 := hc0.2
    have en3 := beq_true hc0.1
    subst en3
    replace hc0 := hc0.2
    have en4 := beq_true hc0
    subst en4
    exact fnh_of mixed gtysOK g12O_sound g12O_det (an := g12an) (n := 100000) Try.func12 (c := bodyOf Try.f12) rfl (by kernel_rfl) Try.call12 (Nat.le_of_ble_eq_true rfl) (pins := [0]) (nilr := none) (fun _ => (g12_eq realA (100000) (outH [0] none) x0 x1 x2 x3).trans (show g12v realA x0 x1 x2 x3 = _ from g12ok_spec hc))
  · cases hh
def g14O (A : Ar) : Orc := orcOf []
theorem g14O_sound : OSound Try.prog (g14O realA) := orc_sound fun f g hm args v hv => by
  cases hm
theorem g14O_det : ODet (g14O realA) := orc_det _
def g14an : Ann := [(0, ([0, 1], [0])), (1, ([0, 1], [0]))]
def g14res : List ResultVar := []
noncomputable def g14D {R : Type} (A : Ar) (n : Nat) (p : List Bool) (K : Ex → St → Option R) (s : St) : Option R := codeD A gtys (g14O A) g14an n (sub (bodyOf Try.f14) p) K s
noncomputable def g14Q {R : Type} (A : Ar) (n : Nat) (p : List Bool) (K : Ex → St → Option R) : Ex → St → Option R := seqC (g14D A n p K) K
noncomputable def g14T {R : Type} (kk : AV → Heap → Option R) : Ex → St → Option R := finD gtys g14res kk
theorem g14Qn {R : Type} (A : Ar) (n : Nat) (p : List Bool) (K : Ex → St → Option R) (s : St) : g14Q A n p K .normal s = g14D A n p K s := rfl
theorem g14F {R : Type} (A : Ar) (n : Nat) (p : List Bool) (i : Nat) (K : Ex → St → Option R) (s s' : St) (hf : firstReg (sub (bodyOf Try.f14) p) = some i) (h : keep g14an i s = keep g14an i s') : g14D A n p K s = g14D A n p K s' := codeD_first hf h K
section
variable {R : Type} (A : Ar) (n : Nat) (K : Ex → St → Option R) (s : St)
theorem g14p1 : g14D A n (pth 1) K s = g14D A n (pth 2) (g14Q A n (pth 3) K) s := by kernel_rfl
theorem g14p3 (t : Bool) : ev s (.tmp 8) = some (.v (.cell (.bool t))) → g14D A n (pth 3) K s = (match t with
    | true => g14D A n (pth 5) K s
    | false => g14D A n (pth 7) K s) := codeD_cond t
theorem g14p7 : g14D A n (pth 7) K s = K .normal s := by kernel_rfl
def g14R0s0 (A : Ar) (x0 x1 : List Nat) (x2 : Int) : St := ⟨[(8, (bO (A.ic .eql x2 0))), (7, (i6 x2)), (6, (pT 0 1)), (5, (pT 0 0)), (4, (pT 0 0)), (0, (pT 0 0)), (1, (tS x0))], [(0, ⟨[.one (.str x1), .one (.int .i64 x2)], 28, 1⟩)]⟩
theorem g14R0 (x0 x1 : List Nat) (x2 : Int) : g14D A n (pth 2) K ⟨[(0, (pT 0 0)), (1, (tS x0))], [(0, ⟨[.one (.str x1), .one (.int .i64 x2)], 28, 1⟩)]⟩ = K .normal (g14R0s0 A x0 x1 x2) := by kernel_rfl
def g14R1s0 (A : Ar) (x0 x1 : List Nat) (x2 : Int) : St := ⟨[(17, (pT 0 0)), (16, (pT 0 0)), (15, (tS (x1 ++ x0))), (14, (tS x0)), (13, (tS x1)), (12, (pT 0 0)), (11, (pT 0 0)), (10, (pT 0 0)), (9, (pT 0 0)), (0, (pT 0 0)), (1, (tS x0))], [(0, ⟨[.one (.str (x1 ++ x0)), .one (.int .i64 x2)], 28, 1⟩)]⟩
theorem g14R1 (x0 x1 : List Nat) (x2 : Int) : g14D A n (pth 5) K ⟨[(0, (pT 0 0)), (1, (tS x0))], [(0, ⟨[.one (.str x1), .one (.int .i64 x2)], 28, 1⟩)]⟩ = match (generalizing := false) A.le (x1.length + x0.length) 9223372036854775807 with
    | true => K .normal (g14R1s0 A x0 x1 x2)
    | false => none := by kernel_rfl
end
def g14 {R : Type} (A : Ar) (n : Nat) (kk : AV → Heap → Option R) (x0 x1 : List Nat) (x2 : Int) : Option R :=
  match (generalizing := false) A.ic .eql x2 0 with
  | true => match (generalizing := false) A.le (x1.length + x0.length) 9223372036854775807 with
    | true => kk (.tup []) [(0, ⟨[.one (.str (x1 ++ x0)), .one (.int .i64 x2)], 28, 1⟩)]
    | false => none
  | false => kk (.tup []) [(0, ⟨[.one (.str x1), .one (.int .i64 x2)], 28, 1⟩)]
set_option maxRecDepth 100000 in
theorem g14_eq {R : Type} (A : Ar) (n : Nat) (kk : AV → Heap → Option R) (x0 x1 : List Nat) (x2 : Int) :
    funD A gtys (g14O A) g14an n (bodyOf Try.f14) g14res [(pT 0 0), (tS x0)] [(0, ⟨[.one (.str x1), .one (.int .i64 x2)], 28, 1⟩)] kk = g14 A n kk x0 x1 x2 := by
  have h1 : (g14T kk) .normal (g14R1s0 A x0 x1 x2) = kk (.tup []) [(0, ⟨[.one (.str (x1 ++ x0)), .one (.int .i64 x2)], 28, 1⟩)] := by kernel_rfl
  have h2 := (g14F A n _ 1 _ (g14R0s0 A x0 x1 x2) _ (by kernel_rfl) (by kernel_rfl)).trans (g14R1 A n (g14T kk) x0 x1 x2)
  rw [h1] at h2
  have h3 : (g14T kk) .normal (g14R0s0 A x0 x1 x2) = kk (.tup []) [(0, ⟨[.one (.str x1), .one (.int .i64 x2)], 28, 1⟩)] := by kernel_rfl
  have h4 := (g14p7 A n _ _).trans h3
  have h5 := g14p3 A n (g14T kk) (g14R0s0 A x0 x1 x2) (A.ic .eql x2 0) (by kernel_rfl)
  rw [h2, h4] at h5
  have h6 := (g14Qn A n _ _ _).trans h5
  have h7 := (g14F A n _ 0 _ ⟨[(0, (pT 0 0)), (1, (tS x0))], [(0, ⟨[.one (.str x1), .one (.int .i64 x2)], 28, 1⟩)]⟩ _ (by kernel_rfl) (by kernel_rfl)).trans (g14R0 A n (g14Q A n (pth 3) (g14T kk)) x0 x1 x2)
  rw [h6] at h7
  have h8 := (g14p1 A n _ _).trans h7
  exact (show funD A gtys (g14O A) g14an n (bodyOf Try.f14) g14res [(pT 0 0), (tS x0)] [(0, ⟨[.one (.str x1), .one (.int .i64 x2)], 28, 1⟩)] kk = g14D A n (pth 1) (g14T kk) ⟨[(0, (pT 0 0)), (1, (tS x0))], [(0, ⟨[.one (.str x1), .one (.int .i64 x2)], 28, 1⟩)]⟩ from by kernel_rfl).trans (h8.trans (by kernel_rfl))
def g14is (o : Option (AV × Heap)) : Bool := match o with
  | some (.tup [], [(n0, ⟨[.one (.str _), .one (.int .i64 _)], n1, n2⟩)]) => Nat.beq n0 0 && (Nat.beq n1 28 && (Nat.beq n2 1))
  | _ => false
def g14g0 (o : Option (AV × Heap)) : List Nat := match o with
  | some (.tup [], [(_, ⟨[.one (.str x), .one (.int .i64 _)], _, _⟩)]) => x
  | _ => []
def g14g1 (o : Option (AV × Heap)) : Int := match o with
  | some (.tup [], [(_, ⟨[.one (.str _), .one (.int .i64 x)], _, _⟩)]) => x
  | _ => 0
theorem g14is_spec {o : Option (AV × Heap)} (h : g14is o = true) : o = some ((.tup []), [(0, ⟨[.one (.str (g14g0 o)), .one (.int .i64 (g14g1 o))], 28, 1⟩)]) := by
  unfold g14is at h
  split at h
  · rename_i n0 z1 z2 n1 n2
    simp only [Bool.and_eq_true] at h
    have en0 := beq_true h.1
    subst en0
    replace h := h.2
    have en1 := beq_true h.1
    subst en1
    replace h := h.2
    have en2 := beq_true h
    subst en2
    rfl
  · cases h
def g14v (A : Ar) (x0 x1 : List Nat) (x2 : Int) : Option (AV × Heap) := g14 A (100000) (outH [0] none) x0 x1 x2
def g14ok (A : Ar) (x0 x1 : List Nat) (x2 : Int) : Bool := g14is (g14v A x0 x1 x2)
def g14r0 (A : Ar) (x0 x1 : List Nat) (x2 : Int) : List Nat := g14g0 (g14v A x0 x1 x2)
def g14r1 (A : Ar) (x0 x1 : List Nat) (x2 : Int) : Int := g14g1 (g14v A x0 x1 x2)
theorem g14ok_spec {A : Ar} {x0 x1 x2} (h : g14ok A x0 x1 x2 = true) : g14v A x0 x1 x2 = some ((.tup []), [(0, ⟨[.one (.str (g14r0 A x0 x1 x2)), .one (.int .i64 (g14r1 A x0 x1 x2))], 28, 1⟩)]) := g14is_spec h
def g14o (A : Ar) (args : List AV) (h : Heap) : Option (Bool × AV × Heap) := match args, h with
  | [.v (.cell (.ptr n0 n1 none)), .v (.cell (.str x0))], [(n2, ⟨[.one (.str x1), .one (.int .i64 x2)], n3, n4⟩)] => match Nat.beq n0 0 && (Nat.beq n1 0 && (Nat.beq n2 0 && (Nat.beq n3 28 && (Nat.beq n4 1)))) with
    | true => some (g14ok A x0 x1 x2, (.tup []), [(0, ⟨[.one (.str (g14r0 A x0 x1 x2)), .one (.int .i64 (g14r1 A x0 x1 x2))], 28, 1⟩)])
    | false => none
  | _, _ => none
theorem g14o_sound : ∀ args h v h', g14o realA args h = some (true, v, h') → FnH Try.prog 14 args h v h' := by
  intro args h v h' hh
  unfold g14o at hh
  split at hh
  · rename_i n0 n1 x0 n2 x1 x2 n3 n4
    split at hh
    case h_2 => cases hh
    rename_i hc0
    simp only [Option.some.injEq, Prod.mk.injEq] at hh
    obtain ⟨hc, hv, hh⟩ := hh
    subst hv
    subst hh
    simp only [Bool.and_eq_true] at hc0
    have en0 := beq_true hc0.1
    subst en0
    replace hc0 := hc0.2
    have en1 := beq_true hc0.1
    subst en1
    replace hc0 := hc0.2
    have en2 := beq_true hc0.1
    subst en2
    replace hc0 := hc0.2
    have en3 := beq_true hc0.1
    subst en3
    replace hc0 := hc0.2
    have en4 := beq_true hc0
    subst en4
    exact fnh_of mixed gtysOK g14O_sound g14O_det (an := g14an) (n := 100000) Try.func14 (c := bodyOf Try.f14) rfl (by kernel_rfl) Try.call14 (Nat.le_of_ble_eq_true rfl) (pins := [0]) (nilr := none) (fun _ => (g14_eq realA (100000) (outH [0] none) x0 x1 x2).trans (show g14v realA x0 x1 x2 = _ from g14ok_spec hc))
  · cases hh
def g16O (A : Ar) : Orc := orcH [] [(12, ⟨[], none, (g12o A)⟩), (14, ⟨[], none, (g14o A)⟩)]
theorem g16O_sound : OSound Try.prog (g16O realA) := orcH_sound (fun f g hm args v hv => by
    cases hm) (fun f e hm args h v h' hv => by
    simp only [List.mem_cons, List.not_mem_nil, or_false, Prod.mk.injEq] at hm
    rcases hm with ⟨rfl, rfl⟩ | ⟨rfl, rfl⟩
    · exact g12o_sound _ _ _ _ hv
    · exact g14o_sound _ _ _ _ hv)
theorem g16O_det : ODet (g16O realA) := orcH_det _ _
def g16an : Ann := [(0, ([0, 1, 2], [0])), (1, ([0, 1], [0]))]
def g16res : List ResultVar := []
noncomputable def g16D {R : Type} (A : Ar) (n : Nat) (p : List Bool) (K : Ex → St → Option R) (s : St) : Option R := codeD A gtys (g16O A) g16an n (sub (bodyOf Try.f16) p) K s
noncomputable def g16Q {R : Type} (A : Ar) (n : Nat) (p : List Bool) (K : Ex → St → Option R) : Ex → St → Option R := seqC (g16D A n p K) K
noncomputable def g16T {R : Type} (kk : AV → Heap → Option R) : Ex → St → Option R := finD gtys g16res kk
theorem g16Qn {R : Type} (A : Ar) (n : Nat) (p : List Bool) (K : Ex → St → Option R) (s : St) : g16Q A n p K .normal s = g16D A n p K s := rfl
theorem g16F {R : Type} (A : Ar) (n : Nat) (p : List Bool) (i : Nat) (K : Ex → St → Option R) (s s' : St) (hf : firstReg (sub (bodyOf Try.f16) p) = some i) (h : keep g16an i s = keep g16an i s') : g16D A n p K s = g16D A n p K s' := codeD_first hf h K
section
variable {R : Type} (A : Ar) (n : Nat) (K : Ex → St → Option R) (s : St)
theorem g16p1 : g16D A n (pth 1) K s = g16D A n (pth 2) (g16Q A n (pth 3) K) s := by kernel_rfl
def g16R0s0 (A : Ar) (x0 : List Nat) (x1 : Int) (x2 : List Nat) (x3 : Int) : St := ⟨[(10, (.tup [])), (9, (i6 x1)), (8, (i6 (A.ofN x0.length))), (7, (tS x0)), (6, (pT 0 0)), (0, (pT 0 0)), (1, (tS x0)), (2, (i6 x1))], [(0, ⟨[.one (.str (g12r0 A (A.ofN x0.length) x1 x2 x3)), .one (.int .i64 (g12r1 A (A.ofN x0.length) x1 x2 x3))], 28, 1⟩)]⟩
theorem g16R0 (x0 : List Nat) (x1 : Int) (x2 : List Nat) (x3 : Int) : g16D A n (pth 2) K ⟨[(0, (pT 0 0)), (1, (tS x0)), (2, (i6 x1))], [(0, ⟨[.one (.str x2), .one (.int .i64 x3)], 28, 1⟩)]⟩ = match (generalizing := false) g12ok A (A.ofN x0.length) x1 x2 x3 with
    | true => K .normal (g16R0s0 A x0 x1 x2 x3)
    | false => none := by kernel_rfl
def g16R1s0 (A : Ar) (x0 x1 : List Nat) (x2 : Int) : St := ⟨[(13, (.tup [])), (12, (tS x0)), (11, (pT 0 0)), (0, (pT 0 0)), (1, (tS x0))], [(0, ⟨[.one (.str (g14r0 A x0 x1 x2)), .one (.int .i64 (g14r1 A x0 x1 x2))], 28, 1⟩)]⟩
theorem g16R1 (x0 x1 : List Nat) (x2 : Int) : g16D A n (pth 3) K ⟨[(0, (pT 0 0)), (1, (tS x0))], [(0, ⟨[.one (.str x1), .one (.int .i64 x2)], 28, 1⟩)]⟩ = match (generalizing := false) g14ok A x0 x1 x2 with
    | true => K .normal (g16R1s0 A x0 x1 x2)
    | false => none := by kernel_rfl
end
def g16 {R : Type} (A : Ar) (n : Nat) (kk : AV → Heap → Option R) (x0 : List Nat) (x1 : Int) (x2 : List Nat) (x3 : Int) : Option R :=
  match (generalizing := false) g12ok A (A.ofN x0.length) x1 x2 x3 with
  | true => match (generalizing := false) g14ok A x0 (g12r0 A (A.ofN x0.length) x1 x2 x3) (g12r1 A (A.ofN x0.length) x1 x2 x3) with
    | true => kk (.tup []) [(0, ⟨[.one (.str (g14r0 A x0 (g12r0 A (A.ofN x0.length) x1 x2 x3) (g12r1 A (A.ofN x0.length) x1 x2 x3))), .one (.int .i64 (g14r1 A x0 (g12r0 A (A.ofN x0.length) x1 x2 x3) (g12r1 A (A.ofN x0.length) x1 x2 x3)))], 28, 1⟩)]
    | false => none
  | false => none
set_option maxRecDepth 100000 in
theorem g16_eq {R : Type} (A : Ar) (n : Nat) (kk : AV → Heap → Option R) (x0 : List Nat) (x1 : Int) (x2 : List Nat) (x3 : Int) :
    funD A gtys (g16O A) g16an n (bodyOf Try.f16) g16res [(pT 0 0), (tS x0), (i6 x1)] [(0, ⟨[.one (.str x2), .one (.int .i64 x3)], 28, 1⟩)] kk = g16 A n kk x0 x1 x2 x3 := by
  have h1 : (g16T kk) .normal (g16R1s0 A x0 (g12r0 A (A.ofN x0.length) x1 x2 x3) (g12r1 A (A.ofN x0.length) x1 x2 x3)) = kk (.tup []) [(0, ⟨[.one (.str (g14r0 A x0 (g12r0 A (A.ofN x0.length) x1 x2 x3) (g12r1 A (A.ofN x0.length) x1 x2 x3))), .one (.int .i64 (g14r1 A x0 (g12r0 A (A.ofN x0.length) x1 x2 x3) (g12r1 A (A.ofN x0.length) x1 x2 x3)))], 28, 1⟩)] := by kernel_rfl
  have h2 := (g16F A n _ 1 _ (g16R0s0 A x0 x1 x2 x3) _ (by kernel_rfl) (by kernel_rfl)).trans (g16R1 A n (g16T kk) x0 (g12r0 A (A.ofN x0.length) x1 x2 x3) (g12r1 A (A.ofN x0.length) x1 x2 x3))
  rw [h1] at h2
  have h3 := (g16Qn A n _ _ _).trans h2
  have h4 := (g16F A n _ 0 _ ⟨[(0, (pT 0 0)), (1, (tS x0)), (2, (i6 x1))], [(0, ⟨[.one (.str x2), .one (.int .i64 x3)], 28, 1⟩)]⟩ _ (by kernel_rfl) (by kernel_rfl)).trans (g16R0 A n (g16Q A n (pth 3) (g16T kk)) x0 x1 x2 x3)
  rw [h3] at h4
  have h5 := (g16p1 A n _ _).trans h4
  exact (show funD A gtys (g16O A) g16an n (bodyOf Try.f16) g16res [(pT 0 0), (tS x0), (i6 x1)] [(0, ⟨[.one (.str x2), .one (.int .i64 x3)], 28, 1⟩)] kk = g16D A n (pth 1) (g16T kk) ⟨[(0, (pT 0 0)), (1, (tS x0)), (2, (i6 x1))], [(0, ⟨[.one (.str x2), .one (.int .i64 x3)], 28, 1⟩)]⟩ from by kernel_rfl).trans (h5.trans (by kernel_rfl))
def g16is (o : Option (AV × Heap)) : Bool := match o with
  | some (.tup [], [(n0, ⟨[.one (.str _), .one (.int .i64 _)], n1, n2⟩)]) => Nat.beq n0 0 && (Nat.beq n1 28 && (Nat.beq n2 1))
  | _ => false
def g16g0 (o : Option (AV × Heap)) : List Nat := match o with
  | some (.tup [], [(_, ⟨[.one (.str x), .one (.int .i64 _)], _, _⟩)]) => x
  | _ => []
def g16g1 (o : Option (AV × Heap)) : Int := match o with
  | some (.tup [], [(_, ⟨[.one (.str _), .one (.int .i64 x)], _, _⟩)]) => x
  | _ => 0
theorem g16is_spec {o : Option (AV × Heap)} (h : g16is o = true) : o = some ((.tup []), [(0, ⟨[.one (.str (g16g0 o)), .one (.int .i64 (g16g1 o))], 28, 1⟩)]) := by
  unfold g16is at h
  split at h
  · rename_i n0 z1 z2 n1 n2
    simp only [Bool.and_eq_true] at h
    have en0 := beq_true h.1
    subst en0
    replace h := h.2
    have en1 := beq_true h.1
    subst en1
    replace h := h.2
    have en2 := beq_true h
    subst en2
    rfl
  · cases h
def g16v (A : Ar) (x0 : List Nat) (x1 : Int) (x2 : List Nat) (x3 : Int) : Option (AV × Heap) := g16 A (100000) (outH [0] none) x0 x1 x2 x3
def g16ok (A : Ar) (x0 : List Nat) (x1 : Int) (x2 : List Nat) (x3 : Int) : Bool := g16is (g16v A x0 x1 x2 x3)
def g16r0 (A : Ar) (x0 : List Nat) (x1 : Int) (x2 : List Nat) (x3 : Int) : List Nat := g16g0 (g16v A x0 x1 x2 x3)
def g16r1 (A : Ar) (x0 : List Nat) (x1 : Int) (x2 : List Nat) (x3 : Int) : Int := g16g1 (g16v A x0 x1 x2 x3)
theorem g16ok_spec {A : Ar} {x0 x1 x2 x3} (h : g16ok A x0 x1 x2 x3 = true) : g16v A x0 x1 x2 x3 = some ((.tup []), [(0, ⟨[.one (.str (g16r0 A x0 x1 x2 x3)), .one (.int .i64 (g16r1 A x0 x1 x2 x3))], 28, 1⟩)]) := g16is_spec h
def g16o (A : Ar) (args : List AV) (h : Heap) : Option (Bool × AV × Heap) := match args, h with
  | [.v (.cell (.ptr n0 n1 none)), .v (.cell (.str x0)), .v (.cell (.int .i64 x1))], [(n2, ⟨[.one (.str x2), .one (.int .i64 x3)], n3, n4⟩)] => match Nat.beq n0 0 && (Nat.beq n1 0 && (Nat.beq n2 0 && (Nat.beq n3 28 && (Nat.beq n4 1)))) with
    | true => some (g16ok A x0 x1 x2 x3, (.tup []), [(0, ⟨[.one (.str (g16r0 A x0 x1 x2 x3)), .one (.int .i64 (g16r1 A x0 x1 x2 x3))], 28, 1⟩)])
    | false => none
  | _, _ => none
theorem g16o_sound : ∀ args h v h', g16o realA args h = some (true, v, h') → FnH Try.prog 16 args h v h' := by
  intro args h v h' hh
  unfold g16o at hh
  split at hh
  · rename_i n0 n1 x0 x1 n2 x2 x3 n3 n4
    split at hh
    case h_2 => cases hh
    rename_i hc0
    simp only [Option.some.injEq, Prod.mk.injEq] at hh
    obtain ⟨hc, hv, hh⟩ := hh
    subst hv
    subst hh
    simp only [Bool.and_eq_true] at hc0
    have en0 := beq_true hc0.1
    subst en0
    replace hc0 := hc0.2
    have en1 := beq_true hc0.1
    subst en1
    replace hc0 := hc0.2
    have en2 := beq_true hc0.1
    subst en2
    replace hc0 := hc0.2
    have en3 := beq_true hc0.1
    subst en3
    replace hc0 := hc0.2
    have en4 := beq_true hc0
    subst en4
    exact fnh_of mixed gtysOK g16O_sound g16O_det (an := g16an) (n := 100000) Try.func16 (c := bodyOf Try.f16) rfl (by kernel_rfl) Try.call16 (Nat.le_of_ble_eq_true rfl) (pins := [0]) (nilr := none) (fun _ => (g16_eq realA (100000) (outH [0] none) x0 x1 x2 x3).trans (show g16v realA x0 x1 x2 x3 = _ from g16ok_spec hc))
  · cases hh
end Go.Sx
