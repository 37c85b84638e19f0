import Derived.Test.YtnnepclpggbjgaaSxS03R
import Derived.Test.YtnnepclpggbjgaaSxS03Z
/- printed by sxgen -/
namespace Go.Sx
open Go.Proofs
set_option linter.unusedVariables false
/- engrosser/engrosserref03.Right -/
def g31O (A : Ar) : Orc := orcOf [(39, g39o A), (40, g40o A)]
theorem g31O_sound : OSound Try.prog (g31O realA) := orc_sound fun f g hm args v hv => by
  simp only [List.mem_cons, List.not_mem_nil, or_false, Prod.mk.injEq] at hm
  rcases hm with ⟨rfl, rfl⟩ | ⟨rfl, rfl⟩
  · exact g39o_sound _ _ hv
  · exact g40o_sound _ _ hv
theorem g31O_det : ODet (g31O realA) := orc_det _
def g31an : Ann := [(0, ([0], [])), (1, ([1], [1000]))]
def g31res : List ResultVar := [.tmp 2]
noncomputable def g31D {R : Type} (A : Ar) (n : Nat) (p : List Bool) (K : Ex → St → Option R) (s : St) : Option R := codeD A gtys (g31O A) g31an n (sub (bodyOf Try.f31) p) K s
noncomputable def g31Q {R : Type} (A : Ar) (n : Nat) (p : List Bool) (K : Ex → St → Option R) : Ex → St → Option R := seqC (g31D A n p K) K
noncomputable def g31T {R : Type} (kk : AV → Heap → Option R) : Ex → St → Option R := finD gtys g31res kk
theorem g31Qn {R : Type} (A : Ar) (n : Nat) (p : List Bool) (K : Ex → St → Option R) (s : St) : g31Q A n p K .normal s = g31D A n p K s := rfl
theorem g31F {R : Type} (A : Ar) (n : Nat) (p : List Bool) (i : Nat) (K : Ex → St → Option R) (s s' : St) (hf : firstReg (sub (bodyOf Try.f31) p) = some i) (h : keep g31an i s = keep g31an i s') : g31D A n p K s = g31D A n p K s' := codeD_first hf h K
section
variable {R : Type} (A : Ar) (n : Nat) (K : Ex → St → Option R) (s : St)
theorem g31p1 : g31D A n (pth 1) K s = g31D A n (pth 2) (g31Q A n (pth 3) K) s := by kernel_rfl
theorem g31p3 : g31D A n (pth 3) K s = g31D A n (pth 5) (g31Q A n (pth 7) K) s := by kernel_rfl
theorem g31p7 : g31D A n (pth 7) K s = K .ret s := by kernel_rfl
def g31R0s0 (A : Ar) (x0 : List Nat) : St := ⟨[(2, (bO false)), (1, (pT 1000 0)), (0, (aN .u64 4 x0))], [(1000, (bU 4 x0 24))]⟩
theorem g31R0 (x0 : List Nat) : g31D A n (pth 2) K ⟨[(0, (aN .u64 4 x0))], []⟩ = K .normal (g31R0s0 A x0) := by kernel_rfl
def g31R1s0 (A : Ar) (x0 : List Nat) : St := ⟨[(2, (bO ((A.lq (g40r0 A (g39r0 A x0)) x0) && true))), (7, (bO ((A.lq (g40r0 A (g39r0 A x0)) x0) && true))), (6, (aN .u64 4 x0)), (5, (aN .u64 4 (g40r0 A (g39r0 A x0)))), (4, (aN .u32 8 (g39r0 A x0))), (3, (aN .u64 4 x0)), (1, (pT 1000 0))], [(1000, (bU 4 x0 24))]⟩
theorem g31R1 (x0 : List Nat) : g31D A n (pth 5) K ⟨[(1, (pT 1000 0))], [(1000, (bU 4 x0 24))]⟩ = match (generalizing := false) g39ok A x0 with
    | true => match (generalizing := false) g40ok A (g39r0 A x0) with
      | true => K .normal (g31R1s0 A x0)
      | false => none
    | false => none := by kernel_rfl
end
def g31 {R : Type} (A : Ar) (n : Nat) (kk : AV → Heap → Option R) (a : List Nat) : Option R :=
  match (generalizing := false) g39ok A a with
  | true => match (generalizing := false) g40ok A (g39r0 A a) with
    | true => kk (bO ((A.lq (g40r0 A (g39r0 A a)) a) && true)) [(1000, (bU 4 a 24))]
    | false => none
  | false => none
set_option maxRecDepth 100000 in
theorem g31_eq {R : Type} (A : Ar) (n : Nat) (kk : AV → Heap → Option R) (a : List Nat) :
    funD A gtys (g31O A) g31an n (bodyOf Try.f31) g31res [(aN .u64 4 a)] [] kk = g31 A n kk a := by
  have h1 : (g31T kk) .ret (g31R1s0 A a) = kk (bO ((A.lq (g40r0 A (g39r0 A a)) a) && true)) [(1000, (bU 4 a 24))] := by kernel_rfl
  have h2 := (g31p7 A n _ _).trans h1
  have h3 := (g31Qn A n _ _ _).trans h2
  have h4 := (g31F A n _ 1 _ (g31R0s0 A a) _ (by kernel_rfl) (by kernel_rfl)).trans (g31R1 A n (g31Q A n (pth 7) (g31T kk)) a)
  rw [h3] at h4
  have h5 := (g31p3 A n _ _).trans h4
  have h6 := (g31Qn A n _ _ _).trans h5
  have h7 := (g31F A n _ 0 _ ⟨[(0, (aN .u64 4 a))], []⟩ _ (by kernel_rfl) (by kernel_rfl)).trans (g31R0 A n (g31Q A n (pth 3) (g31T kk)) a)
  rw [h6] at h7
  have h8 := (g31p1 A n _ _).trans h7
  exact (show funD A gtys (g31O A) g31an n (bodyOf Try.f31) g31res [(aN .u64 4 a)] [] kk = g31D A n (pth 1) (g31T kk) ⟨[(0, (aN .u64 4 a))], []⟩ from by kernel_rfl).trans (h8.trans (by kernel_rfl))
def g31is (o : Option AV) : Bool := match o with
  | some (.v (.cell (.bool _))) => true
  | _ => false
def g31g0 (o : Option AV) : Bool := match o with
  | some (.v (.cell (.bool x))) => x
  | _ => false
theorem g31is_spec {o : Option AV} (h : g31is o = true) : o = some (.v (.cell (.bool (g31g0 o)))) := by
  unfold g31is at h
  split at h
  · rfl
  · cases h
def g31v (A : Ar) (a : List Nat) : Option AV := g31 A (100000) (fun v _ => some v) a
def g31ok (A : Ar) (a : List Nat) : Bool := g31is (g31v A a)
def g31r0 (A : Ar) (a : List Nat) : Bool := g31g0 (g31v A a)
theorem g31ok_spec {A : Ar} {a} (h : g31ok A a = true) : g31v A a = some (.v (.cell (.bool (g31r0 A a)))) := g31is_spec h
def g31o (A : Ar) (args : List AV) : Option (Bool × AV) := match args with
  | [.v (.agg [.nums .u64 n0 a])] => some (Nat.beq n0 4 && (g31ok A a), .v (.cell (.bool (g31r0 A a))))
  | _ => none
theorem g31o_sound : ∀ args v, g31o realA args = some (true, v) → Fn1 Try.prog 31 args v := by
  intro args v h
  unfold g31o at h
  split at h
  · rename_i n0 a
    simp only [Option.some.injEq, Prod.mk.injEq] at h
    obtain ⟨hc, h⟩ := h
    subst h
    · skip
      simp only [Bool.and_eq_true] at hc
      have en0 := beq_true hc.1
      subst en0
      replace hc := hc.2
      exact fn1_of mixed gtysOK g31O_sound g31O_det (an := g31an) (n := 100000) Try.func31 (c := bodyOf Try.f31) rfl (by kernel_rfl) Try.call31 (Nat.le_of_ble_eq_true rfl) (fun b => rfl) (fun _ => (g31_eq realA (100000) (fun v _ => some v) a).trans (show g31v realA a = _ from g31ok_spec hc))
  · cases h
/- engrosser/engrosserref03.Make -/
def g30O (A : Ar) : Orc := orcOf [(31, g31o A)]
theorem g30O_sound : OSound Try.prog (g30O realA) := orc_sound fun f g hm args v hv => by
  simp only [List.mem_cons, List.not_mem_nil, or_false, Prod.mk.injEq] at hm
  rcases hm with ⟨rfl, rfl⟩
  · exact g31o_sound _ _ hv
theorem g30O_det : ODet (g30O realA) := orc_det _
def g30an : Ann := [(0, ([0], [])), (1, ([0, 2], [1000])), (2, ([2], [1000])), (3, ([0, 2], [1000])), (4, ([0, 2, 4], [1000, 4000])), (5, ([0, 2, 4, 5], [1000, 4000])), (6, ([0, 2, 4, 5], [1000, 4000])), (7, ([0, 2, 4, 5], [1000, 4000])), (8, ([2, 4], [1000, 4000])), (9, ([2], [1000])), (10, ([2, 4], [1000, 4000]))]
def g30res : List ResultVar := [.cell 2 24, .tmp 3]
noncomputable def g30D {R : Type} (A : Ar) (n : Nat) (p : List Bool) (K : Ex → St → Option R) (s : St) : Option R := codeD A gtys (g30O A) g30an n (sub (bodyOf Try.f30) p) K s
noncomputable def g30V {R : Type} (A : Ar) (n : Nat) (p : List Bool) (m : Nat) (K : Ex → St → Option R) (s : St) : Option R := loopD (fun K' s'' => codeD A gtys (g30O A) g30an n (sub (bodyOf Try.f30) p) K' s'') m K s
noncomputable def g30Q {R : Type} (A : Ar) (n : Nat) (p : List Bool) (K : Ex → St → Option R) : Ex → St → Option R := seqC (g30D A n p K) K
noncomputable def g30W {R : Type} (A : Ar) (n : Nat) (p : List Bool) (m : Nat) (K : Ex → St → Option R) : Ex → St → Option R := seqC (g30V A n p m K) K
noncomputable def g30T {R : Type} (kk : AV → Heap → Option R) : Ex → St → Option R := finD gtys g30res kk
theorem g30Qn {R : Type} (A : Ar) (n : Nat) (p : List Bool) (K : Ex → St → Option R) (s : St) : g30Q A n p K .normal s = g30D A n p K s := rfl
theorem g30Qe {R : Type} (A : Ar) (n : Nat) (p : List Bool) (K : Ex → St → Option R) (i : Nat) (s : St) : g30Q A n p K (.exit i) s = K (.exit i) s := rfl
theorem g30Qr {R : Type} (A : Ar) (n : Nat) (p : List Bool) (K : Ex → St → Option R) (s : St) : g30Q A n p K .ret s = K .ret s := rfl
theorem g30Wn {R : Type} (A : Ar) (n : Nat) (p : List Bool) (m : Nat) (K : Ex → St → Option R) (s : St) : g30W A n p m K .normal s = g30V A n p m K s := rfl
theorem g30We {R : Type} (A : Ar) (n : Nat) (p : List Bool) (m : Nat) (K : Ex → St → Option R) (i : Nat) (s : St) : g30W A n p m K (.exit i) s = K (.exit i) s := rfl
theorem g30Vs {R : Type} (A : Ar) (n : Nat) (p : List Bool) (m : Nat) (K : Ex → St → Option R) (s : St) : g30V A n p (m + 1) K s = g30D A n p (g30W A n p m K) s := rfl
theorem g30F {R : Type} (A : Ar) (n : Nat) (p : List Bool) (i : Nat) (K : Ex → St → Option R) (s s' : St) (hf : firstReg (sub (bodyOf Try.f30) p) = some i) (h : keep g30an i s = keep g30an i s') : g30D A n p K s = g30D A n p K s' := codeD_first hf h K
section
variable {R : Type} (A : Ar) (n : Nat) (K : Ex → St → Option R) (s : St)
theorem g30p1 : g30D A n (pth 1) K s = g30D A n (pth 2) (g30Q A n (pth 3) K) s := by kernel_rfl
theorem g30p3 : g30D A n (pth 3) K s = g30D A n (pth 5) (g30Q A n (pth 7) K) s := by kernel_rfl
theorem g30p5 : g30D A n (pth 5) K s = g30D A n (pth 9) (g30Q A n (pth 13) K) s := by kernel_rfl
theorem g30p13 (t : Bool) : ev s (.tmp 8) = some (.v (.cell (.bool t))) → g30D A n (pth 13) K s = (match t with
    | true => g30D A n (pth 21) K s
    | false => g30D A n (pth 29) K s) := codeD_cond t
theorem g30p21 : g30D A n (pth 21) K s = g30D A n (pth 37) (g30Q A n (pth 53) K) s := by kernel_rfl
theorem g30p53 : g30D A n (pth 53) K s = K .ret s := by kernel_rfl
theorem g30p29 : g30D A n (pth 29) K s = K .normal s := by kernel_rfl
theorem g30p7 : g30D A n (pth 7) K s = g30D A n (pth 11) (g30Q A n (pth 15) K) s := by kernel_rfl
theorem g30p15 : g30D A n (pth 15) K s = g30D A n (pth 23) (g30Q A n (pth 31) K) s := by kernel_rfl
theorem g30p23 : g30D A n (pth 23) K s = g30D A n (pth 39) (g30Q A n (pth 55) K) s := by kernel_rfl
theorem g30p55 : g30D A n (pth 55) K s = g30D A n (pth 87) (blockK 0 K) s := by kernel_rfl
theorem g30p87 : g30D A n (pth 87) K s = g30V A n (pth 151) n K s := by kernel_rfl
theorem g30p151 : g30D A n (pth 151) K s = g30D A n (pth 279) (g30Q A n (pth 407) K) s := by kernel_rfl
theorem g30p279 : g30D A n (pth 279) K s = g30D A n (pth 535) (g30Q A n (pth 791) K) s := by kernel_rfl
theorem g30p791 (t : Bool) : ev s (.tmp 11) = some (.v (.cell (.bool t))) → g30D A n (pth 791) K s = (match t with
    | true => g30D A n (pth 1303) K s
    | false => g30D A n (pth 1815) K s) := codeD_cond t
theorem g30p1303 : g30D A n (pth 1303) K s = K .normal s := by kernel_rfl
theorem g30p1815 : g30D A n (pth 1815) K s = K (.exit 0) s := by kernel_rfl
theorem g30p407 : g30D A n (pth 407) K s = g30D A n (pth 663) (g30Q A n (pth 919) K) s := by kernel_rfl
theorem g30p663 : g30D A n (pth 663) K s = g30D A n (pth 1175) (blockK 1 K) s := by kernel_rfl
theorem g30p31 : g30D A n (pth 31) K s = g30D A n (pth 47) (g30Q A n (pth 63) K) s := by kernel_rfl
theorem g30p47 : g30D A n (pth 47) K s = g30D A n (pth 79) (g30Q A n (pth 111) K) s := by kernel_rfl
theorem g30p111 (t : Bool) : ev s (.tmp 32) = some (.v (.cell (.bool t))) → g30D A n (pth 111) K s = (match t with
    | true => g30D A n (pth 175) K s
    | false => g30D A n (pth 239) K s) := codeD_cond t
theorem g30p175 : g30D A n (pth 175) K s = g30D A n (pth 303) (g30Q A n (pth 431) K) s := by kernel_rfl
theorem g30p431 : g30D A n (pth 431) K s = K .ret s := by kernel_rfl
theorem g30p239 : g30D A n (pth 239) K s = K .normal s := by kernel_rfl
theorem g30p63 : g30D A n (pth 63) K s = g30D A n (pth 95) (g30Q A n (pth 127) K) s := by kernel_rfl
theorem g30p127 : g30D A n (pth 127) K s = K .ret s := by kernel_rfl
def g30R7s0 (A : Ar) (x0 : List Nat) (x1 : Int) (x2 x3 : List Nat) : St := ⟨[(29, (.v (.cell (.ptr 4000 0 (some ⟨A.toN (A.ib .quo .i64 x1 8), 1, 4, 0, 0, 0⟩))))), (28, (u64v (A.nb .or .u64 (x3.getD (A.toN (A.ib .quo .i64 x1 8)) 0) (A.nsh .shl .u64 (x0.getD (A.toN x1) 0) (A.toN (A.ib .mul .i64 8 (A.ib .rem .i64 x1 8))))))), (27, (u64v (A.nsh .shl .u64 (x0.getD (A.toN x1) 0) (A.toN (A.ib .mul .i64 8 (A.ib .rem .i64 x1 8)))))), (26, (i6 (A.ib .mul .i64 8 (A.ib .rem .i64 x1 8)))), (25, (i6 (A.ib .rem .i64 x1 8))), (24, (i6 x1)), (23, (u64v (x0.getD (A.toN x1) 0))), (22, (u8v (x0.getD (A.toN x1) 0))), (21, (i6 x1)), (20, (tS x0)), (19, (u64v (x3.getD (A.toN (A.ib .quo .i64 x1 8)) 0))), (18, (.v (.cell (.ptr 4000 0 (some ⟨A.toN (A.ib .quo .i64 x1 8), 1, 4, 0, 0, 0⟩))))), (17, (i6 (A.ib .quo .i64 x1 8))), (16, (i6 x1)), (15, (i6 (A.ib .quo .i64 x1 8))), (14, (i6 x1)), (0, (tS x0)), (2, (pT 1000 0)), (4, (pT 4000 0)), (5, (i6 x1))], [(1000, (bU 4 x2 24)), (4000, (bU 4 (x3.set (A.toN (A.ib .quo .i64 x1 8)) (A.nb .or .u64 (x3.getD (A.toN (A.ib .quo .i64 x1 8)) 0) (A.nsh .shl .u64 (x0.getD (A.toN x1) 0) (A.toN (A.ib .mul .i64 8 (A.ib .rem .i64 x1 8)))))) 24))]⟩
theorem g30R7 (x0 : List Nat) (x1 : Int) (x2 x3 : List Nat) : g30D A n (pth 1175) K ⟨[(0, (tS x0)), (2, (pT 1000 0)), (4, (pT 4000 0)), (5, (i6 x1))], [(1000, (bU 4 x2 24)), (4000, (bU 4 x3 24))]⟩ = match (generalizing := false) A.neg (A.ib .quo .i64 x1 8) with
    | true => none
    | false => match (generalizing := false) A.lt (A.toN (A.ib .quo .i64 x1 8)) 4 with
      | true => match (generalizing := false) A.neg x1 with
        | true => none
        | false => match (generalizing := false) A.lt (A.toN x1) x0.length with
          | true => match (generalizing := false) A.neg (A.ib .mul .i64 8 (A.ib .rem .i64 x1 8)) with
            | true => none
            | false => match (generalizing := false) A.neg (A.ib .quo .i64 x1 8) with
              | true => none
              | false => match (generalizing := false) A.lt (A.toN (A.ib .quo .i64 x1 8)) 4 with
                | true => K .normal (g30R7s0 A x0 x1 x2 x3)
                | false => none
          | false => none
      | false => none := by kernel_rfl
def g30R6s0 (A : Ar) (x0 : List Nat) (x1 : Int) (x2 x3 : List Nat) : St := ⟨[(5, (i6 (A.ib .add .i64 x1 1))), (13, (i6 (A.ib .add .i64 x1 1))), (12, (i6 x1)), (0, (tS x0)), (2, (pT 1000 0)), (4, (pT 4000 0)), (5, (i6 x1))], [(1000, (bU 4 x2 24)), (4000, (bU 4 x3 24))]⟩
theorem g30R6 (x0 : List Nat) (x1 : Int) (x2 x3 : List Nat) : g30D A n (pth 919) K ⟨[(0, (tS x0)), (2, (pT 1000 0)), (4, (pT 4000 0)), (5, (i6 x1))], [(1000, (bU 4 x2 24)), (4000, (bU 4 x3 24))]⟩ = K .normal (g30R6s0 A x0 x1 x2 x3) := by kernel_rfl
def g30R8s0 (A : Ar) (x0 x1 : List Nat) : St := ⟨[(32, (bO (!(g31r0 A x1)))), (31, (bO (g31r0 A x1))), (30, (aN .u64 4 x1)), (2, (pT 1000 0)), (4, (pT 4000 0))], [(1000, (bU 4 x0 24)), (4000, (bU 4 x1 24))]⟩
theorem g30R8 (x0 x1 : List Nat) : g30D A n (pth 79) K ⟨[(2, (pT 1000 0)), (4, (pT 4000 0))], [(1000, (bU 4 x0 24)), (4000, (bU 4 x1 24))]⟩ = match (generalizing := false) g31ok A x1 with
    | true => K .normal (g30R8s0 A x0 x1)
    | false => none := by kernel_rfl
def g30R9s0 (A : Ar) (x0 : List Nat) : St := ⟨[(3, (bO false)), (33, (aN .u64 4 [0, 0, 0, 0])), (2, (pT 1000 0))], [(1000, (bU 4 [0, 0, 0, 0] 24))]⟩
theorem g30R9 (x0 : List Nat) : g30D A n (pth 303) K ⟨[(2, (pT 1000 0))], [(1000, (bU 4 x0 24))]⟩ = K .normal (g30R9s0 A x0) := by kernel_rfl
def g30R10s0 (A : Ar) (x0 x1 : List Nat) : St := ⟨[(3, (bO true)), (34, (aN .u64 4 x1)), (2, (pT 1000 0)), (4, (pT 4000 0))], [(1000, (bU 4 x1 24)), (4000, (bU 4 x1 24))]⟩
theorem g30R10 (x0 x1 : List Nat) : g30D A n (pth 95) K ⟨[(2, (pT 1000 0)), (4, (pT 4000 0))], [(1000, (bU 4 x0 24)), (4000, (bU 4 x1 24))]⟩ = K .normal (g30R10s0 A x0 x1) := by kernel_rfl
def g30R5s0 (A : Ar) (x0 : List Nat) (x1 : Int) (x2 x3 : List Nat) : St := ⟨[(11, (bO (A.ic .lss x1 32))), (10, (i6 x1)), (0, (tS x0)), (2, (pT 1000 0)), (4, (pT 4000 0)), (5, (i6 x1))], [(1000, (bU 4 x2 24)), (4000, (bU 4 x3 24))]⟩
theorem g30R5 (x0 : List Nat) (x1 : Int) (x2 x3 : List Nat) : g30D A n (pth 535) K ⟨[(0, (tS x0)), (2, (pT 1000 0)), (4, (pT 4000 0)), (5, (i6 x1))], [(1000, (bU 4 x2 24)), (4000, (bU 4 x3 24))]⟩ = K .normal (g30R5s0 A x0 x1 x2 x3) := by kernel_rfl
def g30R3s0 (A : Ar) (x0 x1 : List Nat) : St := ⟨[(4, (pT 4000 0)), (0, (tS x0)), (2, (pT 1000 0))], [(4000, (bU 4 [0, 0, 0, 0] 24)), (1000, (bU 4 x1 24))]⟩
theorem g30R3 (x0 x1 : List Nat) : g30D A n (pth 11) K ⟨[(0, (tS x0)), (2, (pT 1000 0))], [(1000, (bU 4 x1 24))]⟩ = K .normal (g30R3s0 A x0 x1) := by kernel_rfl
def g30R4s0 (A : Ar) (x0 x1 x2 : List Nat) : St := ⟨[(5, (i6 0)), (0, (tS x0)), (2, (pT 1000 0)), (4, (pT 4000 0))], [(1000, (bU 4 x1 24)), (4000, (bU 4 x2 24))]⟩
theorem g30R4 (x0 x1 x2 : List Nat) : g30D A n (pth 39) K ⟨[(0, (tS x0)), (2, (pT 1000 0)), (4, (pT 4000 0))], [(1000, (bU 4 x1 24)), (4000, (bU 4 x2 24))]⟩ = K .normal (g30R4s0 A x0 x1 x2) := by kernel_rfl
def g30R0s0 (A : Ar) (x0 : List Nat) : St := ⟨[(3, (bO false)), (2, (pT 1000 0)), (0, (tS x0))], [(1000, (bU 4 [0, 0, 0, 0] 24))]⟩
theorem g30R0 (x0 : List Nat) : g30D A n (pth 2) K ⟨[(0, (tS x0))], []⟩ = K .normal (g30R0s0 A x0) := by kernel_rfl
def g30R1s0 (A : Ar) (x0 x1 : List Nat) : St := ⟨[(8, (bO (A.ic .neq (A.ofN x0.length) 32))), (7, (i6 (A.ofN x0.length))), (6, (tS x0)), (0, (tS x0)), (2, (pT 1000 0))], [(1000, (bU 4 x1 24))]⟩
theorem g30R1 (x0 x1 : List Nat) : g30D A n (pth 9) K ⟨[(0, (tS x0)), (2, (pT 1000 0))], [(1000, (bU 4 x1 24))]⟩ = K .normal (g30R1s0 A x0 x1) := by kernel_rfl
def g30R2s0 (A : Ar) (x0 : List Nat) : St := ⟨[(3, (bO false)), (9, (aN .u64 4 [0, 0, 0, 0])), (2, (pT 1000 0))], [(1000, (bU 4 [0, 0, 0, 0] 24))]⟩
theorem g30R2 (x0 : List Nat) : g30D A n (pth 37) K ⟨[(2, (pT 1000 0))], [(1000, (bU 4 x0 24))]⟩ = K .normal (g30R2s0 A x0) := by kernel_rfl
end
def g30J7 {R : Type} (A : Ar) (n : Nat) (kk : AV → Heap → Option R) (lg30L5 : List Nat → Int → List Nat → List Nat → Option R) (x0 : List Nat) (x1 : Int) (x2 x3 : List Nat) : Option R :=
  match (generalizing := false) A.neg (A.ib .quo .i64 x1 8) with
  | true => none
  | false => match (generalizing := false) A.lt (A.toN (A.ib .quo .i64 x1 8)) 4 with
    | true => match (generalizing := false) A.neg x1 with
      | true => none
      | false => match (generalizing := false) A.lt (A.toN x1) x0.length with
        | true => match (generalizing := false) A.neg (A.ib .mul .i64 8 (A.ib .rem .i64 x1 8)) with
          | true => none
          | false => match (generalizing := false) A.neg (A.ib .quo .i64 x1 8) with
            | true => none
            | false => match (generalizing := false) A.lt (A.toN (A.ib .quo .i64 x1 8)) 4 with
              | true => lg30L5 x0 (A.ib .add .i64 x1 1) x2 (x3.set (A.toN (A.ib .quo .i64 x1 8)) (A.nb .or .u64 (x3.getD (A.toN (A.ib .quo .i64 x1 8)) 0) (A.nsh .shl .u64 (x0.getD (A.toN x1) 0) (A.toN (A.ib .mul .i64 8 (A.ib .rem .i64 x1 8))))))
              | false => none
        | false => none
    | false => none
set_option maxRecDepth 100000 in
theorem g30J7_eq {R : Type} (A : Ar) (n : Nat) (kk : AV → Heap → Option R) (m0 : Nat) (lg30L5 : List Nat → Int → List Nat → List Nat → Option R) 
    (hg30L5 : ∀ (s : St) (x0 : List Nat) (x1 : Int) (x2 x3 : List Nat), keep g30an 5 s = ⟨[(0, (tS x0)), (2, (pT 1000 0)), (4, (pT 4000 0)), (5, (i6 x1))], [(1000, (bU 4 x2 24)), (4000, (bU 4 x3 24))]⟩ → g30V A n (pth 151) m0 (blockK 0 (g30Q A n (pth 31) (g30T kk))) s = lg30L5 x0 x1 x2 x3) (s : St) (x0 : List Nat) (x1 : Int) (x2 x3 : List Nat) (h : keep g30an 7 s = ⟨[(0, (tS x0)), (2, (pT 1000 0)), (4, (pT 4000 0)), (5, (i6 x1))], [(1000, (bU 4 x2 24)), (4000, (bU 4 x3 24))]⟩) :
    g30D A n (pth 407) (g30W A n (pth 151) m0 (blockK 0 (g30Q A n (pth 31) (g30T kk)))) s = g30J7 A n kk lg30L5 x0 x1 x2 x3 := by
  have h1 := (g30Wn A n _ _ _ _).trans (hg30L5 (g30R6s0 A x0 x1 x2 (x3.set (A.toN (A.ib .quo .i64 x1 8)) (A.nb .or .u64 (x3.getD (A.toN (A.ib .quo .i64 x1 8)) 0) (A.nsh .shl .u64 (x0.getD (A.toN x1) 0) (A.toN (A.ib .mul .i64 8 (A.ib .rem .i64 x1 8))))))) x0 (A.ib .add .i64 x1 1) x2 (x3.set (A.toN (A.ib .quo .i64 x1 8)) (A.nb .or .u64 (x3.getD (A.toN (A.ib .quo .i64 x1 8)) 0) (A.nsh .shl .u64 (x0.getD (A.toN x1) 0) (A.toN (A.ib .mul .i64 8 (A.ib .rem .i64 x1 8)))))) (by kernel_rfl))
  have h2 := (g30F A n _ 6 _ (g30R7s0 A x0 x1 x2 x3) _ (by kernel_rfl) (by kernel_rfl)).trans (g30R6 A n (g30W A n (pth 151) m0 (blockK 0 (g30Q A n (pth 31) (g30T kk)))) x0 x1 x2 (x3.set (A.toN (A.ib .quo .i64 x1 8)) (A.nb .or .u64 (x3.getD (A.toN (A.ib .quo .i64 x1 8)) 0) (A.nsh .shl .u64 (x0.getD (A.toN x1) 0) (A.toN (A.ib .mul .i64 8 (A.ib .rem .i64 x1 8)))))))
  rw [h1] at h2
  have h3 := (g30Qn A n _ _ _).trans h2
  have h4 := (blockK_n 1 _ _).trans h3
  have h5 := (g30F A n _ 7 _ ⟨[(0, (tS x0)), (2, (pT 1000 0)), (4, (pT 4000 0)), (5, (i6 x1))], [(1000, (bU 4 x2 24)), (4000, (bU 4 x3 24))]⟩ _ (by kernel_rfl) (by kernel_rfl)).trans (g30R7 A n (blockK 1 (g30Q A n (pth 919) (g30W A n (pth 151) m0 (blockK 0 (g30Q A n (pth 31) (g30T kk)))))) x0 x1 x2 x3)
  rw [h4] at h5
  have h6 := (g30p663 A n _ _).trans h5
  have h7 := (g30p407 A n _ _).trans h6
  exact (g30F A n _ 7 _ _ ⟨[(0, (tS x0)), (2, (pT 1000 0)), (4, (pT 4000 0)), (5, (i6 x1))], [(1000, (bU 4 x2 24)), (4000, (bU 4 x3 24))]⟩ (by kernel_rfl) (h.trans (by kernel_rfl))).trans (h7.trans (by kernel_rfl))
def g30J8 {R : Type} (A : Ar) (n : Nat) (kk : AV → Heap → Option R)  (x0 x1 : List Nat) : Option R :=
  match (generalizing := false) g31ok A x1 with
  | true => match (generalizing := false) !(g31r0 A x1) with
    | true => kk (.tup [(.agg [.nums .u64 4 [0, 0, 0, 0]]), (.cell (.bool false))]) [(1000, (bU 4 [0, 0, 0, 0] 24))]
    | false => kk (.tup [(.agg [.nums .u64 4 x1]), (.cell (.bool true))]) [(1000, (bU 4 x1 24)), (4000, (bU 4 x1 24))]
  | false => none
set_option maxRecDepth 100000 in
theorem g30J8_eq {R : Type} (A : Ar) (n : Nat) (kk : AV → Heap → Option R)    (s : St) (x0 x1 : List Nat) (h : keep g30an 8 s = ⟨[(2, (pT 1000 0)), (4, (pT 4000 0))], [(1000, (bU 4 x0 24)), (4000, (bU 4 x1 24))]⟩) :
    g30D A n (pth 31) (g30T kk) s = g30J8 A n kk  x0 x1 := by
  have h1 : (g30T kk) .ret (g30R9s0 A x0) = kk (.tup [(.agg [.nums .u64 4 [0, 0, 0, 0]]), (.cell (.bool false))]) [(1000, (bU 4 [0, 0, 0, 0] 24))] := by kernel_rfl
  have h2 := (g30Qr A n (pth 63) _ _).trans h1
  have h3 := (g30p431 A n _ _).trans h2
  have h4 := (g30Qn A n _ _ _).trans h3
  have h5 := (g30F A n _ 9 _ (g30R8s0 A x0 x1) _ (by kernel_rfl) (by kernel_rfl)).trans (g30R9 A n (g30Q A n (pth 431) (g30Q A n (pth 63) (g30T kk))) x0)
  rw [h4] at h5
  have h6 := (g30p175 A n _ _).trans h5
  have h7 : (g30T kk) .ret (g30R10s0 A x0 x1) = kk (.tup [(.agg [.nums .u64 4 x1]), (.cell (.bool true))]) [(1000, (bU 4 x1 24)), (4000, (bU 4 x1 24))] := by kernel_rfl
  have h8 := (g30p127 A n _ _).trans h7
  have h9 := (g30Qn A n _ _ _).trans h8
  have h10 := (g30F A n _ 10 _ (g30R8s0 A x0 x1) _ (by kernel_rfl) (by kernel_rfl)).trans (g30R10 A n (g30Q A n (pth 127) (g30T kk)) x0 x1)
  rw [h9] at h10
  have h11 := (g30p63 A n _ _).trans h10
  have h12 := (g30Qn A n _ _ _).trans h11
  have h13 := (g30p239 A n _ _).trans h12
  have h14 := g30p111 A n (g30Q A n (pth 63) (g30T kk)) (g30R8s0 A x0 x1) (!(g31r0 A x1)) (by kernel_rfl)
  rw [h6, h13] at h14
  have h15 := (g30Qn A n _ _ _).trans h14
  have h16 := (g30F A n _ 8 _ ⟨[(2, (pT 1000 0)), (4, (pT 4000 0))], [(1000, (bU 4 x0 24)), (4000, (bU 4 x1 24))]⟩ _ (by kernel_rfl) (by kernel_rfl)).trans (g30R8 A n (g30Q A n (pth 111) (g30Q A n (pth 63) (g30T kk))) x0 x1)
  rw [h15] at h16
  have h17 := (g30p47 A n _ _).trans h16
  have h18 := (g30p31 A n _ _).trans h17
  exact (g30F A n _ 8 _ _ ⟨[(2, (pT 1000 0)), (4, (pT 4000 0))], [(1000, (bU 4 x0 24)), (4000, (bU 4 x1 24))]⟩ (by kernel_rfl) (h.trans (by kernel_rfl))).trans (h18.trans (by kernel_rfl))
def g30L5 {R : Type} (A : Ar) (n : Nat) (kk : AV → Heap → Option R)  : Nat → List Nat → Int → List Nat → List Nat → Option R
  | 0, _, _, _, _ => none
  | m + 1, x0, x1, x2, x3 => match (generalizing := false) A.ic .lss x1 32 with
  | true => g30J7 A n kk (g30L5 A n kk  m) x0 x1 x2 x3
  | false => g30J8 A n kk  x2 x3
set_option maxRecDepth 100000 in
theorem g30L5_eq {R : Type} (A : Ar) (n : Nat) (kk : AV → Heap → Option R)    (m : Nat) (s : St) (x0 : List Nat) (x1 : Int) (x2 x3 : List Nat) (h : keep g30an 5 s = ⟨[(0, (tS x0)), (2, (pT 1000 0)), (4, (pT 4000 0)), (5, (i6 x1))], [(1000, (bU 4 x2 24)), (4000, (bU 4 x3 24))]⟩) :
    g30V A n (pth 151) m (blockK 0 (g30Q A n (pth 31) (g30T kk))) s = g30L5 A n kk  m x0 x1 x2 x3 := by
  induction m generalizing s x0 x1 x2 x3 with
  | zero => rfl
  | succ m ih =>
    have h1 := (g30Qn A n _ _ _).trans (g30J7_eq A n kk m (g30L5 A n kk  m) ih  (g30R5s0 A x0 x1 x2 x3) x0 x1 x2 x3 (by kernel_rfl))
    have h2 := (g30p1303 A n _ _).trans h1
    have h3 := (g30Qn A n _ _ _).trans (g30J8_eq A n kk     (g30R5s0 A x0 x1 x2 x3) x2 x3 (by kernel_rfl))
    have h4 := (blockK_hit 0 _ _).trans h3
    have h5 := (g30We A n (pth 151) m _ _ _).trans h4
    have h6 := (g30Qe A n (pth 407) _ _ _).trans h5
    have h7 := (g30p1815 A n _ _).trans h6
    have h8 := g30p791 A n (g30Q A n (pth 407) (g30W A n (pth 151) m (blockK 0 (g30Q A n (pth 31) (g30T kk))))) (g30R5s0 A x0 x1 x2 x3) (A.ic .lss x1 32) (by kernel_rfl)
    rw [h2, h7] at h8
    have h9 := (g30Qn A n _ _ _).trans h8
    have h10 := (g30F A n _ 5 _ ⟨[(0, (tS x0)), (2, (pT 1000 0)), (4, (pT 4000 0)), (5, (i6 x1))], [(1000, (bU 4 x2 24)), (4000, (bU 4 x3 24))]⟩ _ (by kernel_rfl) (by kernel_rfl)).trans (g30R5 A n (g30Q A n (pth 791) (g30Q A n (pth 407) (g30W A n (pth 151) m (blockK 0 (g30Q A n (pth 31) (g30T kk)))))) x0 x1 x2 x3)
    rw [h9] at h10
    have h11 := (g30p279 A n _ _).trans h10
    have h12 := (g30p151 A n _ _).trans h11
    exact (loopD_first (s' := ⟨[(0, (tS x0)), (2, (pT 1000 0)), (4, (pT 4000 0)), (5, (i6 x1))], [(1000, (bU 4 x2 24)), (4000, (bU 4 x3 24))]⟩) (id := 5) (by kernel_rfl) (h.trans (by kernel_rfl)) _).trans ((g30Vs A n _ m _ _).trans (h12.trans (by kernel_rfl)))
def g30J3 {R : Type} (A : Ar) (n : Nat) (kk : AV → Heap → Option R)  (x0 x1 : List Nat) : Option R :=
  g30L5 A n kk  n x0 0 x1 [0, 0, 0, 0]
set_option maxRecDepth 100000 in
theorem g30J3_eq {R : Type} (A : Ar) (n : Nat) (kk : AV → Heap → Option R)    (s : St) (x0 x1 : List Nat) (h : keep g30an 3 s = ⟨[(0, (tS x0)), (2, (pT 1000 0))], [(1000, (bU 4 x1 24))]⟩) :
    g30D A n (pth 7) (g30T kk) s = g30J3 A n kk  x0 x1 := by
  have h1 := (g30p87 A n _ _).trans (g30L5_eq A n kk    n (g30R4s0 A x0 x1 [0, 0, 0, 0]) x0 0 x1 [0, 0, 0, 0] (by kernel_rfl))
  have h2 := (g30p55 A n _ _).trans h1
  have h3 := (g30Qn A n _ _ _).trans h2
  have h4 := (g30F A n _ 4 _ (g30R3s0 A x0 x1) _ (by kernel_rfl) (by kernel_rfl)).trans (g30R4 A n (g30Q A n (pth 55) (g30Q A n (pth 31) (g30T kk))) x0 x1 [0, 0, 0, 0])
  rw [h3] at h4
  have h5 := (g30p23 A n _ _).trans h4
  have h6 := (g30p15 A n _ _).trans h5
  have h7 := (g30Qn A n _ _ _).trans h6
  have h8 := (g30F A n _ 3 _ ⟨[(0, (tS x0)), (2, (pT 1000 0))], [(1000, (bU 4 x1 24))]⟩ _ (by kernel_rfl) (by kernel_rfl)).trans (g30R3 A n (g30Q A n (pth 15) (g30T kk)) x0 x1)
  rw [h7] at h8
  have h9 := (g30p7 A n _ _).trans h8
  exact (g30F A n _ 3 _ _ ⟨[(0, (tS x0)), (2, (pT 1000 0))], [(1000, (bU 4 x1 24))]⟩ (by kernel_rfl) (h.trans (by kernel_rfl))).trans (h9.trans (by kernel_rfl))
def g30 {R : Type} (A : Ar) (n : Nat) (kk : AV → Heap → Option R) (a : List Nat) : Option R :=
  match (generalizing := false) A.ic .neq (A.ofN a.length) 32 with
  | true => kk (.tup [(.agg [.nums .u64 4 [0, 0, 0, 0]]), (.cell (.bool false))]) [(1000, (bU 4 [0, 0, 0, 0] 24))]
  | false => g30J3 A n kk  a [0, 0, 0, 0]
set_option maxRecDepth 100000 in
theorem g30_eq {R : Type} (A : Ar) (n : Nat) (kk : AV → Heap → Option R) (a : List Nat) :
    funD A gtys (g30O A) g30an n (bodyOf Try.f30) g30res [(tS a)] [] kk = g30 A n kk a := by
  have h1 : (g30T kk) .ret (g30R2s0 A [0, 0, 0, 0]) = kk (.tup [(.agg [.nums .u64 4 [0, 0, 0, 0]]), (.cell (.bool false))]) [(1000, (bU 4 [0, 0, 0, 0] 24))] := by kernel_rfl
  have h2 := (g30Qr A n (pth 7) _ _).trans h1
  have h3 := (g30p53 A n _ _).trans h2
  have h4 := (g30Qn A n _ _ _).trans h3
  have h5 := (g30F A n _ 2 _ (g30R1s0 A a [0, 0, 0, 0]) _ (by kernel_rfl) (by kernel_rfl)).trans (g30R2 A n (g30Q A n (pth 53) (g30Q A n (pth 7) (g30T kk))) [0, 0, 0, 0])
  rw [h4] at h5
  have h6 := (g30p21 A n _ _).trans h5
  have h7 := (g30Qn A n _ _ _).trans (g30J3_eq A n kk     (g30R1s0 A a [0, 0, 0, 0]) a [0, 0, 0, 0] (by kernel_rfl))
  have h8 := (g30p29 A n _ _).trans h7
  have h9 := g30p13 A n (g30Q A n (pth 7) (g30T kk)) (g30R1s0 A a [0, 0, 0, 0]) (A.ic .neq (A.ofN a.length) 32) (by kernel_rfl)
  rw [h6, h8] at h9
  have h10 := (g30Qn A n _ _ _).trans h9
  have h11 := (g30F A n _ 1 _ (g30R0s0 A a) _ (by kernel_rfl) (by kernel_rfl)).trans (g30R1 A n (g30Q A n (pth 13) (g30Q A n (pth 7) (g30T kk))) a [0, 0, 0, 0])
  rw [h10] at h11
  have h12 := (g30p5 A n _ _).trans h11
  have h13 := (g30p3 A n _ _).trans h12
  have h14 := (g30Qn A n _ _ _).trans h13
  have h15 := (g30F A n _ 0 _ ⟨[(0, (tS a))], []⟩ _ (by kernel_rfl) (by kernel_rfl)).trans (g30R0 A n (g30Q A n (pth 3) (g30T kk)) a)
  rw [h14] at h15
  have h16 := (g30p1 A n _ _).trans h15
  exact (show funD A gtys (g30O A) g30an n (bodyOf Try.f30) g30res [(tS a)] [] kk = g30D A n (pth 1) (g30T kk) ⟨[(0, (tS a))], []⟩ from by kernel_rfl).trans (h16.trans (by kernel_rfl))
def g30is (o : Option AV) : Bool := match o with
  | some (.tup [.agg [.nums .u64 4 _], .cell (.bool _)]) => true
  | _ => false
def g30g0 (o : Option AV) : List Nat := match o with
  | some (.tup [.agg [.nums .u64 4 x], .cell (.bool _)]) => x
  | _ => []
def g30g1 (o : Option AV) : Bool := match o with
  | some (.tup [.agg [.nums .u64 4 _], .cell (.bool x)]) => x
  | _ => false
theorem g30is_spec {o : Option AV} (h : g30is o = true) : o = some (.tup [.agg [.nums .u64 4 (g30g0 o)], .cell (.bool (g30g1 o))]) := by
  unfold g30is at h
  split at h
  · rfl
  · cases h
def g30v (A : Ar) (a : List Nat) : Option AV := g30 A (100000) (fun v _ => some v) a
def g30ok (A : Ar) (a : List Nat) : Bool := g30is (g30v A a)
def g30r0 (A : Ar) (a : List Nat) : List Nat := g30g0 (g30v A a)
def g30r1 (A : Ar) (a : List Nat) : Bool := g30g1 (g30v A a)
theorem g30ok_spec {A : Ar} {a} (h : g30ok A a = true) : g30v A a = some (.tup [.agg [.nums .u64 4 (g30r0 A a)], .cell (.bool (g30r1 A a))]) := g30is_spec h
def g30o (A : Ar) (args : List AV) : Option (Bool × AV) := match args with
  | [.v (.cell (.str a))] => some (g30ok A a, .tup [.agg [.nums .u64 4 (g30r0 A a)], .cell (.bool (g30r1 A a))])
  | _ => none
theorem g30o_sound : ∀ args v, g30o realA args = some (true, v) → Fn1 Try.prog 30 args v := by
  intro args v h
  unfold g30o at h
  split at h
  · rename_i a
    simp only [Option.some.injEq, Prod.mk.injEq] at h
    obtain ⟨hc, h⟩ := h
    subst h
    · skip
      exact fn1_of mixed gtysOK g30O_sound g30O_det (an := g30an) (n := 100000) Try.func30 (c := bodyOf Try.f30) rfl (by kernel_rfl) Try.call30 (Nat.le_of_ble_eq_true rfl) (fun b => rfl) (fun _ => (g30_eq realA (100000) (fun v _ => some v) a).trans (show g30v realA a = _ from g30ok_spec hc))
  · cases h
/- engrosser/engrosserref03.Bytes -/
def g34O (A : Ar) : Orc := orcOf [(39, g39o A), (40, g40o A)]
theorem g34O_sound : OSound Try.prog (g34O realA) := orc_sound fun f g hm args v hv => by
  simp only [List.mem_cons, List.not_mem_nil, or_false, Prod.mk.injEq] at hm
  rcases hm with ⟨rfl, rfl⟩ | ⟨rfl, rfl⟩
  · exact g39o_sound _ _ hv
  · exact g40o_sound _ _ hv
theorem g34O_det : ODet (g34O realA) := orc_det _
def g34an : Ann := [(0, ([0], [])), (1, ([1], [1000])), (2, ([3], [2003])), (3, ([3, 4], [2003, 3000])), (4, ([3, 4, 5], [2003, 3000])), (5, ([3, 4, 5], [2003, 3000])), (6, ([3, 4, 5], [2003, 3000])), (7, ([4], [3000]))]
def g34res : List ResultVar := [.tmp 2]
noncomputable def g34D {R : Type} (A : Ar) (n : Nat) (p : List Bool) (K : Ex → St → Option R) (s : St) : Option R := codeD A gtys (g34O A) g34an n (sub (bodyOf Try.f34) p) K s
noncomputable def g34V {R : Type} (A : Ar) (n : Nat) (p : List Bool) (m : Nat) (K : Ex → St → Option R) (s : St) : Option R := loopD (fun K' s'' => codeD A gtys (g34O A) g34an n (sub (bodyOf Try.f34) p) K' s'') m K s
noncomputable def g34Q {R : Type} (A : Ar) (n : Nat) (p : List Bool) (K : Ex → St → Option R) : Ex → St → Option R := seqC (g34D A n p K) K
noncomputable def g34W {R : Type} (A : Ar) (n : Nat) (p : List Bool) (m : Nat) (K : Ex → St → Option R) : Ex → St → Option R := seqC (g34V A n p m K) K
noncomputable def g34T {R : Type} (kk : AV → Heap → Option R) : Ex → St → Option R := finD gtys g34res kk
theorem g34Qn {R : Type} (A : Ar) (n : Nat) (p : List Bool) (K : Ex → St → Option R) (s : St) : g34Q A n p K .normal s = g34D A n p K s := rfl
theorem g34Qe {R : Type} (A : Ar) (n : Nat) (p : List Bool) (K : Ex → St → Option R) (i : Nat) (s : St) : g34Q A n p K (.exit i) s = K (.exit i) s := rfl
theorem g34Wn {R : Type} (A : Ar) (n : Nat) (p : List Bool) (m : Nat) (K : Ex → St → Option R) (s : St) : g34W A n p m K .normal s = g34V A n p m K s := rfl
theorem g34We {R : Type} (A : Ar) (n : Nat) (p : List Bool) (m : Nat) (K : Ex → St → Option R) (i : Nat) (s : St) : g34W A n p m K (.exit i) s = K (.exit i) s := rfl
theorem g34Vs {R : Type} (A : Ar) (n : Nat) (p : List Bool) (m : Nat) (K : Ex → St → Option R) (s : St) : g34V A n p (m + 1) K s = g34D A n p (g34W A n p m K) s := rfl
theorem g34F {R : Type} (A : Ar) (n : Nat) (p : List Bool) (i : Nat) (K : Ex → St → Option R) (s s' : St) (hf : firstReg (sub (bodyOf Try.f34) p) = some i) (h : keep g34an i s = keep g34an i s') : g34D A n p K s = g34D A n p K s' := codeD_first hf h K
section
variable {R : Type} (A : Ar) (n : Nat) (K : Ex → St → Option R) (s : St)
theorem g34p1 : g34D A n (pth 1) K s = g34D A n (pth 2) (g34Q A n (pth 3) K) s := by kernel_rfl
theorem g34p3 : g34D A n (pth 3) K s = g34D A n (pth 5) (g34Q A n (pth 7) K) s := by kernel_rfl
theorem g34p7 : g34D A n (pth 7) K s = g34D A n (pth 11) (g34Q A n (pth 15) K) s := by kernel_rfl
theorem g34p15 : g34D A n (pth 15) K s = g34D A n (pth 23) (g34Q A n (pth 31) K) s := by kernel_rfl
theorem g34p23 : g34D A n (pth 23) K s = g34D A n (pth 39) (g34Q A n (pth 55) K) s := by kernel_rfl
theorem g34p55 : g34D A n (pth 55) K s = g34D A n (pth 87) (blockK 0 K) s := by kernel_rfl
theorem g34p87 : g34D A n (pth 87) K s = g34V A n (pth 151) n K s := by kernel_rfl
theorem g34p151 : g34D A n (pth 151) K s = g34D A n (pth 279) (g34Q A n (pth 407) K) s := by kernel_rfl
theorem g34p279 : g34D A n (pth 279) K s = g34D A n (pth 535) (g34Q A n (pth 791) K) s := by kernel_rfl
theorem g34p791 (t : Bool) : ev s (.tmp 11) = some (.v (.cell (.bool t))) → g34D A n (pth 791) K s = (match t with
    | true => g34D A n (pth 1303) K s
    | false => g34D A n (pth 1815) K s) := codeD_cond t
theorem g34p1303 : g34D A n (pth 1303) K s = K .normal s := by kernel_rfl
theorem g34p1815 : g34D A n (pth 1815) K s = K (.exit 0) s := by kernel_rfl
theorem g34p407 : g34D A n (pth 407) K s = g34D A n (pth 663) (g34Q A n (pth 919) K) s := by kernel_rfl
theorem g34p663 : g34D A n (pth 663) K s = g34D A n (pth 1175) (blockK 1 K) s := by kernel_rfl
theorem g34p31 : g34D A n (pth 31) K s = g34D A n (pth 47) (g34Q A n (pth 63) K) s := by kernel_rfl
theorem g34p63 : g34D A n (pth 63) K s = K .ret s := by kernel_rfl
def g34R6s0 (A : Ar) (x0 : Nat) (x1 : Int) (x2 : List Nat) (x3 : Nat) (x4 : List Nat) : St := ⟨[(25, (.v (.cell (.ptr 3000 0 (some ⟨A.toN x1, 1, x0, A.toN x1, 0, 1⟩))))), (24, (u8v (A.n2n .u8 (A.nsh .shr .u64 (x2.getD (A.toN (A.ib .quo .i64 x1 8)) 0) (A.toN (A.ib .mul .i64 8 (A.ib .rem .i64 x1 8))))))), (23, (u64v (A.nsh .shr .u64 (x2.getD (A.toN (A.ib .quo .i64 x1 8)) 0) (A.toN (A.ib .mul .i64 8 (A.ib .rem .i64 x1 8)))))), (22, (i6 (A.ib .mul .i64 8 (A.ib .rem .i64 x1 8)))), (21, (i6 (A.ib .rem .i64 x1 8))), (20, (i6 x1)), (19, (u64v (x2.getD (A.toN (A.ib .quo .i64 x1 8)) 0))), (18, (.v (.cell (.ptr 2003 0 (some ⟨A.toN (A.ib .quo .i64 x1 8), 1, 4, 0, 0, 0⟩))))), (17, (i6 (A.ib .quo .i64 x1 8))), (16, (i6 x1)), (15, (i6 x1)), (14, (sL 3000 none x0 1)), (3, (pT 2003 0)), (4, (sL 3000 none x0 1)), (5, (i6 x1))], [(2003, (bU 4 x2 24)), (3000, ⟨[.nums .u8 x3 (x4.set (A.toN x1) (A.n2n .u8 (A.nsh .shr .u64 (x2.getD (A.toN (A.ib .quo .i64 x1 8)) 0) (A.toN (A.ib .mul .i64 8 (A.ib .rem .i64 x1 8))))))], 5, 2⟩)]⟩
theorem g34R6 (x0 : Nat) (x1 : Int) (x2 : List Nat) (x3 : Nat) (x4 : List Nat) : g34D A n (pth 1175) K ⟨[(3, (pT 2003 0)), (4, (sL 3000 none x0 1)), (5, (i6 x1))], [(2003, (bU 4 x2 24)), (3000, ⟨[.nums .u8 x3 x4], 5, 2⟩)]⟩ = match (generalizing := false) A.neg (A.ib .quo .i64 x1 8) with
    | true => none
    | false => match (generalizing := false) A.lt (A.toN (A.ib .quo .i64 x1 8)) 4 with
      | true => match (generalizing := false) A.neg (A.ib .mul .i64 8 (A.ib .rem .i64 x1 8)) with
        | true => none
        | false => match (generalizing := false) A.neg x1 with
          | true => none
          | false => match (generalizing := false) A.lt (A.toN x1) x0 with
            | true => K .normal (g34R6s0 A x0 x1 x2 x3 x4)
            | false => none
      | false => none := by kernel_rfl
def g34R5s0 (A : Ar) (x0 : Nat) (x1 : Int) (x2 : List Nat) (x3 : Nat) (x4 : List Nat) : St := ⟨[(5, (i6 (A.ib .add .i64 x1 1))), (13, (i6 (A.ib .add .i64 x1 1))), (12, (i6 x1)), (3, (pT 2003 0)), (4, (sL 3000 none x0 1)), (5, (i6 x1))], [(2003, (bU 4 x2 24)), (3000, ⟨[.nums .u8 x3 x4], 5, 2⟩)]⟩
theorem g34R5 (x0 : Nat) (x1 : Int) (x2 : List Nat) (x3 : Nat) (x4 : List Nat) : g34D A n (pth 919) K ⟨[(3, (pT 2003 0)), (4, (sL 3000 none x0 1)), (5, (i6 x1))], [(2003, (bU 4 x2 24)), (3000, ⟨[.nums .u8 x3 x4], 5, 2⟩)]⟩ = K .normal (g34R5s0 A x0 x1 x2 x3 x4) := by kernel_rfl
def g34R4s0 (A : Ar) (x0 : Nat) (x1 : Int) (x2 : List Nat) (x3 : Nat) (x4 : List Nat) : St := ⟨[(11, (bO (A.ic .lss x1 32))), (10, (i6 x1)), (3, (pT 2003 0)), (4, (sL 3000 none x0 1)), (5, (i6 x1))], [(2003, (bU 4 x2 24)), (3000, ⟨[.nums .u8 x3 x4], 5, 2⟩)]⟩
theorem g34R4 (x0 : Nat) (x1 : Int) (x2 : List Nat) (x3 : Nat) (x4 : List Nat) : g34D A n (pth 535) K ⟨[(3, (pT 2003 0)), (4, (sL 3000 none x0 1)), (5, (i6 x1))], [(2003, (bU 4 x2 24)), (3000, ⟨[.nums .u8 x3 x4], 5, 2⟩)]⟩ = K .normal (g34R4s0 A x0 x1 x2 x3 x4) := by kernel_rfl
def g34R7s0 (A : Ar) (x0 x1 : Nat) (x2 : List Nat) : St := ⟨[(2, (tS (x2.take x0))), (27, (tS (x2.take x0))), (26, (sL 3000 none x0 1)), (4, (sL 3000 none x0 1))], [(3000, ⟨[.nums .u8 x1 x2], 5, 2⟩)]⟩
theorem g34R7 (x0 x1 : Nat) (x2 : List Nat) : g34D A n (pth 47) K ⟨[(4, (sL 3000 none x0 1))], [(3000, ⟨[.nums .u8 x1 x2], 5, 2⟩)]⟩ = K .normal (g34R7s0 A x0 x1 x2) := by kernel_rfl
def g34R0s0 (A : Ar) (x0 : List Nat) : St := ⟨[(2, (tS [])), (1, (pT 1000 0)), (0, (aN .u64 4 x0))], [(1000, (bU 4 x0 24))]⟩
theorem g34R0 (x0 : List Nat) : g34D A n (pth 2) K ⟨[(0, (aN .u64 4 x0))], []⟩ = K .normal (g34R0s0 A x0) := by kernel_rfl
def g34R1s0 (A : Ar) (x0 : List Nat) : St := ⟨[(3, (pT 2003 0)), (8, (aN .u64 4 (g40r0 A (g39r0 A x0)))), (7, (aN .u32 8 (g39r0 A x0))), (6, (aN .u64 4 x0)), (1, (pT 1000 0))], [(2003, (bU 4 (g40r0 A (g39r0 A x0)) 24)), (1000, (bU 4 x0 24))]⟩
theorem g34R1 (x0 : List Nat) : g34D A n (pth 5) K ⟨[(1, (pT 1000 0))], [(1000, (bU 4 x0 24))]⟩ = match (generalizing := false) g39ok A x0 with
    | true => match (generalizing := false) g40ok A (g39r0 A x0) with
      | true => K .normal (g34R1s0 A x0)
      | false => none
    | false => none := by kernel_rfl
def g34R2s0 (A : Ar) (x0 : List Nat) : St := ⟨[(4, (sL 3000 none 32 1)), (9, (sL 3000 none 32 1)), (3, (pT 2003 0))], [(3000, ⟨[.nums .u8 32 (List.replicate 32 0)], 5, 2⟩), (2003, (bU 4 x0 24))]⟩
theorem g34R2 (x0 : List Nat) : g34D A n (pth 11) K ⟨[(3, (pT 2003 0))], [(2003, (bU 4 x0 24))]⟩ = match (generalizing := false) A.le 32 32 with
    | true => match (generalizing := false) A.le 32 140737488355328 with
      | true => K .normal (g34R2s0 A x0)
      | false => none
    | false => none := by kernel_rfl
def g34R3s0 (A : Ar) (x0 : Nat) (x1 : List Nat) (x2 : Nat) (x3 : List Nat) : St := ⟨[(5, (i6 0)), (3, (pT 2003 0)), (4, (sL 3000 none x0 1))], [(2003, (bU 4 x1 24)), (3000, ⟨[.nums .u8 x2 x3], 5, 2⟩)]⟩
theorem g34R3 (x0 : Nat) (x1 : List Nat) (x2 : Nat) (x3 : List Nat) : g34D A n (pth 39) K ⟨[(3, (pT 2003 0)), (4, (sL 3000 none x0 1))], [(2003, (bU 4 x1 24)), (3000, ⟨[.nums .u8 x2 x3], 5, 2⟩)]⟩ = K .normal (g34R3s0 A x0 x1 x2 x3) := by kernel_rfl
end
def g34J6 {R : Type} (A : Ar) (n : Nat) (kk : AV → Heap → Option R) (lg34L4 : Nat → Int → List Nat → Nat → List Nat → Option R) (x0 : Nat) (x1 : Int) (x2 : List Nat) (x3 : Nat) (x4 : List Nat) : Option R :=
  match (generalizing := false) A.neg (A.ib .quo .i64 x1 8) with
  | true => none
  | false => match (generalizing := false) A.lt (A.toN (A.ib .quo .i64 x1 8)) 4 with
    | true => match (generalizing := false) A.neg (A.ib .mul .i64 8 (A.ib .rem .i64 x1 8)) with
      | true => none
      | false => match (generalizing := false) A.neg x1 with
        | true => none
        | false => match (generalizing := false) A.lt (A.toN x1) x0 with
          | true => lg34L4 x0 (A.ib .add .i64 x1 1) x2 x3 (x4.set (A.toN x1) (A.n2n .u8 (A.nsh .shr .u64 (x2.getD (A.toN (A.ib .quo .i64 x1 8)) 0) (A.toN (A.ib .mul .i64 8 (A.ib .rem .i64 x1 8))))))
          | false => none
    | false => none
set_option maxRecDepth 100000 in
theorem g34J6_eq {R : Type} (A : Ar) (n : Nat) (kk : AV → Heap → Option R) (m0 : Nat) (lg34L4 : Nat → Int → List Nat → Nat → List Nat → Option R) 
    (hg34L4 : ∀ (s : St) (x0 : Nat) (x1 : Int) (x2 : List Nat) (x3 : Nat) (x4 : List Nat), keep g34an 4 s = ⟨[(3, (pT 2003 0)), (4, (sL 3000 none x0 1)), (5, (i6 x1))], [(2003, (bU 4 x2 24)), (3000, ⟨[.nums .u8 x3 x4], 5, 2⟩)]⟩ → g34V A n (pth 151) m0 (blockK 0 (g34Q A n (pth 31) (g34T kk))) s = lg34L4 x0 x1 x2 x3 x4) (s : St) (x0 : Nat) (x1 : Int) (x2 : List Nat) (x3 : Nat) (x4 : List Nat) (h : keep g34an 6 s = ⟨[(3, (pT 2003 0)), (4, (sL 3000 none x0 1)), (5, (i6 x1))], [(2003, (bU 4 x2 24)), (3000, ⟨[.nums .u8 x3 x4], 5, 2⟩)]⟩) :
    g34D A n (pth 407) (g34W A n (pth 151) m0 (blockK 0 (g34Q A n (pth 31) (g34T kk)))) s = g34J6 A n kk lg34L4 x0 x1 x2 x3 x4 := by
  have h1 := (g34Wn A n _ _ _ _).trans (hg34L4 (g34R5s0 A x0 x1 x2 x3 (x4.set (A.toN x1) (A.n2n .u8 (A.nsh .shr .u64 (x2.getD (A.toN (A.ib .quo .i64 x1 8)) 0) (A.toN (A.ib .mul .i64 8 (A.ib .rem .i64 x1 8))))))) x0 (A.ib .add .i64 x1 1) x2 x3 (x4.set (A.toN x1) (A.n2n .u8 (A.nsh .shr .u64 (x2.getD (A.toN (A.ib .quo .i64 x1 8)) 0) (A.toN (A.ib .mul .i64 8 (A.ib .rem .i64 x1 8)))))) (by kernel_rfl))
  have h2 := (g34F A n _ 5 _ (g34R6s0 A x0 x1 x2 x3 x4) _ (by kernel_rfl) (by kernel_rfl)).trans (g34R5 A n (g34W A n (pth 151) m0 (blockK 0 (g34Q A n (pth 31) (g34T kk)))) x0 x1 x2 x3 (x4.set (A.toN x1) (A.n2n .u8 (A.nsh .shr .u64 (x2.getD (A.toN (A.ib .quo .i64 x1 8)) 0) (A.toN (A.ib .mul .i64 8 (A.ib .rem .i64 x1 8)))))))
  rw [h1] at h2
  have h3 := (g34Qn A n _ _ _).trans h2
  have h4 := (blockK_n 1 _ _).trans h3
  have h5 := (g34F A n _ 6 _ ⟨[(3, (pT 2003 0)), (4, (sL 3000 none x0 1)), (5, (i6 x1))], [(2003, (bU 4 x2 24)), (3000, ⟨[.nums .u8 x3 x4], 5, 2⟩)]⟩ _ (by kernel_rfl) (by kernel_rfl)).trans (g34R6 A n (blockK 1 (g34Q A n (pth 919) (g34W A n (pth 151) m0 (blockK 0 (g34Q A n (pth 31) (g34T kk)))))) x0 x1 x2 x3 x4)
  rw [h4] at h5
  have h6 := (g34p663 A n _ _).trans h5
  have h7 := (g34p407 A n _ _).trans h6
  exact (g34F A n _ 6 _ _ ⟨[(3, (pT 2003 0)), (4, (sL 3000 none x0 1)), (5, (i6 x1))], [(2003, (bU 4 x2 24)), (3000, ⟨[.nums .u8 x3 x4], 5, 2⟩)]⟩ (by kernel_rfl) (h.trans (by kernel_rfl))).trans (h7.trans (by kernel_rfl))
def g34L4 {R : Type} (A : Ar) (n : Nat) (kk : AV → Heap → Option R)  : Nat → Nat → Int → List Nat → Nat → List Nat → Option R
  | 0, _, _, _, _, _ => none
  | m + 1, x0, x1, x2, x3, x4 => match (generalizing := false) A.ic .lss x1 32 with
  | true => g34J6 A n kk (g34L4 A n kk  m) x0 x1 x2 x3 x4
  | false => kk (tS (x4.take x0)) [(3000, ⟨[.nums .u8 x3 x4], 5, 2⟩)]
set_option maxRecDepth 100000 in
theorem g34L4_eq {R : Type} (A : Ar) (n : Nat) (kk : AV → Heap → Option R)    (m : Nat) (s : St) (x0 : Nat) (x1 : Int) (x2 : List Nat) (x3 : Nat) (x4 : List Nat) (h : keep g34an 4 s = ⟨[(3, (pT 2003 0)), (4, (sL 3000 none x0 1)), (5, (i6 x1))], [(2003, (bU 4 x2 24)), (3000, ⟨[.nums .u8 x3 x4], 5, 2⟩)]⟩) :
    g34V A n (pth 151) m (blockK 0 (g34Q A n (pth 31) (g34T kk))) s = g34L4 A n kk  m x0 x1 x2 x3 x4 := by
  induction m generalizing s x0 x1 x2 x3 x4 with
  | zero => rfl
  | succ m ih =>
    have h1 := (g34Qn A n _ _ _).trans (g34J6_eq A n kk m (g34L4 A n kk  m) ih  (g34R4s0 A x0 x1 x2 x3 x4) x0 x1 x2 x3 x4 (by kernel_rfl))
    have h2 := (g34p1303 A n _ _).trans h1
    have h3 : (g34T kk) .ret (g34R7s0 A x0 x3 x4) = kk (tS (x4.take x0)) [(3000, ⟨[.nums .u8 x3 x4], 5, 2⟩)] := by kernel_rfl
    have h4 := (g34p63 A n _ _).trans h3
    have h5 := (g34Qn A n _ _ _).trans h4
    have h6 := (g34F A n _ 7 _ (g34R4s0 A x0 x1 x2 x3 x4) _ (by kernel_rfl) (by kernel_rfl)).trans (g34R7 A n (g34Q A n (pth 63) (g34T kk)) x0 x3 x4)
    rw [h5] at h6
    have h7 := (g34p31 A n _ _).trans h6
    have h8 := (g34Qn A n _ _ _).trans h7
    have h9 := (blockK_hit 0 _ _).trans h8
    have h10 := (g34We A n (pth 151) m _ _ _).trans h9
    have h11 := (g34Qe A n (pth 407) _ _ _).trans h10
    have h12 := (g34p1815 A n _ _).trans h11
    have h13 := g34p791 A n (g34Q A n (pth 407) (g34W A n (pth 151) m (blockK 0 (g34Q A n (pth 31) (g34T kk))))) (g34R4s0 A x0 x1 x2 x3 x4) (A.ic .lss x1 32) (by kernel_rfl)
    rw [h2, h12] at h13
    have h14 := (g34Qn A n _ _ _).trans h13
    have h15 := (g34F A n _ 4 _ ⟨[(3, (pT 2003 0)), (4, (sL 3000 none x0 1)), (5, (i6 x1))], [(2003, (bU 4 x2 24)), (3000, ⟨[.nums .u8 x3 x4], 5, 2⟩)]⟩ _ (by kernel_rfl) (by kernel_rfl)).trans (g34R4 A n (g34Q A n (pth 791) (g34Q A n (pth 407) (g34W A n (pth 151) m (blockK 0 (g34Q A n (pth 31) (g34T kk)))))) x0 x1 x2 x3 x4)
    rw [h14] at h15
    have h16 := (g34p279 A n _ _).trans h15
    have h17 := (g34p151 A n _ _).trans h16
    exact (loopD_first (s' := ⟨[(3, (pT 2003 0)), (4, (sL 3000 none x0 1)), (5, (i6 x1))], [(2003, (bU 4 x2 24)), (3000, ⟨[.nums .u8 x3 x4], 5, 2⟩)]⟩) (id := 4) (by kernel_rfl) (h.trans (by kernel_rfl)) _).trans ((g34Vs A n _ m _ _).trans (h17.trans (by kernel_rfl)))
def g34 {R : Type} (A : Ar) (n : Nat) (kk : AV → Heap → Option R) (a : List Nat) : Option R :=
  match (generalizing := false) g39ok A a with
  | true => match (generalizing := false) g40ok A (g39r0 A a) with
    | true => match (generalizing := false) A.le 32 32 with
      | true => match (generalizing := false) A.le 32 140737488355328 with
        | true => g34L4 A n kk  n 32 0 (g40r0 A (g39r0 A a)) 32 (List.replicate 32 0)
        | false => none
      | false => none
    | false => none
  | false => none
set_option maxRecDepth 100000 in
theorem g34_eq {R : Type} (A : Ar) (n : Nat) (kk : AV → Heap → Option R) (a : List Nat) :
    funD A gtys (g34O A) g34an n (bodyOf Try.f34) g34res [(aN .u64 4 a)] [] kk = g34 A n kk a := by
  have h1 := (g34p87 A n _ _).trans (g34L4_eq A n kk    n (g34R3s0 A 32 (g40r0 A (g39r0 A a)) 32 (List.replicate 32 0)) 32 0 (g40r0 A (g39r0 A a)) 32 (List.replicate 32 0) (by kernel_rfl))
  have h2 := (g34p55 A n _ _).trans h1
  have h3 := (g34Qn A n _ _ _).trans h2
  have h4 := (g34F A n _ 3 _ (g34R2s0 A (g40r0 A (g39r0 A a))) _ (by kernel_rfl) (by kernel_rfl)).trans (g34R3 A n (g34Q A n (pth 55) (g34Q A n (pth 31) (g34T kk))) 32 (g40r0 A (g39r0 A a)) 32 (List.replicate 32 0))
  rw [h3] at h4
  have h5 := (g34p23 A n _ _).trans h4
  have h6 := (g34p15 A n _ _).trans h5
  have h7 := (g34Qn A n _ _ _).trans h6
  have h8 := (g34F A n _ 2 _ (g34R1s0 A a) _ (by kernel_rfl) (by kernel_rfl)).trans (g34R2 A n (g34Q A n (pth 15) (g34T kk)) (g40r0 A (g39r0 A a)))
  rw [h7] at h8
  have h9 := (g34p7 A n _ _).trans h8
  have h10 := (g34Qn A n _ _ _).trans h9
  have h11 := (g34F A n _ 1 _ (g34R0s0 A a) _ (by kernel_rfl) (by kernel_rfl)).trans (g34R1 A n (g34Q A n (pth 7) (g34T kk)) a)
  rw [h10] at h11
  have h12 := (g34p3 A n _ _).trans h11
  have h13 := (g34Qn A n _ _ _).trans h12
  have h14 := (g34F A n _ 0 _ ⟨[(0, (aN .u64 4 a))], []⟩ _ (by kernel_rfl) (by kernel_rfl)).trans (g34R0 A n (g34Q A n (pth 3) (g34T kk)) a)
  rw [h13] at h14
  have h15 := (g34p1 A n _ _).trans h14
  exact (show funD A gtys (g34O A) g34an n (bodyOf Try.f34) g34res [(aN .u64 4 a)] [] kk = g34D A n (pth 1) (g34T kk) ⟨[(0, (aN .u64 4 a))], []⟩ from by kernel_rfl).trans (h15.trans (by kernel_rfl))
def g34is (o : Option AV) : Bool := match o with
  | some (.v (.cell (.str _))) => true
  | _ => false
def g34g0 (o : Option AV) : List Nat := match o with
  | some (.v (.cell (.str x))) => x
  | _ => []
theorem g34is_spec {o : Option AV} (h : g34is o = true) : o = some (.v (.cell (.str (g34g0 o)))) := by
  unfold g34is at h
  split at h
  · rfl
  · cases h
def g34v (A : Ar) (a : List Nat) : Option AV := g34 A (100000) (fun v _ => some v) a
def g34ok (A : Ar) (a : List Nat) : Bool := g34is (g34v A a)
def g34r0 (A : Ar) (a : List Nat) : List Nat := g34g0 (g34v A a)
theorem g34ok_spec {A : Ar} {a} (h : g34ok A a = true) : g34v A a = some (.v (.cell (.str (g34r0 A a)))) := g34is_spec h
def g34o (A : Ar) (args : List AV) : Option (Bool × AV) := match args with
  | [.v (.agg [.nums .u64 n0 a])] => some (Nat.beq n0 4 && (g34ok A a), .v (.cell (.str (g34r0 A a))))
  | _ => none
theorem g34o_sound : ∀ args v, g34o realA args = some (true, v) → Fn1 Try.prog 34 args v := by
  intro args v h
  unfold g34o at h
  split at h
  · rename_i n0 a
    simp only [Option.some.injEq, Prod.mk.injEq] at h
    obtain ⟨hc, h⟩ := h
    subst h
    · skip
      simp only [Bool.and_eq_true] at hc
      have en0 := beq_true hc.1
      subst en0
      replace hc := hc.2
      exact fn1_of mixed gtysOK g34O_sound g34O_det (an := g34an) (n := 100000) Try.func34 (c := bodyOf Try.f34) rfl (by kernel_rfl) Try.call34 (Nat.le_of_ble_eq_true rfl) (fun b => rfl) (fun _ => (g34_eq realA (100000) (fun v _ => some v) a).trans (show g34v realA a = _ from g34ok_spec hc))
  · cases h
/- engrosser/engrosserlaw03.FieldBytes -/
def g9O (A : Ar) : Orc := orcOf [(11, g11o A), (29, g29o A), (30, g30o A), (20, g20o A), (31, g31o A), (22, g22o A), (32, g32o A), (33, g33o A), (34, g34o A), (23, g23o A), (35, g35o A)]
theorem g9O_sound : OSound Try.prog (g9O realA) := orc_sound fun f g hm args v hv => by
  simp only [List.mem_cons, List.not_mem_nil, or_false, Prod.mk.injEq] at hm
  rcases hm with ⟨rfl, rfl⟩ | ⟨rfl, rfl⟩ | ⟨rfl, rfl⟩ | ⟨rfl, rfl⟩ | ⟨rfl, rfl⟩ | ⟨rfl, rfl⟩ | ⟨rfl, rfl⟩ | ⟨rfl, rfl⟩ | ⟨rfl, rfl⟩ | ⟨rfl, rfl⟩ | ⟨rfl, rfl⟩
  · exact g11o_sound _ _ hv
  · exact g29o_sound _ _ hv
  · exact g30o_sound _ _ hv
  · exact g20o_sound _ _ hv
  · exact g31o_sound _ _ hv
  · exact g22o_sound _ _ hv
  · exact g32o_sound _ _ hv
  · exact g33o_sound _ _ hv
  · exact g34o_sound _ _ hv
  · exact g23o_sound _ _ hv
  · exact g35o_sound _ _ hv
theorem g9O_det : ODet (g9O realA) := orc_det _
def g9an : Ann := [(0, ([0, 1, 2], [])), (1, ([1, 2, 3], [1000])), (2, ([1, 2, 3, 7], [1000])), (3, ([], [])), (4, ([1, 2, 3, 7], [1000])), (5, ([1, 2, 3, 7, 8, 9], [1000, 5005])), (6, ([2, 3, 7, 8, 9, 10, 11], [1000, 5005, 6005]))]
def g9res : List ResultVar := [.tmp 6]
noncomputable def g9D {R : Type} (A : Ar) (n : Nat) (p : List Bool) (K : Ex → St → Option R) (s : St) : Option R := codeD A gtys (g9O A) g9an n (sub (bodyOf Try.f9) p) K s
noncomputable def g9Q {R : Type} (A : Ar) (n : Nat) (p : List Bool) (K : Ex → St → Option R) : Ex → St → Option R := seqC (g9D A n p K) K
noncomputable def g9T {R : Type} (kk : AV → Heap → Option R) : Ex → St → Option R := finD gtys g9res kk
theorem g9Qn {R : Type} (A : Ar) (n : Nat) (p : List Bool) (K : Ex → St → Option R) (s : St) : g9Q A n p K .normal s = g9D A n p K s := rfl
theorem g9Qr {R : Type} (A : Ar) (n : Nat) (p : List Bool) (K : Ex → St → Option R) (s : St) : g9Q A n p K .ret s = K .ret s := rfl
theorem g9F {R : Type} (A : Ar) (n : Nat) (p : List Bool) (i : Nat) (K : Ex → St → Option R) (s s' : St) (hf : firstReg (sub (bodyOf Try.f9) p) = some i) (h : keep g9an i s = keep g9an i s') : g9D A n p K s = g9D A n p K s' := codeD_first hf h K
section
variable {R : Type} (A : Ar) (n : Nat) (K : Ex → St → Option R) (s : St)
theorem g9p1 : g9D A n (pth 1) K s = g9D A n (pth 2) (g9Q A n (pth 3) K) s := by kernel_rfl
theorem g9p3 : g9D A n (pth 3) K s = g9D A n (pth 5) (g9Q A n (pth 7) K) s := by kernel_rfl
theorem g9p7 : g9D A n (pth 7) K s = g9D A n (pth 11) (g9Q A n (pth 15) K) s := by kernel_rfl
theorem g9p11 : g9D A n (pth 11) K s = g9D A n (pth 19) (g9Q A n (pth 27) K) s := by kernel_rfl
theorem g9p27 (t : Bool) : ev s (.tmp 14) = some (.v (.cell (.bool t))) → g9D A n (pth 27) K s = (match t with
    | true => g9D A n (pth 43) K s
    | false => g9D A n (pth 59) K s) := codeD_cond t
theorem g9p43 : g9D A n (pth 43) K s = g9D A n (pth 75) (g9Q A n (pth 107) K) s := by kernel_rfl
theorem g9p107 : g9D A n (pth 107) K s = K .ret s := by kernel_rfl
theorem g9p59 : g9D A n (pth 59) K s = K .normal s := by kernel_rfl
theorem g9p15 : g9D A n (pth 15) K s = g9D A n (pth 23) (g9Q A n (pth 31) K) s := by kernel_rfl
theorem g9p31 : g9D A n (pth 31) K s = g9D A n (pth 47) (g9Q A n (pth 63) K) s := by kernel_rfl
theorem g9p63 : g9D A n (pth 63) K s = g9D A n (pth 95) (g9Q A n (pth 127) K) s := by kernel_rfl
theorem g9p127 : g9D A n (pth 127) K s = K .ret s := by kernel_rfl
def g9R4s0 (A : Ar) (x0 : List Nat) (x1 : Nat) (x2 : Bool) (x3 : List Nat) : St := ⟨[(9, (bO (g29r1 A x0))), (8, (pT 5005 0)), (19, (bO (g29r1 A x0))), (18, (aN .u64 4 (g29r0 A x0))), (15, (.tup [(.agg [.nums .u64 4 (g29r0 A x0)]), (.cell (.bool (g29r1 A x0)))])), (17, (.tup [(.agg [.nums .u64 4 (g29r0 A x0)]), (.cell (.bool (g29r1 A x0)))])), (16, (tS x0)), (1, (tS x0)), (2, (u64v x1)), (3, (pT 1000 0)), (7, (bO x2))], [(5005, (bU 4 (g29r0 A x0) 24)), (1000, (bU 4 x3 24))]⟩
theorem g9R4 (x0 : List Nat) (x1 : Nat) (x2 : Bool) (x3 : List Nat) : g9D A n (pth 23) K ⟨[(1, (tS x0)), (2, (u64v x1)), (3, (pT 1000 0)), (7, (bO x2))], [(1000, (bU 4 x3 24))]⟩ = match (generalizing := false) g29ok A x0 with
    | true => K .normal (g9R4s0 A x0 x1 x2 x3)
    | false => none := by kernel_rfl
def g9R5s0 (A : Ar) (x0 : List Nat) (x1 : Nat) (x2 x3 : Bool) (x4 x5 : List Nat) : St := ⟨[(11, (bO (g30r1 A x0))), (10, (pT 6005 0)), (24, (bO (g30r1 A x0))), (23, (aN .u64 4 (g30r0 A x0))), (20, (.tup [(.agg [.nums .u64 4 (g30r0 A x0)]), (.cell (.bool (g30r1 A x0)))])), (22, (.tup [(.agg [.nums .u64 4 (g30r0 A x0)]), (.cell (.bool (g30r1 A x0)))])), (21, (tS x0)), (1, (tS x0)), (2, (u64v x1)), (3, (pT 1000 0)), (7, (bO x2)), (8, (pT 5005 0)), (9, (bO x3))], [(6005, (bU 4 (g30r0 A x0) 24)), (1000, (bU 4 x4 24)), (5005, (bU 4 x5 24))]⟩
theorem g9R5 (x0 : List Nat) (x1 : Nat) (x2 x3 : Bool) (x4 x5 : List Nat) : g9D A n (pth 47) K ⟨[(1, (tS x0)), (2, (u64v x1)), (3, (pT 1000 0)), (7, (bO x2)), (8, (pT 5005 0)), (9, (bO x3))], [(1000, (bU 4 x4 24)), (5005, (bU 4 x5 24))]⟩ = match (generalizing := false) g30ok A x0 with
    | true => K .normal (g9R5s0 A x0 x1 x2 x3 x4 x5)
    | false => none := by kernel_rfl
def g9R6s0 (A : Ar) (x0 : Nat) (x1 x2 x3 : Bool) (x4 x5 x6 : List Nat) : St := ⟨[(6, (bO ((A.lq (g23r0 A x0) (g35r0 A x0)) && true))), (63, (bO ((A.lq (g23r0 A x0) (g35r0 A x0)) && true))), (62, (bO ((A.lq (g23r0 A x0) (g35r0 A x0)) && true))), (61, (aN .u64 4 (g35r0 A x0))), (60, (u64v x0)), (59, (aN .u64 4 (g23r0 A x0))), (58, (u64v x0)), (57, (bO true)), (56, (bO (x2 == x3))), (55, (bO (x2 == x3))), (54, (bO x3)), (53, (bO x2)), (52, (bO true)), (51, (bO ((A.lq x5 x6) && true))), (50, (bO ((A.lq x5 x6) && true))), (49, (aN .u64 4 x6)), (48, (aN .u64 4 x5)), (47, (bO true)), (46, (bO (A.sc .eql (g33r0 A x4) (g34r0 A x4)))), (45, (bO (A.sc .eql (g33r0 A x4) (g34r0 A x4)))), (44, (tS (g34r0 A x4))), (43, (aN .u64 4 x4)), (42, (tS (g33r0 A x4))), (41, (aN .u64 4 x4)), (40, (bO true)), (39, (bO ((g22r0 A x4) == (g32r0 A x4)))), (38, (bO ((g22r0 A x4) == (g32r0 A x4)))), (37, (bO (g32r0 A x4))), (36, (aN .u64 4 x4)), (35, (bO (g22r0 A x4))), (34, (aN .u64 4 x4)), (33, (bO true)), (32, (bO ((g20r0 A x4) == (g31r0 A x4)))), (31, (bO ((g20r0 A x4) == (g31r0 A x4)))), (30, (bO (g31r0 A x4))), (29, (aN .u64 4 x4)), (28, (bO (g20r0 A x4))), (27, (aN .u64 4 x4)), (26, (bO true)), (25, (bO x1)), (2, (u64v x0)), (3, (pT 1000 0)), (7, (bO x1)), (8, (pT 5005 0)), (9, (bO x2)), (10, (pT 6005 0)), (11, (bO x3))], [(1000, (bU 4 x4 24)), (5005, (bU 4 x5 24)), (6005, (bU 4 x6 24))]⟩
def g9R6s1 (A : Ar) (x0 : Nat) (x1 x2 x3 : Bool) (x4 x5 x6 : List Nat) : St := ⟨[(6, (bO false)), (63, (bO false)), (62, uN), (61, uN), (60, uN), (59, uN), (58, uN), (57, (bO false)), (56, (bO (x2 == x3))), (55, (bO (x2 == x3))), (54, (bO x3)), (53, (bO x2)), (52, (bO true)), (51, (bO ((A.lq x5 x6) && true))), (50, (bO ((A.lq x5 x6) && true))), (49, (aN .u64 4 x6)), (48, (aN .u64 4 x5)), (47, (bO true)), (46, (bO (A.sc .eql (g33r0 A x4) (g34r0 A x4)))), (45, (bO (A.sc .eql (g33r0 A x4) (g34r0 A x4)))), (44, (tS (g34r0 A x4))), (43, (aN .u64 4 x4)), (42, (tS (g33r0 A x4))), (41, (aN .u64 4 x4)), (40, (bO true)), (39, (bO ((g22r0 A x4) == (g32r0 A x4)))), (38, (bO ((g22r0 A x4) == (g32r0 A x4)))), (37, (bO (g32r0 A x4))), (36, (aN .u64 4 x4)), (35, (bO (g22r0 A x4))), (34, (aN .u64 4 x4)), (33, (bO true)), (32, (bO ((g20r0 A x4) == (g31r0 A x4)))), (31, (bO ((g20r0 A x4) == (g31r0 A x4)))), (30, (bO (g31r0 A x4))), (29, (aN .u64 4 x4)), (28, (bO (g20r0 A x4))), (27, (aN .u64 4 x4)), (26, (bO true)), (25, (bO x1)), (2, (u64v x0)), (3, (pT 1000 0)), (7, (bO x1)), (8, (pT 5005 0)), (9, (bO x2)), (10, (pT 6005 0)), (11, (bO x3))], [(1000, (bU 4 x4 24)), (5005, (bU 4 x5 24)), (6005, (bU 4 x6 24))]⟩
def g9R6s2 (A : Ar) (x0 : Nat) (x1 x2 x3 : Bool) (x4 x5 x6 : List Nat) : St := ⟨[(6, (bO false)), (63, (bO false)), (62, uN), (61, uN), (60, uN), (59, uN), (58, uN), (57, (bO false)), (56, (bO false)), (55, uN), (54, uN), (53, uN), (52, (bO false)), (51, (bO ((A.lq x5 x6) && true))), (50, (bO ((A.lq x5 x6) && true))), (49, (aN .u64 4 x6)), (48, (aN .u64 4 x5)), (47, (bO true)), (46, (bO (A.sc .eql (g33r0 A x4) (g34r0 A x4)))), (45, (bO (A.sc .eql (g33r0 A x4) (g34r0 A x4)))), (44, (tS (g34r0 A x4))), (43, (aN .u64 4 x4)), (42, (tS (g33r0 A x4))), (41, (aN .u64 4 x4)), (40, (bO true)), (39, (bO ((g22r0 A x4) == (g32r0 A x4)))), (38, (bO ((g22r0 A x4) == (g32r0 A x4)))), (37, (bO (g32r0 A x4))), (36, (aN .u64 4 x4)), (35, (bO (g22r0 A x4))), (34, (aN .u64 4 x4)), (33, (bO true)), (32, (bO ((g20r0 A x4) == (g31r0 A x4)))), (31, (bO ((g20r0 A x4) == (g31r0 A x4)))), (30, (bO (g31r0 A x4))), (29, (aN .u64 4 x4)), (28, (bO (g20r0 A x4))), (27, (aN .u64 4 x4)), (26, (bO true)), (25, (bO x1)), (2, (u64v x0)), (3, (pT 1000 0)), (7, (bO x1)), (8, (pT 5005 0)), (9, (bO x2)), (10, (pT 6005 0)), (11, (bO x3))], [(1000, (bU 4 x4 24)), (5005, (bU 4 x5 24)), (6005, (bU 4 x6 24))]⟩
def g9R6s3 (A : Ar) (x0 : Nat) (x1 x2 x3 : Bool) (x4 x5 x6 : List Nat) : St := ⟨[(6, (bO false)), (63, (bO false)), (62, uN), (61, uN), (60, uN), (59, uN), (58, uN), (57, (bO false)), (56, (bO false)), (55, uN), (54, uN), (53, uN), (52, (bO false)), (51, (bO false)), (50, uN), (49, uN), (48, uN), (47, (bO false)), (46, (bO (A.sc .eql (g33r0 A x4) (g34r0 A x4)))), (45, (bO (A.sc .eql (g33r0 A x4) (g34r0 A x4)))), (44, (tS (g34r0 A x4))), (43, (aN .u64 4 x4)), (42, (tS (g33r0 A x4))), (41, (aN .u64 4 x4)), (40, (bO true)), (39, (bO ((g22r0 A x4) == (g32r0 A x4)))), (38, (bO ((g22r0 A x4) == (g32r0 A x4)))), (37, (bO (g32r0 A x4))), (36, (aN .u64 4 x4)), (35, (bO (g22r0 A x4))), (34, (aN .u64 4 x4)), (33, (bO true)), (32, (bO ((g20r0 A x4) == (g31r0 A x4)))), (31, (bO ((g20r0 A x4) == (g31r0 A x4)))), (30, (bO (g31r0 A x4))), (29, (aN .u64 4 x4)), (28, (bO (g20r0 A x4))), (27, (aN .u64 4 x4)), (26, (bO true)), (25, (bO x1)), (2, (u64v x0)), (3, (pT 1000 0)), (7, (bO x1)), (8, (pT 5005 0)), (9, (bO x2)), (10, (pT 6005 0)), (11, (bO x3))], [(1000, (bU 4 x4 24)), (5005, (bU 4 x5 24)), (6005, (bU 4 x6 24))]⟩
def g9R6s4 (A : Ar) (x0 : Nat) (x1 x2 x3 : Bool) (x4 x5 x6 : List Nat) : St := ⟨[(6, (bO false)), (63, (bO false)), (62, uN), (61, uN), (60, uN), (59, uN), (58, uN), (57, (bO false)), (56, (bO false)), (55, uN), (54, uN), (53, uN), (52, (bO false)), (51, (bO false)), (50, uN), (49, uN), (48, uN), (47, (bO false)), (46, (bO false)), (45, uN), (44, uN), (43, uN), (42, uN), (41, uN), (40, (bO false)), (39, (bO ((g22r0 A x4) == (g32r0 A x4)))), (38, (bO ((g22r0 A x4) == (g32r0 A x4)))), (37, (bO (g32r0 A x4))), (36, (aN .u64 4 x4)), (35, (bO (g22r0 A x4))), (34, (aN .u64 4 x4)), (33, (bO true)), (32, (bO ((g20r0 A x4) == (g31r0 A x4)))), (31, (bO ((g20r0 A x4) == (g31r0 A x4)))), (30, (bO (g31r0 A x4))), (29, (aN .u64 4 x4)), (28, (bO (g20r0 A x4))), (27, (aN .u64 4 x4)), (26, (bO true)), (25, (bO x1)), (2, (u64v x0)), (3, (pT 1000 0)), (7, (bO x1)), (8, (pT 5005 0)), (9, (bO x2)), (10, (pT 6005 0)), (11, (bO x3))], [(1000, (bU 4 x4 24)), (5005, (bU 4 x5 24)), (6005, (bU 4 x6 24))]⟩
def g9R6s5 (A : Ar) (x0 : Nat) (x1 x2 x3 : Bool) (x4 x5 x6 : List Nat) : St := ⟨[(6, (bO false)), (63, (bO false)), (62, uN), (61, uN), (60, uN), (59, uN), (58, uN), (57, (bO false)), (56, (bO false)), (55, uN), (54, uN), (53, uN), (52, (bO false)), (51, (bO false)), (50, uN), (49, uN), (48, uN), (47, (bO false)), (46, (bO false)), (45, uN), (44, uN), (43, uN), (42, uN), (41, uN), (40, (bO false)), (39, (bO false)), (38, uN), (37, uN), (36, uN), (35, uN), (34, uN), (33, (bO false)), (32, (bO ((g20r0 A x4) == (g31r0 A x4)))), (31, (bO ((g20r0 A x4) == (g31r0 A x4)))), (30, (bO (g31r0 A x4))), (29, (aN .u64 4 x4)), (28, (bO (g20r0 A x4))), (27, (aN .u64 4 x4)), (26, (bO true)), (25, (bO x1)), (2, (u64v x0)), (3, (pT 1000 0)), (7, (bO x1)), (8, (pT 5005 0)), (9, (bO x2)), (10, (pT 6005 0)), (11, (bO x3))], [(1000, (bU 4 x4 24)), (5005, (bU 4 x5 24)), (6005, (bU 4 x6 24))]⟩
def g9R6s6 (A : Ar) (x0 : Nat) (x1 x2 x3 : Bool) (x4 x5 x6 : List Nat) : St := ⟨[(6, (bO false)), (63, (bO false)), (62, uN), (61, uN), (60, uN), (59, uN), (58, uN), (57, (bO false)), (56, (bO false)), (55, uN), (54, uN), (53, uN), (52, (bO false)), (51, (bO false)), (50, uN), (49, uN), (48, uN), (47, (bO false)), (46, (bO false)), (45, uN), (44, uN), (43, uN), (42, uN), (41, uN), (40, (bO false)), (39, (bO false)), (38, uN), (37, uN), (36, uN), (35, uN), (34, uN), (33, (bO false)), (32, (bO false)), (31, uN), (30, uN), (29, uN), (28, uN), (27, uN), (26, (bO false)), (25, (bO x1)), (2, (u64v x0)), (3, (pT 1000 0)), (7, (bO x1)), (8, (pT 5005 0)), (9, (bO x2)), (10, (pT 6005 0)), (11, (bO x3))], [(1000, (bU 4 x4 24)), (5005, (bU 4 x5 24)), (6005, (bU 4 x6 24))]⟩
theorem g9R6 (x0 : Nat) (x1 x2 x3 : Bool) (x4 x5 x6 : List Nat) : g9D A n (pth 95) K ⟨[(2, (u64v x0)), (3, (pT 1000 0)), (7, (bO x1)), (8, (pT 5005 0)), (9, (bO x2)), (10, (pT 6005 0)), (11, (bO x3))], [(1000, (bU 4 x4 24)), (5005, (bU 4 x5 24)), (6005, (bU 4 x6 24))]⟩ = match (generalizing := false) x1 with
    | true => match (generalizing := false) g20ok A x4 with
      | true => match (generalizing := false) g31ok A x4 with
        | true => match (generalizing := false) (g20r0 A x4) == (g31r0 A x4) with
          | true => match (generalizing := false) g22ok A x4 with
            | true => match (generalizing := false) g32ok A x4 with
              | true => match (generalizing := false) (g22r0 A x4) == (g32r0 A x4) with
                | true => match (generalizing := false) g33ok A x4 with
                  | true => match (generalizing := false) g34ok A x4 with
                    | true => match (generalizing := false) A.sc .eql (g33r0 A x4) (g34r0 A x4) with
                      | true => match (generalizing := false) (A.lq x5 x6) && true with
                        | true => match (generalizing := false) x2 == x3 with
                          | true => match (generalizing := false) g23ok A x0 with
                            | true => match (generalizing := false) g35ok A x0 with
                              | true => K .normal (g9R6s0 A x0 x1 x2 x3 x4 x5 x6)
                              | false => none
                            | false => none
                          | false => K .normal (g9R6s1 A x0 x1 x2 x3 x4 x5 x6)
                        | false => K .normal (g9R6s2 A x0 x1 x2 x3 x4 x5 x6)
                      | false => K .normal (g9R6s3 A x0 x1 x2 x3 x4 x5 x6)
                    | false => none
                  | false => none
                | false => K .normal (g9R6s4 A x0 x1 x2 x3 x4 x5 x6)
              | false => none
            | false => none
          | false => K .normal (g9R6s5 A x0 x1 x2 x3 x4 x5 x6)
        | false => none
      | false => none
    | false => K .normal (g9R6s6 A x0 x1 x2 x3 x4 x5 x6) := by kernel_rfl
def g9R0s0 (A : Ar) (x0 x1 : List Nat) (x2 : Nat) : St := ⟨[(6, (bO false)), (3, (pT 1000 0)), (0, (aN .u64 4 x0)), (1, (tS x1)), (2, (u64v x2))], [(1000, (bU 4 x0 24))]⟩
theorem g9R0 (x0 x1 : List Nat) (x2 : Nat) : g9D A n (pth 2) K ⟨[(0, (aN .u64 4 x0)), (1, (tS x1)), (2, (u64v x2))], []⟩ = K .normal (g9R0s0 A x0 x1 x2) := by kernel_rfl
def g9R1s0 (A : Ar) (x0 : List Nat) (x1 : Nat) (x2 : List Nat) : St := ⟨[(7, (bO (g11r0 A))), (12, (bO (g11r0 A))), (1, (tS x0)), (2, (u64v x1)), (3, (pT 1000 0))], [(1000, (bU 4 x2 24))]⟩
theorem g9R1 (x0 : List Nat) (x1 : Nat) (x2 : List Nat) : g9D A n (pth 5) K ⟨[(1, (tS x0)), (2, (u64v x1)), (3, (pT 1000 0))], [(1000, (bU 4 x2 24))]⟩ = match (generalizing := false) g11ok A with
    | true => K .normal (g9R1s0 A x0 x1 x2)
    | false => none := by kernel_rfl
def g9R2s0 (A : Ar) (x0 : List Nat) (x1 : Nat) (x2 : Bool) (x3 : List Nat) : St := ⟨[(14, (bO (!x2))), (13, (bO x2)), (1, (tS x0)), (2, (u64v x1)), (3, (pT 1000 0)), (7, (bO x2))], [(1000, (bU 4 x3 24))]⟩
theorem g9R2 (x0 : List Nat) (x1 : Nat) (x2 : Bool) (x3 : List Nat) : g9D A n (pth 19) K ⟨[(1, (tS x0)), (2, (u64v x1)), (3, (pT 1000 0)), (7, (bO x2))], [(1000, (bU 4 x3 24))]⟩ = K .normal (g9R2s0 A x0 x1 x2 x3) := by kernel_rfl
def g9R3s0 (A : Ar)  : St := ⟨[(6, (bO false))], []⟩
theorem g9R3 : g9D A n (pth 75) K ⟨[], []⟩ = K .normal (g9R3s0 A) := by kernel_rfl
end
def g9J4 {R : Type} (A : Ar) (n : Nat) (kk : AV → Heap → Option R)  (x0 : List Nat) (x1 : Nat) (x2 : Bool) (x3 : List Nat) : Option R :=
  match (generalizing := false) g29ok A x0 with
  | true => match (generalizing := false) g30ok A x0 with
    | true => match (generalizing := false) x2 with
      | true => match (generalizing := false) g20ok A x3 with
        | true => match (generalizing := false) g31ok A x3 with
          | true => match (generalizing := false) (g20r0 A x3) == (g31r0 A x3) with
            | true => match (generalizing := false) g22ok A x3 with
              | true => match (generalizing := false) g32ok A x3 with
                | true => match (generalizing := false) (g22r0 A x3) == (g32r0 A x3) with
                  | true => match (generalizing := false) g33ok A x3 with
                    | true => match (generalizing := false) g34ok A x3 with
                      | true => match (generalizing := false) A.sc .eql (g33r0 A x3) (g34r0 A x3) with
                        | true => match (generalizing := false) (A.lq (g29r0 A x0) (g30r0 A x0)) && true with
                          | true => match (generalizing := false) (g29r1 A x0) == (g30r1 A x0) with
                            | true => match (generalizing := false) g23ok A x1 with
                              | true => match (generalizing := false) g35ok A x1 with
                                | true => kk (bO ((A.lq (g23r0 A x1) (g35r0 A x1)) && true)) [(1000, (bU 4 x3 24)), (5005, (bU 4 (g29r0 A x0) 24)), (6005, (bU 4 (g30r0 A x0) 24))]
                                | false => none
                              | false => none
                            | false => kk (bO false) [(1000, (bU 4 x3 24)), (5005, (bU 4 (g29r0 A x0) 24)), (6005, (bU 4 (g30r0 A x0) 24))]
                          | false => kk (bO false) [(1000, (bU 4 x3 24)), (5005, (bU 4 (g29r0 A x0) 24)), (6005, (bU 4 (g30r0 A x0) 24))]
                        | false => kk (bO false) [(1000, (bU 4 x3 24)), (5005, (bU 4 (g29r0 A x0) 24)), (6005, (bU 4 (g30r0 A x0) 24))]
                      | false => none
                    | false => none
                  | false => kk (bO false) [(1000, (bU 4 x3 24)), (5005, (bU 4 (g29r0 A x0) 24)), (6005, (bU 4 (g30r0 A x0) 24))]
                | false => none
              | false => none
            | false => kk (bO false) [(1000, (bU 4 x3 24)), (5005, (bU 4 (g29r0 A x0) 24)), (6005, (bU 4 (g30r0 A x0) 24))]
          | false => none
        | false => none
      | false => kk (bO false) [(1000, (bU 4 x3 24)), (5005, (bU 4 (g29r0 A x0) 24)), (6005, (bU 4 (g30r0 A x0) 24))]
    | false => none
  | false => none
set_option maxRecDepth 100000 in
theorem g9J4_eq {R : Type} (A : Ar) (n : Nat) (kk : AV → Heap → Option R)    (s : St) (x0 : List Nat) (x1 : Nat) (x2 : Bool) (x3 : List Nat) (h : keep g9an 4 s = ⟨[(1, (tS x0)), (2, (u64v x1)), (3, (pT 1000 0)), (7, (bO x2))], [(1000, (bU 4 x3 24))]⟩) :
    g9D A n (pth 15) (g9T kk) s = g9J4 A n kk  x0 x1 x2 x3 := by
  have h1 : (g9T kk) .ret (g9R6s0 A x1 x2 (g29r1 A x0) (g30r1 A x0) x3 (g29r0 A x0) (g30r0 A x0)) = kk (bO ((A.lq (g23r0 A x1) (g35r0 A x1)) && true)) [(1000, (bU 4 x3 24)), (5005, (bU 4 (g29r0 A x0) 24)), (6005, (bU 4 (g30r0 A x0) 24))] := by kernel_rfl
  have h2 := (g9p127 A n _ _).trans h1
  have h3 := (g9Qn A n _ _ _).trans h2
  have h4 : (g9T kk) .ret (g9R6s1 A x1 x2 (g29r1 A x0) (g30r1 A x0) x3 (g29r0 A x0) (g30r0 A x0)) = kk (bO false) [(1000, (bU 4 x3 24)), (5005, (bU 4 (g29r0 A x0) 24)), (6005, (bU 4 (g30r0 A x0) 24))] := by kernel_rfl
  have h5 := (g9p127 A n _ _).trans h4
  have h6 := (g9Qn A n _ _ _).trans h5
  have h7 : (g9T kk) .ret (g9R6s2 A x1 x2 (g29r1 A x0) (g30r1 A x0) x3 (g29r0 A x0) (g30r0 A x0)) = kk (bO false) [(1000, (bU 4 x3 24)), (5005, (bU 4 (g29r0 A x0) 24)), (6005, (bU 4 (g30r0 A x0) 24))] := by kernel_rfl
  have h8 := (g9p127 A n _ _).trans h7
  have h9 := (g9Qn A n _ _ _).trans h8
  have h10 : (g9T kk) .ret (g9R6s3 A x1 x2 (g29r1 A x0) (g30r1 A x0) x3 (g29r0 A x0) (g30r0 A x0)) = kk (bO false) [(1000, (bU 4 x3 24)), (5005, (bU 4 (g29r0 A x0) 24)), (6005, (bU 4 (g30r0 A x0) 24))] := by kernel_rfl
  have h11 := (g9p127 A n _ _).trans h10
  have h12 := (g9Qn A n _ _ _).trans h11
  have h13 : (g9T kk) .ret (g9R6s4 A x1 x2 (g29r1 A x0) (g30r1 A x0) x3 (g29r0 A x0) (g30r0 A x0)) = kk (bO false) [(1000, (bU 4 x3 24)), (5005, (bU 4 (g29r0 A x0) 24)), (6005, (bU 4 (g30r0 A x0) 24))] := by kernel_rfl
  have h14 := (g9p127 A n _ _).trans h13
  have h15 := (g9Qn A n _ _ _).trans h14
  have h16 : (g9T kk) .ret (g9R6s5 A x1 x2 (g29r1 A x0) (g30r1 A x0) x3 (g29r0 A x0) (g30r0 A x0)) = kk (bO false) [(1000, (bU 4 x3 24)), (5005, (bU 4 (g29r0 A x0) 24)), (6005, (bU 4 (g30r0 A x0) 24))] := by kernel_rfl
  have h17 := (g9p127 A n _ _).trans h16
  have h18 := (g9Qn A n _ _ _).trans h17
  have h19 : (g9T kk) .ret (g9R6s6 A x1 x2 (g29r1 A x0) (g30r1 A x0) x3 (g29r0 A x0) (g30r0 A x0)) = kk (bO false) [(1000, (bU 4 x3 24)), (5005, (bU 4 (g29r0 A x0) 24)), (6005, (bU 4 (g30r0 A x0) 24))] := by kernel_rfl
  have h20 := (g9p127 A n _ _).trans h19
  have h21 := (g9Qn A n _ _ _).trans h20
  have h22 := (g9F A n _ 6 _ (g9R5s0 A x0 x1 x2 (g29r1 A x0) x3 (g29r0 A x0)) _ (by kernel_rfl) (by kernel_rfl)).trans (g9R6 A n (g9Q A n (pth 127) (g9T kk)) x1 x2 (g29r1 A x0) (g30r1 A x0) x3 (g29r0 A x0) (g30r0 A x0))
  rw [h3, h6, h9, h12, h15, h18, h21] at h22
  have h23 := (g9p63 A n _ _).trans h22
  have h24 := (g9Qn A n _ _ _).trans h23
  have h25 := (g9F A n _ 5 _ (g9R4s0 A x0 x1 x2 x3) _ (by kernel_rfl) (by kernel_rfl)).trans (g9R5 A n (g9Q A n (pth 63) (g9T kk)) x0 x1 x2 (g29r1 A x0) x3 (g29r0 A x0))
  rw [h24] at h25
  have h26 := (g9p31 A n _ _).trans h25
  have h27 := (g9Qn A n _ _ _).trans h26
  have h28 := (g9F A n _ 4 _ ⟨[(1, (tS x0)), (2, (u64v x1)), (3, (pT 1000 0)), (7, (bO x2))], [(1000, (bU 4 x3 24))]⟩ _ (by kernel_rfl) (by kernel_rfl)).trans (g9R4 A n (g9Q A n (pth 31) (g9T kk)) x0 x1 x2 x3)
  rw [h27] at h28
  have h29 := (g9p15 A n _ _).trans h28
  exact (g9F A n _ 4 _ _ ⟨[(1, (tS x0)), (2, (u64v x1)), (3, (pT 1000 0)), (7, (bO x2))], [(1000, (bU 4 x3 24))]⟩ (by kernel_rfl) (h.trans (by kernel_rfl))).trans (h29.trans (by kernel_rfl))
def g9 {R : Type} (A : Ar) (n : Nat) (kk : AV → Heap → Option R) (a b : List Nat) (c : Nat) : Option R :=
  match (generalizing := false) g11ok A with
  | true => match (generalizing := false) !(g11r0 A) with
    | true => kk (bO false) []
    | false => g9J4 A n kk  b c (g11r0 A) a
  | false => none
set_option maxRecDepth 100000 in
theorem g9_eq {R : Type} (A : Ar) (n : Nat) (kk : AV → Heap → Option R) (a b : List Nat) (c : Nat) :
    funD A gtys (g9O A) g9an n (bodyOf Try.f9) g9res [(aN .u64 4 a), (tS b), (u64v c)] [] kk = g9 A n kk a b c := by
  have h1 : (g9T kk) .ret (g9R3s0 A) = kk (bO false) [] := by kernel_rfl
  have h2 := (g9Qr A n (pth 15) _ _).trans h1
  have h3 := (g9p107 A n _ _).trans h2
  have h4 := (g9Qn A n _ _ _).trans h3
  have h5 := (g9F A n _ 3 _ (g9R2s0 A b c (g11r0 A) a) _ (by kernel_rfl) (by kernel_rfl)).trans (g9R3 A n (g9Q A n (pth 107) (g9Q A n (pth 15) (g9T kk))) )
  rw [h4] at h5
  have h6 := (g9p43 A n _ _).trans h5
  have h7 := (g9Qn A n _ _ _).trans (g9J4_eq A n kk     (g9R2s0 A b c (g11r0 A) a) b c (g11r0 A) a (by kernel_rfl))
  have h8 := (g9p59 A n _ _).trans h7
  have h9 := g9p27 A n (g9Q A n (pth 15) (g9T kk)) (g9R2s0 A b c (g11r0 A) a) (!(g11r0 A)) (by kernel_rfl)
  rw [h6, h8] at h9
  have h10 := (g9Qn A n _ _ _).trans h9
  have h11 := (g9F A n _ 2 _ (g9R1s0 A b c a) _ (by kernel_rfl) (by kernel_rfl)).trans (g9R2 A n (g9Q A n (pth 27) (g9Q A n (pth 15) (g9T kk))) b c (g11r0 A) a)
  rw [h10] at h11
  have h12 := (g9p11 A n _ _).trans h11
  have h13 := (g9p7 A n _ _).trans h12
  have h14 := (g9Qn A n _ _ _).trans h13
  have h15 := (g9F A n _ 1 _ (g9R0s0 A a b c) _ (by kernel_rfl) (by kernel_rfl)).trans (g9R1 A n (g9Q A n (pth 7) (g9T kk)) b c a)
  rw [h14] at h15
  have h16 := (g9p3 A n _ _).trans h15
  have h17 := (g9Qn A n _ _ _).trans h16
  have h18 := (g9F A n _ 0 _ ⟨[(0, (aN .u64 4 a)), (1, (tS b)), (2, (u64v c))], []⟩ _ (by kernel_rfl) (by kernel_rfl)).trans (g9R0 A n (g9Q A n (pth 3) (g9T kk)) a b c)
  rw [h17] at h18
  have h19 := (g9p1 A n _ _).trans h18
  exact (show funD A gtys (g9O A) g9an n (bodyOf Try.f9) g9res [(aN .u64 4 a), (tS b), (u64v c)] [] kk = g9D A n (pth 1) (g9T kk) ⟨[(0, (aN .u64 4 a)), (1, (tS b)), (2, (u64v c))], []⟩ from by kernel_rfl).trans (h19.trans (by kernel_rfl))
def g9is (o : Option AV) : Bool := match o with
  | some (.v (.cell (.bool _))) => true
  | _ => false
def g9g0 (o : Option AV) : Bool := match o with
  | some (.v (.cell (.bool x))) => x
  | _ => false
theorem g9is_spec {o : Option AV} (h : g9is o = true) : o = some (.v (.cell (.bool (g9g0 o)))) := by
  unfold g9is at h
  split at h
  · rfl
  · cases h
def g9v (A : Ar) (a b : List Nat) (c : Nat) : Option AV := g9 A (100000) (fun v _ => some v) a b c
def g9ok (A : Ar) (a b : List Nat) (c : Nat) : Bool := g9is (g9v A a b c)
def g9r0 (A : Ar) (a b : List Nat) (c : Nat) : Bool := g9g0 (g9v A a b c)
theorem g9ok_spec {A : Ar} {a b c} (h : g9ok A a b c = true) : g9v A a b c = some (.v (.cell (.bool (g9r0 A a b c)))) := g9is_spec h
def g9o (A : Ar) (args : List AV) : Option (Bool × AV) := match args with
  | [.v (.agg [.nums .u64 n0 a]), .v (.cell (.str b)), .v (.cell (.nat .u64 c))] => some (Nat.beq n0 4 && (g9ok A a b c), .v (.cell (.bool (g9r0 A a b c))))
  | _ => none
theorem g9o_sound : ∀ args v, g9o realA args = some (true, v) → Fn1 Try.prog 9 args v := by
  intro args v h
  unfold g9o at h
  split at h
  · rename_i n0 a b c
    simp only [Option.some.injEq, Prod.mk.injEq] at h
    obtain ⟨hc, h⟩ := h
    subst h
    · skip
      simp only [Bool.and_eq_true] at hc
      have en0 := beq_true hc.1
      subst en0
      replace hc := hc.2
      exact fn1_of mixed gtysOK g9O_sound g9O_det (an := g9an) (n := 100000) Try.func9 (c := bodyOf Try.f9) rfl (by kernel_rfl) Try.call9 (Nat.le_of_ble_eq_true rfl) (fun b => rfl) (fun _ => (g9_eq realA (100000) (fun v _ => some v) a b c).trans (show g9v realA a b c = _ from g9ok_spec hc))
  · cases h
end Go.Sx
