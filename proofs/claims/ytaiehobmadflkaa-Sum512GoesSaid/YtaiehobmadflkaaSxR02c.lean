import Derived.Test.YtaiehobmadflkaaSxR02b
namespace Go.Sx
open Go.Proofs
set_option linter.unusedVariables false
set_option maxRecDepth 100000
theorem SxR02cmt {α : Type} {c : Bool} (h : c = true) (a b : α) : (match (generalizing := false) c with | true => a | false => b) = a := by subst h; rfl
def g12a_O (A : Ar) : Orc := orcH [] [(20, ⟨[], none, (ho2 (g20o A) (g20a_o A))⟩)]
theorem g12a_O_sound : OSound Try.prog (g12a_O realA) := orcH_sound (fun f g hm args v hv => by
    cases hm) (fun f e hm args h v h' hv => by
    simp only [List.mem_cons, List.not_mem_nil, or_false, Prod.mk.injEq] at hm
    rcases hm with ⟨rfl, rfl⟩
    · exact (ho2_sound g20o_sound g20a_o_sound) _ _ _ _ hv)
theorem g12a_O_det : ODet (g12a_O realA) := orcH_det _ _
def g12a_an : Ann := [(0, ([0, 1], [0, 600])), (1, ([0, 1], [0, 600])), (2, ([0], [0, 600])), (3, ([0], [0, 600])), (4, ([0], [0, 600]))]
def g12a_res : List ResultVar := []
noncomputable def g12a_D {R : Type} (A : Ar) (n : Nat) (p : List Bool) (K : Ex → St → Option R) (s : St) : Option R := codeD A gtys (g12a_O A) g12a_an n (sub (bodyOf Try.f12) p) K s
noncomputable def g12a_V {R : Type} (A : Ar) (n : Nat) (p : List Bool) (m : Nat) (K : Ex → St → Option R) (s : St) : Option R := loopD (fun K' s'' => codeD A gtys (g12a_O A) g12a_an n (sub (bodyOf Try.f12) p) K' s'') m K s
noncomputable def g12a_Q {R : Type} (A : Ar) (n : Nat) (p : List Bool) (K : Ex → St → Option R) : Ex → St → Option R := seqC (g12a_D A n p K) K
noncomputable def g12a_W {R : Type} (A : Ar) (n : Nat) (p : List Bool) (m : Nat) (K : Ex → St → Option R) : Ex → St → Option R := seqC (g12a_V A n p m K) K
noncomputable def g12a_T {R : Type} (kk : KK R) : Ex → St → Option R := finD gtys g12a_res kk
theorem g12a_Qn {R : Type} (A : Ar) (n : Nat) (p : List Bool) (K : Ex → St → Option R) (s : St) : g12a_Q A n p K .normal s = g12a_D A n p K s := rfl
theorem g12a_Qe {R : Type} (A : Ar) (n : Nat) (p : List Bool) (K : Ex → St → Option R) (i : Nat) (s : St) : g12a_Q A n p K (.exit i) s = K (.exit i) s := rfl
theorem g12a_Wn {R : Type} (A : Ar) (n : Nat) (p : List Bool) (m : Nat) (K : Ex → St → Option R) (s : St) : g12a_W A n p m K .normal s = g12a_V A n p m K s := rfl
theorem g12a_We {R : Type} (A : Ar) (n : Nat) (p : List Bool) (m : Nat) (K : Ex → St → Option R) (i : Nat) (s : St) : g12a_W A n p m K (.exit i) s = K (.exit i) s := rfl
theorem g12a_Vs {R : Type} (A : Ar) (n : Nat) (p : List Bool) (m : Nat) (K : Ex → St → Option R) (s : St) : g12a_V A n p (m + 1) K s = g12a_D A n p (g12a_W A n p m K) s := rfl
theorem g12a_F {R : Type} (A : Ar) (n : Nat) (p : List Bool) (i : Nat) (K : Ex → St → Option R) (s s' : St) (hf : firstReg (sub (bodyOf Try.f12) p) = some i) (h : keep g12a_an i s = keep g12a_an i s') : g12a_D A n p K s = g12a_D A n p K s' := codeD_first hf h K
section
variable {R : Type} (A : Ar) (n : Nat) (K : Ex → St → Option R) (s : St)
theorem g12a_p1 : g12a_D A n (pth 1) K s = g12a_D A n (pth 2) (g12a_Q A n (pth 3) K) s := by kernel_rfl
theorem g12a_p3 : g12a_D A n (pth 3) K s = g12a_D A n (pth 5) (g12a_Q A n (pth 7) K) s := by kernel_rfl
theorem g12a_p7 : g12a_D A n (pth 7) K s = g12a_D A n (pth 11) (blockK 0 K) s := by kernel_rfl
theorem g12a_p11 : g12a_D A n (pth 11) K s = g12a_V A n (pth 19) n K s := by kernel_rfl
theorem g12a_p19 : g12a_D A n (pth 19) K s = g12a_D A n (pth 35) (g12a_Q A n (pth 51) K) s := by kernel_rfl
theorem g12a_p35 : g12a_D A n (pth 35) K s = g12a_D A n (pth 67) (g12a_Q A n (pth 99) K) s := by kernel_rfl
theorem g12a_p99 (t : Bool) : ev s (.tmp 27) = some (.v (.cell (.bool t))) → g12a_D A n (pth 99) K s = (match t with
    | true => g12a_D A n (pth 163) K s
    | false => g12a_D A n (pth 227) K s) := codeD_cond t
theorem g12a_p163 : g12a_D A n (pth 163) K s = K .normal s := by kernel_rfl
theorem g12a_p227 : g12a_D A n (pth 227) K s = K (.exit 0) s := by kernel_rfl
theorem g12a_p51 : g12a_D A n (pth 51) K s = g12a_D A n (pth 83) (blockK 1 K) s := by kernel_rfl
theorem g12a_p83 : g12a_D A n (pth 83) K s = g12a_D A n (pth 147) (g12a_Q A n (pth 211) K) s := by kernel_rfl
def g12a_R3s0 (A : Ar) (x0 : LN) (x1 x2 : Nat) (x3 : Int) (x4 : Nat) (x5 : LN) : St := ⟨[(34, (.tup [])), (33, sL 600 (some x1) 128 1), (32, sL 600 (some x1) x2 1), (31, pT 0 88), (30, pT 0 0), (29, pT 0 0), (28, pT 0 0), (0, pT 0 0)], [(0, bH 600 (g20a_r0 A x1 128 x0 x1 x2 x3 x4 x5) (some (g20a_r1 A x1 128 x0 x1 x2 x3 x4 x5)) (g20a_r2 A x1 128 x0 x1 x2 x3 x4 x5) (g20a_r3 A x1 128 x0 x1 x2 x3 x4 x5)), (600, bY (g20a_r4 A x1 128 x0 x1 x2 x3 x4 x5) (g20a_r5 A x1 128 x0 x1 x2 x3 x4 x5))]⟩
theorem g12a_R3 (x0 : LN) (x1 x2 : Nat) (x3 : Int) (x4 : Nat) (x5 : LN) : g12a_D A n (pth 147) K ⟨[(0, pT 0 0)], [(0, bH 600 x0 (some x1) x2 x3), (600, bY x4 x5)]⟩ = match A.le 128 x2 with
    | true => match g20a_ok A x1 128 x0 x1 x2 x3 x4 x5 with
      | true => K .normal (g12a_R3s0 A x0 x1 x2 x3 x4 x5)
      | false => none
    | false => none := by kernel_rfl
def g12a_R4s0 (A : Ar) (x0 : LN) (x1 x2 : Nat) (x3 : Int) (x4 : Nat) (x5 : LN) : St := ⟨[(42, pT 0 88), (41, pT 0 0), (40, sL 600 (some (x1 + 128)) (x2 - 128) 1), (39, sL 600 (some x1) x2 1), (38, pT 0 88), (37, pT 0 0), (36, pT 0 0), (35, pT 0 0), (0, pT 0 0)], [(0, bH 600 x0 (some (x1 + 128)) (x2 - 128) x3), (600, bY x4 x5)]⟩
theorem g12a_R4 (x0 : LN) (x1 x2 : Nat) (x3 : Int) (x4 : Nat) (x5 : LN) : g12a_D A n (pth 211) K ⟨[(0, pT 0 0)], [(0, bH 600 x0 (some x1) x2 x3), (600, bY x4 x5)]⟩ = match A.le 128 x2 with
    | true => K .normal (g12a_R4s0 A x0 x1 x2 x3 x4 x5)
    | false => none := by kernel_rfl
def g12a_R2s0 (A : Ar) (x0 : LN) (x1 x2 : Nat) (x3 : Int) (x4 : Nat) (x5 : LN) : St := ⟨[(27, bO (A.ic .geq (A.ofN x2) 128)), (26, i6 (A.ofN x2)), (25, sL 600 (some x1) x2 1), (24, pT 0 88), (23, pT 0 0), (22, pT 0 0), (0, pT 0 0)], [(0, bH 600 x0 (some x1) x2 x3), (600, bY x4 x5)]⟩
theorem g12a_R2 (x0 : LN) (x1 x2 : Nat) (x3 : Int) (x4 : Nat) (x5 : LN) : g12a_D A n (pth 67) K ⟨[(0, pT 0 0)], [(0, bH 600 x0 (some x1) x2 x3), (600, bY x4 x5)]⟩ = K .normal (g12a_R2s0 A x0 x1 x2 x3 x4 x5) := by kernel_rfl
def g12a_R3as0 (A : Ar) (x0 : LN) (x1 : Nat) (x2 : Int) (x3 : Nat) (x4 : LN) : St := ⟨[(34, (.tup [])), (33, sL 600 none 128 1), (32, sL 600 none x1 1), (31, pT 0 88), (30, pT 0 0), (29, pT 0 0), (28, pT 0 0), (0, pT 0 0)], [(0, bH 600 (g20r0 A 128 x0 x1 x2 x3 x4) none (g20r1 A 128 x0 x1 x2 x3 x4) (g20r2 A 128 x0 x1 x2 x3 x4)), (600, bY (g20r3 A 128 x0 x1 x2 x3 x4) (g20r4 A 128 x0 x1 x2 x3 x4))]⟩
end
theorem g12a_R3a {R : Type} (A : Ar) (n : Nat) (K : Ex → St → Option R) (x0 : LN) (x1 : Nat) (x2 : Int) (x3 : Nat) (x4 : LN) : g12a_D A n (pth 147) K ⟨[(0, pT 0 0)], [(0, bH 600 x0 none x1 x2), (600, bY x3 x4)]⟩ = match A.le 128 x1 with
    | true => match g20ok A 128 x0 x1 x2 x3 x4 with
      | true => K .normal (g12a_R3as0 A x0 x1 x2 x3 x4)
      | false => none
    | false => none := by kernel_rfl
def g12a_R4as0 (A : Ar) (x0 : LN) (x1 : Nat) (x2 : Int) (x3 : Nat) (x4 : LN) : St := ⟨[(42, pT 0 88), (41, pT 0 0), (40, sL 600 (some 128) (x1 - 128) 1), (39, sL 600 none x1 1), (38, pT 0 88), (37, pT 0 0), (36, pT 0 0), (35, pT 0 0), (0, pT 0 0)], [(0, bH 600 x0 (some 128) (x1 - 128) x2), (600, bY x3 x4)]⟩
theorem g12a_R4a {R : Type} (A : Ar) (n : Nat) (K : Ex → St → Option R) (x0 : LN) (x1 : Nat) (x2 : Int) (x3 : Nat) (x4 : LN) : g12a_D A n (pth 211) K ⟨[(0, pT 0 0)], [(0, bH 600 x0 none x1 x2), (600, bY x3 x4)]⟩ = match A.le 128 x1 with
    | true => K .normal (g12a_R4as0 A x0 x1 x2 x3 x4)
    | false => none := by kernel_rfl
def g12a_R2as0 (A : Ar) (x0 : LN) (x1 : Nat) (x2 : Int) (x3 : Nat) (x4 : LN) : St := ⟨[(27, bO (A.ic .geq (A.ofN x1) 128)), (26, i6 (A.ofN x1)), (25, sL 600 none x1 1), (24, pT 0 88), (23, pT 0 0), (22, pT 0 0), (0, pT 0 0)], [(0, bH 600 x0 none x1 x2), (600, bY x3 x4)]⟩
theorem g12a_R2a {R : Type} (A : Ar) (n : Nat) (K : Ex → St → Option R) (x0 : LN) (x1 : Nat) (x2 : Int) (x3 : Nat) (x4 : LN) : g12a_D A n (pth 67) K ⟨[(0, pT 0 0)], [(0, bH 600 x0 none x1 x2), (600, bY x3 x4)]⟩ = K .normal (g12a_R2as0 A x0 x1 x2 x3 x4) := by kernel_rfl
def g12a_R0s0 (A : Ar) (x0 x1 : LN) (x2 x3 : Nat) (x4 : Int) (x5 : Nat) (x6 : LN) : St := ⟨[(12, pT 0 89), (11, pT 0 0), (10, i6 (A.ib .add .i64 x4 (A.ofN x0.length))), (9, i6 (A.ofN x0.length)), (8, tS x0), (7, i6 x4), (6, pT 0 89), (5, pT 0 0), (4, pT 0 0), (0, pT 0 0), (1, tS x0)], [(0, bH 600 x1 (some x2) x3 (A.ib .add .i64 x4 (A.ofN x0.length))), (600, bY x5 x6)]⟩
theorem g12a_R0 {R : Type} (A : Ar) (n : Nat) (K : Ex → St → Option R) (x0 x1 : LN) (x2 x3 : Nat) (x4 : Int) (x5 : Nat) (x6 : LN) : g12a_D A n (pth 2) K ⟨[(0, pT 0 0), (1, tS x0)], [(0, bH 600 x1 (some x2) x3 x4), (600, bY x5 x6)]⟩ = K .normal (g12a_R0s0 A x0 x1 x2 x3 x4 x5 x6) := by kernel_rfl
def g12a_R1s0 (A : Ar) (x0 x1 : LN) (x2 x3 : Nat) (x4 : Int) (x5 : Nat) (x6 : LN) : St := ⟨[(21, pT 0 88), (20, pT 0 0), (19, sL 600 none ((x6.drop x2 ++ x0).length) 1), (18, tS x0), (17, (.v (.cell .top))), (16, pT 0 88), (15, pT 0 0), (14, pT 0 0), (13, pT 0 0), (0, pT 0 0), (1, tS x0)], [(600, bY ((x6.drop x2 ++ x0).length) (x6.drop x2 ++ x0)), (0, bH 600 x1 none ((x6.drop x2 ++ x0).length) x4)]⟩
theorem g12a_R1 {R : Type} (A : Ar) (n : Nat) (K : Ex → St → Option R) (x0 x1 : LN) (x2 x3 : Nat) (x4 : Int) (x5 : Nat) (x6 : LN) : g12a_D A n (pth 5) K ⟨[(0, pT 0 0), (1, tS x0)], [(0, bH 600 x1 (some x2) x3 x4), (600, bY x5 x6)]⟩ = match A.eq (x2 + x3) (x5 + 0) with
    | true => match A.le ((x6.drop x2 ++ x0).length) 140737488355328 with
      | true => K .normal (g12a_R1s0 A x0 x1 x2 x3 x4 x5 x6)
      | false => none
    | false => none := by kernel_rfl
def g12a_J3a {R : Type} (A : Ar) (n : Nat) (kk : KK R) (lg12a_L2a : LN → Nat → Nat → Int → Nat → LN → Option R) (x0 : LN) (x1 x2 : Nat) (x3 : Int) (x4 : Nat) (x5 : LN) : Option R :=
  match A.le 128 x2 with
  | true => match g20a_ok A x1 128 x0 x1 x2 x3 x4 x5 with
    | true => match A.le 128 (g20a_r2 A x1 128 x0 x1 x2 x3 x4 x5) with
      | true => lg12a_L2a (g20a_r0 A x1 128 x0 x1 x2 x3 x4 x5) ((g20a_r1 A x1 128 x0 x1 x2 x3 x4 x5) + 128) ((g20a_r2 A x1 128 x0 x1 x2 x3 x4 x5) - 128) (g20a_r3 A x1 128 x0 x1 x2 x3 x4 x5) (g20a_r4 A x1 128 x0 x1 x2 x3 x4 x5) (g20a_r5 A x1 128 x0 x1 x2 x3 x4 x5)
      | false => none
    | false => none
  | false => none
theorem g12a_J3a_eq {R : Type} (A : Ar) (n : Nat) (kk : KK R) (m0 : Nat) (lg12a_L2a : LN → Nat → Nat → Int → Nat → LN → Option R)
    (hg12a_L2a : ∀ (s : St) (x0 : LN) (x1 x2 : Nat) (x3 : Int) (x4 : Nat) (x5 : LN), keep g12a_an 2 s = ⟨[(0, pT 0 0)], [(0, bH 600 x0 (some x1) x2 x3), (600, bY x4 x5)]⟩ → g12a_V A n (pth 19) m0 (blockK 0 (g12a_T kk)) s = lg12a_L2a x0 x1 x2 x3 x4 x5) (s : St) (x0 : LN) (x1 x2 : Nat) (x3 : Int) (x4 : Nat) (x5 : LN) (h : keep g12a_an 3 s = ⟨[(0, pT 0 0)], [(0, bH 600 x0 (some x1) x2 x3), (600, bY x4 x5)]⟩) :
    g12a_D A n (pth 51) (g12a_W A n (pth 19) m0 (blockK 0 (g12a_T kk))) s = g12a_J3a A n kk lg12a_L2a x0 x1 x2 x3 x4 x5 := by
  have h1 := (g12a_Wn A n _ _ _ _).trans (hg12a_L2a (g12a_R4s0 A (g20a_r0 A x1 128 x0 x1 x2 x3 x4 x5) (g20a_r1 A x1 128 x0 x1 x2 x3 x4 x5) (g20a_r2 A x1 128 x0 x1 x2 x3 x4 x5) (g20a_r3 A x1 128 x0 x1 x2 x3 x4 x5) (g20a_r4 A x1 128 x0 x1 x2 x3 x4 x5) (g20a_r5 A x1 128 x0 x1 x2 x3 x4 x5)) (g20a_r0 A x1 128 x0 x1 x2 x3 x4 x5) ((g20a_r1 A x1 128 x0 x1 x2 x3 x4 x5) + 128) ((g20a_r2 A x1 128 x0 x1 x2 x3 x4 x5) - 128) (g20a_r3 A x1 128 x0 x1 x2 x3 x4 x5) (g20a_r4 A x1 128 x0 x1 x2 x3 x4 x5) (g20a_r5 A x1 128 x0 x1 x2 x3 x4 x5) (by kernel_rfl))
  have h2 := (blockK_n 1 _ _).trans h1
  have h3 := (g12a_F A n _ 4 _ (g12a_R3s0 A x0 x1 x2 x3 x4 x5) _ (by kernel_rfl) (by kernel_rfl)).trans (g12a_R4 A n (blockK 1 (g12a_W A n (pth 19) m0 (blockK 0 (g12a_T kk)))) (g20a_r0 A x1 128 x0 x1 x2 x3 x4 x5) (g20a_r1 A x1 128 x0 x1 x2 x3 x4 x5) (g20a_r2 A x1 128 x0 x1 x2 x3 x4 x5) (g20a_r3 A x1 128 x0 x1 x2 x3 x4 x5) (g20a_r4 A x1 128 x0 x1 x2 x3 x4 x5) (g20a_r5 A x1 128 x0 x1 x2 x3 x4 x5))
  rw [h2] at h3
  have h4 := (g12a_Qn A n _ _ _).trans h3
  have h5 := (g12a_F A n _ 3 _ ⟨[(0, pT 0 0)], [(0, bH 600 x0 (some x1) x2 x3), (600, bY x4 x5)]⟩ _ (by kernel_rfl) (by kernel_rfl)).trans (g12a_R3 A n (g12a_Q A n (pth 211) (blockK 1 (g12a_W A n (pth 19) m0 (blockK 0 (g12a_T kk))))) x0 x1 x2 x3 x4 x5)
  rw [h4] at h5
  have h6 := (g12a_p83 A n _ _).trans h5
  have h7 := (g12a_p51 A n _ _).trans h6
  exact (g12a_F A n _ 3 _ _ ⟨[(0, pT 0 0)], [(0, bH 600 x0 (some x1) x2 x3), (600, bY x4 x5)]⟩ (by kernel_rfl) (h.trans (by kernel_rfl))).trans (h7.trans (by kernel_rfl))
def g12a_L2a {R : Type} (A : Ar) (n : Nat) (kk : KK R) : Nat → LN → Nat → Nat → Int → Nat → LN → Option R
  | 0, _, _, _, _, _, _ => none
  | m + 1, x0, x1, x2, x3, x4, x5 => match A.ic .geq (A.ofN x2) 128 with
  | true => g12a_J3a A n kk (g12a_L2a A n kk m) x0 x1 x2 x3 x4 x5
  | false => kk (.tup []) [(0, ⟨[.nums .u64 88 x0, .one (.sl 600 (some x1) x2 1), .one (.int .i64 x3)], 45, 1⟩), (600, ⟨[.nums .u8 x4 x5], 5, 2⟩)]
theorem g12a_L2a_eq {R : Type} (A : Ar) (n : Nat) (kk : KK R) (m : Nat) (s : St) (x0 : LN) (x1 x2 : Nat) (x3 : Int) (x4 : Nat) (x5 : LN) (h : keep g12a_an 2 s = ⟨[(0, pT 0 0)], [(0, bH 600 x0 (some x1) x2 x3), (600, bY x4 x5)]⟩) :
    g12a_V A n (pth 19) m (blockK 0 (g12a_T kk)) s = g12a_L2a A n kk m x0 x1 x2 x3 x4 x5 := by
  induction m generalizing s x0 x1 x2 x3 x4 x5 with
  | zero => rfl
  | succ m ih =>
    have h1 := (g12a_Qn A n _ _ _).trans (g12a_J3a_eq A n kk m (g12a_L2a A n kk m) ih (g12a_R2s0 A x0 x1 x2 x3 x4 x5) x0 x1 x2 x3 x4 x5 (by kernel_rfl))
    have h2 := (g12a_p163 A n _ _).trans h1
    have h3 : (g12a_T kk) .normal (g12a_R2s0 A x0 x1 x2 x3 x4 x5) = kk (.tup []) [(0, bH 600 x0 (some x1) x2 x3), (600, bY x4 x5)] := by kernel_rfl
    have h4 := (blockK_hit 0 _ _).trans h3
    have h5 := (g12a_We A n (pth 19) m _ _ _).trans h4
    have h6 := (g12a_Qe A n (pth 51) _ _ _).trans h5
    have h7 := (g12a_p227 A n _ _).trans h6
    have h8 := g12a_p99 A n (g12a_Q A n (pth 51) (g12a_W A n (pth 19) m (blockK 0 (g12a_T kk)))) (g12a_R2s0 A x0 x1 x2 x3 x4 x5) (A.ic .geq (A.ofN x2) 128) (by kernel_rfl)
    rw [h2, h7] at h8
    have h9 := (g12a_Qn A n _ _ _).trans h8
    have h10 := (g12a_F A n _ 2 _ ⟨[(0, pT 0 0)], [(0, bH 600 x0 (some x1) x2 x3), (600, bY x4 x5)]⟩ _ (by kernel_rfl) (by kernel_rfl)).trans (g12a_R2 A n (g12a_Q A n (pth 99) (g12a_Q A n (pth 51) (g12a_W A n (pth 19) m (blockK 0 (g12a_T kk))))) x0 x1 x2 x3 x4 x5)
    rw [h9] at h10
    have h11 := (g12a_p35 A n _ _).trans h10
    have h12 := (g12a_p19 A n _ _).trans h11
    exact (loopD_first (s' := ⟨[(0, pT 0 0)], [(0, bH 600 x0 (some x1) x2 x3), (600, bY x4 x5)]⟩) (id := 2) (by kernel_rfl) (h.trans (by kernel_rfl)) _).trans ((g12a_Vs A n _ m _ _).trans (h12.trans (by kernel_rfl)))
def g12a_J3 {R : Type} (A : Ar) (n : Nat) (kk : KK R) (lg12a_L2a : LN → Nat → Nat → Int → Nat → LN → Option R) (x0 : LN) (x1 : Nat) (x2 : Int) (x3 : Nat) (x4 : LN) : Option R :=
  match A.le 128 x1 with
  | true => match g20ok A 128 x0 x1 x2 x3 x4 with
    | true => match A.le 128 (g20r1 A 128 x0 x1 x2 x3 x4) with
      | true => lg12a_L2a (g20r0 A 128 x0 x1 x2 x3 x4) 128 ((g20r1 A 128 x0 x1 x2 x3 x4) - 128) (g20r2 A 128 x0 x1 x2 x3 x4) (g20r3 A 128 x0 x1 x2 x3 x4) (g20r4 A 128 x0 x1 x2 x3 x4)
      | false => none
    | false => none
  | false => none
theorem g12a_J3_eq {R : Type} (A : Ar) (n : Nat) (kk : KK R) (m0 : Nat) (lg12a_L2a : LN → Nat → Nat → Int → Nat → LN → Option R)
    (hg12a_L2a : ∀ (s : St) (x0 : LN) (x1 x2 : Nat) (x3 : Int) (x4 : Nat) (x5 : LN), keep g12a_an 2 s = ⟨[(0, pT 0 0)], [(0, bH 600 x0 (some x1) x2 x3), (600, bY x4 x5)]⟩ → g12a_V A n (pth 19) m0 (blockK 0 (g12a_T kk)) s = lg12a_L2a x0 x1 x2 x3 x4 x5) (s : St) (x0 : LN) (x1 : Nat) (x2 : Int) (x3 : Nat) (x4 : LN) (h : keep g12a_an 3 s = ⟨[(0, pT 0 0)], [(0, bH 600 x0 none x1 x2), (600, bY x3 x4)]⟩) :
    g12a_D A n (pth 51) (g12a_W A n (pth 19) m0 (blockK 0 (g12a_T kk))) s = g12a_J3 A n kk lg12a_L2a x0 x1 x2 x3 x4 := by
  have h1 := (g12a_Wn A n _ _ _ _).trans (hg12a_L2a (g12a_R4as0 A (g20r0 A 128 x0 x1 x2 x3 x4) (g20r1 A 128 x0 x1 x2 x3 x4) (g20r2 A 128 x0 x1 x2 x3 x4) (g20r3 A 128 x0 x1 x2 x3 x4) (g20r4 A 128 x0 x1 x2 x3 x4)) (g20r0 A 128 x0 x1 x2 x3 x4) 128 ((g20r1 A 128 x0 x1 x2 x3 x4) - 128) (g20r2 A 128 x0 x1 x2 x3 x4) (g20r3 A 128 x0 x1 x2 x3 x4) (g20r4 A 128 x0 x1 x2 x3 x4) (by kernel_rfl))
  have h2 := (blockK_n 1 _ _).trans h1
  have h3 := (g12a_F A n _ 4 _ (g12a_R3as0 A x0 x1 x2 x3 x4) _ (by kernel_rfl) (by kernel_rfl)).trans (g12a_R4a A n (blockK 1 (g12a_W A n (pth 19) m0 (blockK 0 (g12a_T kk)))) (g20r0 A 128 x0 x1 x2 x3 x4) (g20r1 A 128 x0 x1 x2 x3 x4) (g20r2 A 128 x0 x1 x2 x3 x4) (g20r3 A 128 x0 x1 x2 x3 x4) (g20r4 A 128 x0 x1 x2 x3 x4))
  rw [h2] at h3
  have h4 := (g12a_Qn A n _ _ _).trans h3
  have h5 := (g12a_F A n _ 3 _ ⟨[(0, pT 0 0)], [(0, bH 600 x0 none x1 x2), (600, bY x3 x4)]⟩ _ (by kernel_rfl) (by kernel_rfl)).trans (g12a_R3a A n (g12a_Q A n (pth 211) (blockK 1 (g12a_W A n (pth 19) m0 (blockK 0 (g12a_T kk))))) x0 x1 x2 x3 x4)
  rw [h4] at h5
  have h6 := (g12a_p83 A n _ _).trans h5
  have h7 := (g12a_p51 A n _ _).trans h6
  exact (g12a_F A n _ 3 _ _ ⟨[(0, pT 0 0)], [(0, bH 600 x0 none x1 x2), (600, bY x3 x4)]⟩ (by kernel_rfl) (h.trans (by kernel_rfl))).trans (h7.trans (by kernel_rfl))
def g12a_L2 {R : Type} (A : Ar) (n : Nat) (kk : KK R) : Nat → LN → Nat → Int → Nat → LN → Option R
  | 0, _, _, _, _, _ => none
  | m + 1, x0, x1, x2, x3, x4 => match A.ic .geq (A.ofN x1) 128 with
  | true => g12a_J3 A n kk (g12a_L2a A n kk m) x0 x1 x2 x3 x4
  | false => kk (.tup []) [(0, ⟨[.nums .u64 88 x0, .one (.sl 600 none x1 1), .one (.int .i64 x2)], 45, 1⟩), (600, ⟨[.nums .u8 x3 x4], 5, 2⟩)]
theorem g12a_L2_eq {R : Type} (A : Ar) (n : Nat) (kk : KK R) (m : Nat) (s : St) (x0 : LN) (x1 : Nat) (x2 : Int) (x3 : Nat) (x4 : LN) (h : keep g12a_an 2 s = ⟨[(0, pT 0 0)], [(0, bH 600 x0 none x1 x2), (600, bY x3 x4)]⟩) :
    g12a_V A n (pth 19) m (blockK 0 (g12a_T kk)) s = g12a_L2 A n kk m x0 x1 x2 x3 x4 := by
  induction m generalizing s x0 x1 x2 x3 x4 with
  | zero => rfl
  | succ m ih =>
    have h1 := (g12a_Qn A n _ _ _).trans (g12a_J3_eq A n kk m (g12a_L2a A n kk m) (g12a_L2a_eq A n kk m) (g12a_R2as0 A x0 x1 x2 x3 x4) x0 x1 x2 x3 x4 (by kernel_rfl))
    have h2 := (g12a_p163 A n _ _).trans h1
    have h3 : (g12a_T kk) .normal (g12a_R2as0 A x0 x1 x2 x3 x4) = kk (.tup []) [(0, bH 600 x0 none x1 x2), (600, bY x3 x4)] := by kernel_rfl
    have h4 := (blockK_hit 0 _ _).trans h3
    have h5 := (g12a_We A n (pth 19) m _ _ _).trans h4
    have h6 := (g12a_Qe A n (pth 51) _ _ _).trans h5
    have h7 := (g12a_p227 A n _ _).trans h6
    have h8 := g12a_p99 A n (g12a_Q A n (pth 51) (g12a_W A n (pth 19) m (blockK 0 (g12a_T kk)))) (g12a_R2as0 A x0 x1 x2 x3 x4) (A.ic .geq (A.ofN x1) 128) (by kernel_rfl)
    rw [h2, h7] at h8
    have h9 := (g12a_Qn A n _ _ _).trans h8
    have h10 := (g12a_F A n _ 2 _ ⟨[(0, pT 0 0)], [(0, bH 600 x0 none x1 x2), (600, bY x3 x4)]⟩ _ (by kernel_rfl) (by kernel_rfl)).trans (g12a_R2a A n (g12a_Q A n (pth 99) (g12a_Q A n (pth 51) (g12a_W A n (pth 19) m (blockK 0 (g12a_T kk))))) x0 x1 x2 x3 x4)
    rw [h9] at h10
    have h11 := (g12a_p35 A n _ _).trans h10
    have h12 := (g12a_p19 A n _ _).trans h11
    exact (loopD_first (s' := ⟨[(0, pT 0 0)], [(0, bH 600 x0 none x1 x2), (600, bY x3 x4)]⟩) (id := 2) (by kernel_rfl) (h.trans (by kernel_rfl)) _).trans ((g12a_Vs A n _ m _ _).trans (h12.trans (by kernel_rfl)))
def g12a_ {R : Type} (A : Ar) (n : Nat) (kk : KK R) (x0 x1 : LN) (x2 x3 : Nat) (x4 : Int) (x5 : Nat) (x6 : LN) : Option R :=
  match A.eq (x2 + x3) (x5 + 0) with
  | true => match A.le ((x6.drop x2 ++ x0).length) 140737488355328 with
    | true => g12a_L2 A n kk n x1 ((x6.drop x2 ++ x0).length) (A.ib .add .i64 x4 (A.ofN x0.length)) ((x6.drop x2 ++ x0).length) (x6.drop x2 ++ x0)
    | false => none
  | false => none
theorem g12a__eq {R : Type} (A : Ar) (n : Nat) (kk : KK R) (x0 x1 : LN) (x2 x3 : Nat) (x4 : Int) (x5 : Nat) (x6 : LN) :
    funD A gtys (g12a_O A) g12a_an n (bodyOf Try.f12) g12a_res [(pT 0 0), (tS x0)] [(0, bH 600 x1 (some x2) x3 x4), (600, bY x5 x6)] kk = g12a_ A n kk x0 x1 x2 x3 x4 x5 x6 := by
  have h1 := (g12a_p11 A n _ _).trans (g12a_L2_eq A n kk n (g12a_R1s0 A x0 x1 x2 x3 (A.ib .add .i64 x4 (A.ofN x0.length)) x5 x6) x1 ((x6.drop x2 ++ x0).length) (A.ib .add .i64 x4 (A.ofN x0.length)) ((x6.drop x2 ++ x0).length) (x6.drop x2 ++ x0) (by kernel_rfl))
  have h2 := (g12a_p7 A n _ _).trans h1
  have h3 := (g12a_Qn A n _ _ _).trans h2
  have h4 := (g12a_F A n _ 1 _ (g12a_R0s0 A x0 x1 x2 x3 x4 x5 x6) _ (by kernel_rfl) (by kernel_rfl)).trans (g12a_R1 A n (g12a_Q A n (pth 7) (g12a_T kk)) x0 x1 x2 x3 (A.ib .add .i64 x4 (A.ofN x0.length)) x5 x6)
  rw [h3] at h4
  have h5 := (g12a_p3 A n _ _).trans h4
  have h6 := (g12a_Qn A n _ _ _).trans h5
  have h7 := (g12a_F A n _ 0 _ ⟨[(0, pT 0 0), (1, tS x0)], [(0, bH 600 x1 (some x2) x3 x4), (600, bY x5 x6)]⟩ _ (by kernel_rfl) (by kernel_rfl)).trans (g12a_R0 A n (g12a_Q A n (pth 3) (g12a_T kk)) x0 x1 x2 x3 x4 x5 x6)
  rw [h6] at h7
  have h8 := (g12a_p1 A n _ _).trans h7
  exact (show funD A gtys (g12a_O A) g12a_an n (bodyOf Try.f12) g12a_res [(pT 0 0), (tS x0)] [(0, bH 600 x1 (some x2) x3 x4), (600, bY x5 x6)] kk = g12a_D A n (pth 1) (g12a_T kk) ⟨[(0, pT 0 0), (1, tS x0)], [(0, bH 600 x1 (some x2) x3 x4), (600, bY x5 x6)]⟩ from by kernel_rfl).trans (h8.trans (by kernel_rfl))
def g12a_is (o : Option (AV × Heap)) : Bool := match o with
  | some (.tup [], [(n0, ⟨[.nums .u64 n1 _, .one (.sl n2 (some _) _ n3), .one (.int .i64 _)], n4, n5⟩), (n6, ⟨[.nums .u8 _ _], n7, n8⟩)]) => Nat.beq n0 0 && (Nat.beq n1 88 && (Nat.beq n2 600 && (Nat.beq n3 1 && (Nat.beq n4 45 && (Nat.beq n5 1 && (Nat.beq n6 600 && (Nat.beq n7 5 && (Nat.beq n8 2))))))))
  | _ => false
def g12a_g0 (o : Option (AV × Heap)) : LN := match o with
  | some (.tup [], [(_, ⟨[.nums .u64 _ x, .one (.sl _ (some _) _ _), .one (.int .i64 _)], _, _⟩), (_, ⟨[.nums .u8 _ _], _, _⟩)]) => x
  | _ => []
def g12a_g1 (o : Option (AV × Heap)) : Nat := match o with
  | some (.tup [], [(_, ⟨[.nums .u64 _ _, .one (.sl _ (some x) _ _), .one (.int .i64 _)], _, _⟩), (_, ⟨[.nums .u8 _ _], _, _⟩)]) => x
  | _ => 0
def g12a_g2 (o : Option (AV × Heap)) : Nat := match o with
  | some (.tup [], [(_, ⟨[.nums .u64 _ _, .one (.sl _ (some _) x _), .one (.int .i64 _)], _, _⟩), (_, ⟨[.nums .u8 _ _], _, _⟩)]) => x
  | _ => 0
def g12a_g3 (o : Option (AV × Heap)) : Int := match o with
  | some (.tup [], [(_, ⟨[.nums .u64 _ _, .one (.sl _ (some _) _ _), .one (.int .i64 x)], _, _⟩), (_, ⟨[.nums .u8 _ _], _, _⟩)]) => x
  | _ => 0
def g12a_g4 (o : Option (AV × Heap)) : Nat := match o with
  | some (.tup [], [(_, ⟨[.nums .u64 _ _, .one (.sl _ (some _) _ _), .one (.int .i64 _)], _, _⟩), (_, ⟨[.nums .u8 x _], _, _⟩)]) => x
  | _ => 0
def g12a_g5 (o : Option (AV × Heap)) : LN := match o with
  | some (.tup [], [(_, ⟨[.nums .u64 _ _, .one (.sl _ (some _) _ _), .one (.int .i64 _)], _, _⟩), (_, ⟨[.nums .u8 _ x], _, _⟩)]) => x
  | _ => []
theorem g12a_is_spec {o : Option (AV × Heap)} (h : g12a_is o = true) : o = some ((.tup []), [(0, ⟨[.nums .u64 88 (g12a_g0 o), .one (.sl 600 (some (g12a_g1 o)) (g12a_g2 o) 1), .one (.int .i64 (g12a_g3 o))], 45, 1⟩), (600, ⟨[.nums .u8 (g12a_g4 o) (g12a_g5 o)], 5, 2⟩)]) := by
  unfold g12a_is at h
  split at h
  · rename_i n0 n1 z2 n2 z4 z5 n3 z7 n4 n5 n6 z11 z12 n7 n8
    simp only [Bool.and_eq_true] at h
    have en0 := beq_true h.1
    subst en0
    replace h := h.2
    have en1 := beq_true h.1
    subst en1
    replace h := h.2
    have en2 := beq_true h.1
    subst en2
    replace h := h.2
    have en3 := beq_true h.1
    subst en3
    replace h := h.2
    have en4 := beq_true h.1
    subst en4
    replace h := h.2
    have en5 := beq_true h.1
    subst en5
    replace h := h.2
    have en6 := beq_true h.1
    subst en6
    replace h := h.2
    have en7 := beq_true h.1
    subst en7
    replace h := h.2
    have en8 := beq_true h
    subst en8
    rfl
  · cases h
def g12a_v (A : Ar) (x0 x1 : LN) (x2 x3 : Nat) (x4 : Int) (x5 : Nat) (x6 : LN) : Option (AV × Heap) := g12a_ A (100000) (outN [501, 600] [0, 600] none) x0 x1 x2 x3 x4 x5 x6
def g12a_ok (A : Ar) (x0 x1 : LN) (x2 x3 : Nat) (x4 : Int) (x5 : Nat) (x6 : LN) : Bool := g12a_is (g12a_v A x0 x1 x2 x3 x4 x5 x6)
def g12a_r0 (A : Ar) (x0 x1 : LN) (x2 x3 : Nat) (x4 : Int) (x5 : Nat) (x6 : LN) : LN := g12a_g0 (g12a_v A x0 x1 x2 x3 x4 x5 x6)
def g12a_r1 (A : Ar) (x0 x1 : LN) (x2 x3 : Nat) (x4 : Int) (x5 : Nat) (x6 : LN) : Nat := g12a_g1 (g12a_v A x0 x1 x2 x3 x4 x5 x6)
def g12a_r2 (A : Ar) (x0 x1 : LN) (x2 x3 : Nat) (x4 : Int) (x5 : Nat) (x6 : LN) : Nat := g12a_g2 (g12a_v A x0 x1 x2 x3 x4 x5 x6)
def g12a_r3 (A : Ar) (x0 x1 : LN) (x2 x3 : Nat) (x4 : Int) (x5 : Nat) (x6 : LN) : Int := g12a_g3 (g12a_v A x0 x1 x2 x3 x4 x5 x6)
def g12a_r4 (A : Ar) (x0 x1 : LN) (x2 x3 : Nat) (x4 : Int) (x5 : Nat) (x6 : LN) : Nat := g12a_g4 (g12a_v A x0 x1 x2 x3 x4 x5 x6)
def g12a_r5 (A : Ar) (x0 x1 : LN) (x2 x3 : Nat) (x4 : Int) (x5 : Nat) (x6 : LN) : LN := g12a_g5 (g12a_v A x0 x1 x2 x3 x4 x5 x6)
theorem g12a_ok_spec {A : Ar} {x0 x1 x2 x3 x4 x5 x6} (h : g12a_ok A x0 x1 x2 x3 x4 x5 x6 = true) : g12a_v A x0 x1 x2 x3 x4 x5 x6 = some ((.tup []), [(0, ⟨[.nums .u64 88 (g12a_r0 A x0 x1 x2 x3 x4 x5 x6), .one (.sl 600 (some (g12a_r1 A x0 x1 x2 x3 x4 x5 x6)) (g12a_r2 A x0 x1 x2 x3 x4 x5 x6) 1), .one (.int .i64 (g12a_r3 A x0 x1 x2 x3 x4 x5 x6))], 45, 1⟩), (600, ⟨[.nums .u8 (g12a_r4 A x0 x1 x2 x3 x4 x5 x6) (g12a_r5 A x0 x1 x2 x3 x4 x5 x6)], 5, 2⟩)]) := g12a_is_spec h
def g12a_o (A : Ar) (args : List AV) (h : Heap) : Option (Bool × AV × Heap) := match args, h with
  | [.v (.cell (.ptr n0 n1 none)), .v (.cell (.str x0))], [(n2, ⟨[.nums .u64 n3 x1, .one (.sl n4 (some x2) x3 n5), .one (.int .i64 x4)], n6, n7⟩), (n8, ⟨[.nums .u8 x5 x6], n9, n10⟩)] => match Nat.beq n0 0 && (Nat.beq n1 0 && (Nat.beq n2 0 && (Nat.beq n3 88 && (Nat.beq n4 600 && (Nat.beq n5 1 && (Nat.beq n6 45 && (Nat.beq n7 1 && (Nat.beq n8 600 && (Nat.beq n9 5 && (Nat.beq n10 2)))))))))) with
    | true => some (g12a_ok A x0 x1 x2 x3 x4 x5 x6, (.tup []), [(0, ⟨[.nums .u64 88 (g12a_r0 A x0 x1 x2 x3 x4 x5 x6), .one (.sl 600 (some (g12a_r1 A x0 x1 x2 x3 x4 x5 x6)) (g12a_r2 A x0 x1 x2 x3 x4 x5 x6) 1), .one (.int .i64 (g12a_r3 A x0 x1 x2 x3 x4 x5 x6))], 45, 1⟩), (600, ⟨[.nums .u8 (g12a_r4 A x0 x1 x2 x3 x4 x5 x6) (g12a_r5 A x0 x1 x2 x3 x4 x5 x6)], 5, 2⟩)])
    | false => none
  | _, _ => none
theorem g12a_o_sound : ∀ args h v h', g12a_o realA args h = some (true, v, h') → FnH Try.prog 12 args h v h' := by
  intro args h v h' hh
  unfold g12a_o at hh
  split at hh
  · rename_i n0 n1 x0 n2 n3 x1 n4 x2 x3 n5 x4 n6 n7 n8 x5 x6 n9 n10
    split at hh
    case h_2 => cases hh
    rename_i hc0
    simp only [Option.some.injEq, Prod.mk.injEq] at hh
    obtain ⟨hc, hv, hh⟩ := hh
    subst hv
    subst hh
    simp only [Bool.and_eq_true] at hc0
    have en0 := beq_true hc0.1
    subst en0
    replace hc0 := hc0.2
    have en1 := beq_true hc0.1
    subst en1
    replace hc0 := hc0.2
    have en2 := beq_true hc0.1
    subst en2
    replace hc0 := hc0.2
    have en3 := beq_true hc0.1
    subst en3
    replace hc0 := hc0.2
    have en4 := beq_true hc0.1
    subst en4
    replace hc0 := hc0.2
    have en5 := beq_true hc0.1
    subst en5
    replace hc0 := hc0.2
    have en6 := beq_true hc0.1
    subst en6
    replace hc0 := hc0.2
    have en7 := beq_true hc0.1
    subst en7
    replace hc0 := hc0.2
    have en8 := beq_true hc0.1
    subst en8
    replace hc0 := hc0.2
    have en9 := beq_true hc0.1
    subst en9
    replace hc0 := hc0.2
    have en10 := beq_true hc0
    subst en10
    exact fnh_ofN mixed gtysOK g12a_O_sound g12a_O_det (an := g12a_an) (n := 100000) Try.func12 (c := bodyOf Try.f12) rfl (by kernel_rfl) Try.call12 (Nat.le_of_ble_eq_true rfl) (B := [501, 600]) (pins := [0, 600]) (nilr := none) (fun _ => (g12a__eq realA (100000) (outN [501, 600] [0, 600] none) x0 x1 x2 x3 x4 x5 x6).trans (show g12a_v realA x0 x1 x2 x3 x4 x5 x6 = _ from g12a_ok_spec hc))
  · cases hh
def g13O (A : Ar) : Orc := orcH [(21, g21o A)] [(12, ⟨[0, 1], (some (0, 1, 1, ⟨[.nums .u8 0 []], 5, 2⟩)), (hoN [501, 600] (ho2 (g12o A) (g12a_o A)))⟩)]
theorem g13O_sound : OSound Try.prog (g13O realA) := orcH_sound (fun f g hm args v hv => by
    simp only [List.mem_cons, List.not_mem_nil, or_false, Prod.mk.injEq] at hm
    rcases hm with ⟨rfl, rfl⟩
    · exact g21o_sound _ _ hv) (fun f e hm args h v h' hv => by
    simp only [List.mem_cons, List.not_mem_nil, or_false, Prod.mk.injEq] at hm
    rcases hm with ⟨rfl, rfl⟩
    · exact (hoN_sound (ho2_sound g12o_sound g12a_o_sound)) _ _ _ _ hv)
theorem g13O_det : ODet (g13O realA) := orcH_det _ _
def g13an : Ann := [(0, ([0], [0, 1])), (1, ([0], [0, 1])), (2, ([0, 3], [0, 1, 2009])), (3, ([0, 3, 4], [0, 1, 2009, 3004])), (4, ([0, 3, 4], [0, 1, 2009, 3004])), (5, ([0, 3, 4], [0, 1, 2009, 3004])), (6, ([0, 3, 4], [0, 1, 2009, 3004])), (7, ([3, 4, 5, 6], [0, 1, 2009, 3004])), (8, ([3, 4, 50, 51, 52], [0, 1, 2009, 3004, 8002])), (9, ([3, 4, 50, 51, 52], [0, 1, 2009, 3004, 8002])), (10, ([3, 4, 8, 50, 51, 52], [0, 1, 2009, 3004, 8002])), (11, ([3, 4, 8, 50, 51, 52, 56], [0, 1, 2009, 3004, 8002])), (12, ([3, 4, 8, 50, 51, 52, 56], [0, 1, 2009, 3004, 8002])), (13, ([3, 4, 8, 9, 50, 51, 52, 56], [0, 1, 2009, 3004, 8002])), (14, ([3, 4, 8, 50, 51, 52, 56], [0, 1, 2009, 3004, 8002])), (15, ([3, 4, 50, 51, 52], [0, 1, 2009, 3004, 8002])), (16, ([3, 4], [0, 1, 2009, 3004])), (17, ([3], [0, 1, 2009, 17003])), (18, ([3, 10], [0, 1, 2009, 17003, 18000])), (19, ([10, 77, 78], [0, 1, 18000])), (20, ([10, 77, 78], [0, 1, 18000])), (21, ([10, 12, 77, 78], [0, 1, 18000])), (22, ([10, 12, 77, 78, 81], [0, 1, 18000])), (23, ([10, 12, 77, 78, 81], [0, 1, 18000])), (24, ([10, 12, 13, 77, 78, 81], [0, 1, 18000])), (25, ([10, 12, 77, 78, 81], [0, 1, 18000])), (26, ([10, 77, 78], [0, 1, 18000])), (27, ([10], [0, 1, 18000]))]
def g13res : List ResultVar := [.tmp 2]
noncomputable def g13D {R : Type} (A : Ar) (n : Nat) (p : List Bool) (K : Ex → St → Option R) (s : St) : Option R := codeD A gtys (g13O A) g13an n (sub (bodyOf Try.f13) p) K s
noncomputable def g13V {R : Type} (A : Ar) (n : Nat) (p : List Bool) (m : Nat) (K : Ex → St → Option R) (s : St) : Option R := loopD (fun K' s'' => codeD A gtys (g13O A) g13an n (sub (bodyOf Try.f13) p) K' s'') m K s
noncomputable def g13Q {R : Type} (A : Ar) (n : Nat) (p : List Bool) (K : Ex → St → Option R) : Ex → St → Option R := seqC (g13D A n p K) K
noncomputable def g13W {R : Type} (A : Ar) (n : Nat) (p : List Bool) (m : Nat) (K : Ex → St → Option R) : Ex → St → Option R := seqC (g13V A n p m K) K
noncomputable def g13T {R : Type} (kk : KK R) : Ex → St → Option R := finD gtys g13res kk
theorem g13Qn {R : Type} (A : Ar) (n : Nat) (p : List Bool) (K : Ex → St → Option R) (s : St) : g13Q A n p K .normal s = g13D A n p K s := rfl
theorem g13Qe {R : Type} (A : Ar) (n : Nat) (p : List Bool) (K : Ex → St → Option R) (i : Nat) (s : St) : g13Q A n p K (.exit i) s = K (.exit i) s := rfl
theorem g13Wn {R : Type} (A : Ar) (n : Nat) (p : List Bool) (m : Nat) (K : Ex → St → Option R) (s : St) : g13W A n p m K .normal s = g13V A n p m K s := rfl
theorem g13We {R : Type} (A : Ar) (n : Nat) (p : List Bool) (m : Nat) (K : Ex → St → Option R) (i : Nat) (s : St) : g13W A n p m K (.exit i) s = K (.exit i) s := rfl
theorem g13Vs {R : Type} (A : Ar) (n : Nat) (p : List Bool) (m : Nat) (K : Ex → St → Option R) (s : St) : g13V A n p (m + 1) K s = g13D A n p (g13W A n p m K) s := rfl
theorem g13F {R : Type} (A : Ar) (n : Nat) (p : List Bool) (i : Nat) (K : Ex → St → Option R) (s s' : St) (hf : firstReg (sub (bodyOf Try.f13) p) = some i) (h : keep g13an i s = keep g13an i s') : g13D A n p K s = g13D A n p K s' := codeD_first hf h K
section
variable {R : Type} (A : Ar) (n : Nat) (K : Ex → St → Option R) (s : St)
theorem g13p1 : g13D A n (pth 1) K s = g13D A n (pth 2) (g13Q A n (pth 3) K) s := by kernel_rfl
theorem g13p3 : g13D A n (pth 3) K s = g13D A n (pth 5) (g13Q A n (pth 7) K) s := by kernel_rfl
theorem g13p7 : g13D A n (pth 7) K s = g13D A n (pth 11) (g13Q A n (pth 15) K) s := by kernel_rfl
theorem g13p15 : g13D A n (pth 15) K s = g13D A n (pth 23) (g13Q A n (pth 31) K) s := by kernel_rfl
theorem g13p31 : g13D A n (pth 31) K s = g13D A n (pth 47) (g13Q A n (pth 63) K) s := by kernel_rfl
theorem g13p47 : g13D A n (pth 47) K s = g13D A n (pth 79) (blockK 0 K) s := by kernel_rfl
theorem g13p79 : g13D A n (pth 79) K s = g13V A n (pth 143) n K s := by kernel_rfl
theorem g13p143 : g13D A n (pth 143) K s = g13D A n (pth 271) (g13Q A n (pth 399) K) s := by kernel_rfl
theorem g13p271 : g13D A n (pth 271) K s = g13D A n (pth 527) (g13Q A n (pth 783) K) s := by kernel_rfl
theorem g13p783 (t : Bool) : ev s (.tmp 35) = some (.v (.cell (.bool t))) → g13D A n (pth 783) K s = (match t with
    | true => g13D A n (pth 1295) K s
    | false => g13D A n (pth 1807) K s) := codeD_cond t
theorem g13p1295 : g13D A n (pth 1295) K s = K .normal s := by kernel_rfl
theorem g13p1807 : g13D A n (pth 1807) K s = K (.exit 0) s := by kernel_rfl
theorem g13p399 : g13D A n (pth 399) K s = g13D A n (pth 655) (blockK 1 K) s := by kernel_rfl
theorem g13p63 : g13D A n (pth 63) K s = g13D A n (pth 95) (g13Q A n (pth 127) K) s := by kernel_rfl
theorem g13p127 : g13D A n (pth 127) K s = g13D A n (pth 191) (g13Q A n (pth 255) K) s := by kernel_rfl
theorem g13p191 : g13D A n (pth 191) K s = g13D A n (pth 319) (g13Q A n (pth 447) K) s := by kernel_rfl
theorem g13p447 : g13D A n (pth 447) K s = g13D A n (pth 703) (blockK 2 K) s := by kernel_rfl
theorem g13p703 : g13D A n (pth 703) K s = g13V A n (pth 1215) n K s := by kernel_rfl
theorem g13p1215 : g13D A n (pth 1215) K s = g13D A n (pth 2239) (g13Q A n (pth 3263) K) s := by kernel_rfl
theorem g13p3263 : g13D A n (pth 3263) K s = g13D A n (pth 5311) (g13Q A n (pth 7359) K) s := by kernel_rfl
theorem g13p5311 (t : Bool) : ev s (.tmp 53) = some (.v (.cell (.bool t))) → g13D A n (pth 5311) K s = (match t with
    | true => g13D A n (pth 9407) K s
    | false => g13D A n (pth 13503) K s) := codeD_cond t
theorem g13p9407 : g13D A n (pth 9407) K s = K .normal s := by kernel_rfl
theorem g13p13503 : g13D A n (pth 13503) K s = K (.exit 2) s := by kernel_rfl
theorem g13p7359 : g13D A n (pth 7359) K s = g13D A n (pth 11455) (g13Q A n (pth 15551) K) s := by kernel_rfl
theorem g13p11455 : g13D A n (pth 11455) K s = g13D A n (pth 19647) (blockK 3 K) s := by kernel_rfl
theorem g13p19647 : g13D A n (pth 19647) K s = g13D A n (pth 36031) (g13Q A n (pth 52415) K) s := by kernel_rfl
theorem g13p52415 : g13D A n (pth 52415) K s = g13D A n (pth 85183) (g13Q A n (pth 117951) K) s := by kernel_rfl
theorem g13p117951 : g13D A n (pth 117951) K s = g13D A n (pth 183487) (blockK 4 K) s := by kernel_rfl
theorem g13p183487 : g13D A n (pth 183487) K s = g13V A n (pth 314559) n K s := by kernel_rfl
theorem g13p314559 : g13D A n (pth 314559) K s = g13D A n (pth 576703) (g13Q A n (pth 838847) K) s := by kernel_rfl
theorem g13p838847 : g13D A n (pth 838847) K s = g13D A n (pth 1363135) (g13Q A n (pth 1887423) K) s := by kernel_rfl
theorem g13p1363135 (t : Bool) : ev s (.tmp 57) = some (.v (.cell (.bool t))) → g13D A n (pth 1363135) K s = (match t with
    | true => g13D A n (pth 2411711) K s
    | false => g13D A n (pth 3460287) K s) := codeD_cond t
theorem g13p2411711 : g13D A n (pth 2411711) K s = K .normal s := by kernel_rfl
theorem g13p3460287 : g13D A n (pth 3460287) K s = K (.exit 4) s := by kernel_rfl
theorem g13p1887423 : g13D A n (pth 1887423) K s = g13D A n (pth 2935999) (g13Q A n (pth 3984575) K) s := by kernel_rfl
theorem g13p2935999 : g13D A n (pth 2935999) K s = g13D A n (pth 5033151) (blockK 5 K) s := by kernel_rfl
theorem g13p5033151 : g13D A n (pth 5033151) K s = g13D A n (pth 9227455) (g13Q A n (pth 13421759) K) s := by kernel_rfl
theorem g13p255 : g13D A n (pth 255) K s = g13D A n (pth 383) (g13Q A n (pth 511) K) s := by kernel_rfl
theorem g13p511 : g13D A n (pth 511) K s = g13D A n (pth 767) (g13Q A n (pth 1023) K) s := by kernel_rfl
theorem g13p1023 : g13D A n (pth 1023) K s = g13D A n (pth 1535) (g13Q A n (pth 2047) K) s := by kernel_rfl
theorem g13p1535 : g13D A n (pth 1535) K s = g13D A n (pth 2559) (g13Q A n (pth 3583) K) s := by kernel_rfl
theorem g13p3583 : g13D A n (pth 3583) K s = g13D A n (pth 5631) (blockK 6 K) s := by kernel_rfl
theorem g13p5631 : g13D A n (pth 5631) K s = g13V A n (pth 9727) n K s := by kernel_rfl
theorem g13p9727 : g13D A n (pth 9727) K s = g13D A n (pth 17919) (g13Q A n (pth 26111) K) s := by kernel_rfl
theorem g13p26111 : g13D A n (pth 26111) K s = g13D A n (pth 42495) (g13Q A n (pth 58879) K) s := by kernel_rfl
theorem g13p42495 (t : Bool) : ev s (.tmp 79) = some (.v (.cell (.bool t))) → g13D A n (pth 42495) K s = (match t with
    | true => g13D A n (pth 75263) K s
    | false => g13D A n (pth 108031) K s) := codeD_cond t
theorem g13p75263 : g13D A n (pth 75263) K s = K .normal s := by kernel_rfl
theorem g13p108031 : g13D A n (pth 108031) K s = K (.exit 6) s := by kernel_rfl
theorem g13p58879 : g13D A n (pth 58879) K s = g13D A n (pth 91647) (g13Q A n (pth 124415) K) s := by kernel_rfl
theorem g13p91647 : g13D A n (pth 91647) K s = g13D A n (pth 157183) (blockK 7 K) s := by kernel_rfl
theorem g13p157183 : g13D A n (pth 157183) K s = g13D A n (pth 288255) (g13Q A n (pth 419327) K) s := by kernel_rfl
theorem g13p419327 : g13D A n (pth 419327) K s = g13D A n (pth 681471) (g13Q A n (pth 943615) K) s := by kernel_rfl
theorem g13p943615 : g13D A n (pth 943615) K s = g13D A n (pth 1467903) (blockK 8 K) s := by kernel_rfl
theorem g13p1467903 : g13D A n (pth 1467903) K s = g13V A n (pth 2516479) n K s := by kernel_rfl
theorem g13p2516479 : g13D A n (pth 2516479) K s = g13D A n (pth 4613631) (g13Q A n (pth 6710783) K) s := by kernel_rfl
theorem g13p6710783 : g13D A n (pth 6710783) K s = g13D A n (pth 10905087) (g13Q A n (pth 15099391) K) s := by kernel_rfl
theorem g13p10905087 (t : Bool) : ev s (.tmp 82) = some (.v (.cell (.bool t))) → g13D A n (pth 10905087) K s = (match t with
    | true => g13D A n (pth 19293695) K s
    | false => g13D A n (pth 27682303) K s) := codeD_cond t
theorem g13p19293695 : g13D A n (pth 19293695) K s = K .normal s := by kernel_rfl
theorem g13p27682303 : g13D A n (pth 27682303) K s = K (.exit 8) s := by kernel_rfl
theorem g13p15099391 : g13D A n (pth 15099391) K s = g13D A n (pth 23487999) (g13Q A n (pth 31876607) K) s := by kernel_rfl
theorem g13p23487999 : g13D A n (pth 23487999) K s = g13D A n (pth 40265215) (blockK 9 K) s := by kernel_rfl
theorem g13p40265215 : g13D A n (pth 40265215) K s = g13D A n (pth 73819647) (g13Q A n (pth 107374079) K) s := by kernel_rfl
theorem g13p2047 : g13D A n (pth 2047) K s = g13D A n (pth 3071) (g13Q A n (pth 4095) K) s := by kernel_rfl
theorem g13p4095 : g13D A n (pth 4095) K s = K .ret s := by kernel_rfl
def g13R12s0 (A : Ar) (x0 x1 x2 : Nat) (x3 x4 x5 : Int) (x6 : LN) (x7 x8 : Nat) (x9 : Int) (x10 : Nat) (x11 x12 : LN) (x13 : Int) (x14 : Nat) (x15 : LN) (x16 : Nat) (x17 : LN) : St := ⟨[(9, i6 x5), (58, i6 x5), (3, pT 2009 0), (4, sL 3004 none x0 1), (8, u64v x1), (50, sL 8002 none x2 1), (51, i6 x3), (52, i6 x4), (56, i6 x5)], [(0, bH 1 x6 (some x7) x8 x9), (1, bY x10 x11), (2009, ⟨[.nums .u64 88 x12, .one .nils, .one (.int .i64 x13)], 45, 1⟩), (3004, bY x14 x15), (8002, ⟨[.nums .u64 x16 x17], 36, 2⟩)]⟩
theorem g13R12 (x0 x1 x2 : Nat) (x3 x4 x5 : Int) (x6 : LN) (x7 x8 : Nat) (x9 : Int) (x10 : Nat) (x11 x12 : LN) (x13 : Int) (x14 : Nat) (x15 : LN) (x16 : Nat) (x17 : LN) : g13D A n (pth 9227455) K ⟨[(3, pT 2009 0), (4, sL 3004 none x0 1), (8, u64v x1), (50, sL 8002 none x2 1), (51, i6 x3), (52, i6 x4), (56, i6 x5)], [(0, bH 1 x6 (some x7) x8 x9), (1, bY x10 x11), (2009, ⟨[.nums .u64 88 x12, .one .nils, .one (.int .i64 x13)], 45, 1⟩), (3004, bY x14 x15), (8002, ⟨[.nums .u64 x16 x17], 36, 2⟩)]⟩ = K .normal (g13R12s0 A x0 x1 x2 x3 x4 x5 x6 x7 x8 x9 x10 x11 x12 x13 x14 x15 x16 x17) := by kernel_rfl
def g13R13s0 (A : Ar) (x0 x1 : Nat) (x2 : Int) (x3 : Nat) (x4 x5 x6 : Int) (x7 : LN) (x8 x9 : Nat) (x10 : Int) (x11 : Nat) (x12 x13 : LN) (x14 : Int) (x15 : Nat) (x16 : LN) (x17 : Nat) (x18 : LN) : St := ⟨[(4, sL 3004 none ((x16 ++ ([A.n2n .u8 (A.nsh .shr .u64 x1 (A.toN (A.ib .sub .i64 56 (A.ib .mul .i64 8 x2))))].take 1)).length) 1), (67, sL 3004 none ((x16 ++ ([A.n2n .u8 (A.nsh .shr .u64 x1 (A.toN (A.ib .sub .i64 56 (A.ib .mul .i64 8 x2))))].take 1)).length) 1), (66, sL 14007 none 1 1), (65, u8v (A.n2n .u8 (A.nsh .shr .u64 x1 (A.toN (A.ib .sub .i64 56 (A.ib .mul .i64 8 x2)))))), (64, u64v (A.nsh .shr .u64 x1 (A.toN (A.ib .sub .i64 56 (A.ib .mul .i64 8 x2))))), (63, i6 (A.ib .sub .i64 56 (A.ib .mul .i64 8 x2))), (62, i6 (A.ib .mul .i64 8 x2)), (61, i6 x2), (60, u64v x1), (59, (.v (.cell .top))), (3, pT 2009 0), (4, (.v (.cell .top))), (8, u64v x1), (9, i6 x2), (50, sL 8002 none x3 1), (51, i6 x4), (52, i6 x5), (56, i6 x6)], [(3004, bY ((x16 ++ ([A.n2n .u8 (A.nsh .shr .u64 x1 (A.toN (A.ib .sub .i64 56 (A.ib .mul .i64 8 x2))))].take 1)).length) (x16 ++ ([A.n2n .u8 (A.nsh .shr .u64 x1 (A.toN (A.ib .sub .i64 56 (A.ib .mul .i64 8 x2))))].take 1))), (14007, bY 1 [A.n2n .u8 (A.nsh .shr .u64 x1 (A.toN (A.ib .sub .i64 56 (A.ib .mul .i64 8 x2))))]), (0, bH 1 x7 (some x8) x9 x10), (1, bY x11 x12), (2009, ⟨[.nums .u64 88 x13, .one .nils, .one (.int .i64 x14)], 45, 1⟩), (8002, ⟨[.nums .u64 x17 x18], 36, 2⟩)]⟩
theorem g13R13 (x0 x1 : Nat) (x2 : Int) (x3 : Nat) (x4 x5 x6 : Int) (x7 : LN) (x8 x9 : Nat) (x10 : Int) (x11 : Nat) (x12 x13 : LN) (x14 : Int) (x15 : Nat) (x16 : LN) (x17 : Nat) (x18 : LN) : g13D A n (pth 13421759) K ⟨[(3, pT 2009 0), (4, sL 3004 none x0 1), (8, u64v x1), (9, i6 x2), (50, sL 8002 none x3 1), (51, i6 x4), (52, i6 x5), (56, i6 x6)], [(0, bH 1 x7 (some x8) x9 x10), (1, bY x11 x12), (2009, ⟨[.nums .u64 88 x13, .one .nils, .one (.int .i64 x14)], 45, 1⟩), (3004, bY x15 x16), (8002, ⟨[.nums .u64 x17 x18], 36, 2⟩)]⟩ = match A.neg (A.ib .sub .i64 56 (A.ib .mul .i64 8 x2)) with
    | true => none
    | false => match A.eq x0 (x15 + 0) with
      | true => match A.le ((x16 ++ ([A.n2n .u8 (A.nsh .shr .u64 x1 (A.toN (A.ib .sub .i64 56 (A.ib .mul .i64 8 x2))))].take 1)).length) 140737488355328 with
        | true => K .normal (g13R13s0 A x0 x1 x2 x3 x4 x5 x6 x7 x8 x9 x10 x11 x12 x13 x14 x15 x16 x17 x18)
        | false => none
      | false => none := by kernel_rfl
def g13R14s0 (A : Ar) (x0 x1 x2 : Nat) (x3 x4 x5 : Int) (x6 : LN) (x7 x8 : Nat) (x9 : Int) (x10 : Nat) (x11 x12 : LN) (x13 : Int) (x14 : Nat) (x15 : LN) (x16 : Nat) (x17 : LN) : St := ⟨[(56, i6 (A.ib .add .i64 x5 1)), (68, i6 (A.ib .add .i64 x5 1)), (3, pT 2009 0), (4, sL 3004 none x0 1), (8, u64v x1), (50, sL 8002 none x2 1), (51, i6 x3), (52, i6 x4), (56, i6 x5)], [(0, bH 1 x6 (some x7) x8 x9), (1, bY x10 x11), (2009, ⟨[.nums .u64 88 x12, .one .nils, .one (.int .i64 x13)], 45, 1⟩), (3004, bY x14 x15), (8002, ⟨[.nums .u64 x16 x17], 36, 2⟩)]⟩
theorem g13R14 (x0 x1 x2 : Nat) (x3 x4 x5 : Int) (x6 : LN) (x7 x8 : Nat) (x9 : Int) (x10 : Nat) (x11 x12 : LN) (x13 : Int) (x14 : Nat) (x15 : LN) (x16 : Nat) (x17 : LN) : g13D A n (pth 3984575) K ⟨[(3, pT 2009 0), (4, sL 3004 none x0 1), (8, u64v x1), (50, sL 8002 none x2 1), (51, i6 x3), (52, i6 x4), (56, i6 x5)], [(0, bH 1 x6 (some x7) x8 x9), (1, bY x10 x11), (2009, ⟨[.nums .u64 88 x12, .one .nils, .one (.int .i64 x13)], 45, 1⟩), (3004, bY x14 x15), (8002, ⟨[.nums .u64 x16 x17], 36, 2⟩)]⟩ = K .normal (g13R14s0 A x0 x1 x2 x3 x4 x5 x6 x7 x8 x9 x10 x11 x12 x13 x14 x15 x16 x17) := by kernel_rfl
def g13R11s0 (A : Ar) (x0 x1 x2 : Nat) (x3 x4 x5 : Int) (x6 : LN) (x7 x8 : Nat) (x9 : Int) (x10 : Nat) (x11 x12 : LN) (x13 : Int) (x14 : Nat) (x15 : LN) (x16 : Nat) (x17 : LN) : St := ⟨[(57, bO (A.ic .lss x5 8)), (3, pT 2009 0), (4, sL 3004 none x0 1), (8, u64v x1), (50, sL 8002 none x2 1), (51, i6 x3), (52, i6 x4), (56, i6 x5)], [(0, bH 1 x6 (some x7) x8 x9), (1, bY x10 x11), (2009, ⟨[.nums .u64 88 x12, .one .nils, .one (.int .i64 x13)], 45, 1⟩), (3004, bY x14 x15), (8002, ⟨[.nums .u64 x16 x17], 36, 2⟩)]⟩
theorem g13R11 (x0 x1 x2 : Nat) (x3 x4 x5 : Int) (x6 : LN) (x7 x8 : Nat) (x9 : Int) (x10 : Nat) (x11 x12 : LN) (x13 : Int) (x14 : Nat) (x15 : LN) (x16 : Nat) (x17 : LN) : g13D A n (pth 576703) K ⟨[(3, pT 2009 0), (4, sL 3004 none x0 1), (8, u64v x1), (50, sL 8002 none x2 1), (51, i6 x3), (52, i6 x4), (56, i6 x5)], [(0, bH 1 x6 (some x7) x8 x9), (1, bY x10 x11), (2009, ⟨[.nums .u64 88 x12, .one .nils, .one (.int .i64 x13)], 45, 1⟩), (3004, bY x14 x15), (8002, ⟨[.nums .u64 x16 x17], 36, 2⟩)]⟩ = K .normal (g13R11s0 A x0 x1 x2 x3 x4 x5 x6 x7 x8 x9 x10 x11 x12 x13 x14 x15 x16 x17) := by kernel_rfl
def g13R15s0 (A : Ar) (x0 x1 : Nat) (x2 x3 : Int) (x4 : LN) (x5 x6 : Nat) (x7 : Int) (x8 : Nat) (x9 x10 : LN) (x11 : Int) (x12 : Nat) (x13 : LN) (x14 : Nat) (x15 : LN) : St := ⟨[(52, i6 (A.ib .add .i64 x3 1)), (69, i6 (A.ib .add .i64 x3 1)), (3, pT 2009 0), (4, sL 3004 none x0 1), (50, sL 8002 none x1 1), (51, i6 x2), (52, i6 x3)], [(0, bH 1 x4 (some x5) x6 x7), (1, bY x8 x9), (2009, ⟨[.nums .u64 88 x10, .one .nils, .one (.int .i64 x11)], 45, 1⟩), (3004, bY x12 x13), (8002, ⟨[.nums .u64 x14 x15], 36, 2⟩)]⟩
theorem g13R15 (x0 x1 : Nat) (x2 x3 : Int) (x4 : LN) (x5 x6 : Nat) (x7 : Int) (x8 : Nat) (x9 x10 : LN) (x11 : Int) (x12 : Nat) (x13 : LN) (x14 : Nat) (x15 : LN) : g13D A n (pth 15551) K ⟨[(3, pT 2009 0), (4, sL 3004 none x0 1), (50, sL 8002 none x1 1), (51, i6 x2), (52, i6 x3)], [(0, bH 1 x4 (some x5) x6 x7), (1, bY x8 x9), (2009, ⟨[.nums .u64 88 x10, .one .nils, .one (.int .i64 x11)], 45, 1⟩), (3004, bY x12 x13), (8002, ⟨[.nums .u64 x14 x15], 36, 2⟩)]⟩ = K .normal (g13R15s0 A x0 x1 x2 x3 x4 x5 x6 x7 x8 x9 x10 x11 x12 x13 x14 x15) := by kernel_rfl
def g13R9s0 (A : Ar) (x0 x1 : Nat) (x2 x3 : Int) (x4 : LN) (x5 x6 : Nat) (x7 : Int) (x8 : Nat) (x9 x10 : LN) (x11 : Int) (x12 : Nat) (x13 : LN) (x14 : Nat) (x15 : LN) : St := ⟨[(8, u64v (x15.getD (A.toN x3) 0)), (55, u64v (x15.getD (A.toN x3) 0)), (54, (.v (.cell (.ptr 8002 0 (some ⟨A.toN x3, 1, x1, A.toN x3, 0, 1⟩))))), (3, pT 2009 0), (4, sL 3004 none x0 1), (50, sL 8002 none x1 1), (51, i6 x2), (52, i6 x3)], [(0, bH 1 x4 (some x5) x6 x7), (1, bY x8 x9), (2009, ⟨[.nums .u64 88 x10, .one .nils, .one (.int .i64 x11)], 45, 1⟩), (3004, bY x12 x13), (8002, ⟨[.nums .u64 x14 x15], 36, 2⟩)]⟩
theorem g13R9 (x0 x1 : Nat) (x2 x3 : Int) (x4 : LN) (x5 x6 : Nat) (x7 : Int) (x8 : Nat) (x9 x10 : LN) (x11 : Int) (x12 : Nat) (x13 : LN) (x14 : Nat) (x15 : LN) : g13D A n (pth 36031) K ⟨[(3, pT 2009 0), (4, sL 3004 none x0 1), (50, sL 8002 none x1 1), (51, i6 x2), (52, i6 x3)], [(0, bH 1 x4 (some x5) x6 x7), (1, bY x8 x9), (2009, ⟨[.nums .u64 88 x10, .one .nils, .one (.int .i64 x11)], 45, 1⟩), (3004, bY x12 x13), (8002, ⟨[.nums .u64 x14 x15], 36, 2⟩)]⟩ = match A.neg x3 with
    | true => none
    | false => match A.lt (A.toN x3) x1 with
      | true => K .normal (g13R9s0 A x0 x1 x2 x3 x4 x5 x6 x7 x8 x9 x10 x11 x12 x13 x14 x15)
      | false => none := by kernel_rfl
def g13R10s0 (A : Ar) (x0 x1 x2 : Nat) (x3 x4 : Int) (x5 : LN) (x6 x7 : Nat) (x8 : Int) (x9 : Nat) (x10 x11 : LN) (x12 : Int) (x13 : Nat) (x14 : LN) (x15 : Nat) (x16 : LN) : St := ⟨[(56, i6 0), (3, pT 2009 0), (4, sL 3004 none x0 1), (8, u64v x1), (50, sL 8002 none x2 1), (51, i6 x3), (52, i6 x4)], [(0, bH 1 x5 (some x6) x7 x8), (1, bY x9 x10), (2009, ⟨[.nums .u64 88 x11, .one .nils, .one (.int .i64 x12)], 45, 1⟩), (3004, bY x13 x14), (8002, ⟨[.nums .u64 x15 x16], 36, 2⟩)]⟩
theorem g13R10 (x0 x1 x2 : Nat) (x3 x4 : Int) (x5 : LN) (x6 x7 : Nat) (x8 : Int) (x9 : Nat) (x10 x11 : LN) (x12 : Int) (x13 : Nat) (x14 : LN) (x15 : Nat) (x16 : LN) : g13D A n (pth 85183) K ⟨[(3, pT 2009 0), (4, sL 3004 none x0 1), (8, u64v x1), (50, sL 8002 none x2 1), (51, i6 x3), (52, i6 x4)], [(0, bH 1 x5 (some x6) x7 x8), (1, bY x9 x10), (2009, ⟨[.nums .u64 88 x11, .one .nils, .one (.int .i64 x12)], 45, 1⟩), (3004, bY x13 x14), (8002, ⟨[.nums .u64 x15 x16], 36, 2⟩)]⟩ = K .normal (g13R10s0 A x0 x1 x2 x3 x4 x5 x6 x7 x8 x9 x10 x11 x12 x13 x14 x15 x16) := by kernel_rfl
def g13R23s0 (A : Ar) (x0 x1 : Nat) (x2 : LN) (x3 x4 : Int) (x5 : LN) (x6 x7 : Nat) (x8 : Int) (x9 : Nat) (x10 : LN) (x11 : Nat) (x12 : LN) : St := ⟨[(13, i6 x4), (83, i6 x4), (10, sL 18000 none x0 1), (12, u64v x1), (77, aN .u64 8 x2), (78, i6 x3), (81, i6 x4)], [(0, bH 1 x5 (some x6) x7 x8), (1, bY x9 x10), (18000, bY x11 x12)]⟩
theorem g13R23 (x0 x1 : Nat) (x2 : LN) (x3 x4 : Int) (x5 : LN) (x6 x7 : Nat) (x8 : Int) (x9 : Nat) (x10 : LN) (x11 : Nat) (x12 : LN) : g13D A n (pth 73819647) K ⟨[(10, sL 18000 none x0 1), (12, u64v x1), (77, aN .u64 8 x2), (78, i6 x3), (81, i6 x4)], [(0, bH 1 x5 (some x6) x7 x8), (1, bY x9 x10), (18000, bY x11 x12)]⟩ = K .normal (g13R23s0 A x0 x1 x2 x3 x4 x5 x6 x7 x8 x9 x10 x11 x12) := by kernel_rfl
def g13R24s0 (A : Ar) (x0 x1 : Nat) (x2 : Int) (x3 : LN) (x4 x5 : Int) (x6 : LN) (x7 x8 : Nat) (x9 : Int) (x10 : Nat) (x11 : LN) (x12 : Nat) (x13 : LN) : St := ⟨[(10, sL 18000 none ((x13 ++ ([A.n2n .u8 (A.nsh .shr .u64 x1 (A.toN (A.ib .sub .i64 56 (A.ib .mul .i64 8 x2))))].take 1)).length) 1), (92, sL 18000 none ((x13 ++ ([A.n2n .u8 (A.nsh .shr .u64 x1 (A.toN (A.ib .sub .i64 56 (A.ib .mul .i64 8 x2))))].take 1)).length) 1), (91, sL 25007 none 1 1), (90, u8v (A.n2n .u8 (A.nsh .shr .u64 x1 (A.toN (A.ib .sub .i64 56 (A.ib .mul .i64 8 x2)))))), (89, u64v (A.nsh .shr .u64 x1 (A.toN (A.ib .sub .i64 56 (A.ib .mul .i64 8 x2))))), (88, i6 (A.ib .sub .i64 56 (A.ib .mul .i64 8 x2))), (87, i6 (A.ib .mul .i64 8 x2)), (86, i6 x2), (85, u64v x1), (84, (.v (.cell .top))), (10, (.v (.cell .top))), (12, u64v x1), (13, i6 x2), (77, aN .u64 8 x3), (78, i6 x4), (81, i6 x5)], [(18000, bY ((x13 ++ ([A.n2n .u8 (A.nsh .shr .u64 x1 (A.toN (A.ib .sub .i64 56 (A.ib .mul .i64 8 x2))))].take 1)).length) (x13 ++ ([A.n2n .u8 (A.nsh .shr .u64 x1 (A.toN (A.ib .sub .i64 56 (A.ib .mul .i64 8 x2))))].take 1))), (25007, bY 1 [A.n2n .u8 (A.nsh .shr .u64 x1 (A.toN (A.ib .sub .i64 56 (A.ib .mul .i64 8 x2))))]), (0, bH 1 x6 (some x7) x8 x9), (1, bY x10 x11)]⟩
theorem g13R24 (x0 x1 : Nat) (x2 : Int) (x3 : LN) (x4 x5 : Int) (x6 : LN) (x7 x8 : Nat) (x9 : Int) (x10 : Nat) (x11 : LN) (x12 : Nat) (x13 : LN) : g13D A n (pth 107374079) K ⟨[(10, sL 18000 none x0 1), (12, u64v x1), (13, i6 x2), (77, aN .u64 8 x3), (78, i6 x4), (81, i6 x5)], [(0, bH 1 x6 (some x7) x8 x9), (1, bY x10 x11), (18000, bY x12 x13)]⟩ = match A.neg (A.ib .sub .i64 56 (A.ib .mul .i64 8 x2)) with
    | true => none
    | false => match A.eq x0 (x12 + 0) with
      | true => match A.le ((x13 ++ ([A.n2n .u8 (A.nsh .shr .u64 x1 (A.toN (A.ib .sub .i64 56 (A.ib .mul .i64 8 x2))))].take 1)).length) 140737488355328 with
        | true => K .normal (g13R24s0 A x0 x1 x2 x3 x4 x5 x6 x7 x8 x9 x10 x11 x12 x13)
        | false => none
      | false => none := by kernel_rfl
def g13R25s0 (A : Ar) (x0 x1 : Nat) (x2 : LN) (x3 x4 : Int) (x5 : LN) (x6 x7 : Nat) (x8 : Int) (x9 : Nat) (x10 : LN) (x11 : Nat) (x12 : LN) : St := ⟨[(81, i6 (A.ib .add .i64 x4 1)), (93, i6 (A.ib .add .i64 x4 1)), (10, sL 18000 none x0 1), (12, u64v x1), (77, aN .u64 8 x2), (78, i6 x3), (81, i6 x4)], [(0, bH 1 x5 (some x6) x7 x8), (1, bY x9 x10), (18000, bY x11 x12)]⟩
theorem g13R25 (x0 x1 : Nat) (x2 : LN) (x3 x4 : Int) (x5 : LN) (x6 x7 : Nat) (x8 : Int) (x9 : Nat) (x10 : LN) (x11 : Nat) (x12 : LN) : g13D A n (pth 31876607) K ⟨[(10, sL 18000 none x0 1), (12, u64v x1), (77, aN .u64 8 x2), (78, i6 x3), (81, i6 x4)], [(0, bH 1 x5 (some x6) x7 x8), (1, bY x9 x10), (18000, bY x11 x12)]⟩ = K .normal (g13R25s0 A x0 x1 x2 x3 x4 x5 x6 x7 x8 x9 x10 x11 x12) := by kernel_rfl
def g13R22s0 (A : Ar) (x0 x1 : Nat) (x2 : LN) (x3 x4 : Int) (x5 : LN) (x6 x7 : Nat) (x8 : Int) (x9 : Nat) (x10 : LN) (x11 : Nat) (x12 : LN) : St := ⟨[(82, bO (A.ic .lss x4 8)), (10, sL 18000 none x0 1), (12, u64v x1), (77, aN .u64 8 x2), (78, i6 x3), (81, i6 x4)], [(0, bH 1 x5 (some x6) x7 x8), (1, bY x9 x10), (18000, bY x11 x12)]⟩
theorem g13R22 (x0 x1 : Nat) (x2 : LN) (x3 x4 : Int) (x5 : LN) (x6 x7 : Nat) (x8 : Int) (x9 : Nat) (x10 : LN) (x11 : Nat) (x12 : LN) : g13D A n (pth 4613631) K ⟨[(10, sL 18000 none x0 1), (12, u64v x1), (77, aN .u64 8 x2), (78, i6 x3), (81, i6 x4)], [(0, bH 1 x5 (some x6) x7 x8), (1, bY x9 x10), (18000, bY x11 x12)]⟩ = K .normal (g13R22s0 A x0 x1 x2 x3 x4 x5 x6 x7 x8 x9 x10 x11 x12) := by kernel_rfl
def g13R26s0 (A : Ar) (x0 : Nat) (x1 : LN) (x2 : Int) (x3 : LN) (x4 x5 : Nat) (x6 : Int) (x7 : Nat) (x8 : LN) (x9 : Nat) (x10 : LN) : St := ⟨[(78, i6 (A.ib .add .i64 x2 1)), (94, i6 (A.ib .add .i64 x2 1)), (10, sL 18000 none x0 1), (77, aN .u64 8 x1), (78, i6 x2)], [(0, bH 1 x3 (some x4) x5 x6), (1, bY x7 x8), (18000, bY x9 x10)]⟩
theorem g13R26 (x0 : Nat) (x1 : LN) (x2 : Int) (x3 : LN) (x4 x5 : Nat) (x6 : Int) (x7 : Nat) (x8 : LN) (x9 : Nat) (x10 : LN) : g13D A n (pth 124415) K ⟨[(10, sL 18000 none x0 1), (77, aN .u64 8 x1), (78, i6 x2)], [(0, bH 1 x3 (some x4) x5 x6), (1, bY x7 x8), (18000, bY x9 x10)]⟩ = K .normal (g13R26s0 A x0 x1 x2 x3 x4 x5 x6 x7 x8 x9 x10) := by kernel_rfl
def g13R20s0 (A : Ar) (x0 : Nat) (x1 : LN) (x2 : Int) (x3 : LN) (x4 x5 : Nat) (x6 : Int) (x7 : Nat) (x8 : LN) (x9 : Nat) (x10 : LN) : St := ⟨[(12, u64v (x1.getD (A.toN x2) 0)), (80, u64v (x1.getD (A.toN x2) 0)), (10, sL 18000 none x0 1), (77, aN .u64 8 x1), (78, i6 x2)], [(0, bH 1 x3 (some x4) x5 x6), (1, bY x7 x8), (18000, bY x9 x10)]⟩
theorem g13R20 (x0 : Nat) (x1 : LN) (x2 : Int) (x3 : LN) (x4 x5 : Nat) (x6 : Int) (x7 : Nat) (x8 : LN) (x9 : Nat) (x10 : LN) : g13D A n (pth 288255) K ⟨[(10, sL 18000 none x0 1), (77, aN .u64 8 x1), (78, i6 x2)], [(0, bH 1 x3 (some x4) x5 x6), (1, bY x7 x8), (18000, bY x9 x10)]⟩ = match A.neg x2 with
    | true => none
    | false => match A.lt (A.toN x2) 8 with
      | true => K .normal (g13R20s0 A x0 x1 x2 x3 x4 x5 x6 x7 x8 x9 x10)
      | false => none := by kernel_rfl
def g13R21s0 (A : Ar) (x0 x1 : Nat) (x2 : LN) (x3 : Int) (x4 : LN) (x5 x6 : Nat) (x7 : Int) (x8 : Nat) (x9 : LN) (x10 : Nat) (x11 : LN) : St := ⟨[(81, i6 0), (10, sL 18000 none x0 1), (12, u64v x1), (77, aN .u64 8 x2), (78, i6 x3)], [(0, bH 1 x4 (some x5) x6 x7), (1, bY x8 x9), (18000, bY x10 x11)]⟩
theorem g13R21 (x0 x1 : Nat) (x2 : LN) (x3 : Int) (x4 : LN) (x5 x6 : Nat) (x7 : Int) (x8 : Nat) (x9 : LN) (x10 : Nat) (x11 : LN) : g13D A n (pth 681471) K ⟨[(10, sL 18000 none x0 1), (12, u64v x1), (77, aN .u64 8 x2), (78, i6 x3)], [(0, bH 1 x4 (some x5) x6 x7), (1, bY x8 x9), (18000, bY x10 x11)]⟩ = K .normal (g13R21s0 A x0 x1 x2 x3 x4 x5 x6 x7 x8 x9 x10 x11) := by kernel_rfl
def g13R19s0 (A : Ar) (x0 : Nat) (x1 : LN) (x2 : Int) (x3 : LN) (x4 x5 : Nat) (x6 : Int) (x7 : Nat) (x8 : LN) (x9 : Nat) (x10 : LN) : St := ⟨[(79, bO (A.ic .lss x2 8)), (10, sL 18000 none x0 1), (77, aN .u64 8 x1), (78, i6 x2)], [(0, bH 1 x3 (some x4) x5 x6), (1, bY x7 x8), (18000, bY x9 x10)]⟩
theorem g13R19 (x0 : Nat) (x1 : LN) (x2 : Int) (x3 : LN) (x4 x5 : Nat) (x6 : Int) (x7 : Nat) (x8 : LN) (x9 : Nat) (x10 : LN) : g13D A n (pth 17919) K ⟨[(10, sL 18000 none x0 1), (77, aN .u64 8 x1), (78, i6 x2)], [(0, bH 1 x3 (some x4) x5 x6), (1, bY x7 x8), (18000, bY x9 x10)]⟩ = K .normal (g13R19s0 A x0 x1 x2 x3 x4 x5 x6 x7 x8 x9 x10) := by kernel_rfl
def g13R27s0 (A : Ar) (x0 : Nat) (x1 : LN) (x2 x3 : Nat) (x4 : Int) (x5 : Nat) (x6 : LN) (x7 : Nat) (x8 : LN) : St := ⟨[(2, tS (x8.take x0)), (96, tS (x8.take x0)), (95, sL 18000 none x0 1), (10, sL 18000 none x0 1)], [(0, bH 1 x1 (some x2) x3 x4), (1, bY x5 x6), (18000, bY x7 x8)]⟩
theorem g13R27 (x0 : Nat) (x1 : LN) (x2 x3 : Nat) (x4 : Int) (x5 : Nat) (x6 : LN) (x7 : Nat) (x8 : LN) : g13D A n (pth 3071) K ⟨[(10, sL 18000 none x0 1)], [(0, bH 1 x1 (some x2) x3 x4), (1, bY x5 x6), (18000, bY x7 x8)]⟩ = K .normal (g13R27s0 A x0 x1 x2 x3 x4 x5 x6 x7 x8) := by kernel_rfl
def g13R16s0 (A : Ar) (x0 : Nat) (x1 : LN) (x2 x3 : Nat) (x4 : Int) (x5 : Nat) (x6 x7 : LN) (x8 : Int) (x9 : Nat) (x10 : LN) : St := ⟨[(73, (.tup [])), (72, tS (x10.take x0)), (71, sL 3004 none x0 1), (70, pT 2009 0), (3, pT 2009 0), (4, sL 3004 none x0 1)], [(17003, bY (g12a_r4 A (x10.take x0) x7 0 0 x8 0 []) (g12a_r5 A (x10.take x0) x7 0 0 x8 0 [])), (0, bH 1 x1 (some x2) x3 x4), (1, bY x5 x6), (2009, bH 17003 (g12a_r0 A (x10.take x0) x7 0 0 x8 0 []) (some (g12a_r1 A (x10.take x0) x7 0 0 x8 0 [])) (g12a_r2 A (x10.take x0) x7 0 0 x8 0 []) (g12a_r3 A (x10.take x0) x7 0 0 x8 0 [])), (3004, bY x9 x10)]⟩
theorem g13R16 (x0 : Nat) (x1 : LN) (x2 x3 : Nat) (x4 : Int) (x5 : Nat) (x6 x7 : LN) (x8 : Int) (x9 : Nat) (x10 : LN) : g13D A n (pth 383) K ⟨[(3, pT 2009 0), (4, sL 3004 none x0 1)], [(0, bH 1 x1 (some x2) x3 x4), (1, bY x5 x6), (2009, ⟨[.nums .u64 88 x7, .one .nils, .one (.int .i64 x8)], 45, 1⟩), (3004, bY x9 x10)]⟩ = match g12a_ok A (x10.take x0) x7 0 0 x8 0 [] with
    | true => K .normal (g13R16s0 A x0 x1 x2 x3 x4 x5 x6 x7 x8 x9 x10)
    | false => none := by kernel_rfl
def g13R17s0 (A : Ar) (x0 : LN) (x1 x2 : Nat) (x3 : Int) (x4 : Nat) (x5 x6 : LN) (x7 x8 : Nat) (x9 : Int) (x10 : Nat) (x11 : LN) : St := ⟨[(10, sL 18000 none 0 1), (3, pT 2009 0)], [(18000, bY 0 []), (0, bH 1 x0 (some x1) x2 x3), (1, bY x4 x5), (2009, bH 17003 x6 (some x7) x8 x9), (17003, bY x10 x11)]⟩
theorem g13R17 (x0 : LN) (x1 x2 : Nat) (x3 : Int) (x4 : Nat) (x5 x6 : LN) (x7 x8 : Nat) (x9 : Int) (x10 : Nat) (x11 : LN) : g13D A n (pth 767) K ⟨[(3, pT 2009 0)], [(0, bH 1 x0 (some x1) x2 x3), (1, bY x4 x5), (2009, bH 17003 x6 (some x7) x8 x9), (17003, bY x10 x11)]⟩ = K .normal (g13R17s0 A x0 x1 x2 x3 x4 x5 x6 x7 x8 x9 x10 x11) := by kernel_rfl
def g13R18s0 (A : Ar) (x0 : Nat) (x1 : LN) (x2 x3 : Nat) (x4 : Int) (x5 : Nat) (x6 x7 : LN) (x8 x9 : Nat) (x10 : Int) (x11 : Nat) (x12 : LN) (x13 : Nat) (x14 : LN) : St := ⟨[(78, i6 0), (77, aN .u64 8 ((x7.drop 0).take 8)), (76, pT 2009 0), (75, pT 2009 0), (74, pT 2009 0), (3, pT 2009 0), (10, sL 18000 none x0 1)], [(0, bH 1 x1 (some x2) x3 x4), (1, bY x5 x6), (2009, bH 17003 x7 (some x8) x9 x10), (17003, bY x11 x12), (18000, bY x13 x14)]⟩
theorem g13R18 (x0 : Nat) (x1 : LN) (x2 x3 : Nat) (x4 : Int) (x5 : Nat) (x6 x7 : LN) (x8 x9 : Nat) (x10 : Int) (x11 : Nat) (x12 : LN) (x13 : Nat) (x14 : LN) : g13D A n (pth 2559) K ⟨[(3, pT 2009 0), (10, sL 18000 none x0 1)], [(0, bH 1 x1 (some x2) x3 x4), (1, bY x5 x6), (2009, bH 17003 x7 (some x8) x9 x10), (17003, bY x11 x12), (18000, bY x13 x14)]⟩ = K .normal (g13R18s0 A x0 x1 x2 x3 x4 x5 x6 x7 x8 x9 x10 x11 x12 x13 x14) := by kernel_rfl
def g13R8s0 (A : Ar) (x0 x1 : Nat) (x2 x3 : Int) (x4 : LN) (x5 x6 : Nat) (x7 : Int) (x8 : Nat) (x9 x10 : LN) (x11 : Int) (x12 : Nat) (x13 : LN) (x14 : Nat) (x15 : LN) : St := ⟨[(53, bO (A.ic .lss x3 x2)), (3, pT 2009 0), (4, sL 3004 none x0 1), (50, sL 8002 none x1 1), (51, i6 x2), (52, i6 x3)], [(0, bH 1 x4 (some x5) x6 x7), (1, bY x8 x9), (2009, ⟨[.nums .u64 88 x10, .one .nils, .one (.int .i64 x11)], 45, 1⟩), (3004, bY x12 x13), (8002, ⟨[.nums .u64 x14 x15], 36, 2⟩)]⟩
theorem g13R8 (x0 x1 : Nat) (x2 x3 : Int) (x4 : LN) (x5 x6 : Nat) (x7 : Int) (x8 : Nat) (x9 x10 : LN) (x11 : Int) (x12 : Nat) (x13 : LN) (x14 : Nat) (x15 : LN) : g13D A n (pth 2239) K ⟨[(3, pT 2009 0), (4, sL 3004 none x0 1), (50, sL 8002 none x1 1), (51, i6 x2), (52, i6 x3)], [(0, bH 1 x4 (some x5) x6 x7), (1, bY x8 x9), (2009, ⟨[.nums .u64 88 x10, .one .nils, .one (.int .i64 x11)], 45, 1⟩), (3004, bY x12 x13), (8002, ⟨[.nums .u64 x14 x15], 36, 2⟩)]⟩ = K .normal (g13R8s0 A x0 x1 x2 x3 x4 x5 x6 x7 x8 x9 x10 x11 x12 x13 x14 x15) := by kernel_rfl
def g13R6s0 (A : Ar) (x0 : Nat) (x1 : LN) (x2 x3 : Nat) (x4 : Int) (x5 : Nat) (x6 x7 : LN) (x8 : Int) (x9 : Nat) (x10 : LN) : St := ⟨[(6, u64v (g21r1 A (A.i2n .u64 x4) 8)), (5, u64v (g21r0 A (A.i2n .u64 x4) 8)), (47, u64v (g21r1 A (A.i2n .u64 x4) 8)), (46, u64v (g21r0 A (A.i2n .u64 x4) 8)), (39, (.tup [(.cell (.nat .u64 (g21r0 A (A.i2n .u64 x4) 8))), (.cell (.nat .u64 (g21r1 A (A.i2n .u64 x4) 8)))])), (45, (.tup [(.cell (.nat .u64 (g21r0 A (A.i2n .u64 x4) 8))), (.cell (.nat .u64 (g21r1 A (A.i2n .u64 x4) 8)))])), (44, u64v (A.i2n .u64 x4)), (43, i6 x4), (42, pT 0 89), (41, pT 0 0), (40, pT 0 0), (0, pT 0 0), (3, pT 2009 0), (4, sL 3004 none x0 1)], [(0, bH 1 x1 (some x2) x3 x4), (1, bY x5 x6), (2009, ⟨[.nums .u64 88 x7, .one .nils, .one (.int .i64 x8)], 45, 1⟩), (3004, bY x9 x10)]⟩
theorem g13R6 (x0 : Nat) (x1 : LN) (x2 x3 : Nat) (x4 : Int) (x5 : Nat) (x6 x7 : LN) (x8 : Int) (x9 : Nat) (x10 : LN) : g13D A n (pth 95) K ⟨[(0, pT 0 0), (3, pT 2009 0), (4, sL 3004 none x0 1)], [(0, bH 1 x1 (some x2) x3 x4), (1, bY x5 x6), (2009, ⟨[.nums .u64 88 x7, .one .nils, .one (.int .i64 x8)], 45, 1⟩), (3004, bY x9 x10)]⟩ = match g21ok A (A.i2n .u64 x4) 8 with
    | true => K .normal (g13R6s0 A x0 x1 x2 x3 x4 x5 x6 x7 x8 x9 x10)
    | false => none := by kernel_rfl
def g13R7s0 (A : Ar) (x0 x1 x2 : Nat) (x3 : LN) (x4 x5 : Nat) (x6 : Int) (x7 : Nat) (x8 x9 : LN) (x10 : Int) (x11 : Nat) (x12 : LN) : St := ⟨[(52, i6 0), (51, i6 (A.ofN 2)), (50, sL 8002 none 2 1), (49, u64v x2), (48, u64v x1), (3, pT 2009 0), (4, sL 3004 none x0 1), (5, u64v x1), (6, u64v x2)], [(8002, ⟨[.nums .u64 2 [x1, x2]], 36, 2⟩), (0, bH 1 x3 (some x4) x5 x6), (1, bY x7 x8), (2009, ⟨[.nums .u64 88 x9, .one .nils, .one (.int .i64 x10)], 45, 1⟩), (3004, bY x11 x12)]⟩
theorem g13R7 (x0 x1 x2 : Nat) (x3 : LN) (x4 x5 : Nat) (x6 : Int) (x7 : Nat) (x8 x9 : LN) (x10 : Int) (x11 : Nat) (x12 : LN) : g13D A n (pth 319) K ⟨[(3, pT 2009 0), (4, sL 3004 none x0 1), (5, u64v x1), (6, u64v x2)], [(0, bH 1 x3 (some x4) x5 x6), (1, bY x7 x8), (2009, ⟨[.nums .u64 88 x9, .one .nils, .one (.int .i64 x10)], 45, 1⟩), (3004, bY x11 x12)]⟩ = K .normal (g13R7s0 A x0 x1 x2 x3 x4 x5 x6 x7 x8 x9 x10 x11 x12) := by kernel_rfl
def g13R4s0 (A : Ar) (x0 : Nat) (x1 : LN) (x2 x3 : Nat) (x4 : Int) (x5 : Nat) (x6 x7 : LN) (x8 : Int) (x9 : Nat) (x10 : LN) : St := ⟨[(35, bO (A.ic .neq (A.ib .rem .i64 (A.ofN x0) 128) 112)), (34, i6 (A.ib .rem .i64 (A.ofN x0) 128)), (33, i6 (A.ofN x0)), (32, sL 3004 none x0 1), (0, pT 0 0), (3, pT 2009 0), (4, sL 3004 none x0 1)], [(0, bH 1 x1 (some x2) x3 x4), (1, bY x5 x6), (2009, ⟨[.nums .u64 88 x7, .one .nils, .one (.int .i64 x8)], 45, 1⟩), (3004, bY x9 x10)]⟩
theorem g13R4 (x0 : Nat) (x1 : LN) (x2 x3 : Nat) (x4 : Int) (x5 : Nat) (x6 x7 : LN) (x8 : Int) (x9 : Nat) (x10 : LN) : g13D A n (pth 527) K ⟨[(0, pT 0 0), (3, pT 2009 0), (4, sL 3004 none x0 1)], [(0, bH 1 x1 (some x2) x3 x4), (1, bY x5 x6), (2009, ⟨[.nums .u64 88 x7, .one .nils, .one (.int .i64 x8)], 45, 1⟩), (3004, bY x9 x10)]⟩ = K .normal (g13R4s0 A x0 x1 x2 x3 x4 x5 x6 x7 x8 x9 x10) := by kernel_rfl
def g13R5s0 (A : Ar) (x0 : Nat) (x1 : LN) (x2 x3 : Nat) (x4 : Int) (x5 : Nat) (x6 x7 : LN) (x8 : Int) (x9 : Nat) (x10 : LN) : St := ⟨[(4, sL 3004 none ((x10 ++ ([0].take 1)).length) 1), (38, sL 3004 none ((x10 ++ ([0].take 1)).length) 1), (37, sL 6001 none 1 1), (36, (.v (.cell .top))), (0, pT 0 0), (3, pT 2009 0), (4, (.v (.cell .top)))], [(3004, bY ((x10 ++ ([0].take 1)).length) (x10 ++ ([0].take 1))), (6001, bY 1 [0]), (0, bH 1 x1 (some x2) x3 x4), (1, bY x5 x6), (2009, ⟨[.nums .u64 88 x7, .one .nils, .one (.int .i64 x8)], 45, 1⟩)]⟩
theorem g13R5 (x0 : Nat) (x1 : LN) (x2 x3 : Nat) (x4 : Int) (x5 : Nat) (x6 x7 : LN) (x8 : Int) (x9 : Nat) (x10 : LN) : g13D A n (pth 655) K ⟨[(0, pT 0 0), (3, pT 2009 0), (4, sL 3004 none x0 1)], [(0, bH 1 x1 (some x2) x3 x4), (1, bY x5 x6), (2009, ⟨[.nums .u64 88 x7, .one .nils, .one (.int .i64 x8)], 45, 1⟩), (3004, bY x9 x10)]⟩ = match A.eq x0 (x9 + 0) with
    | true => match A.le ((x10 ++ ([0].take 1)).length) 140737488355328 with
      | true => K .normal (g13R5s0 A x0 x1 x2 x3 x4 x5 x6 x7 x8 x9 x10)
      | false => none
    | false => none := by kernel_rfl
def g13R0s0 (A : Ar) (x0 : LN) (x1 x2 : Nat) (x3 : Int) (x4 : Nat) (x5 : LN) : St := ⟨[(2, tS []), (0, pT 0 0)], [(0, bH 1 x0 (some x1) x2 x3), (1, bY x4 x5)]⟩
theorem g13R0 (x0 : LN) (x1 x2 : Nat) (x3 : Int) (x4 : Nat) (x5 : LN) : g13D A n (pth 2) K ⟨[(0, pT 0 0)], [(0, bH 1 x0 (some x1) x2 x3), (1, bY x4 x5)]⟩ = K .normal (g13R0s0 A x0 x1 x2 x3 x4 x5) := by kernel_rfl
def g13R1s0 (A : Ar) (x0 : LN) (x1 x2 : Nat) (x3 : Int) (x4 : Nat) (x5 : LN) : St := ⟨[(3, pT 2009 0), (23, pT 2009 0), (22, (.v (.agg [.nums .u64 88 (([0, 0, 0, 0, 0, 0, 0, 0, 0, 0, 0, 0, 0, 0, 0, 0, 0, 0, 0, 0, 0, 0, 0, 0, 0, 0, 0, 0, 0, 0, 0, 0, 0, 0, 0, 0, 0, 0, 0, 0, 0, 0, 0, 0, 0, 0, 0, 0, 0, 0, 0, 0, 0, 0, 0, 0, 0, 0, 0, 0, 0, 0, 0, 0, 0, 0, 0, 0, 0, 0, 0, 0, 0, 0, 0, 0, 0, 0, 0, 0, 0, 0, 0, 0, 0, 0, 0, 0].take 0 ++ (((x0.drop 0).take 8) ++ [0, 0, 0, 0, 0, 0, 0, 0, 0, 0, 0, 0, 0, 0, 0, 0, 0, 0, 0, 0, 0, 0, 0, 0, 0, 0, 0, 0, 0, 0, 0, 0, 0, 0, 0, 0, 0, 0, 0, 0, 0, 0, 0, 0, 0, 0, 0, 0, 0, 0, 0, 0, 0, 0, 0, 0, 0, 0, 0, 0, 0, 0, 0, 0, 0, 0, 0, 0, 0, 0, 0, 0, 0, 0, 0, 0, 0, 0, 0, 0, 0, 0, 0, 0, 0, 0, 0, 0].drop 8)).take 8 ++ (((x0.drop 8).take 80) ++ ([0, 0, 0, 0, 0, 0, 0, 0, 0, 0, 0, 0, 0, 0, 0, 0, 0, 0, 0, 0, 0, 0, 0, 0, 0, 0, 0, 0, 0, 0, 0, 0, 0, 0, 0, 0, 0, 0, 0, 0, 0, 0, 0, 0, 0, 0, 0, 0, 0, 0, 0, 0, 0, 0, 0, 0, 0, 0, 0, 0, 0, 0, 0, 0, 0, 0, 0, 0, 0, 0, 0, 0, 0, 0, 0, 0, 0, 0, 0, 0, 0, 0, 0, 0, 0, 0, 0, 0].take 0 ++ (((x0.drop 0).take 8) ++ [0, 0, 0, 0, 0, 0, 0, 0, 0, 0, 0, 0, 0, 0, 0, 0, 0, 0, 0, 0, 0, 0, 0, 0, 0, 0, 0, 0, 0, 0, 0, 0, 0, 0, 0, 0, 0, 0, 0, 0, 0, 0, 0, 0, 0, 0, 0, 0, 0, 0, 0, 0, 0, 0, 0, 0, 0, 0, 0, 0, 0, 0, 0, 0, 0, 0, 0, 0, 0, 0, 0, 0, 0, 0, 0, 0, 0, 0, 0, 0, 0, 0, 0, 0, 0, 0, 0, 0].drop 8)).drop 88)), .one .nils, .one (.int .i64 0)]))), (21, aN .u64 80 ((x0.drop 8).take 80)), (20, pT 0 8), (19, pT 0 0), (18, pT 0 0), (17, aN .u64 8 ((x0.drop 0).take 8)), (16, pT 0 0), (15, pT 0 0), (14, pT 0 0), (0, pT 0 0)], [(2009, ⟨[.nums .u64 88 (([0, 0, 0, 0, 0, 0, 0, 0, 0, 0, 0, 0, 0, 0, 0, 0, 0, 0, 0, 0, 0, 0, 0, 0, 0, 0, 0, 0, 0, 0, 0, 0, 0, 0, 0, 0, 0, 0, 0, 0, 0, 0, 0, 0, 0, 0, 0, 0, 0, 0, 0, 0, 0, 0, 0, 0, 0, 0, 0, 0, 0, 0, 0, 0, 0, 0, 0, 0, 0, 0, 0, 0, 0, 0, 0, 0, 0, 0, 0, 0, 0, 0, 0, 0, 0, 0, 0, 0].take 0 ++ (((x0.drop 0).take 8) ++ [0, 0, 0, 0, 0, 0, 0, 0, 0, 0, 0, 0, 0, 0, 0, 0, 0, 0, 0, 0, 0, 0, 0, 0, 0, 0, 0, 0, 0, 0, 0, 0, 0, 0, 0, 0, 0, 0, 0, 0, 0, 0, 0, 0, 0, 0, 0, 0, 0, 0, 0, 0, 0, 0, 0, 0, 0, 0, 0, 0, 0, 0, 0, 0, 0, 0, 0, 0, 0, 0, 0, 0, 0, 0, 0, 0, 0, 0, 0, 0, 0, 0, 0, 0, 0, 0, 0, 0].drop 8)).take 8 ++ (((x0.drop 8).take 80) ++ ([0, 0, 0, 0, 0, 0, 0, 0, 0, 0, 0, 0, 0, 0, 0, 0, 0, 0, 0, 0, 0, 0, 0, 0, 0, 0, 0, 0, 0, 0, 0, 0, 0, 0, 0, 0, 0, 0, 0, 0, 0, 0, 0, 0, 0, 0, 0, 0, 0, 0, 0, 0, 0, 0, 0, 0, 0, 0, 0, 0, 0, 0, 0, 0, 0, 0, 0, 0, 0, 0, 0, 0, 0, 0, 0, 0, 0, 0, 0, 0, 0, 0, 0, 0, 0, 0, 0, 0].take 0 ++ (((x0.drop 0).take 8) ++ [0, 0, 0, 0, 0, 0, 0, 0, 0, 0, 0, 0, 0, 0, 0, 0, 0, 0, 0, 0, 0, 0, 0, 0, 0, 0, 0, 0, 0, 0, 0, 0, 0, 0, 0, 0, 0, 0, 0, 0, 0, 0, 0, 0, 0, 0, 0, 0, 0, 0, 0, 0, 0, 0, 0, 0, 0, 0, 0, 0, 0, 0, 0, 0, 0, 0, 0, 0, 0, 0, 0, 0, 0, 0, 0, 0, 0, 0, 0, 0, 0, 0, 0, 0, 0, 0, 0, 0].drop 8)).drop 88)), .one .nils, .one (.int .i64 0)], 45, 1⟩), (0, bH 1 x0 (some x1) x2 x3), (1, bY x4 x5)]⟩
theorem g13R1 (x0 : LN) (x1 x2 : Nat) (x3 : Int) (x4 : Nat) (x5 : LN) : g13D A n (pth 5) K ⟨[(0, pT 0 0)], [(0, bH 1 x0 (some x1) x2 x3), (1, bY x4 x5)]⟩ = K .normal (g13R1s0 A x0 x1 x2 x3 x4 x5) := by kernel_rfl
def g13R2s0 (A : Ar) (x0 : LN) (x1 x2 : Nat) (x3 : Int) (x4 : Nat) (x5 x6 : LN) (x7 : Int) : St := ⟨[(4, sL 3004 none (([] ++ ((x5.drop x1).take x2)).length) 1), (28, sL 3004 none (([] ++ ((x5.drop x1).take x2)).length) 1), (27, sL 1 (some x1) x2 1), (26, pT 0 88), (25, pT 0 0), (24, pT 0 0), (0, pT 0 0), (3, pT 2009 0)], [(3004, bY (([] ++ ((x5.drop x1).take x2)).length) ([] ++ ((x5.drop x1).take x2))), (0, bH 1 x0 (some x1) x2 x3), (1, bY x4 x5), (2009, ⟨[.nums .u64 88 x6, .one .nils, .one (.int .i64 x7)], 45, 1⟩)]⟩
theorem g13R2 (x0 : LN) (x1 x2 : Nat) (x3 : Int) (x4 : Nat) (x5 x6 : LN) (x7 : Int) : g13D A n (pth 11) K ⟨[(0, pT 0 0), (3, pT 2009 0)], [(0, bH 1 x0 (some x1) x2 x3), (1, bY x4 x5), (2009, ⟨[.nums .u64 88 x6, .one .nils, .one (.int .i64 x7)], 45, 1⟩)]⟩ = match A.eq 0 0 with
    | true => match A.le (([] ++ ((x5.drop x1).take x2)).length) 140737488355328 with
      | true => K .normal (g13R2s0 A x0 x1 x2 x3 x4 x5 x6 x7)
      | false => none
    | false => none := by kernel_rfl
def g13R3s0 (A : Ar) (x0 : Nat) (x1 : LN) (x2 x3 : Nat) (x4 : Int) (x5 : Nat) (x6 x7 : LN) (x8 : Int) (x9 : Nat) (x10 : LN) : St := ⟨[(4, sL 3004 none ((x10 ++ ([128].take 1)).length) 1), (31, sL 3004 none ((x10 ++ ([128].take 1)).length) 1), (30, sL 4001 none 1 1), (29, (.v (.cell .top))), (0, pT 0 0), (3, pT 2009 0), (4, (.v (.cell .top)))], [(3004, bY ((x10 ++ ([128].take 1)).length) (x10 ++ ([128].take 1))), (4001, bY 1 [128]), (0, bH 1 x1 (some x2) x3 x4), (1, bY x5 x6), (2009, ⟨[.nums .u64 88 x7, .one .nils, .one (.int .i64 x8)], 45, 1⟩)]⟩
theorem g13R3 (x0 : Nat) (x1 : LN) (x2 x3 : Nat) (x4 : Int) (x5 : Nat) (x6 x7 : LN) (x8 : Int) (x9 : Nat) (x10 : LN) : g13D A n (pth 23) K ⟨[(0, pT 0 0), (3, pT 2009 0), (4, sL 3004 none x0 1)], [(0, bH 1 x1 (some x2) x3 x4), (1, bY x5 x6), (2009, ⟨[.nums .u64 88 x7, .one .nils, .one (.int .i64 x8)], 45, 1⟩), (3004, bY x9 x10)]⟩ = match A.eq x0 (x9 + 0) with
    | true => match A.le ((x10 ++ ([128].take 1)).length) 140737488355328 with
      | true => K .normal (g13R3s0 A x0 x1 x2 x3 x4 x5 x6 x7 x8 x9 x10)
      | false => none
    | false => none := by kernel_rfl
end
def g13J12 {R : Type} (A : Ar) (n : Nat) (kk : KK R) (lg13L11 : Nat → Nat → Nat → Int → Int → Int → LN → Nat → Nat → Int → Nat → LN → LN → Int → Nat → LN → Nat → LN → Option R) (x0 x1 x2 : Nat) (x3 x4 x5 : Int) (x6 : LN) (x7 x8 : Nat) (x9 : Int) (x10 : Nat) (x11 x12 : LN) (x13 : Int) (x14 : Nat) (x15 : LN) (x16 : Nat) (x17 : LN) : Option R :=
  match A.neg (A.ib .sub .i64 56 (A.ib .mul .i64 8 x5)) with
  | true => none
  | false => match A.eq x0 (x14 + 0) with
    | true => match A.le ((x15 ++ ([A.n2n .u8 (A.nsh .shr .u64 x1 (A.toN (A.ib .sub .i64 56 (A.ib .mul .i64 8 x5))))].take 1)).length) 140737488355328 with
      | true => lg13L11 ((x15 ++ ([A.n2n .u8 (A.nsh .shr .u64 x1 (A.toN (A.ib .sub .i64 56 (A.ib .mul .i64 8 x5))))].take 1)).length) x1 x2 x3 x4 (A.ib .add .i64 x5 1) x6 x7 x8 x9 x10 x11 x12 x13 ((x15 ++ ([A.n2n .u8 (A.nsh .shr .u64 x1 (A.toN (A.ib .sub .i64 56 (A.ib .mul .i64 8 x5))))].take 1)).length) (x15 ++ ([A.n2n .u8 (A.nsh .shr .u64 x1 (A.toN (A.ib .sub .i64 56 (A.ib .mul .i64 8 x5))))].take 1)) x16 x17
      | false => none
    | false => none
abbrev u43 (A : Ar) (x15 : LN) (x1 : Nat) (x5 : Int) := x15 ++ ([A.n2n .u8 (A.nsh .shr .u64 x1 (A.toN (A.ib .sub .i64 56 (A.ib .mul .i64 8 x5))))].take 1)
theorem g13J12_eq {R : Type} (A : Ar) (n : Nat) (kk : KK R) (m0 m1 : Nat) (lg13L11 : Nat → Nat → Nat → Int → Int → Int → LN → Nat → Nat → Int → Nat → LN → LN → Int → Nat → LN → Nat → LN → Option R)
    (hg13L11 : ∀ (s : St) (x0 x1 x2 : Nat) (x3 x4 x5 : Int) (x6 : LN) (x7 x8 : Nat) (x9 : Int) (x10 : Nat) (x11 x12 : LN) (x13 : Int) (x14 : Nat) (x15 : LN) (x16 : Nat) (x17 : LN), keep g13an 11 s = ⟨[(3, pT 2009 0), (4, sL 3004 none x0 1), (8, u64v x1), (50, sL 8002 none x2 1), (51, i6 x3), (52, i6 x4), (56, i6 x5)], [(0, bH 1 x6 (some x7) x8 x9), (1, bY x10 x11), (2009, ⟨[.nums .u64 88 x12, .one .nils, .one (.int .i64 x13)], 45, 1⟩), (3004, bY x14 x15), (8002, ⟨[.nums .u64 x16 x17], 36, 2⟩)]⟩ → g13V A n (pth 314559) m1 (blockK 4 (blockK 3 (g13Q A n (pth 15551) (g13W A n (pth 1215) m0 (blockK 2 (g13Q A n (pth 255) (g13T kk))))))) s = lg13L11 x0 x1 x2 x3 x4 x5 x6 x7 x8 x9 x10 x11 x12 x13 x14 x15 x16 x17) (s : St) (x0 x1 x2 : Nat) (x3 x4 x5 : Int) (x6 : LN) (x7 x8 : Nat) (x9 : Int) (x10 : Nat) (x11 x12 : LN) (x13 : Int) (x14 : Nat) (x15 : LN) (x16 : Nat) (x17 : LN) (h : keep g13an 12 s = ⟨[(3, pT 2009 0), (4, sL 3004 none x0 1), (8, u64v x1), (50, sL 8002 none x2 1), (51, i6 x3), (52, i6 x4), (56, i6 x5)], [(0, bH 1 x6 (some x7) x8 x9), (1, bY x10 x11), (2009, ⟨[.nums .u64 88 x12, .one .nils, .one (.int .i64 x13)], 45, 1⟩), (3004, bY x14 x15), (8002, ⟨[.nums .u64 x16 x17], 36, 2⟩)]⟩) :
    g13D A n (pth 1887423) (g13W A n (pth 314559) m1 (blockK 4 (blockK 3 (g13Q A n (pth 15551) (g13W A n (pth 1215) m0 (blockK 2 (g13Q A n (pth 255) (g13T kk)))))))) s = g13J12 A n kk lg13L11 x0 x1 x2 x3 x4 x5 x6 x7 x8 x9 x10 x11 x12 x13 x14 x15 x16 x17 := by
  have h1 := (g13Wn A n _ _ _ _).trans (hg13L11 (g13R14s0 A ((u43 A x15 x1 x5).length) x1 x2 x3 x4 x5 x6 x7 x8 x9 x10 x11 x12 x13 ((u43 A x15 x1 x5).length) (u43 A x15 x1 x5) x16 x17) ((u43 A x15 x1 x5).length) x1 x2 x3 x4 (A.ib .add .i64 x5 1) x6 x7 x8 x9 x10 x11 x12 x13 ((u43 A x15 x1 x5).length) (u43 A x15 x1 x5) x16 x17 (by kernel_rfl))
  have h2 := (g13F A n _ 14 _ (g13R13s0 A x0 x1 x5 x2 x3 x4 x5 x6 x7 x8 x9 x10 x11 x12 x13 x14 x15 x16 x17) _ (by kernel_rfl) (by kernel_rfl)).trans (g13R14 A n (g13W A n (pth 314559) m1 (blockK 4 (blockK 3 (g13Q A n (pth 15551) (g13W A n (pth 1215) m0 (blockK 2 (g13Q A n (pth 255) (g13T kk)))))))) ((u43 A x15 x1 x5).length) x1 x2 x3 x4 x5 x6 x7 x8 x9 x10 x11 x12 x13 ((u43 A x15 x1 x5).length) (u43 A x15 x1 x5) x16 x17)
  rw [h1] at h2
  have h3 := (g13Qn A n _ _ _).trans h2
  have h4 := (blockK_n 5 _ _).trans h3
  have h5 := (g13F A n _ 13 _ (g13R12s0 A x0 x1 x2 x3 x4 x5 x6 x7 x8 x9 x10 x11 x12 x13 x14 x15 x16 x17) _ (by kernel_rfl) (by kernel_rfl)).trans (g13R13 A n (blockK 5 (g13Q A n (pth 3984575) (g13W A n (pth 314559) m1 (blockK 4 (blockK 3 (g13Q A n (pth 15551) (g13W A n (pth 1215) m0 (blockK 2 (g13Q A n (pth 255) (g13T kk)))))))))) x0 x1 x5 x2 x3 x4 x5 x6 x7 x8 x9 x10 x11 x12 x13 x14 x15 x16 x17)
  rw [h4] at h5
  have h6 := (g13Qn A n _ _ _).trans h5
  have h7 := (g13F A n _ 12 _ ⟨[(3, pT 2009 0), (4, sL 3004 none x0 1), (8, u64v x1), (50, sL 8002 none x2 1), (51, i6 x3), (52, i6 x4), (56, i6 x5)], [(0, bH 1 x6 (some x7) x8 x9), (1, bY x10 x11), (2009, ⟨[.nums .u64 88 x12, .one .nils, .one (.int .i64 x13)], 45, 1⟩), (3004, bY x14 x15), (8002, ⟨[.nums .u64 x16 x17], 36, 2⟩)]⟩ _ (by kernel_rfl) (by kernel_rfl)).trans (g13R12 A n (g13Q A n (pth 13421759) (blockK 5 (g13Q A n (pth 3984575) (g13W A n (pth 314559) m1 (blockK 4 (blockK 3 (g13Q A n (pth 15551) (g13W A n (pth 1215) m0 (blockK 2 (g13Q A n (pth 255) (g13T kk))))))))))) x0 x1 x2 x3 x4 x5 x6 x7 x8 x9 x10 x11 x12 x13 x14 x15 x16 x17)
  rw [h6] at h7
  have h8 := (g13p5033151 A n _ _).trans h7
  have h9 := (g13p2935999 A n _ _).trans h8
  have h10 := (g13p1887423 A n _ _).trans h9
  exact (g13F A n _ 12 _ _ ⟨[(3, pT 2009 0), (4, sL 3004 none x0 1), (8, u64v x1), (50, sL 8002 none x2 1), (51, i6 x3), (52, i6 x4), (56, i6 x5)], [(0, bH 1 x6 (some x7) x8 x9), (1, bY x10 x11), (2009, ⟨[.nums .u64 88 x12, .one .nils, .one (.int .i64 x13)], 45, 1⟩), (3004, bY x14 x15), (8002, ⟨[.nums .u64 x16 x17], 36, 2⟩)]⟩ (by kernel_rfl) (h.trans (by kernel_rfl))).trans (h10.trans (by kernel_rfl))
def g13L11 {R : Type} (A : Ar) (n : Nat) (kk : KK R) (lg13L8 : Nat → Nat → Int → Int → LN → Nat → Nat → Int → Nat → LN → LN → Int → Nat → LN → Nat → LN → Option R) : Nat → Nat → Nat → Nat → Int → Int → Int → LN → Nat → Nat → Int → Nat → LN → LN → Int → Nat → LN → Nat → LN → Option R
  | 0, _, _, _, _, _, _, _, _, _, _, _, _, _, _, _, _, _, _ => none
  | m + 1, x0, x1, x2, x3, x4, x5, x6, x7, x8, x9, x10, x11, x12, x13, x14, x15, x16, x17 => match A.ic .lss x5 8 with
  | true => g13J12 A n kk (g13L11 A n kk lg13L8 m) x0 x1 x2 x3 x4 x5 x6 x7 x8 x9 x10 x11 x12 x13 x14 x15 x16 x17
  | false => lg13L8 x0 x2 x3 (A.ib .add .i64 x4 1) x6 x7 x8 x9 x10 x11 x12 x13 x14 x15 x16 x17
theorem g13L11_eq {R : Type} (A : Ar) (n : Nat) (kk : KK R) (m0 : Nat) (lg13L8 : Nat → Nat → Int → Int → LN → Nat → Nat → Int → Nat → LN → LN → Int → Nat → LN → Nat → LN → Option R)
    (hg13L8 : ∀ (s : St) (x0 x1 : Nat) (x2 x3 : Int) (x4 : LN) (x5 x6 : Nat) (x7 : Int) (x8 : Nat) (x9 x10 : LN) (x11 : Int) (x12 : Nat) (x13 : LN) (x14 : Nat) (x15 : LN), keep g13an 8 s = ⟨[(3, pT 2009 0), (4, sL 3004 none x0 1), (50, sL 8002 none x1 1), (51, i6 x2), (52, i6 x3)], [(0, bH 1 x4 (some x5) x6 x7), (1, bY x8 x9), (2009, ⟨[.nums .u64 88 x10, .one .nils, .one (.int .i64 x11)], 45, 1⟩), (3004, bY x12 x13), (8002, ⟨[.nums .u64 x14 x15], 36, 2⟩)]⟩ → g13V A n (pth 1215) m0 (blockK 2 (g13Q A n (pth 255) (g13T kk))) s = lg13L8 x0 x1 x2 x3 x4 x5 x6 x7 x8 x9 x10 x11 x12 x13 x14 x15) (m : Nat) (s : St) (x0 x1 x2 : Nat) (x3 x4 x5 : Int) (x6 : LN) (x7 x8 : Nat) (x9 : Int) (x10 : Nat) (x11 x12 : LN) (x13 : Int) (x14 : Nat) (x15 : LN) (x16 : Nat) (x17 : LN) (h : keep g13an 11 s = ⟨[(3, pT 2009 0), (4, sL 3004 none x0 1), (8, u64v x1), (50, sL 8002 none x2 1), (51, i6 x3), (52, i6 x4), (56, i6 x5)], [(0, bH 1 x6 (some x7) x8 x9), (1, bY x10 x11), (2009, ⟨[.nums .u64 88 x12, .one .nils, .one (.int .i64 x13)], 45, 1⟩), (3004, bY x14 x15), (8002, ⟨[.nums .u64 x16 x17], 36, 2⟩)]⟩) :
    g13V A n (pth 314559) m (blockK 4 (blockK 3 (g13Q A n (pth 15551) (g13W A n (pth 1215) m0 (blockK 2 (g13Q A n (pth 255) (g13T kk))))))) s = g13L11 A n kk lg13L8 m x0 x1 x2 x3 x4 x5 x6 x7 x8 x9 x10 x11 x12 x13 x14 x15 x16 x17 := by
  induction m generalizing s x0 x1 x2 x3 x4 x5 x6 x7 x8 x9 x10 x11 x12 x13 x14 x15 x16 x17 with
  | zero => rfl
  | succ m ih =>
    have h1 := (g13Qn A n _ _ _).trans (g13J12_eq A n kk m0 m (g13L11 A n kk lg13L8 m) ih (g13R11s0 A x0 x1 x2 x3 x4 x5 x6 x7 x8 x9 x10 x11 x12 x13 x14 x15 x16 x17) x0 x1 x2 x3 x4 x5 x6 x7 x8 x9 x10 x11 x12 x13 x14 x15 x16 x17 (by kernel_rfl))
    have h2 := (g13p2411711 A n _ _).trans h1
    have h3 := (g13Wn A n _ _ _ _).trans (hg13L8 (g13R15s0 A x0 x2 x3 x4 x6 x7 x8 x9 x10 x11 x12 x13 x14 x15 x16 x17) x0 x2 x3 (A.ib .add .i64 x4 1) x6 x7 x8 x9 x10 x11 x12 x13 x14 x15 x16 x17 (by kernel_rfl))
    have h4 := (g13F A n _ 15 _ (g13R11s0 A x0 x1 x2 x3 x4 x5 x6 x7 x8 x9 x10 x11 x12 x13 x14 x15 x16 x17) _ (by kernel_rfl) (by kernel_rfl)).trans (g13R15 A n (g13W A n (pth 1215) m0 (blockK 2 (g13Q A n (pth 255) (g13T kk)))) x0 x2 x3 x4 x6 x7 x8 x9 x10 x11 x12 x13 x14 x15 x16 x17)
    rw [h3] at h4
    have h5 := (g13Qn A n _ _ _).trans h4
    have h6 := (blockK_n 3 _ _).trans h5
    have h7 := (blockK_hit 4 _ _).trans h6
    have h8 := (g13We A n (pth 314559) m _ _ _).trans h7
    have h9 := (g13Qe A n (pth 1887423) _ _ _).trans h8
    have h10 := (g13p3460287 A n _ _).trans h9
    have h11 := g13p1363135 A n (g13Q A n (pth 1887423) (g13W A n (pth 314559) m (blockK 4 (blockK 3 (g13Q A n (pth 15551) (g13W A n (pth 1215) m0 (blockK 2 (g13Q A n (pth 255) (g13T kk))))))))) (g13R11s0 A x0 x1 x2 x3 x4 x5 x6 x7 x8 x9 x10 x11 x12 x13 x14 x15 x16 x17) (A.ic .lss x5 8) (by kernel_rfl)
    rw [h2, h10] at h11
    have h12 := (g13p838847 A n _ _).trans h11
    have h13 := (g13Qn A n _ _ _).trans h12
    have h14 := (g13F A n _ 11 _ ⟨[(3, pT 2009 0), (4, sL 3004 none x0 1), (8, u64v x1), (50, sL 8002 none x2 1), (51, i6 x3), (52, i6 x4), (56, i6 x5)], [(0, bH 1 x6 (some x7) x8 x9), (1, bY x10 x11), (2009, ⟨[.nums .u64 88 x12, .one .nils, .one (.int .i64 x13)], 45, 1⟩), (3004, bY x14 x15), (8002, ⟨[.nums .u64 x16 x17], 36, 2⟩)]⟩ _ (by kernel_rfl) (by kernel_rfl)).trans (g13R11 A n (g13Q A n (pth 838847) (g13W A n (pth 314559) m (blockK 4 (blockK 3 (g13Q A n (pth 15551) (g13W A n (pth 1215) m0 (blockK 2 (g13Q A n (pth 255) (g13T kk))))))))) x0 x1 x2 x3 x4 x5 x6 x7 x8 x9 x10 x11 x12 x13 x14 x15 x16 x17)
    rw [h13] at h14
    have h15 := (g13p314559 A n _ _).trans h14
    exact (loopD_first (s' := ⟨[(3, pT 2009 0), (4, sL 3004 none x0 1), (8, u64v x1), (50, sL 8002 none x2 1), (51, i6 x3), (52, i6 x4), (56, i6 x5)], [(0, bH 1 x6 (some x7) x8 x9), (1, bY x10 x11), (2009, ⟨[.nums .u64 88 x12, .one .nils, .one (.int .i64 x13)], 45, 1⟩), (3004, bY x14 x15), (8002, ⟨[.nums .u64 x16 x17], 36, 2⟩)]⟩) (id := 11) (by kernel_rfl) (h.trans (by kernel_rfl)) _).trans ((g13Vs A n _ m _ _).trans (h15.trans (by kernel_rfl)))
def g13J9 {R : Type} (A : Ar) (n : Nat) (kk : KK R) (lg13L8 : Nat → Nat → Int → Int → LN → Nat → Nat → Int → Nat → LN → LN → Int → Nat → LN → Nat → LN → Option R) (x0 x1 : Nat) (x2 x3 : Int) (x4 : LN) (x5 x6 : Nat) (x7 : Int) (x8 : Nat) (x9 x10 : LN) (x11 : Int) (x12 : Nat) (x13 : LN) (x14 : Nat) (x15 : LN) : Option R :=
  match A.neg x3 with
  | true => none
  | false => match A.lt (A.toN x3) x1 with
    | true => g13L11 A n kk lg13L8 n x0 (x15.getD (A.toN x3) 0) x1 x2 x3 0 x4 x5 x6 x7 x8 x9 x10 x11 x12 x13 x14 x15
    | false => none
theorem g13J9_eq {R : Type} (A : Ar) (n : Nat) (kk : KK R) (m0 : Nat) (lg13L8 : Nat → Nat → Int → Int → LN → Nat → Nat → Int → Nat → LN → LN → Int → Nat → LN → Nat → LN → Option R)
    (hg13L8 : ∀ (s : St) (x0 x1 : Nat) (x2 x3 : Int) (x4 : LN) (x5 x6 : Nat) (x7 : Int) (x8 : Nat) (x9 x10 : LN) (x11 : Int) (x12 : Nat) (x13 : LN) (x14 : Nat) (x15 : LN), keep g13an 8 s = ⟨[(3, pT 2009 0), (4, sL 3004 none x0 1), (50, sL 8002 none x1 1), (51, i6 x2), (52, i6 x3)], [(0, bH 1 x4 (some x5) x6 x7), (1, bY x8 x9), (2009, ⟨[.nums .u64 88 x10, .one .nils, .one (.int .i64 x11)], 45, 1⟩), (3004, bY x12 x13), (8002, ⟨[.nums .u64 x14 x15], 36, 2⟩)]⟩ → g13V A n (pth 1215) m0 (blockK 2 (g13Q A n (pth 255) (g13T kk))) s = lg13L8 x0 x1 x2 x3 x4 x5 x6 x7 x8 x9 x10 x11 x12 x13 x14 x15) (s : St) (x0 x1 : Nat) (x2 x3 : Int) (x4 : LN) (x5 x6 : Nat) (x7 : Int) (x8 : Nat) (x9 x10 : LN) (x11 : Int) (x12 : Nat) (x13 : LN) (x14 : Nat) (x15 : LN) (h : keep g13an 9 s = ⟨[(3, pT 2009 0), (4, sL 3004 none x0 1), (50, sL 8002 none x1 1), (51, i6 x2), (52, i6 x3)], [(0, bH 1 x4 (some x5) x6 x7), (1, bY x8 x9), (2009, ⟨[.nums .u64 88 x10, .one .nils, .one (.int .i64 x11)], 45, 1⟩), (3004, bY x12 x13), (8002, ⟨[.nums .u64 x14 x15], 36, 2⟩)]⟩) :
    g13D A n (pth 7359) (g13W A n (pth 1215) m0 (blockK 2 (g13Q A n (pth 255) (g13T kk)))) s = g13J9 A n kk lg13L8 x0 x1 x2 x3 x4 x5 x6 x7 x8 x9 x10 x11 x12 x13 x14 x15 := by
  have h1 := (g13p183487 A n _ _).trans (g13L11_eq A n kk m0 lg13L8 hg13L8 n (g13R10s0 A x0 (x15.getD (A.toN x3) 0) x1 x2 x3 x4 x5 x6 x7 x8 x9 x10 x11 x12 x13 x14 x15) x0 (x15.getD (A.toN x3) 0) x1 x2 x3 0 x4 x5 x6 x7 x8 x9 x10 x11 x12 x13 x14 x15 (by kernel_rfl))
  have h2 := (g13p117951 A n _ _).trans h1
  have h3 := (g13Qn A n _ _ _).trans h2
  have h4 := (g13F A n _ 10 _ (g13R9s0 A x0 x1 x2 x3 x4 x5 x6 x7 x8 x9 x10 x11 x12 x13 x14 x15) _ (by kernel_rfl) (by kernel_rfl)).trans (g13R10 A n (g13Q A n (pth 117951) (blockK 3 (g13Q A n (pth 15551) (g13W A n (pth 1215) m0 (blockK 2 (g13Q A n (pth 255) (g13T kk))))))) x0 (x15.getD (A.toN x3) 0) x1 x2 x3 x4 x5 x6 x7 x8 x9 x10 x11 x12 x13 x14 x15)
  rw [h3] at h4
  have h5 := (g13p52415 A n _ _).trans h4
  have h6 := (g13Qn A n _ _ _).trans h5
  have h7 := (g13F A n _ 9 _ ⟨[(3, pT 2009 0), (4, sL 3004 none x0 1), (50, sL 8002 none x1 1), (51, i6 x2), (52, i6 x3)], [(0, bH 1 x4 (some x5) x6 x7), (1, bY x8 x9), (2009, ⟨[.nums .u64 88 x10, .one .nils, .one (.int .i64 x11)], 45, 1⟩), (3004, bY x12 x13), (8002, ⟨[.nums .u64 x14 x15], 36, 2⟩)]⟩ _ (by kernel_rfl) (by kernel_rfl)).trans (g13R9 A n (g13Q A n (pth 52415) (blockK 3 (g13Q A n (pth 15551) (g13W A n (pth 1215) m0 (blockK 2 (g13Q A n (pth 255) (g13T kk))))))) x0 x1 x2 x3 x4 x5 x6 x7 x8 x9 x10 x11 x12 x13 x14 x15)
  rw [h6] at h7
  have h8 := (g13p19647 A n _ _).trans h7
  have h9 := (g13p11455 A n _ _).trans h8
  have h10 := (g13p7359 A n _ _).trans h9
  exact (g13F A n _ 9 _ _ ⟨[(3, pT 2009 0), (4, sL 3004 none x0 1), (50, sL 8002 none x1 1), (51, i6 x2), (52, i6 x3)], [(0, bH 1 x4 (some x5) x6 x7), (1, bY x8 x9), (2009, ⟨[.nums .u64 88 x10, .one .nils, .one (.int .i64 x11)], 45, 1⟩), (3004, bY x12 x13), (8002, ⟨[.nums .u64 x14 x15], 36, 2⟩)]⟩ (by kernel_rfl) (h.trans (by kernel_rfl))).trans (h10.trans (by kernel_rfl))
def g13J23 {R : Type} (A : Ar) (n : Nat) (kk : KK R) (lg13L22 : Nat → Nat → LN → Int → Int → LN → Nat → Nat → Int → Nat → LN → Nat → LN → Option R) (x0 x1 : Nat) (x2 : LN) (x3 x4 : Int) (x5 : LN) (x6 x7 : Nat) (x8 : Int) (x9 : Nat) (x10 : LN) (x11 : Nat) (x12 : LN) : Option R :=
  match A.neg (A.ib .sub .i64 56 (A.ib .mul .i64 8 x4)) with
  | true => none
  | false => match A.eq x0 (x11 + 0) with
    | true => match A.le ((x12 ++ ([A.n2n .u8 (A.nsh .shr .u64 x1 (A.toN (A.ib .sub .i64 56 (A.ib .mul .i64 8 x4))))].take 1)).length) 140737488355328 with
      | true => lg13L22 ((x12 ++ ([A.n2n .u8 (A.nsh .shr .u64 x1 (A.toN (A.ib .sub .i64 56 (A.ib .mul .i64 8 x4))))].take 1)).length) x1 x2 x3 (A.ib .add .i64 x4 1) x5 x6 x7 x8 x9 x10 ((x12 ++ ([A.n2n .u8 (A.nsh .shr .u64 x1 (A.toN (A.ib .sub .i64 56 (A.ib .mul .i64 8 x4))))].take 1)).length) (x12 ++ ([A.n2n .u8 (A.nsh .shr .u64 x1 (A.toN (A.ib .sub .i64 56 (A.ib .mul .i64 8 x4))))].take 1))
      | false => none
    | false => none
abbrev u44 (A : Ar) (x12 : LN) (x1 : Nat) (x4 : Int) := x12 ++ ([A.n2n .u8 (A.nsh .shr .u64 x1 (A.toN (A.ib .sub .i64 56 (A.ib .mul .i64 8 x4))))].take 1)
theorem g13J23_eq {R : Type} (A : Ar) (n : Nat) (kk : KK R) (m0 m1 : Nat) (lg13L22 : Nat → Nat → LN → Int → Int → LN → Nat → Nat → Int → Nat → LN → Nat → LN → Option R)
    (hg13L22 : ∀ (s : St) (x0 x1 : Nat) (x2 : LN) (x3 x4 : Int) (x5 : LN) (x6 x7 : Nat) (x8 : Int) (x9 : Nat) (x10 : LN) (x11 : Nat) (x12 : LN), keep g13an 22 s = ⟨[(10, sL 18000 none x0 1), (12, u64v x1), (77, aN .u64 8 x2), (78, i6 x3), (81, i6 x4)], [(0, bH 1 x5 (some x6) x7 x8), (1, bY x9 x10), (18000, bY x11 x12)]⟩ → g13V A n (pth 2516479) m1 (blockK 8 (blockK 7 (g13Q A n (pth 124415) (g13W A n (pth 9727) m0 (blockK 6 (g13Q A n (pth 2047) (g13T kk))))))) s = lg13L22 x0 x1 x2 x3 x4 x5 x6 x7 x8 x9 x10 x11 x12) (s : St) (x0 x1 : Nat) (x2 : LN) (x3 x4 : Int) (x5 : LN) (x6 x7 : Nat) (x8 : Int) (x9 : Nat) (x10 : LN) (x11 : Nat) (x12 : LN) (h : keep g13an 23 s = ⟨[(10, sL 18000 none x0 1), (12, u64v x1), (77, aN .u64 8 x2), (78, i6 x3), (81, i6 x4)], [(0, bH 1 x5 (some x6) x7 x8), (1, bY x9 x10), (18000, bY x11 x12)]⟩) :
    g13D A n (pth 15099391) (g13W A n (pth 2516479) m1 (blockK 8 (blockK 7 (g13Q A n (pth 124415) (g13W A n (pth 9727) m0 (blockK 6 (g13Q A n (pth 2047) (g13T kk)))))))) s = g13J23 A n kk lg13L22 x0 x1 x2 x3 x4 x5 x6 x7 x8 x9 x10 x11 x12 := by
  have h1 := (g13Wn A n _ _ _ _).trans (hg13L22 (g13R25s0 A ((u44 A x12 x1 x4).length) x1 x2 x3 x4 x5 x6 x7 x8 x9 x10 ((u44 A x12 x1 x4).length) (u44 A x12 x1 x4)) ((u44 A x12 x1 x4).length) x1 x2 x3 (A.ib .add .i64 x4 1) x5 x6 x7 x8 x9 x10 ((u44 A x12 x1 x4).length) (u44 A x12 x1 x4) (by kernel_rfl))
  have h2 := (g13F A n _ 25 _ (g13R24s0 A x0 x1 x4 x2 x3 x4 x5 x6 x7 x8 x9 x10 x11 x12) _ (by kernel_rfl) (by kernel_rfl)).trans (g13R25 A n (g13W A n (pth 2516479) m1 (blockK 8 (blockK 7 (g13Q A n (pth 124415) (g13W A n (pth 9727) m0 (blockK 6 (g13Q A n (pth 2047) (g13T kk)))))))) ((u44 A x12 x1 x4).length) x1 x2 x3 x4 x5 x6 x7 x8 x9 x10 ((u44 A x12 x1 x4).length) (u44 A x12 x1 x4))
  rw [h1] at h2
  have h3 := (g13Qn A n _ _ _).trans h2
  have h4 := (blockK_n 9 _ _).trans h3
  have h5 := (g13F A n _ 24 _ (g13R23s0 A x0 x1 x2 x3 x4 x5 x6 x7 x8 x9 x10 x11 x12) _ (by kernel_rfl) (by kernel_rfl)).trans (g13R24 A n (blockK 9 (g13Q A n (pth 31876607) (g13W A n (pth 2516479) m1 (blockK 8 (blockK 7 (g13Q A n (pth 124415) (g13W A n (pth 9727) m0 (blockK 6 (g13Q A n (pth 2047) (g13T kk)))))))))) x0 x1 x4 x2 x3 x4 x5 x6 x7 x8 x9 x10 x11 x12)
  rw [h4] at h5
  have h6 := (g13Qn A n _ _ _).trans h5
  have h7 := (g13F A n _ 23 _ ⟨[(10, sL 18000 none x0 1), (12, u64v x1), (77, aN .u64 8 x2), (78, i6 x3), (81, i6 x4)], [(0, bH 1 x5 (some x6) x7 x8), (1, bY x9 x10), (18000, bY x11 x12)]⟩ _ (by kernel_rfl) (by kernel_rfl)).trans (g13R23 A n (g13Q A n (pth 107374079) (blockK 9 (g13Q A n (pth 31876607) (g13W A n (pth 2516479) m1 (blockK 8 (blockK 7 (g13Q A n (pth 124415) (g13W A n (pth 9727) m0 (blockK 6 (g13Q A n (pth 2047) (g13T kk))))))))))) x0 x1 x2 x3 x4 x5 x6 x7 x8 x9 x10 x11 x12)
  rw [h6] at h7
  have h8 := (g13p40265215 A n _ _).trans h7
  have h9 := (g13p23487999 A n _ _).trans h8
  have h10 := (g13p15099391 A n _ _).trans h9
  exact (g13F A n _ 23 _ _ ⟨[(10, sL 18000 none x0 1), (12, u64v x1), (77, aN .u64 8 x2), (78, i6 x3), (81, i6 x4)], [(0, bH 1 x5 (some x6) x7 x8), (1, bY x9 x10), (18000, bY x11 x12)]⟩ (by kernel_rfl) (h.trans (by kernel_rfl))).trans (h10.trans (by kernel_rfl))
def g13L22 {R : Type} (A : Ar) (n : Nat) (kk : KK R) (lg13L19 : Nat → LN → Int → LN → Nat → Nat → Int → Nat → LN → Nat → LN → Option R) : Nat → Nat → Nat → LN → Int → Int → LN → Nat → Nat → Int → Nat → LN → Nat → LN → Option R
  | 0, _, _, _, _, _, _, _, _, _, _, _, _, _ => none
  | m + 1, x0, x1, x2, x3, x4, x5, x6, x7, x8, x9, x10, x11, x12 => match A.ic .lss x4 8 with
  | true => g13J23 A n kk (g13L22 A n kk lg13L19 m) x0 x1 x2 x3 x4 x5 x6 x7 x8 x9 x10 x11 x12
  | false => lg13L19 x0 x2 (A.ib .add .i64 x3 1) x5 x6 x7 x8 x9 x10 x11 x12
theorem g13L22_eq {R : Type} (A : Ar) (n : Nat) (kk : KK R) (m0 : Nat) (lg13L19 : Nat → LN → Int → LN → Nat → Nat → Int → Nat → LN → Nat → LN → Option R)
    (hg13L19 : ∀ (s : St) (x0 : Nat) (x1 : LN) (x2 : Int) (x3 : LN) (x4 x5 : Nat) (x6 : Int) (x7 : Nat) (x8 : LN) (x9 : Nat) (x10 : LN), keep g13an 19 s = ⟨[(10, sL 18000 none x0 1), (77, aN .u64 8 x1), (78, i6 x2)], [(0, bH 1 x3 (some x4) x5 x6), (1, bY x7 x8), (18000, bY x9 x10)]⟩ → g13V A n (pth 9727) m0 (blockK 6 (g13Q A n (pth 2047) (g13T kk))) s = lg13L19 x0 x1 x2 x3 x4 x5 x6 x7 x8 x9 x10) (m : Nat) (s : St) (x0 x1 : Nat) (x2 : LN) (x3 x4 : Int) (x5 : LN) (x6 x7 : Nat) (x8 : Int) (x9 : Nat) (x10 : LN) (x11 : Nat) (x12 : LN) (h : keep g13an 22 s = ⟨[(10, sL 18000 none x0 1), (12, u64v x1), (77, aN .u64 8 x2), (78, i6 x3), (81, i6 x4)], [(0, bH 1 x5 (some x6) x7 x8), (1, bY x9 x10), (18000, bY x11 x12)]⟩) :
    g13V A n (pth 2516479) m (blockK 8 (blockK 7 (g13Q A n (pth 124415) (g13W A n (pth 9727) m0 (blockK 6 (g13Q A n (pth 2047) (g13T kk))))))) s = g13L22 A n kk lg13L19 m x0 x1 x2 x3 x4 x5 x6 x7 x8 x9 x10 x11 x12 := by
  induction m generalizing s x0 x1 x2 x3 x4 x5 x6 x7 x8 x9 x10 x11 x12 with
  | zero => rfl
  | succ m ih =>
    have h1 := (g13Qn A n _ _ _).trans (g13J23_eq A n kk m0 m (g13L22 A n kk lg13L19 m) ih (g13R22s0 A x0 x1 x2 x3 x4 x5 x6 x7 x8 x9 x10 x11 x12) x0 x1 x2 x3 x4 x5 x6 x7 x8 x9 x10 x11 x12 (by kernel_rfl))
    have h2 := (g13p19293695 A n _ _).trans h1
    have h3 := (g13Wn A n _ _ _ _).trans (hg13L19 (g13R26s0 A x0 x2 x3 x5 x6 x7 x8 x9 x10 x11 x12) x0 x2 (A.ib .add .i64 x3 1) x5 x6 x7 x8 x9 x10 x11 x12 (by kernel_rfl))
    have h4 := (g13F A n _ 26 _ (g13R22s0 A x0 x1 x2 x3 x4 x5 x6 x7 x8 x9 x10 x11 x12) _ (by kernel_rfl) (by kernel_rfl)).trans (g13R26 A n (g13W A n (pth 9727) m0 (blockK 6 (g13Q A n (pth 2047) (g13T kk)))) x0 x2 x3 x5 x6 x7 x8 x9 x10 x11 x12)
    rw [h3] at h4
    have h5 := (g13Qn A n _ _ _).trans h4
    have h6 := (blockK_n 7 _ _).trans h5
    have h7 := (blockK_hit 8 _ _).trans h6
    have h8 := (g13We A n (pth 2516479) m _ _ _).trans h7
    have h9 := (g13Qe A n (pth 15099391) _ _ _).trans h8
    have h10 := (g13p27682303 A n _ _).trans h9
    have h11 := g13p10905087 A n (g13Q A n (pth 15099391) (g13W A n (pth 2516479) m (blockK 8 (blockK 7 (g13Q A n (pth 124415) (g13W A n (pth 9727) m0 (blockK 6 (g13Q A n (pth 2047) (g13T kk))))))))) (g13R22s0 A x0 x1 x2 x3 x4 x5 x6 x7 x8 x9 x10 x11 x12) (A.ic .lss x4 8) (by kernel_rfl)
    rw [h2, h10] at h11
    have h12 := (g13p6710783 A n _ _).trans h11
    have h13 := (g13Qn A n _ _ _).trans h12
    have h14 := (g13F A n _ 22 _ ⟨[(10, sL 18000 none x0 1), (12, u64v x1), (77, aN .u64 8 x2), (78, i6 x3), (81, i6 x4)], [(0, bH 1 x5 (some x6) x7 x8), (1, bY x9 x10), (18000, bY x11 x12)]⟩ _ (by kernel_rfl) (by kernel_rfl)).trans (g13R22 A n (g13Q A n (pth 6710783) (g13W A n (pth 2516479) m (blockK 8 (blockK 7 (g13Q A n (pth 124415) (g13W A n (pth 9727) m0 (blockK 6 (g13Q A n (pth 2047) (g13T kk))))))))) x0 x1 x2 x3 x4 x5 x6 x7 x8 x9 x10 x11 x12)
    rw [h13] at h14
    have h15 := (g13p2516479 A n _ _).trans h14
    exact (loopD_first (s' := ⟨[(10, sL 18000 none x0 1), (12, u64v x1), (77, aN .u64 8 x2), (78, i6 x3), (81, i6 x4)], [(0, bH 1 x5 (some x6) x7 x8), (1, bY x9 x10), (18000, bY x11 x12)]⟩) (id := 22) (by kernel_rfl) (h.trans (by kernel_rfl)) _).trans ((g13Vs A n _ m _ _).trans (h15.trans (by kernel_rfl)))
def g13J20 {R : Type} (A : Ar) (n : Nat) (kk : KK R) (lg13L19 : Nat → LN → Int → LN → Nat → Nat → Int → Nat → LN → Nat → LN → Option R) (x0 : Nat) (x1 : LN) (x2 : Int) (x3 : LN) (x4 x5 : Nat) (x6 : Int) (x7 : Nat) (x8 : LN) (x9 : Nat) (x10 : LN) : Option R :=
  match A.neg x2 with
  | true => none
  | false => match A.lt (A.toN x2) 8 with
    | true => g13L22 A n kk lg13L19 n x0 (x1.getD (A.toN x2) 0) x1 x2 0 x3 x4 x5 x6 x7 x8 x9 x10
    | false => none
theorem g13J20_eq {R : Type} (A : Ar) (n : Nat) (kk : KK R) (m0 : Nat) (lg13L19 : Nat → LN → Int → LN → Nat → Nat → Int → Nat → LN → Nat → LN → Option R)
    (hg13L19 : ∀ (s : St) (x0 : Nat) (x1 : LN) (x2 : Int) (x3 : LN) (x4 x5 : Nat) (x6 : Int) (x7 : Nat) (x8 : LN) (x9 : Nat) (x10 : LN), keep g13an 19 s = ⟨[(10, sL 18000 none x0 1), (77, aN .u64 8 x1), (78, i6 x2)], [(0, bH 1 x3 (some x4) x5 x6), (1, bY x7 x8), (18000, bY x9 x10)]⟩ → g13V A n (pth 9727) m0 (blockK 6 (g13Q A n (pth 2047) (g13T kk))) s = lg13L19 x0 x1 x2 x3 x4 x5 x6 x7 x8 x9 x10) (s : St) (x0 : Nat) (x1 : LN) (x2 : Int) (x3 : LN) (x4 x5 : Nat) (x6 : Int) (x7 : Nat) (x8 : LN) (x9 : Nat) (x10 : LN) (h : keep g13an 20 s = ⟨[(10, sL 18000 none x0 1), (77, aN .u64 8 x1), (78, i6 x2)], [(0, bH 1 x3 (some x4) x5 x6), (1, bY x7 x8), (18000, bY x9 x10)]⟩) :
    g13D A n (pth 58879) (g13W A n (pth 9727) m0 (blockK 6 (g13Q A n (pth 2047) (g13T kk)))) s = g13J20 A n kk lg13L19 x0 x1 x2 x3 x4 x5 x6 x7 x8 x9 x10 := by
  have h1 := (g13p1467903 A n _ _).trans (g13L22_eq A n kk m0 lg13L19 hg13L19 n (g13R21s0 A x0 (x1.getD (A.toN x2) 0) x1 x2 x3 x4 x5 x6 x7 x8 x9 x10) x0 (x1.getD (A.toN x2) 0) x1 x2 0 x3 x4 x5 x6 x7 x8 x9 x10 (by kernel_rfl))
  have h2 := (g13p943615 A n _ _).trans h1
  have h3 := (g13Qn A n _ _ _).trans h2
  have h4 := (g13F A n _ 21 _ (g13R20s0 A x0 x1 x2 x3 x4 x5 x6 x7 x8 x9 x10) _ (by kernel_rfl) (by kernel_rfl)).trans (g13R21 A n (g13Q A n (pth 943615) (blockK 7 (g13Q A n (pth 124415) (g13W A n (pth 9727) m0 (blockK 6 (g13Q A n (pth 2047) (g13T kk))))))) x0 (x1.getD (A.toN x2) 0) x1 x2 x3 x4 x5 x6 x7 x8 x9 x10)
  rw [h3] at h4
  have h5 := (g13p419327 A n _ _).trans h4
  have h6 := (g13Qn A n _ _ _).trans h5
  have h7 := (g13F A n _ 20 _ ⟨[(10, sL 18000 none x0 1), (77, aN .u64 8 x1), (78, i6 x2)], [(0, bH 1 x3 (some x4) x5 x6), (1, bY x7 x8), (18000, bY x9 x10)]⟩ _ (by kernel_rfl) (by kernel_rfl)).trans (g13R20 A n (g13Q A n (pth 419327) (blockK 7 (g13Q A n (pth 124415) (g13W A n (pth 9727) m0 (blockK 6 (g13Q A n (pth 2047) (g13T kk))))))) x0 x1 x2 x3 x4 x5 x6 x7 x8 x9 x10)
  rw [h6] at h7
  have h8 := (g13p157183 A n _ _).trans h7
  have h9 := (g13p91647 A n _ _).trans h8
  have h10 := (g13p58879 A n _ _).trans h9
  exact (g13F A n _ 20 _ _ ⟨[(10, sL 18000 none x0 1), (77, aN .u64 8 x1), (78, i6 x2)], [(0, bH 1 x3 (some x4) x5 x6), (1, bY x7 x8), (18000, bY x9 x10)]⟩ (by kernel_rfl) (h.trans (by kernel_rfl))).trans (h10.trans (by kernel_rfl))
def g13L19 {R : Type} (A : Ar) (n : Nat) (kk : KK R) : Nat → Nat → LN → Int → LN → Nat → Nat → Int → Nat → LN → Nat → LN → Option R
  | 0, _, _, _, _, _, _, _, _, _, _, _ => none
  | m + 1, x0, x1, x2, x3, x4, x5, x6, x7, x8, x9, x10 => match A.ic .lss x2 8 with
  | true => g13J20 A n kk (g13L19 A n kk m) x0 x1 x2 x3 x4 x5 x6 x7 x8 x9 x10
  | false => kk (tS (x10.take x0)) [(0, ⟨[.nums .u64 88 x3, .one (.sl 1 (some x4) x5 1), .one (.int .i64 x6)], 45, 1⟩), (1, ⟨[.nums .u8 x7 x8], 5, 2⟩), (18000, ⟨[.nums .u8 x9 x10], 5, 2⟩)]
theorem g13L19_eq {R : Type} (A : Ar) (n : Nat) (kk : KK R) (m : Nat) (s : St) (x0 : Nat) (x1 : LN) (x2 : Int) (x3 : LN) (x4 x5 : Nat) (x6 : Int) (x7 : Nat) (x8 : LN) (x9 : Nat) (x10 : LN) (h : keep g13an 19 s = ⟨[(10, sL 18000 none x0 1), (77, aN .u64 8 x1), (78, i6 x2)], [(0, bH 1 x3 (some x4) x5 x6), (1, bY x7 x8), (18000, bY x9 x10)]⟩) :
    g13V A n (pth 9727) m (blockK 6 (g13Q A n (pth 2047) (g13T kk))) s = g13L19 A n kk m x0 x1 x2 x3 x4 x5 x6 x7 x8 x9 x10 := by
  induction m generalizing s x0 x1 x2 x3 x4 x5 x6 x7 x8 x9 x10 with
  | zero => rfl
  | succ m ih =>
    have h1 := (g13Qn A n _ _ _).trans (g13J20_eq A n kk m (g13L19 A n kk m) ih (g13R19s0 A x0 x1 x2 x3 x4 x5 x6 x7 x8 x9 x10) x0 x1 x2 x3 x4 x5 x6 x7 x8 x9 x10 (by kernel_rfl))
    have h2 := (g13p75263 A n _ _).trans h1
    have h3 : (g13T kk) .ret (g13R27s0 A x0 x3 x4 x5 x6 x7 x8 x9 x10) = kk (tS (x10.take x0)) [(0, bH 1 x3 (some x4) x5 x6), (1, bY x7 x8), (18000, bY x9 x10)] := by kernel_rfl
    have h4 := (g13p4095 A n _ _).trans h3
    have h5 := (g13Qn A n _ _ _).trans h4
    have h6 := (g13F A n _ 27 _ (g13R19s0 A x0 x1 x2 x3 x4 x5 x6 x7 x8 x9 x10) _ (by kernel_rfl) (by kernel_rfl)).trans (g13R27 A n (g13Q A n (pth 4095) (g13T kk)) x0 x3 x4 x5 x6 x7 x8 x9 x10)
    rw [h5] at h6
    have h7 := (g13p2047 A n _ _).trans h6
    have h8 := (g13Qn A n _ _ _).trans h7
    have h9 := (blockK_hit 6 _ _).trans h8
    have h10 := (g13We A n (pth 9727) m _ _ _).trans h9
    have h11 := (g13Qe A n (pth 58879) _ _ _).trans h10
    have h12 := (g13p108031 A n _ _).trans h11
    have h13 := g13p42495 A n (g13Q A n (pth 58879) (g13W A n (pth 9727) m (blockK 6 (g13Q A n (pth 2047) (g13T kk))))) (g13R19s0 A x0 x1 x2 x3 x4 x5 x6 x7 x8 x9 x10) (A.ic .lss x2 8) (by kernel_rfl)
    rw [h2, h12] at h13
    have h14 := (g13p26111 A n _ _).trans h13
    have h15 := (g13Qn A n _ _ _).trans h14
    have h16 := (g13F A n _ 19 _ ⟨[(10, sL 18000 none x0 1), (77, aN .u64 8 x1), (78, i6 x2)], [(0, bH 1 x3 (some x4) x5 x6), (1, bY x7 x8), (18000, bY x9 x10)]⟩ _ (by kernel_rfl) (by kernel_rfl)).trans (g13R19 A n (g13Q A n (pth 26111) (g13W A n (pth 9727) m (blockK 6 (g13Q A n (pth 2047) (g13T kk))))) x0 x1 x2 x3 x4 x5 x6 x7 x8 x9 x10)
    rw [h15] at h16
    have h17 := (g13p9727 A n _ _).trans h16
    exact (loopD_first (s' := ⟨[(10, sL 18000 none x0 1), (77, aN .u64 8 x1), (78, i6 x2)], [(0, bH 1 x3 (some x4) x5 x6), (1, bY x7 x8), (18000, bY x9 x10)]⟩) (id := 19) (by kernel_rfl) (h.trans (by kernel_rfl)) _).trans ((g13Vs A n _ m _ _).trans (h17.trans (by kernel_rfl)))
def g13J16 {R : Type} (A : Ar) (n : Nat) (kk : KK R) (x0 : Nat) (x1 : LN) (x2 x3 : Nat) (x4 : Int) (x5 : Nat) (x6 x7 : LN) (x8 : Int) (x9 : Nat) (x10 : LN) : Option R :=
  match g12a_ok A (x10.take x0) x7 0 0 x8 0 [] with
  | true => g13L19 A n kk n 0 (((g12a_r0 A (x10.take x0) x7 0 0 x8 0 []).drop 0).take 8) 0 x1 x2 x3 x4 x5 x6 0 []
  | false => none
theorem g13J16_eq {R : Type} (A : Ar) (n : Nat) (kk : KK R) (s : St) (x0 : Nat) (x1 : LN) (x2 x3 : Nat) (x4 : Int) (x5 : Nat) (x6 x7 : LN) (x8 : Int) (x9 : Nat) (x10 : LN) (h : keep g13an 16 s = ⟨[(3, pT 2009 0), (4, sL 3004 none x0 1)], [(0, bH 1 x1 (some x2) x3 x4), (1, bY x5 x6), (2009, ⟨[.nums .u64 88 x7, .one .nils, .one (.int .i64 x8)], 45, 1⟩), (3004, bY x9 x10)]⟩) :
    g13D A n (pth 255) (g13T kk) s = g13J16 A n kk x0 x1 x2 x3 x4 x5 x6 x7 x8 x9 x10 := by
  have h1 := (g13p5631 A n _ _).trans (g13L19_eq A n kk n (g13R18s0 A 0 x1 x2 x3 x4 x5 x6 (g12a_r0 A (x10.take x0) x7 0 0 x8 0 []) (g12a_r1 A (x10.take x0) x7 0 0 x8 0 []) (g12a_r2 A (x10.take x0) x7 0 0 x8 0 []) (g12a_r3 A (x10.take x0) x7 0 0 x8 0 []) (g12a_r4 A (x10.take x0) x7 0 0 x8 0 []) (g12a_r5 A (x10.take x0) x7 0 0 x8 0 []) 0 []) 0 (((g12a_r0 A (x10.take x0) x7 0 0 x8 0 []).drop 0).take 8) 0 x1 x2 x3 x4 x5 x6 0 [] (by kernel_rfl))
  have h2 := (g13p3583 A n _ _).trans h1
  have h3 := (g13Qn A n _ _ _).trans h2
  have h4 := (g13F A n _ 18 _ (g13R17s0 A x1 x2 x3 x4 x5 x6 (g12a_r0 A (x10.take x0) x7 0 0 x8 0 []) (g12a_r1 A (x10.take x0) x7 0 0 x8 0 []) (g12a_r2 A (x10.take x0) x7 0 0 x8 0 []) (g12a_r3 A (x10.take x0) x7 0 0 x8 0 []) (g12a_r4 A (x10.take x0) x7 0 0 x8 0 []) (g12a_r5 A (x10.take x0) x7 0 0 x8 0 [])) _ (by kernel_rfl) (by kernel_rfl)).trans (g13R18 A n (g13Q A n (pth 3583) (g13Q A n (pth 2047) (g13T kk))) 0 x1 x2 x3 x4 x5 x6 (g12a_r0 A (x10.take x0) x7 0 0 x8 0 []) (g12a_r1 A (x10.take x0) x7 0 0 x8 0 []) (g12a_r2 A (x10.take x0) x7 0 0 x8 0 []) (g12a_r3 A (x10.take x0) x7 0 0 x8 0 []) (g12a_r4 A (x10.take x0) x7 0 0 x8 0 []) (g12a_r5 A (x10.take x0) x7 0 0 x8 0 []) 0 [])
  rw [h3] at h4
  have h5 := (g13p1535 A n _ _).trans h4
  have h6 := (g13p1023 A n _ _).trans h5
  have h7 := (g13Qn A n _ _ _).trans h6
  have h8 := (g13F A n _ 17 _ (g13R16s0 A x0 x1 x2 x3 x4 x5 x6 x7 x8 x9 x10) _ (by kernel_rfl) (by kernel_rfl)).trans (g13R17 A n (g13Q A n (pth 1023) (g13T kk)) x1 x2 x3 x4 x5 x6 (g12a_r0 A (x10.take x0) x7 0 0 x8 0 []) (g12a_r1 A (x10.take x0) x7 0 0 x8 0 []) (g12a_r2 A (x10.take x0) x7 0 0 x8 0 []) (g12a_r3 A (x10.take x0) x7 0 0 x8 0 []) (g12a_r4 A (x10.take x0) x7 0 0 x8 0 []) (g12a_r5 A (x10.take x0) x7 0 0 x8 0 []))
  rw [h7] at h8
  have h9 := (g13p511 A n _ _).trans h8
  have h10 := (g13Qn A n _ _ _).trans h9
  have h11 := (g13F A n _ 16 _ ⟨[(3, pT 2009 0), (4, sL 3004 none x0 1)], [(0, bH 1 x1 (some x2) x3 x4), (1, bY x5 x6), (2009, ⟨[.nums .u64 88 x7, .one .nils, .one (.int .i64 x8)], 45, 1⟩), (3004, bY x9 x10)]⟩ _ (by kernel_rfl) (by kernel_rfl)).trans (g13R16 A n (g13Q A n (pth 511) (g13T kk)) x0 x1 x2 x3 x4 x5 x6 x7 x8 x9 x10)
  rw [h10] at h11
  have h12 := (g13p255 A n _ _).trans h11
  exact (g13F A n _ 16 _ _ ⟨[(3, pT 2009 0), (4, sL 3004 none x0 1)], [(0, bH 1 x1 (some x2) x3 x4), (1, bY x5 x6), (2009, ⟨[.nums .u64 88 x7, .one .nils, .one (.int .i64 x8)], 45, 1⟩), (3004, bY x9 x10)]⟩ (by kernel_rfl) (h.trans (by kernel_rfl))).trans (h12.trans (by kernel_rfl))
def g13L8 {R : Type} (A : Ar) (n : Nat) (kk : KK R) : Nat → Nat → Nat → Int → Int → LN → Nat → Nat → Int → Nat → LN → LN → Int → Nat → LN → Nat → LN → Option R
  | 0, _, _, _, _, _, _, _, _, _, _, _, _, _, _, _, _ => none
  | m + 1, x0, x1, x2, x3, x4, x5, x6, x7, x8, x9, x10, x11, x12, x13, x14, x15 => match A.ic .lss x3 x2 with
  | true => g13J9 A n kk (g13L8 A n kk m) x0 x1 x2 x3 x4 x5 x6 x7 x8 x9 x10 x11 x12 x13 x14 x15
  | false => g13J16 A n kk x0 x4 x5 x6 x7 x8 x9 x10 x11 x12 x13
theorem g13L8_eq {R : Type} (A : Ar) (n : Nat) (kk : KK R) (m : Nat) (s : St) (x0 x1 : Nat) (x2 x3 : Int) (x4 : LN) (x5 x6 : Nat) (x7 : Int) (x8 : Nat) (x9 x10 : LN) (x11 : Int) (x12 : Nat) (x13 : LN) (x14 : Nat) (x15 : LN) (h : keep g13an 8 s = ⟨[(3, pT 2009 0), (4, sL 3004 none x0 1), (50, sL 8002 none x1 1), (51, i6 x2), (52, i6 x3)], [(0, bH 1 x4 (some x5) x6 x7), (1, bY x8 x9), (2009, ⟨[.nums .u64 88 x10, .one .nils, .one (.int .i64 x11)], 45, 1⟩), (3004, bY x12 x13), (8002, ⟨[.nums .u64 x14 x15], 36, 2⟩)]⟩) :
    g13V A n (pth 1215) m (blockK 2 (g13Q A n (pth 255) (g13T kk))) s = g13L8 A n kk m x0 x1 x2 x3 x4 x5 x6 x7 x8 x9 x10 x11 x12 x13 x14 x15 := by
  induction m generalizing s x0 x1 x2 x3 x4 x5 x6 x7 x8 x9 x10 x11 x12 x13 x14 x15 with
  | zero => rfl
  | succ m ih =>
    have h1 := (g13Qn A n _ _ _).trans (g13J9_eq A n kk m (g13L8 A n kk m) ih (g13R8s0 A x0 x1 x2 x3 x4 x5 x6 x7 x8 x9 x10 x11 x12 x13 x14 x15) x0 x1 x2 x3 x4 x5 x6 x7 x8 x9 x10 x11 x12 x13 x14 x15 (by kernel_rfl))
    have h2 := (g13p9407 A n _ _).trans h1
    have h3 := (g13Qn A n _ _ _).trans (g13J16_eq A n kk (g13R8s0 A x0 x1 x2 x3 x4 x5 x6 x7 x8 x9 x10 x11 x12 x13 x14 x15) x0 x4 x5 x6 x7 x8 x9 x10 x11 x12 x13 (by kernel_rfl))
    have h4 := (blockK_hit 2 _ _).trans h3
    have h5 := (g13We A n (pth 1215) m _ _ _).trans h4
    have h6 := (g13Qe A n (pth 7359) _ _ _).trans h5
    have h7 := (g13p13503 A n _ _).trans h6
    have h8 := g13p5311 A n (g13Q A n (pth 7359) (g13W A n (pth 1215) m (blockK 2 (g13Q A n (pth 255) (g13T kk))))) (g13R8s0 A x0 x1 x2 x3 x4 x5 x6 x7 x8 x9 x10 x11 x12 x13 x14 x15) (A.ic .lss x3 x2) (by kernel_rfl)
    rw [h2, h7] at h8
    have h9 := (g13p3263 A n _ _).trans h8
    have h10 := (g13Qn A n _ _ _).trans h9
    have h11 := (g13F A n _ 8 _ ⟨[(3, pT 2009 0), (4, sL 3004 none x0 1), (50, sL 8002 none x1 1), (51, i6 x2), (52, i6 x3)], [(0, bH 1 x4 (some x5) x6 x7), (1, bY x8 x9), (2009, ⟨[.nums .u64 88 x10, .one .nils, .one (.int .i64 x11)], 45, 1⟩), (3004, bY x12 x13), (8002, ⟨[.nums .u64 x14 x15], 36, 2⟩)]⟩ _ (by kernel_rfl) (by kernel_rfl)).trans (g13R8 A n (g13Q A n (pth 3263) (g13W A n (pth 1215) m (blockK 2 (g13Q A n (pth 255) (g13T kk))))) x0 x1 x2 x3 x4 x5 x6 x7 x8 x9 x10 x11 x12 x13 x14 x15)
    rw [h10] at h11
    have h12 := (g13p1215 A n _ _).trans h11
    exact (loopD_first (s' := ⟨[(3, pT 2009 0), (4, sL 3004 none x0 1), (50, sL 8002 none x1 1), (51, i6 x2), (52, i6 x3)], [(0, bH 1 x4 (some x5) x6 x7), (1, bY x8 x9), (2009, ⟨[.nums .u64 88 x10, .one .nils, .one (.int .i64 x11)], 45, 1⟩), (3004, bY x12 x13), (8002, ⟨[.nums .u64 x14 x15], 36, 2⟩)]⟩) (id := 8) (by kernel_rfl) (h.trans (by kernel_rfl)) _).trans ((g13Vs A n _ m _ _).trans (h12.trans (by kernel_rfl)))
def g13J6 {R : Type} (A : Ar) (n : Nat) (kk : KK R) (x0 : Nat) (x1 : LN) (x2 x3 : Nat) (x4 : Int) (x5 : Nat) (x6 x7 : LN) (x8 : Int) (x9 : Nat) (x10 : LN) : Option R :=
  match g21ok A (A.i2n .u64 x4) 8 with
  | true => g13L8 A n kk n x0 2 (A.ofN 2) 0 x1 x2 x3 x4 x5 x6 x7 x8 x9 x10 2 [g21r0 A (A.i2n .u64 x4) 8, g21r1 A (A.i2n .u64 x4) 8]
  | false => none
theorem g13J6_eq {R : Type} (A : Ar) (n : Nat) (kk : KK R) (s : St) (x0 : Nat) (x1 : LN) (x2 x3 : Nat) (x4 : Int) (x5 : Nat) (x6 x7 : LN) (x8 : Int) (x9 : Nat) (x10 : LN) (h : keep g13an 6 s = ⟨[(0, pT 0 0), (3, pT 2009 0), (4, sL 3004 none x0 1)], [(0, bH 1 x1 (some x2) x3 x4), (1, bY x5 x6), (2009, ⟨[.nums .u64 88 x7, .one .nils, .one (.int .i64 x8)], 45, 1⟩), (3004, bY x9 x10)]⟩) :
    g13D A n (pth 63) (g13T kk) s = g13J6 A n kk x0 x1 x2 x3 x4 x5 x6 x7 x8 x9 x10 := by
  have h1 := (g13p703 A n _ _).trans (g13L8_eq A n kk n (g13R7s0 A x0 (g21r0 A (A.i2n .u64 x4) 8) (g21r1 A (A.i2n .u64 x4) 8) x1 x2 x3 x4 x5 x6 x7 x8 x9 x10) x0 2 (A.ofN 2) 0 x1 x2 x3 x4 x5 x6 x7 x8 x9 x10 2 [g21r0 A (A.i2n .u64 x4) 8, g21r1 A (A.i2n .u64 x4) 8] (by kernel_rfl))
  have h2 := (g13p447 A n _ _).trans h1
  have h3 := (g13Qn A n _ _ _).trans h2
  have h4 := (g13F A n _ 7 _ (g13R6s0 A x0 x1 x2 x3 x4 x5 x6 x7 x8 x9 x10) _ (by kernel_rfl) (by kernel_rfl)).trans (g13R7 A n (g13Q A n (pth 447) (g13Q A n (pth 255) (g13T kk))) x0 (g21r0 A (A.i2n .u64 x4) 8) (g21r1 A (A.i2n .u64 x4) 8) x1 x2 x3 x4 x5 x6 x7 x8 x9 x10)
  rw [h3] at h4
  have h5 := (g13p191 A n _ _).trans h4
  have h6 := (g13p127 A n _ _).trans h5
  have h7 := (g13Qn A n _ _ _).trans h6
  have h8 := (g13F A n _ 6 _ ⟨[(0, pT 0 0), (3, pT 2009 0), (4, sL 3004 none x0 1)], [(0, bH 1 x1 (some x2) x3 x4), (1, bY x5 x6), (2009, ⟨[.nums .u64 88 x7, .one .nils, .one (.int .i64 x8)], 45, 1⟩), (3004, bY x9 x10)]⟩ _ (by kernel_rfl) (by kernel_rfl)).trans (g13R6 A n (g13Q A n (pth 127) (g13T kk)) x0 x1 x2 x3 x4 x5 x6 x7 x8 x9 x10)
  rw [h7] at h8
  have h9 := (g13p63 A n _ _).trans h8
  exact (g13F A n _ 6 _ _ ⟨[(0, pT 0 0), (3, pT 2009 0), (4, sL 3004 none x0 1)], [(0, bH 1 x1 (some x2) x3 x4), (1, bY x5 x6), (2009, ⟨[.nums .u64 88 x7, .one .nils, .one (.int .i64 x8)], 45, 1⟩), (3004, bY x9 x10)]⟩ (by kernel_rfl) (h.trans (by kernel_rfl))).trans (h9.trans (by kernel_rfl))
def g13L4 {R : Type} (A : Ar) (n : Nat) (kk : KK R) : Nat → Nat → LN → Nat → Nat → Int → Nat → LN → LN → Int → Nat → LN → Option R
  | 0, _, _, _, _, _, _, _, _, _, _, _ => none
  | m + 1, x0, x1, x2, x3, x4, x5, x6, x7, x8, x9, x10 => match A.ic .neq (A.ib .rem .i64 (A.ofN x0) 128) 112 with
  | true => match A.eq x0 (x9 + 0) with
    | true => match A.le ((x10 ++ ([0].take 1)).length) 140737488355328 with
      | true => g13L4 A n kk m ((x10 ++ ([0].take 1)).length) x1 x2 x3 x4 x5 x6 x7 x8 ((x10 ++ ([0].take 1)).length) (x10 ++ ([0].take 1))
      | false => none
    | false => none
  | false => g13J6 A n kk x0 x1 x2 x3 x4 x5 x6 x7 x8 x9 x10
theorem g13L4_eq {R : Type} (A : Ar) (n : Nat) (kk : KK R) (m : Nat) (s : St) (x0 : Nat) (x1 : LN) (x2 x3 : Nat) (x4 : Int) (x5 : Nat) (x6 x7 : LN) (x8 : Int) (x9 : Nat) (x10 : LN) (h : keep g13an 4 s = ⟨[(0, pT 0 0), (3, pT 2009 0), (4, sL 3004 none x0 1)], [(0, bH 1 x1 (some x2) x3 x4), (1, bY x5 x6), (2009, ⟨[.nums .u64 88 x7, .one .nils, .one (.int .i64 x8)], 45, 1⟩), (3004, bY x9 x10)]⟩) :
    g13V A n (pth 143) m (blockK 0 (g13Q A n (pth 63) (g13T kk))) s = g13L4 A n kk m x0 x1 x2 x3 x4 x5 x6 x7 x8 x9 x10 := by
  induction m generalizing s x0 x1 x2 x3 x4 x5 x6 x7 x8 x9 x10 with
  | zero => rfl
  | succ m ih =>
    have h1 := (g13Wn A n _ _ _ _).trans (ih (g13R5s0 A x0 x1 x2 x3 x4 x5 x6 x7 x8 x9 x10) ((x10 ++ ([0].take 1)).length) x1 x2 x3 x4 x5 x6 x7 x8 ((x10 ++ ([0].take 1)).length) (x10 ++ ([0].take 1)) (by kernel_rfl))
    have h2 := (blockK_n 1 _ _).trans h1
    have h3 := (g13F A n _ 5 _ (g13R4s0 A x0 x1 x2 x3 x4 x5 x6 x7 x8 x9 x10) _ (by kernel_rfl) (by kernel_rfl)).trans (g13R5 A n (blockK 1 (g13W A n (pth 143) m (blockK 0 (g13Q A n (pth 63) (g13T kk))))) x0 x1 x2 x3 x4 x5 x6 x7 x8 x9 x10)
    rw [h2] at h3
    have h4 := (g13p399 A n _ _).trans h3
    have h5 := (g13Qn A n _ _ _).trans h4
    have h6 := (g13p1295 A n _ _).trans h5
    have h7 := (g13Qn A n _ _ _).trans (g13J6_eq A n kk (g13R4s0 A x0 x1 x2 x3 x4 x5 x6 x7 x8 x9 x10) x0 x1 x2 x3 x4 x5 x6 x7 x8 x9 x10 (by kernel_rfl))
    have h8 := (blockK_hit 0 _ _).trans h7
    have h9 := (g13We A n (pth 143) m _ _ _).trans h8
    have h10 := (g13Qe A n (pth 399) _ _ _).trans h9
    have h11 := (g13p1807 A n _ _).trans h10
    have h12 := g13p783 A n (g13Q A n (pth 399) (g13W A n (pth 143) m (blockK 0 (g13Q A n (pth 63) (g13T kk))))) (g13R4s0 A x0 x1 x2 x3 x4 x5 x6 x7 x8 x9 x10) (A.ic .neq (A.ib .rem .i64 (A.ofN x0) 128) 112) (by kernel_rfl)
    rw [h6, h11] at h12
    have h13 := (g13Qn A n _ _ _).trans h12
    have h14 := (g13F A n _ 4 _ ⟨[(0, pT 0 0), (3, pT 2009 0), (4, sL 3004 none x0 1)], [(0, bH 1 x1 (some x2) x3 x4), (1, bY x5 x6), (2009, ⟨[.nums .u64 88 x7, .one .nils, .one (.int .i64 x8)], 45, 1⟩), (3004, bY x9 x10)]⟩ _ (by kernel_rfl) (by kernel_rfl)).trans (g13R4 A n (g13Q A n (pth 783) (g13Q A n (pth 399) (g13W A n (pth 143) m (blockK 0 (g13Q A n (pth 63) (g13T kk)))))) x0 x1 x2 x3 x4 x5 x6 x7 x8 x9 x10)
    rw [h13] at h14
    have h15 := (g13p271 A n _ _).trans h14
    have h16 := (g13p143 A n _ _).trans h15
    exact (loopD_first (s' := ⟨[(0, pT 0 0), (3, pT 2009 0), (4, sL 3004 none x0 1)], [(0, bH 1 x1 (some x2) x3 x4), (1, bY x5 x6), (2009, ⟨[.nums .u64 88 x7, .one .nils, .one (.int .i64 x8)], 45, 1⟩), (3004, bY x9 x10)]⟩) (id := 4) (by kernel_rfl) (h.trans (by kernel_rfl)) _).trans ((g13Vs A n _ m _ _).trans (h16.trans (by kernel_rfl)))
def g13 {R : Type} (A : Ar) (n : Nat) (kk : KK R) (x0 : LN) (x1 x2 : Nat) (x3 : Int) (x4 : Nat) (x5 : LN) : Option R :=
  match A.eq 0 0 with
  | true => match A.le (([] ++ ((x5.drop x1).take x2)).length) 140737488355328 with
    | true => match A.eq (([] ++ ((x5.drop x1).take x2)).length) ((([] ++ ((x5.drop x1).take x2)).length) + 0) with
      | true => match A.le ((([] ++ ((x5.drop x1).take x2)) ++ ([128].take 1)).length) 140737488355328 with
        | true => g13L4 A n kk n ((([] ++ ((x5.drop x1).take x2)) ++ ([128].take 1)).length) x0 x1 x2 x3 x4 x5 (([0, 0, 0, 0, 0, 0, 0, 0, 0, 0, 0, 0, 0, 0, 0, 0, 0, 0, 0, 0, 0, 0, 0, 0, 0, 0, 0, 0, 0, 0, 0, 0, 0, 0, 0, 0, 0, 0, 0, 0, 0, 0, 0, 0, 0, 0, 0, 0, 0, 0, 0, 0, 0, 0, 0, 0, 0, 0, 0, 0, 0, 0, 0, 0, 0, 0, 0, 0, 0, 0, 0, 0, 0, 0, 0, 0, 0, 0, 0, 0, 0, 0, 0, 0, 0, 0, 0, 0].take 0 ++ (((x0.drop 0).take 8) ++ [0, 0, 0, 0, 0, 0, 0, 0, 0, 0, 0, 0, 0, 0, 0, 0, 0, 0, 0, 0, 0, 0, 0, 0, 0, 0, 0, 0, 0, 0, 0, 0, 0, 0, 0, 0, 0, 0, 0, 0, 0, 0, 0, 0, 0, 0, 0, 0, 0, 0, 0, 0, 0, 0, 0, 0, 0, 0, 0, 0, 0, 0, 0, 0, 0, 0, 0, 0, 0, 0, 0, 0, 0, 0, 0, 0, 0, 0, 0, 0, 0, 0, 0, 0, 0, 0, 0, 0].drop 8)).take 8 ++ (((x0.drop 8).take 80) ++ ([0, 0, 0, 0, 0, 0, 0, 0, 0, 0, 0, 0, 0, 0, 0, 0, 0, 0, 0, 0, 0, 0, 0, 0, 0, 0, 0, 0, 0, 0, 0, 0, 0, 0, 0, 0, 0, 0, 0, 0, 0, 0, 0, 0, 0, 0, 0, 0, 0, 0, 0, 0, 0, 0, 0, 0, 0, 0, 0, 0, 0, 0, 0, 0, 0, 0, 0, 0, 0, 0, 0, 0, 0, 0, 0, 0, 0, 0, 0, 0, 0, 0, 0, 0, 0, 0, 0, 0].take 0 ++ (((x0.drop 0).take 8) ++ [0, 0, 0, 0, 0, 0, 0, 0, 0, 0, 0, 0, 0, 0, 0, 0, 0, 0, 0, 0, 0, 0, 0, 0, 0, 0, 0, 0, 0, 0, 0, 0, 0, 0, 0, 0, 0, 0, 0, 0, 0, 0, 0, 0, 0, 0, 0, 0, 0, 0, 0, 0, 0, 0, 0, 0, 0, 0, 0, 0, 0, 0, 0, 0, 0, 0, 0, 0, 0, 0, 0, 0, 0, 0, 0, 0, 0, 0, 0, 0, 0, 0, 0, 0, 0, 0, 0, 0].drop 8)).drop 88)) 0 ((([] ++ ((x5.drop x1).take x2)) ++ ([128].take 1)).length) (([] ++ ((x5.drop x1).take x2)) ++ ([128].take 1))
        | false => none
      | false => none
    | false => none
  | false => none
abbrev u45 (x0 : LN) := (z88.take 0 ++ (((x0.drop 0).take 8) ++ z88.drop 8)).take 8 ++ (((x0.drop 8).take 80) ++ (z88.take 0 ++ (((x0.drop 0).take 8) ++ z88.drop 8)).drop 88)
abbrev u46 (x5 : LN) (x1 : Nat) (x2 : Nat) := [] ++ ((x5.drop x1).take x2)
theorem g13_eq {R : Type} (A : Ar) (n : Nat) (kk : KK R) (x0 : LN) (x1 x2 : Nat) (x3 : Int) (x4 : Nat) (x5 : LN) :
    funD A gtys (g13O A) g13an n (bodyOf Try.f13) g13res [(pT 0 0)] [(0, bH 1 x0 (some x1) x2 x3), (1, bY x4 x5)] kk = g13 A n kk x0 x1 x2 x3 x4 x5 := by
  have h1 := (g13p79 A n _ _).trans (g13L4_eq A n kk n (g13R3s0 A ((u46 x5 x1 x2).length) x0 x1 x2 x3 x4 x5 (u45 x0) 0 ((u46 x5 x1 x2).length) (u46 x5 x1 x2)) (((u46 x5 x1 x2) ++ ([128].take 1)).length) x0 x1 x2 x3 x4 x5 (u45 x0) 0 (((u46 x5 x1 x2) ++ ([128].take 1)).length) ((u46 x5 x1 x2) ++ ([128].take 1)) (by kernel_rfl))
  have h2 := (g13p47 A n _ _).trans h1
  have h3 := (g13p31 A n _ _).trans h2
  have h4 := (g13Qn A n _ _ _).trans h3
  have h5 := (g13F A n _ 3 _ (g13R2s0 A x0 x1 x2 x3 x4 x5 (u45 x0) 0) _ (by kernel_rfl) (by kernel_rfl)).trans (g13R3 A n (g13Q A n (pth 31) (g13T kk)) ((u46 x5 x1 x2).length) x0 x1 x2 x3 x4 x5 (u45 x0) 0 ((u46 x5 x1 x2).length) (u46 x5 x1 x2))
  rw [h4] at h5
  have h6 := (g13p15 A n _ _).trans h5
  have h7 := (g13Qn A n _ _ _).trans h6
  have h8 := (g13F A n _ 2 _ (g13R1s0 A x0 x1 x2 x3 x4 x5) _ (by kernel_rfl) (by kernel_rfl)).trans (g13R2 A n (g13Q A n (pth 15) (g13T kk)) x0 x1 x2 x3 x4 x5 (u45 x0) 0)
  rw [h7] at h8
  have h9 := (g13p7 A n _ _).trans h8
  have h10 := (g13Qn A n _ _ _).trans h9
  have h11 := (g13F A n _ 1 _ (g13R0s0 A x0 x1 x2 x3 x4 x5) _ (by kernel_rfl) (by kernel_rfl)).trans (g13R1 A n (g13Q A n (pth 7) (g13T kk)) x0 x1 x2 x3 x4 x5)
  rw [h10] at h11
  have h12 := (g13p3 A n _ _).trans h11
  have h13 := (g13Qn A n _ _ _).trans h12
  have h14 := (g13F A n _ 0 _ ⟨[(0, pT 0 0)], [(0, bH 1 x0 (some x1) x2 x3), (1, bY x4 x5)]⟩ _ (by kernel_rfl) (by kernel_rfl)).trans (g13R0 A n (g13Q A n (pth 3) (g13T kk)) x0 x1 x2 x3 x4 x5)
  rw [h13] at h14
  have h15 := (g13p1 A n _ _).trans h14
  exact (show funD A gtys (g13O A) g13an n (bodyOf Try.f13) g13res [(pT 0 0)] [(0, bH 1 x0 (some x1) x2 x3), (1, bY x4 x5)] kk = g13D A n (pth 1) (g13T kk) ⟨[(0, pT 0 0)], [(0, bH 1 x0 (some x1) x2 x3), (1, bY x4 x5)]⟩ from by kernel_rfl).trans (h15.trans (by kernel_rfl))
def g13is (o : Option (AV × Heap)) : Bool := match o with
  | some (.v (.cell (.str _)), [(n0, ⟨[.nums .u64 n1 _, .one (.sl n2 (some _) _ n3), .one (.int .i64 _)], n4, n5⟩), (n6, ⟨[.nums .u8 _ _], n7, n8⟩)]) => Nat.beq n0 0 && (Nat.beq n1 88 && (Nat.beq n2 1 && (Nat.beq n3 1 && (Nat.beq n4 45 && (Nat.beq n5 1 && (Nat.beq n6 1 && (Nat.beq n7 5 && (Nat.beq n8 2))))))))
  | _ => false
def g13g0 (o : Option (AV × Heap)) : LN := match o with
  | some (.v (.cell (.str x)), [(_, ⟨[.nums .u64 _ _, .one (.sl _ (some _) _ _), .one (.int .i64 _)], _, _⟩), (_, ⟨[.nums .u8 _ _], _, _⟩)]) => x
  | _ => []
def g13g1 (o : Option (AV × Heap)) : LN := match o with
  | some (.v (.cell (.str _)), [(_, ⟨[.nums .u64 _ x, .one (.sl _ (some _) _ _), .one (.int .i64 _)], _, _⟩), (_, ⟨[.nums .u8 _ _], _, _⟩)]) => x
  | _ => []
def g13g2 (o : Option (AV × Heap)) : Nat := match o with
  | some (.v (.cell (.str _)), [(_, ⟨[.nums .u64 _ _, .one (.sl _ (some x) _ _), .one (.int .i64 _)], _, _⟩), (_, ⟨[.nums .u8 _ _], _, _⟩)]) => x
  | _ => 0
def g13g3 (o : Option (AV × Heap)) : Nat := match o with
  | some (.v (.cell (.str _)), [(_, ⟨[.nums .u64 _ _, .one (.sl _ (some _) x _), .one (.int .i64 _)], _, _⟩), (_, ⟨[.nums .u8 _ _], _, _⟩)]) => x
  | _ => 0
def g13g4 (o : Option (AV × Heap)) : Int := match o with
  | some (.v (.cell (.str _)), [(_, ⟨[.nums .u64 _ _, .one (.sl _ (some _) _ _), .one (.int .i64 x)], _, _⟩), (_, ⟨[.nums .u8 _ _], _, _⟩)]) => x
  | _ => 0
def g13g5 (o : Option (AV × Heap)) : Nat := match o with
  | some (.v (.cell (.str _)), [(_, ⟨[.nums .u64 _ _, .one (.sl _ (some _) _ _), .one (.int .i64 _)], _, _⟩), (_, ⟨[.nums .u8 x _], _, _⟩)]) => x
  | _ => 0
def g13g6 (o : Option (AV × Heap)) : LN := match o with
  | some (.v (.cell (.str _)), [(_, ⟨[.nums .u64 _ _, .one (.sl _ (some _) _ _), .one (.int .i64 _)], _, _⟩), (_, ⟨[.nums .u8 _ x], _, _⟩)]) => x
  | _ => []
theorem g13is_spec {o : Option (AV × Heap)} (h : g13is o = true) : o = some ((tS (g13g0 o)), [(0, ⟨[.nums .u64 88 (g13g1 o), .one (.sl 1 (some (g13g2 o)) (g13g3 o) 1), .one (.int .i64 (g13g4 o))], 45, 1⟩), (1, ⟨[.nums .u8 (g13g5 o) (g13g6 o)], 5, 2⟩)]) := by
  unfold g13is at h
  split at h
  · rename_i z0 n0 n1 z3 n2 z5 z6 n3 z8 n4 n5 n6 z12 z13 n7 n8
    simp only [Bool.and_eq_true] at h
    have en0 := beq_true h.1
    subst en0
    replace h := h.2
    have en1 := beq_true h.1
    subst en1
    replace h := h.2
    have en2 := beq_true h.1
    subst en2
    replace h := h.2
    have en3 := beq_true h.1
    subst en3
    replace h := h.2
    have en4 := beq_true h.1
    subst en4
    replace h := h.2
    have en5 := beq_true h.1
    subst en5
    replace h := h.2
    have en6 := beq_true h.1
    subst en6
    replace h := h.2
    have en7 := beq_true h.1
    subst en7
    replace h := h.2
    have en8 := beq_true h
    subst en8
    rfl
  · cases h
def g13v (A : Ar) (x0 : LN) (x1 x2 : Nat) (x3 : Int) (x4 : Nat) (x5 : LN) : Option (AV × Heap) := g13 A (100000) (outN [1] [0, 1] none) x0 x1 x2 x3 x4 x5
def g13ok (A : Ar) (x0 : LN) (x1 x2 : Nat) (x3 : Int) (x4 : Nat) (x5 : LN) : Bool := g13is (g13v A x0 x1 x2 x3 x4 x5)
def g13r0 (A : Ar) (x0 : LN) (x1 x2 : Nat) (x3 : Int) (x4 : Nat) (x5 : LN) : LN := g13g0 (g13v A x0 x1 x2 x3 x4 x5)
def g13r1 (A : Ar) (x0 : LN) (x1 x2 : Nat) (x3 : Int) (x4 : Nat) (x5 : LN) : LN := g13g1 (g13v A x0 x1 x2 x3 x4 x5)
def g13r2 (A : Ar) (x0 : LN) (x1 x2 : Nat) (x3 : Int) (x4 : Nat) (x5 : LN) : Nat := g13g2 (g13v A x0 x1 x2 x3 x4 x5)
def g13r3 (A : Ar) (x0 : LN) (x1 x2 : Nat) (x3 : Int) (x4 : Nat) (x5 : LN) : Nat := g13g3 (g13v A x0 x1 x2 x3 x4 x5)
def g13r4 (A : Ar) (x0 : LN) (x1 x2 : Nat) (x3 : Int) (x4 : Nat) (x5 : LN) : Int := g13g4 (g13v A x0 x1 x2 x3 x4 x5)
def g13r5 (A : Ar) (x0 : LN) (x1 x2 : Nat) (x3 : Int) (x4 : Nat) (x5 : LN) : Nat := g13g5 (g13v A x0 x1 x2 x3 x4 x5)
def g13r6 (A : Ar) (x0 : LN) (x1 x2 : Nat) (x3 : Int) (x4 : Nat) (x5 : LN) : LN := g13g6 (g13v A x0 x1 x2 x3 x4 x5)
theorem g13ok_spec {A : Ar} {x0 x1 x2 x3 x4 x5} (h : g13ok A x0 x1 x2 x3 x4 x5 = true) : g13v A x0 x1 x2 x3 x4 x5 = some ((tS (g13r0 A x0 x1 x2 x3 x4 x5)), [(0, ⟨[.nums .u64 88 (g13r1 A x0 x1 x2 x3 x4 x5), .one (.sl 1 (some (g13r2 A x0 x1 x2 x3 x4 x5)) (g13r3 A x0 x1 x2 x3 x4 x5) 1), .one (.int .i64 (g13r4 A x0 x1 x2 x3 x4 x5))], 45, 1⟩), (1, ⟨[.nums .u8 (g13r5 A x0 x1 x2 x3 x4 x5) (g13r6 A x0 x1 x2 x3 x4 x5)], 5, 2⟩)]) := g13is_spec h
def g13o (A : Ar) (args : List AV) (h : Heap) : Option (Bool × AV × Heap) := match args, h with
  | [.v (.cell (.ptr n0 n1 none))], [(n2, ⟨[.nums .u64 n3 x0, .one (.sl n4 (some x1) x2 n5), .one (.int .i64 x3)], n6, n7⟩), (n8, ⟨[.nums .u8 x4 x5], n9, n10⟩)] => match Nat.beq n0 0 && (Nat.beq n1 0 && (Nat.beq n2 0 && (Nat.beq n3 88 && (Nat.beq n4 1 && (Nat.beq n5 1 && (Nat.beq n6 45 && (Nat.beq n7 1 && (Nat.beq n8 1 && (Nat.beq n9 5 && (Nat.beq n10 2)))))))))) with
    | true => some (g13ok A x0 x1 x2 x3 x4 x5, (tS (g13r0 A x0 x1 x2 x3 x4 x5)), [(0, ⟨[.nums .u64 88 (g13r1 A x0 x1 x2 x3 x4 x5), .one (.sl 1 (some (g13r2 A x0 x1 x2 x3 x4 x5)) (g13r3 A x0 x1 x2 x3 x4 x5) 1), .one (.int .i64 (g13r4 A x0 x1 x2 x3 x4 x5))], 45, 1⟩), (1, ⟨[.nums .u8 (g13r5 A x0 x1 x2 x3 x4 x5) (g13r6 A x0 x1 x2 x3 x4 x5)], 5, 2⟩)])
    | false => none
  | _, _ => none
theorem g13o_sound : ∀ args h v h', g13o realA args h = some (true, v, h') → FnH Try.prog 13 args h v h' := by
  intro args h v h' hh
  unfold g13o at hh
  split at hh
  · rename_i n0 n1 n2 n3 x0 n4 x1 x2 n5 x3 n6 n7 n8 x4 x5 n9 n10
    split at hh
    case h_2 => cases hh
    rename_i hc0
    simp only [Option.some.injEq, Prod.mk.injEq] at hh
    obtain ⟨hc, hv, hh⟩ := hh
    subst hv
    subst hh
    simp only [Bool.and_eq_true] at hc0
    have en0 := beq_true hc0.1
    subst en0
    replace hc0 := hc0.2
    have en1 := beq_true hc0.1
    subst en1
    replace hc0 := hc0.2
    have en2 := beq_true hc0.1
    subst en2
    replace hc0 := hc0.2
    have en3 := beq_true hc0.1
    subst en3
    replace hc0 := hc0.2
    have en4 := beq_true hc0.1
    subst en4
    replace hc0 := hc0.2
    have en5 := beq_true hc0.1
    subst en5
    replace hc0 := hc0.2
    have en6 := beq_true hc0.1
    subst en6
    replace hc0 := hc0.2
    have en7 := beq_true hc0.1
    subst en7
    replace hc0 := hc0.2
    have en8 := beq_true hc0.1
    subst en8
    replace hc0 := hc0.2
    have en9 := beq_true hc0.1
    subst en9
    replace hc0 := hc0.2
    have en10 := beq_true hc0
    subst en10
    exact fnh_ofN mixed gtysOK g13O_sound g13O_det (an := g13an) (n := 100000) Try.func13 (c := bodyOf Try.f13) rfl (by kernel_rfl) Try.call13 (Nat.le_of_ble_eq_true rfl) (B := [1]) (pins := [0, 1]) (nilr := none) (fun _ => (g13_eq realA (100000) (outN [1] [0, 1] none) x0 x1 x2 x3 x4 x5).trans (show g13v realA x0 x1 x2 x3 x4 x5 = _ from g13ok_spec hc))
  · cases hh
def g9O (A : Ar) : Orc := orcN [(11, (1, 1, ⟨[.nums .u8 0 []], 5, 2⟩))] (orcH [] [(11, ⟨[], none, (g11o A)⟩), (12, ⟨[0, 1], (some (0, 1, 1, ⟨[.nums .u8 0 []], 5, 2⟩)), (hoN [501, 600] (ho2 (g12o A) (g12a_o A)))⟩), (13, ⟨[], none, (hoN [1] (g13o A))⟩)])
theorem g9O_sound : OSound Try.prog (g9O realA) := orcN_sound <| orcH_sound (fun f g hm args v hv => by
    cases hm) (fun f e hm args h v h' hv => by
    simp only [List.mem_cons, List.not_mem_nil, or_false, Prod.mk.injEq] at hm
    rcases hm with ⟨rfl, rfl⟩ | ⟨rfl, rfl⟩ | ⟨rfl, rfl⟩
    · exact g11o_sound _ _ _ _ hv
    · exact (hoN_sound (ho2_sound g12o_sound g12a_o_sound)) _ _ _ _ hv
    · exact (hoN_sound g13o_sound) _ _ _ _ hv)
theorem g9O_det : ODet (g9O realA) := orcN_det <| orcH_det _ _
def g9an : Ann := [(0, ([0], [])), (1, ([0], [])), (2, ([0, 3], [2000, 2500])), (3, ([3], [2000, 2500]))]
def g9res : List ResultVar := [.tmp 2]
abbrev g9t0 (A : Ar) (a : LN) : LN := g13r0 A (g12r0 A a (g11r0 A) 0 0 (g11r1 A) 0 []) (g12r1 A a (g11r0 A) 0 0 (g11r1 A) 0 []) (g12r2 A a (g11r0 A) 0 0 (g11r1 A) 0 []) (g12r3 A a (g11r0 A) 0 0 (g11r1 A) 0 []) (g12r4 A a (g11r0 A) 0 0 (g11r1 A) 0 []) (g12r5 A a (g11r0 A) 0 0 (g11r1 A) 0 [])
abbrev g9t1 (A : Ar) (a : LN) : LN := g13r1 A (g12r0 A a (g11r0 A) 0 0 (g11r1 A) 0 []) (g12r1 A a (g11r0 A) 0 0 (g11r1 A) 0 []) (g12r2 A a (g11r0 A) 0 0 (g11r1 A) 0 []) (g12r3 A a (g11r0 A) 0 0 (g11r1 A) 0 []) (g12r4 A a (g11r0 A) 0 0 (g11r1 A) 0 []) (g12r5 A a (g11r0 A) 0 0 (g11r1 A) 0 [])
abbrev g9t2 (A : Ar) (a : LN) : Nat := g13r2 A (g12r0 A a (g11r0 A) 0 0 (g11r1 A) 0 []) (g12r1 A a (g11r0 A) 0 0 (g11r1 A) 0 []) (g12r2 A a (g11r0 A) 0 0 (g11r1 A) 0 []) (g12r3 A a (g11r0 A) 0 0 (g11r1 A) 0 []) (g12r4 A a (g11r0 A) 0 0 (g11r1 A) 0 []) (g12r5 A a (g11r0 A) 0 0 (g11r1 A) 0 [])
abbrev g9t3 (A : Ar) (a : LN) : Nat := g13r3 A (g12r0 A a (g11r0 A) 0 0 (g11r1 A) 0 []) (g12r1 A a (g11r0 A) 0 0 (g11r1 A) 0 []) (g12r2 A a (g11r0 A) 0 0 (g11r1 A) 0 []) (g12r3 A a (g11r0 A) 0 0 (g11r1 A) 0 []) (g12r4 A a (g11r0 A) 0 0 (g11r1 A) 0 []) (g12r5 A a (g11r0 A) 0 0 (g11r1 A) 0 [])
abbrev g9t4 (A : Ar) (a : LN) : Int := g13r4 A (g12r0 A a (g11r0 A) 0 0 (g11r1 A) 0 []) (g12r1 A a (g11r0 A) 0 0 (g11r1 A) 0 []) (g12r2 A a (g11r0 A) 0 0 (g11r1 A) 0 []) (g12r3 A a (g11r0 A) 0 0 (g11r1 A) 0 []) (g12r4 A a (g11r0 A) 0 0 (g11r1 A) 0 []) (g12r5 A a (g11r0 A) 0 0 (g11r1 A) 0 [])
abbrev g9t5 (A : Ar) (a : LN) : Nat := g13r5 A (g12r0 A a (g11r0 A) 0 0 (g11r1 A) 0 []) (g12r1 A a (g11r0 A) 0 0 (g11r1 A) 0 []) (g12r2 A a (g11r0 A) 0 0 (g11r1 A) 0 []) (g12r3 A a (g11r0 A) 0 0 (g11r1 A) 0 []) (g12r4 A a (g11r0 A) 0 0 (g11r1 A) 0 []) (g12r5 A a (g11r0 A) 0 0 (g11r1 A) 0 [])
abbrev g9t6 (A : Ar) (a : LN) : LN := g13r6 A (g12r0 A a (g11r0 A) 0 0 (g11r1 A) 0 []) (g12r1 A a (g11r0 A) 0 0 (g11r1 A) 0 []) (g12r2 A a (g11r0 A) 0 0 (g11r1 A) 0 []) (g12r3 A a (g11r0 A) 0 0 (g11r1 A) 0 []) (g12r4 A a (g11r0 A) 0 0 (g11r1 A) 0 []) (g12r5 A a (g11r0 A) 0 0 (g11r1 A) 0 [])
noncomputable def g9D {R : Type} (A : Ar) (n : Nat) (p : List Bool) (K : Ex → St → Option R) (s : St) : Option R := codeD A gtys (g9O A) g9an n (sub (bodyOf Try.f9) p) K s
noncomputable def g9Q {R : Type} (A : Ar) (n : Nat) (p : List Bool) (K : Ex → St → Option R) : Ex → St → Option R := seqC (g9D A n p K) K
noncomputable def g9T {R : Type} (kk : KK R) : Ex → St → Option R := finD gtys g9res kk
theorem g9Qn {R : Type} (A : Ar) (n : Nat) (p : List Bool) (K : Ex → St → Option R) (s : St) : g9Q A n p K .normal s = g9D A n p K s := rfl
theorem g9F {R : Type} (A : Ar) (n : Nat) (p : List Bool) (i : Nat) (K : Ex → St → Option R) (s s' : St) (hf : firstReg (sub (bodyOf Try.f9) p) = some i) (h : keep g9an i s = keep g9an i s') : g9D A n p K s = g9D A n p K s' := codeD_first hf h K
section
variable {R : Type} (A : Ar) (n : Nat) (K : Ex → St → Option R) (s : St)
theorem g9p1 : g9D A n (pth 1) K s = g9D A n (pth 2) (g9Q A n (pth 3) K) s := by kernel_rfl
theorem g9p3 : g9D A n (pth 3) K s = g9D A n (pth 5) (g9Q A n (pth 7) K) s := by kernel_rfl
theorem g9p7 : g9D A n (pth 7) K s = g9D A n (pth 11) (g9Q A n (pth 15) K) s := by kernel_rfl
theorem g9p15 : g9D A n (pth 15) K s = g9D A n (pth 23) (g9Q A n (pth 31) K) s := by kernel_rfl
theorem g9p31 : g9D A n (pth 31) K s = K .ret s := by kernel_rfl
def g9R0s0 (A : Ar) (x0 : LN) : St := ⟨[(2, tS []), (0, tS x0)], []⟩
theorem g9R0 (x0 : LN) : g9D A n (pth 2) K ⟨[(0, tS x0)], []⟩ = K .normal (g9R0s0 A x0) := by kernel_rfl
def g9R1s0 (A : Ar) (x0 : LN) : St := ⟨[(3, pT 2000 0), (4, pT 2000 0), (0, tS x0)], [(2500, bY 0 []), (2000, bH 2500 (g11r0 A) none 0 (g11r1 A))]⟩
theorem g9R1 (x0 : LN) : g9D A n (pth 5) K ⟨[(0, tS x0)], []⟩ = match g11ok A with
    | true => K .normal (g9R1s0 A x0)
    | false => none := by kernel_rfl
def g9R2s0 (A : Ar) (x0 x1 : LN) (x2 : Nat) (x3 : Int) (x4 : Nat) (x5 : LN) : St := ⟨[(7, (.tup [])), (6, tS x0), (5, pT 2000 0), (0, tS x0), (3, pT 2000 0)], [(2000, bH 2500 (g12r0 A x0 x1 0 x2 x3 x4 x5) (some (g12r1 A x0 x1 0 x2 x3 x4 x5)) (g12r2 A x0 x1 0 x2 x3 x4 x5) (g12r3 A x0 x1 0 x2 x3 x4 x5)), (2500, bY (g12r4 A x0 x1 0 x2 x3 x4 x5) (g12r5 A x0 x1 0 x2 x3 x4 x5))]⟩
theorem g9R2 (x0 x1 : LN) (x2 : Nat) (x3 : Int) (x4 : Nat) (x5 : LN) : g9D A n (pth 11) K ⟨[(0, tS x0), (3, pT 2000 0)], [(2000, bH 2500 x1 none x2 x3), (2500, bY x4 x5)]⟩ = match g12ok A x0 x1 0 x2 x3 x4 x5 with
    | true => K .normal (g9R2s0 A x0 x1 x2 x3 x4 x5)
    | false => none := by kernel_rfl
def g9R3s0 (A : Ar) (x0 : LN) (x1 x2 : Nat) (x3 : Int) (x4 : Nat) (x5 : LN) : St := ⟨[(2, tS (g13r0 A x0 x1 x2 x3 x4 x5)), (9, tS (g13r0 A x0 x1 x2 x3 x4 x5)), (8, pT 2000 0), (3, pT 2000 0)], [(2000, bH 2500 (g13r1 A x0 x1 x2 x3 x4 x5) (some (g13r2 A x0 x1 x2 x3 x4 x5)) (g13r3 A x0 x1 x2 x3 x4 x5) (g13r4 A x0 x1 x2 x3 x4 x5)), (2500, bY (g13r5 A x0 x1 x2 x3 x4 x5) (g13r6 A x0 x1 x2 x3 x4 x5))]⟩
theorem g9R3 (x0 : LN) (x1 x2 : Nat) (x3 : Int) (x4 : Nat) (x5 : LN) : g9D A n (pth 23) K ⟨[(3, pT 2000 0)], [(2000, bH 2500 x0 (some x1) x2 x3), (2500, bY x4 x5)]⟩ = match g13ok A x0 x1 x2 x3 x4 x5 with
    | true => K .normal (g9R3s0 A x0 x1 x2 x3 x4 x5)
    | false => none := by kernel_rfl
end
def g9 {R : Type} (A : Ar) (n : Nat) (kk : KK R) (a : LN) : Option R :=
  match g11ok A with
  | true => match g12ok A a (g11r0 A) 0 0 (g11r1 A) 0 [] with
    | true => match g13ok A (g12r0 A a (g11r0 A) 0 0 (g11r1 A) 0 []) (g12r1 A a (g11r0 A) 0 0 (g11r1 A) 0 []) (g12r2 A a (g11r0 A) 0 0 (g11r1 A) 0 []) (g12r3 A a (g11r0 A) 0 0 (g11r1 A) 0 []) (g12r4 A a (g11r0 A) 0 0 (g11r1 A) 0 []) (g12r5 A a (g11r0 A) 0 0 (g11r1 A) 0 []) with
      | true => kk (tS (g9t0 A a)) [(2000, ⟨[.nums .u64 88 (g9t1 A a), .one (.sl 2500 (some (g9t2 A a)) (g9t3 A a) 1), .one (.int .i64 (g9t4 A a))], 45, 1⟩), (2500, ⟨[.nums .u8 (g9t5 A a) (g9t6 A a)], 5, 2⟩)]
      | false => none
    | false => none
  | false => none
theorem g9_eq {R : Type} (A : Ar) (n : Nat) (kk : KK R) (a : LN) :
    funD A gtys (g9O A) g9an n (bodyOf Try.f9) g9res [(tS a)] [] kk = g9 A n kk a := by
  have h1 : (g9T kk) .ret (g9R3s0 A (g12r0 A a (g11r0 A) 0 0 (g11r1 A) 0 []) (g12r1 A a (g11r0 A) 0 0 (g11r1 A) 0 []) (g12r2 A a (g11r0 A) 0 0 (g11r1 A) 0 []) (g12r3 A a (g11r0 A) 0 0 (g11r1 A) 0 []) (g12r4 A a (g11r0 A) 0 0 (g11r1 A) 0 []) (g12r5 A a (g11r0 A) 0 0 (g11r1 A) 0 [])) = kk (tS (g9t0 A a)) [(2000, bH 2500 (g9t1 A a) (some (g9t2 A a)) (g9t3 A a) (g9t4 A a)), (2500, bY (g9t5 A a) (g9t6 A a))] := by kernel_rfl
  have h2 := (g9p31 A n _ _).trans h1
  have h3 := (g9Qn A n _ _ _).trans h2
  have h4 := (g9F A n _ 3 _ (g9R2s0 A a (g11r0 A) 0 (g11r1 A) 0 []) _ (by kernel_rfl) (by kernel_rfl)).trans (g9R3 A n (g9Q A n (pth 31) (g9T kk)) (g12r0 A a (g11r0 A) 0 0 (g11r1 A) 0 []) (g12r1 A a (g11r0 A) 0 0 (g11r1 A) 0 []) (g12r2 A a (g11r0 A) 0 0 (g11r1 A) 0 []) (g12r3 A a (g11r0 A) 0 0 (g11r1 A) 0 []) (g12r4 A a (g11r0 A) 0 0 (g11r1 A) 0 []) (g12r5 A a (g11r0 A) 0 0 (g11r1 A) 0 []))
  rw [h3] at h4
  have h5 := (g9p15 A n _ _).trans h4
  have h6 := (g9Qn A n _ _ _).trans h5
  have h7 := (g9F A n _ 2 _ (g9R1s0 A a) _ (by kernel_rfl) (by kernel_rfl)).trans (g9R2 A n (g9Q A n (pth 15) (g9T kk)) a (g11r0 A) 0 (g11r1 A) 0 [])
  rw [h6] at h7
  have h8 := (g9p7 A n _ _).trans h7
  have h9 := (g9Qn A n _ _ _).trans h8
  have h10 := (g9F A n _ 1 _ (g9R0s0 A a) _ (by kernel_rfl) (by kernel_rfl)).trans (g9R1 A n (g9Q A n (pth 7) (g9T kk)) a)
  rw [h9] at h10
  have h11 := (g9p3 A n _ _).trans h10
  have h12 := (g9Qn A n _ _ _).trans h11
  have h13 := (g9F A n _ 0 _ ⟨[(0, tS a)], []⟩ _ (by kernel_rfl) (by kernel_rfl)).trans (g9R0 A n (g9Q A n (pth 3) (g9T kk)) a)
  rw [h12] at h13
  have h14 := (g9p1 A n _ _).trans h13
  exact (show funD A gtys (g9O A) g9an n (bodyOf Try.f9) g9res [(tS a)] [] kk = g9D A n (pth 1) (g9T kk) ⟨[(0, tS a)], []⟩ from by kernel_rfl).trans (h14.trans (by kernel_rfl))
def g9is (o : Option AV) : Bool := match o with
  | some (.v (.cell (.str _))) => true
  | _ => false
def g9g0 (o : Option AV) : LN := match o with
  | some (.v (.cell (.str x))) => x
  | _ => []
theorem g9is_spec {o : Option AV} (h : g9is o = true) : o = some (.v (.cell (.str (g9g0 o)))) := by
  unfold g9is at h
  split at h
  · rfl
  · cases h
def g9v (A : Ar) (a : LN) : Option AV := g9 A (100000) (fun v _ => some v) a
def g9ok (A : Ar) (a : LN) : Bool := g9is (g9v A a)
def g9r0 (A : Ar) (a : LN) : LN := g9g0 (g9v A a)
theorem g9ok_spec {A : Ar} {a} (h : g9ok A a = true) : g9v A a = some (.v (.cell (.str (g9r0 A a)))) := g9is_spec h
def g9o (A : Ar) (args : List AV) : Option (Bool × AV) := match args with
  | [.v (.cell (.str a))] => some (g9ok A a, .v (.cell (.str (g9r0 A a))))
  | _ => none
theorem g9o_sound : ∀ args v, g9o realA args = some (true, v) → Fn1 Try.prog 9 args v := by
  intro args v h
  unfold g9o at h
  split at h
  · rename_i a
    simp only [Option.some.injEq, Prod.mk.injEq] at h
    obtain ⟨hc, h⟩ := h
    subst h
    · skip
      exact fn1_of mixed gtysOK g9O_sound g9O_det (an := g9an) (n := 100000) Try.func9 (c := bodyOf Try.f9) rfl (by kernel_rfl) Try.call9 (Nat.le_of_ble_eq_true rfl) (fun b => rfl) (fun _ => (g9_eq realA (100000) (fun v _ => some v) a).trans (show g9v realA a = _ from g9ok_spec hc))
  · cases h
def g15O (A : Ar) : Orc := orcOf []
theorem g15O_sound : OSound Try.prog (g15O realA) := orc_sound fun f g hm args v hv => by
  cases hm
theorem g15O_det : ODet (g15O realA) := orc_det _
def g15an : Ann := [(0, ([0], [])), (1, ([0], [])), (2, ([0, 3], [2000])), (3, ([0, 3, 4], [2000])), (4, ([0, 3, 4], [2000])), (5, ([0, 3, 4], [2000])), (6, ([3], [2000]))]
def g15res : List ResultVar := [.tmp 2]
noncomputable def g15D {R : Type} (A : Ar) (n : Nat) (p : List Bool) (K : Ex → St → Option R) (s : St) : Option R := codeD A gtys (g15O A) g15an n (sub (bodyOf Try.f15) p) K s
noncomputable def g15V {R : Type} (A : Ar) (n : Nat) (p : List Bool) (m : Nat) (K : Ex → St → Option R) (s : St) : Option R := loopD (fun K' s'' => codeD A gtys (g15O A) g15an n (sub (bodyOf Try.f15) p) K' s'') m K s
noncomputable def g15Q {R : Type} (A : Ar) (n : Nat) (p : List Bool) (K : Ex → St → Option R) : Ex → St → Option R := seqC (g15D A n p K) K
noncomputable def g15W {R : Type} (A : Ar) (n : Nat) (p : List Bool) (m : Nat) (K : Ex → St → Option R) : Ex → St → Option R := seqC (g15V A n p m K) K
noncomputable def g15T {R : Type} (kk : KK R) : Ex → St → Option R := finD gtys g15res kk
theorem g15Qn {R : Type} (A : Ar) (n : Nat) (p : List Bool) (K : Ex → St → Option R) (s : St) : g15Q A n p K .normal s = g15D A n p K s := rfl
theorem g15Qe {R : Type} (A : Ar) (n : Nat) (p : List Bool) (K : Ex → St → Option R) (i : Nat) (s : St) : g15Q A n p K (.exit i) s = K (.exit i) s := rfl
theorem g15Wn {R : Type} (A : Ar) (n : Nat) (p : List Bool) (m : Nat) (K : Ex → St → Option R) (s : St) : g15W A n p m K .normal s = g15V A n p m K s := rfl
theorem g15We {R : Type} (A : Ar) (n : Nat) (p : List Bool) (m : Nat) (K : Ex → St → Option R) (i : Nat) (s : St) : g15W A n p m K (.exit i) s = K (.exit i) s := rfl
theorem g15Vs {R : Type} (A : Ar) (n : Nat) (p : List Bool) (m : Nat) (K : Ex → St → Option R) (s : St) : g15V A n p (m + 1) K s = g15D A n p (g15W A n p m K) s := rfl
theorem g15F {R : Type} (A : Ar) (n : Nat) (p : List Bool) (i : Nat) (K : Ex → St → Option R) (s s' : St) (hf : firstReg (sub (bodyOf Try.f15) p) = some i) (h : keep g15an i s = keep g15an i s') : g15D A n p K s = g15D A n p K s' := codeD_first hf h K
section
variable {R : Type} (A : Ar) (n : Nat) (K : Ex → St → Option R) (s : St)
theorem g15p1 : g15D A n (pth 1) K s = g15D A n (pth 2) (g15Q A n (pth 3) K) s := by kernel_rfl
theorem g15p3 : g15D A n (pth 3) K s = g15D A n (pth 5) (g15Q A n (pth 7) K) s := by kernel_rfl
theorem g15p7 : g15D A n (pth 7) K s = g15D A n (pth 11) (g15Q A n (pth 15) K) s := by kernel_rfl
theorem g15p11 : g15D A n (pth 11) K s = g15D A n (pth 19) (g15Q A n (pth 27) K) s := by kernel_rfl
theorem g15p27 : g15D A n (pth 27) K s = g15D A n (pth 43) (blockK 0 K) s := by kernel_rfl
theorem g15p43 : g15D A n (pth 43) K s = g15V A n (pth 75) n K s := by kernel_rfl
theorem g15p75 : g15D A n (pth 75) K s = g15D A n (pth 139) (g15Q A n (pth 203) K) s := by kernel_rfl
theorem g15p139 : g15D A n (pth 139) K s = g15D A n (pth 267) (g15Q A n (pth 395) K) s := by kernel_rfl
theorem g15p395 (t : Bool) : ev s (.tmp 8) = some (.v (.cell (.bool t))) → g15D A n (pth 395) K s = (match t with
    | true => g15D A n (pth 651) K s
    | false => g15D A n (pth 907) K s) := codeD_cond t
theorem g15p651 : g15D A n (pth 651) K s = K .normal s := by kernel_rfl
theorem g15p907 : g15D A n (pth 907) K s = K (.exit 0) s := by kernel_rfl
theorem g15p203 : g15D A n (pth 203) K s = g15D A n (pth 331) (g15Q A n (pth 459) K) s := by kernel_rfl
theorem g15p331 : g15D A n (pth 331) K s = g15D A n (pth 587) (blockK 1 K) s := by kernel_rfl
theorem g15p15 : g15D A n (pth 15) K s = g15D A n (pth 23) (g15Q A n (pth 31) K) s := by kernel_rfl
theorem g15p31 : g15D A n (pth 31) K s = K .ret s := by kernel_rfl
def g15R5s0 (A : Ar) (x0 : LN) (x1 : Nat) (x2 : Int) (x3 : Nat) (x4 : LN) : St := ⟨[(3, sL 2000 none ((x4 ++ ([[48, 49, 50, 51, 52, 53, 54, 55, 56, 57, 97, 98, 99, 100, 101, 102].getD (A.nsh .shr .u8 (x0.getD (A.toN x2) 0) 4) 0, [48, 49, 50, 51, 52, 53, 54, 55, 56, 57, 97, 98, 99, 100, 101, 102].getD (A.nb .and .u8 (x0.getD (A.toN x2) 0) 15) 0].take 2)).length) 1), (23, sL 2000 none ((x4 ++ ([[48, 49, 50, 51, 52, 53, 54, 55, 56, 57, 97, 98, 99, 100, 101, 102].getD (A.nsh .shr .u8 (x0.getD (A.toN x2) 0) 4) 0, [48, 49, 50, 51, 52, 53, 54, 55, 56, 57, 97, 98, 99, 100, 101, 102].getD (A.nb .and .u8 (x0.getD (A.toN x2) 0) 15) 0].take 2)).length) 1), (22, sL 6011 none 2 1), (21, u8v ([48, 49, 50, 51, 52, 53, 54, 55, 56, 57, 97, 98, 99, 100, 101, 102].getD (A.nb .and .u8 (x0.getD (A.toN x2) 0) 15) 0)), (20, u8v (A.nb .and .u8 (x0.getD (A.toN x2) 0) 15)), (19, u8v (x0.getD (A.toN x2) 0)), (18, i6 x2), (17, tS x0), (16, u8v ([48, 49, 50, 51, 52, 53, 54, 55, 56, 57, 97, 98, 99, 100, 101, 102].getD (A.nsh .shr .u8 (x0.getD (A.toN x2) 0) 4) 0)), (15, u8v (A.nsh .shr .u8 (x0.getD (A.toN x2) 0) 4)), (14, u8v (x0.getD (A.toN x2) 0)), (13, i6 x2), (12, tS x0), (11, (.v (.cell .top))), (0, tS x0), (3, (.v (.cell .top))), (4, i6 x2)], [(2000, bY ((x4 ++ ([[48, 49, 50, 51, 52, 53, 54, 55, 56, 57, 97, 98, 99, 100, 101, 102].getD (A.nsh .shr .u8 (x0.getD (A.toN x2) 0) 4) 0, [48, 49, 50, 51, 52, 53, 54, 55, 56, 57, 97, 98, 99, 100, 101, 102].getD (A.nb .and .u8 (x0.getD (A.toN x2) 0) 15) 0].take 2)).length) (x4 ++ ([[48, 49, 50, 51, 52, 53, 54, 55, 56, 57, 97, 98, 99, 100, 101, 102].getD (A.nsh .shr .u8 (x0.getD (A.toN x2) 0) 4) 0, [48, 49, 50, 51, 52, 53, 54, 55, 56, 57, 97, 98, 99, 100, 101, 102].getD (A.nb .and .u8 (x0.getD (A.toN x2) 0) 15) 0].take 2))), (6011, bY 2 ([[48, 49, 50, 51, 52, 53, 54, 55, 56, 57, 97, 98, 99, 100, 101, 102].getD (A.nsh .shr .u8 (x0.getD (A.toN x2) 0) 4) 0, [48, 49, 50, 51, 52, 53, 54, 55, 56, 57, 97, 98, 99, 100, 101, 102].getD (A.nb .and .u8 (x0.getD (A.toN x2) 0) 15) 0]))]⟩
abbrev u47 := [48, 49, 50, 51, 52, 53, 54, 55, 56, 57, 97, 98, 99, 100, 101, 102].length
theorem g15R5 (x0 : LN) (x1 : Nat) (x2 : Int) (x3 : Nat) (x4 : LN) : g15D A n (pth 587) K ⟨[(0, tS x0), (3, sL 2000 none x1 1), (4, i6 x2)], [(2000, bY x3 x4)]⟩ = match A.neg x2 with
    | true => none
    | false => match A.lt (A.toN x2) x0.length with
      | true => match A.lt (A.nsh .shr .u8 (x0.getD (A.toN x2) 0) 4) (u47) with
        | true => match A.neg x2 with
          | true => none
          | false => match A.lt (A.toN x2) x0.length with
            | true => match A.lt (A.nb .and .u8 (x0.getD (A.toN x2) 0) 15) (u47) with
              | true => match A.eq x1 (x3 + 0) with
                | true => match A.le ((x4 ++ ([[48, 49, 50, 51, 52, 53, 54, 55, 56, 57, 97, 98, 99, 100, 101, 102].getD (A.nsh .shr .u8 (x0.getD (A.toN x2) 0) 4) 0, [48, 49, 50, 51, 52, 53, 54, 55, 56, 57, 97, 98, 99, 100, 101, 102].getD (A.nb .and .u8 (x0.getD (A.toN x2) 0) 15) 0].take 2)).length) 140737488355328 with
                  | true => K .normal (g15R5s0 A x0 x1 x2 x3 x4)
                  | false => none
                | false => none
              | false => none
            | false => none
        | false => none
      | false => none := by kernel_rfl
def g15R4s0 (A : Ar) (x0 : LN) (x1 : Nat) (x2 : Int) (x3 : Nat) (x4 : LN) : St := ⟨[(4, i6 (A.ib .add .i64 x2 1)), (10, i6 (A.ib .add .i64 x2 1)), (9, i6 x2), (0, tS x0), (3, sL 2000 none x1 1), (4, i6 x2)], [(2000, bY x3 x4)]⟩
theorem g15R4 (x0 : LN) (x1 : Nat) (x2 : Int) (x3 : Nat) (x4 : LN) : g15D A n (pth 459) K ⟨[(0, tS x0), (3, sL 2000 none x1 1), (4, i6 x2)], [(2000, bY x3 x4)]⟩ = K .normal (g15R4s0 A x0 x1 x2 x3 x4) := by kernel_rfl
def g15R3s0 (A : Ar) (x0 : LN) (x1 : Nat) (x2 : Int) (x3 : Nat) (x4 : LN) : St := ⟨[(8, bO (A.ic .lss x2 (A.ofN x0.length))), (7, i6 (A.ofN x0.length)), (6, tS x0), (5, i6 x2), (0, tS x0), (3, sL 2000 none x1 1), (4, i6 x2)], [(2000, bY x3 x4)]⟩
theorem g15R3 (x0 : LN) (x1 : Nat) (x2 : Int) (x3 : Nat) (x4 : LN) : g15D A n (pth 267) K ⟨[(0, tS x0), (3, sL 2000 none x1 1), (4, i6 x2)], [(2000, bY x3 x4)]⟩ = K .normal (g15R3s0 A x0 x1 x2 x3 x4) := by kernel_rfl
def g15R6s0 (A : Ar) (x0 x1 : Nat) (x2 : LN) : St := ⟨[(2, tS (x2.take x0)), (25, tS (x2.take x0)), (24, sL 2000 none x0 1), (3, sL 2000 none x0 1)], [(2000, bY x1 x2)]⟩
theorem g15R6 (x0 x1 : Nat) (x2 : LN) : g15D A n (pth 23) K ⟨[(3, sL 2000 none x0 1)], [(2000, bY x1 x2)]⟩ = K .normal (g15R6s0 A x0 x1 x2) := by kernel_rfl
def g15R0s0 (A : Ar) (x0 : LN) : St := ⟨[(2, tS []), (0, tS x0)], []⟩
theorem g15R0 (x0 : LN) : g15D A n (pth 2) K ⟨[(0, tS x0)], []⟩ = K .normal (g15R0s0 A x0) := by kernel_rfl
def g15R1s0 (A : Ar) (x0 : LN) : St := ⟨[(3, sL 2000 none 0 1), (0, tS x0)], [(2000, bY 0 [])]⟩
theorem g15R1 (x0 : LN) : g15D A n (pth 5) K ⟨[(0, tS x0)], []⟩ = K .normal (g15R1s0 A x0) := by kernel_rfl
def g15R2s0 (A : Ar) (x0 : LN) (x1 x2 : Nat) (x3 : LN) : St := ⟨[(4, i6 0), (0, tS x0), (3, sL 2000 none x1 1)], [(2000, bY x2 x3)]⟩
theorem g15R2 (x0 : LN) (x1 x2 : Nat) (x3 : LN) : g15D A n (pth 19) K ⟨[(0, tS x0), (3, sL 2000 none x1 1)], [(2000, bY x2 x3)]⟩ = K .normal (g15R2s0 A x0 x1 x2 x3) := by kernel_rfl
end
def g15J5 {R : Type} (A : Ar) (n : Nat) (kk : KK R) (lg15L3 : LN → Nat → Int → Nat → LN → Option R) (x0 : LN) (x1 : Nat) (x2 : Int) (x3 : Nat) (x4 : LN) : Option R :=
  match A.neg x2 with
  | true => none
  | false => match A.lt (A.toN x2) x0.length with
    | true => match A.lt (A.nsh .shr .u8 (x0.getD (A.toN x2) 0) 4) ([48, 49, 50, 51, 52, 53, 54, 55, 56, 57, 97, 98, 99, 100, 101, 102].length) with
      | true => match A.neg x2 with
        | true => none
        | false => match A.lt (A.toN x2) x0.length with
          | true => match A.lt (A.nb .and .u8 (x0.getD (A.toN x2) 0) 15) ([48, 49, 50, 51, 52, 53, 54, 55, 56, 57, 97, 98, 99, 100, 101, 102].length) with
            | true => match A.eq x1 (x3 + 0) with
              | true => match A.le ((x4 ++ ([[48, 49, 50, 51, 52, 53, 54, 55, 56, 57, 97, 98, 99, 100, 101, 102].getD (A.nsh .shr .u8 (x0.getD (A.toN x2) 0) 4) 0, [48, 49, 50, 51, 52, 53, 54, 55, 56, 57, 97, 98, 99, 100, 101, 102].getD (A.nb .and .u8 (x0.getD (A.toN x2) 0) 15) 0].take 2)).length) 140737488355328 with
                | true => lg15L3 x0 ((x4 ++ ([[48, 49, 50, 51, 52, 53, 54, 55, 56, 57, 97, 98, 99, 100, 101, 102].getD (A.nsh .shr .u8 (x0.getD (A.toN x2) 0) 4) 0, [48, 49, 50, 51, 52, 53, 54, 55, 56, 57, 97, 98, 99, 100, 101, 102].getD (A.nb .and .u8 (x0.getD (A.toN x2) 0) 15) 0].take 2)).length) (A.ib .add .i64 x2 1) ((x4 ++ ([[48, 49, 50, 51, 52, 53, 54, 55, 56, 57, 97, 98, 99, 100, 101, 102].getD (A.nsh .shr .u8 (x0.getD (A.toN x2) 0) 4) 0, [48, 49, 50, 51, 52, 53, 54, 55, 56, 57, 97, 98, 99, 100, 101, 102].getD (A.nb .and .u8 (x0.getD (A.toN x2) 0) 15) 0].take 2)).length) (x4 ++ ([[48, 49, 50, 51, 52, 53, 54, 55, 56, 57, 97, 98, 99, 100, 101, 102].getD (A.nsh .shr .u8 (x0.getD (A.toN x2) 0) 4) 0, [48, 49, 50, 51, 52, 53, 54, 55, 56, 57, 97, 98, 99, 100, 101, 102].getD (A.nb .and .u8 (x0.getD (A.toN x2) 0) 15) 0].take 2))
                | false => none
              | false => none
            | false => none
          | false => none
      | false => none
    | false => none
abbrev u48 (A : Ar) (x4 : LN) (x0 : LN) (x2 : Int) := x4 ++ ([[48, 49, 50, 51, 52, 53, 54, 55, 56, 57, 97, 98, 99, 100, 101, 102].getD (A.nsh .shr .u8 (x0.getD (A.toN x2) 0) 4) 0, [48, 49, 50, 51, 52, 53, 54, 55, 56, 57, 97, 98, 99, 100, 101, 102].getD (A.nb .and .u8 (x0.getD (A.toN x2) 0) 15) 0].take 2)
theorem g15J5_eq {R : Type} (A : Ar) (n : Nat) (kk : KK R) (m0 : Nat) (lg15L3 : LN → Nat → Int → Nat → LN → Option R)
    (hg15L3 : ∀ (s : St) (x0 : LN) (x1 : Nat) (x2 : Int) (x3 : Nat) (x4 : LN), keep g15an 3 s = ⟨[(0, tS x0), (3, sL 2000 none x1 1), (4, i6 x2)], [(2000, bY x3 x4)]⟩ → g15V A n (pth 75) m0 (blockK 0 (g15Q A n (pth 15) (g15T kk))) s = lg15L3 x0 x1 x2 x3 x4) (s : St) (x0 : LN) (x1 : Nat) (x2 : Int) (x3 : Nat) (x4 : LN) (h : keep g15an 5 s = ⟨[(0, tS x0), (3, sL 2000 none x1 1), (4, i6 x2)], [(2000, bY x3 x4)]⟩) :
    g15D A n (pth 203) (g15W A n (pth 75) m0 (blockK 0 (g15Q A n (pth 15) (g15T kk)))) s = g15J5 A n kk lg15L3 x0 x1 x2 x3 x4 := by
  have h1 := (g15Wn A n _ _ _ _).trans (hg15L3 (g15R4s0 A x0 ((u48 A x4 x0 x2).length) x2 ((u48 A x4 x0 x2).length) (u48 A x4 x0 x2)) x0 ((u48 A x4 x0 x2).length) (A.ib .add .i64 x2 1) ((u48 A x4 x0 x2).length) (u48 A x4 x0 x2) (by kernel_rfl))
  have h2 := (g15F A n _ 4 _ (g15R5s0 A x0 x1 x2 x3 x4) _ (by kernel_rfl) (by kernel_rfl)).trans (g15R4 A n (g15W A n (pth 75) m0 (blockK 0 (g15Q A n (pth 15) (g15T kk)))) x0 ((u48 A x4 x0 x2).length) x2 ((u48 A x4 x0 x2).length) (u48 A x4 x0 x2))
  rw [h1] at h2
  have h3 := (g15Qn A n _ _ _).trans h2
  have h4 := (blockK_n 1 _ _).trans h3
  have h5 := (g15F A n _ 5 _ ⟨[(0, tS x0), (3, sL 2000 none x1 1), (4, i6 x2)], [(2000, bY x3 x4)]⟩ _ (by kernel_rfl) (by kernel_rfl)).trans (g15R5 A n (blockK 1 (g15Q A n (pth 459) (g15W A n (pth 75) m0 (blockK 0 (g15Q A n (pth 15) (g15T kk)))))) x0 x1 x2 x3 x4)
  rw [h4] at h5
  have h6 := (g15p331 A n _ _).trans h5
  have h7 := (g15p203 A n _ _).trans h6
  exact (g15F A n _ 5 _ _ ⟨[(0, tS x0), (3, sL 2000 none x1 1), (4, i6 x2)], [(2000, bY x3 x4)]⟩ (by kernel_rfl) (h.trans (by kernel_rfl))).trans (h7.trans (by kernel_rfl))
def g15L3 {R : Type} (A : Ar) (n : Nat) (kk : KK R) : Nat → LN → Nat → Int → Nat → LN → Option R
  | 0, _, _, _, _, _ => none
  | m + 1, x0, x1, x2, x3, x4 => match A.ic .lss x2 (A.ofN x0.length) with
  | true => g15J5 A n kk (g15L3 A n kk m) x0 x1 x2 x3 x4
  | false => kk (tS (x4.take x1)) [(2000, ⟨[.nums .u8 x3 x4], 5, 2⟩)]
theorem g15L3_eq {R : Type} (A : Ar) (n : Nat) (kk : KK R) (m : Nat) (s : St) (x0 : LN) (x1 : Nat) (x2 : Int) (x3 : Nat) (x4 : LN) (h : keep g15an 3 s = ⟨[(0, tS x0), (3, sL 2000 none x1 1), (4, i6 x2)], [(2000, bY x3 x4)]⟩) :
    g15V A n (pth 75) m (blockK 0 (g15Q A n (pth 15) (g15T kk))) s = g15L3 A n kk m x0 x1 x2 x3 x4 := by
  induction m generalizing s x0 x1 x2 x3 x4 with
  | zero => rfl
  | succ m ih =>
    have h1 := (g15Qn A n _ _ _).trans (g15J5_eq A n kk m (g15L3 A n kk m) ih (g15R3s0 A x0 x1 x2 x3 x4) x0 x1 x2 x3 x4 (by kernel_rfl))
    have h2 := (g15p651 A n _ _).trans h1
    have h3 : (g15T kk) .ret (g15R6s0 A x1 x3 x4) = kk (tS (x4.take x1)) [(2000, bY x3 x4)] := by kernel_rfl
    have h4 := (g15p31 A n _ _).trans h3
    have h5 := (g15Qn A n _ _ _).trans h4
    have h6 := (g15F A n _ 6 _ (g15R3s0 A x0 x1 x2 x3 x4) _ (by kernel_rfl) (by kernel_rfl)).trans (g15R6 A n (g15Q A n (pth 31) (g15T kk)) x1 x3 x4)
    rw [h5] at h6
    have h7 := (g15p15 A n _ _).trans h6
    have h8 := (g15Qn A n _ _ _).trans h7
    have h9 := (blockK_hit 0 _ _).trans h8
    have h10 := (g15We A n (pth 75) m _ _ _).trans h9
    have h11 := (g15Qe A n (pth 203) _ _ _).trans h10
    have h12 := (g15p907 A n _ _).trans h11
    have h13 := g15p395 A n (g15Q A n (pth 203) (g15W A n (pth 75) m (blockK 0 (g15Q A n (pth 15) (g15T kk))))) (g15R3s0 A x0 x1 x2 x3 x4) (A.ic .lss x2 (A.ofN x0.length)) (by kernel_rfl)
    rw [h2, h12] at h13
    have h14 := (g15Qn A n _ _ _).trans h13
    have h15 := (g15F A n _ 3 _ ⟨[(0, tS x0), (3, sL 2000 none x1 1), (4, i6 x2)], [(2000, bY x3 x4)]⟩ _ (by kernel_rfl) (by kernel_rfl)).trans (g15R3 A n (g15Q A n (pth 395) (g15Q A n (pth 203) (g15W A n (pth 75) m (blockK 0 (g15Q A n (pth 15) (g15T kk)))))) x0 x1 x2 x3 x4)
    rw [h14] at h15
    have h16 := (g15p139 A n _ _).trans h15
    have h17 := (g15p75 A n _ _).trans h16
    exact (loopD_first (s' := ⟨[(0, tS x0), (3, sL 2000 none x1 1), (4, i6 x2)], [(2000, bY x3 x4)]⟩) (id := 3) (by kernel_rfl) (h.trans (by kernel_rfl)) _).trans ((g15Vs A n _ m _ _).trans (h17.trans (by kernel_rfl)))
def g15 {R : Type} (A : Ar) (n : Nat) (kk : KK R) (a : LN) : Option R :=
  g15L3 A n kk n a 0 0 0 []
theorem g15_eq {R : Type} (A : Ar) (n : Nat) (kk : KK R) (a : LN) :
    funD A gtys (g15O A) g15an n (bodyOf Try.f15) g15res [(tS a)] [] kk = g15 A n kk a := by
  have h1 := (g15p43 A n _ _).trans (g15L3_eq A n kk n (g15R2s0 A a 0 0 []) a 0 0 0 [] (by kernel_rfl))
  have h2 := (g15p27 A n _ _).trans h1
  have h3 := (g15Qn A n _ _ _).trans h2
  have h4 := (g15F A n _ 2 _ (g15R1s0 A a) _ (by kernel_rfl) (by kernel_rfl)).trans (g15R2 A n (g15Q A n (pth 27) (g15Q A n (pth 15) (g15T kk))) a 0 0 [])
  rw [h3] at h4
  have h5 := (g15p11 A n _ _).trans h4
  have h6 := (g15p7 A n _ _).trans h5
  have h7 := (g15Qn A n _ _ _).trans h6
  have h8 := (g15F A n _ 1 _ (g15R0s0 A a) _ (by kernel_rfl) (by kernel_rfl)).trans (g15R1 A n (g15Q A n (pth 7) (g15T kk)) a)
  rw [h7] at h8
  have h9 := (g15p3 A n _ _).trans h8
  have h10 := (g15Qn A n _ _ _).trans h9
  have h11 := (g15F A n _ 0 _ ⟨[(0, tS a)], []⟩ _ (by kernel_rfl) (by kernel_rfl)).trans (g15R0 A n (g15Q A n (pth 3) (g15T kk)) a)
  rw [h10] at h11
  have h12 := (g15p1 A n _ _).trans h11
  exact (show funD A gtys (g15O A) g15an n (bodyOf Try.f15) g15res [(tS a)] [] kk = g15D A n (pth 1) (g15T kk) ⟨[(0, tS a)], []⟩ from by kernel_rfl).trans (h12.trans (by kernel_rfl))
def g15is (o : Option AV) : Bool := match o with
  | some (.v (.cell (.str _))) => true
  | _ => false
def g15g0 (o : Option AV) : LN := match o with
  | some (.v (.cell (.str x))) => x
  | _ => []
theorem g15is_spec {o : Option AV} (h : g15is o = true) : o = some (.v (.cell (.str (g15g0 o)))) := by
  unfold g15is at h
  split at h
  · rfl
  · cases h
def g15v (A : Ar) (a : LN) : Option AV := g15 A (100000) (fun v _ => some v) a
def g15ok (A : Ar) (a : LN) : Bool := g15is (g15v A a)
def g15r0 (A : Ar) (a : LN) : LN := g15g0 (g15v A a)
theorem g15ok_spec {A : Ar} {a} (h : g15ok A a = true) : g15v A a = some (.v (.cell (.str (g15r0 A a)))) := g15is_spec h
def g15o (A : Ar) (args : List AV) : Option (Bool × AV) := match args with
  | [.v (.cell (.str a))] => some (g15ok A a, .v (.cell (.str (g15r0 A a))))
  | _ => none
theorem g15o_sound : ∀ args v, g15o realA args = some (true, v) → Fn1 Try.prog 15 args v := by
  intro args v h
  unfold g15o at h
  split at h
  · rename_i a
    simp only [Option.some.injEq, Prod.mk.injEq] at h
    obtain ⟨hc, h⟩ := h
    subst h
    · skip
      exact fn1_of mixed gtysOK g15O_sound g15O_det (an := g15an) (n := 100000) Try.func15 (c := bodyOf Try.f15) rfl (by kernel_rfl) Try.call15 (Nat.le_of_ble_eq_true rfl) (fun b => rfl) (fun _ => (g15_eq realA (100000) (fun v _ => some v) a).trans (show g15v realA a = _ from g15ok_spec hc))
  · cases h
def g14O (A : Ar) : Orc := orcOf []
theorem g14O_sound : OSound Try.prog (g14O realA) := orc_sound fun f g hm args v hv => by
  cases hm
theorem g14O_det : ODet (g14O realA) := orc_det _
def g14an : Ann := [(0, ([0], [0, 1])), (1, ([0], [0, 1]))]
def g14res : List ResultVar := [.tmp 2]
noncomputable def g14D {R : Type} (A : Ar) (n : Nat) (p : List Bool) (K : Ex → St → Option R) (s : St) : Option R := codeD A gtys (g14O A) g14an n (sub (bodyOf Try.f14) p) K s
noncomputable def g14Q {R : Type} (A : Ar) (n : Nat) (p : List Bool) (K : Ex → St → Option R) : Ex → St → Option R := seqC (g14D A n p K) K
noncomputable def g14T {R : Type} (kk : KK R) : Ex → St → Option R := finD gtys g14res kk
theorem g14Qn {R : Type} (A : Ar) (n : Nat) (p : List Bool) (K : Ex → St → Option R) (s : St) : g14Q A n p K .normal s = g14D A n p K s := rfl
theorem g14F {R : Type} (A : Ar) (n : Nat) (p : List Bool) (i : Nat) (K : Ex → St → Option R) (s s' : St) (hf : firstReg (sub (bodyOf Try.f14) p) = some i) (h : keep g14an i s = keep g14an i s') : g14D A n p K s = g14D A n p K s' := codeD_first hf h K
section
variable {R : Type} (A : Ar) (n : Nat) (K : Ex → St → Option R) (s : St)
theorem g14p1 : g14D A n (pth 1) K s = g14D A n (pth 2) (g14Q A n (pth 3) K) s := by kernel_rfl
theorem g14p3 : g14D A n (pth 3) K s = g14D A n (pth 5) (g14Q A n (pth 7) K) s := by kernel_rfl
theorem g14p7 : g14D A n (pth 7) K s = K .ret s := by kernel_rfl
def g14R0s0 (A : Ar) (x0 : LN) (x1 x2 : Nat) (x3 : Int) (x4 : Nat) (x5 : LN) : St := ⟨[(2, i6 0), (0, pT 0 0)], [(0, bH 1 x0 (some x1) x2 x3), (1, bY x4 x5)]⟩
theorem g14R0 (x0 : LN) (x1 x2 : Nat) (x3 : Int) (x4 : Nat) (x5 : LN) : g14D A n (pth 2) K ⟨[(0, pT 0 0)], [(0, bH 1 x0 (some x1) x2 x3), (1, bY x4 x5)]⟩ = K .normal (g14R0s0 A x0 x1 x2 x3 x4 x5) := by kernel_rfl
def g14R1s0 (A : Ar) (x0 : LN) (x1 x2 : Nat) (x3 : Int) (x4 : Nat) (x5 : LN) : St := ⟨[(2, i6 x3), (6, i6 x3), (5, pT 0 89), (4, pT 0 0), (3, pT 0 0), (0, pT 0 0)], [(0, bH 1 x0 (some x1) x2 x3), (1, bY x4 x5)]⟩
theorem g14R1 (x0 : LN) (x1 x2 : Nat) (x3 : Int) (x4 : Nat) (x5 : LN) : g14D A n (pth 5) K ⟨[(0, pT 0 0)], [(0, bH 1 x0 (some x1) x2 x3), (1, bY x4 x5)]⟩ = K .normal (g14R1s0 A x0 x1 x2 x3 x4 x5) := by kernel_rfl
end
def g14 {R : Type} (A : Ar) (n : Nat) (kk : KK R) (x0 : LN) (x1 x2 : Nat) (x3 : Int) (x4 : Nat) (x5 : LN) : Option R :=
  kk (i6 x3) [(0, ⟨[.nums .u64 88 x0, .one (.sl 1 (some x1) x2 1), .one (.int .i64 x3)], 45, 1⟩), (1, ⟨[.nums .u8 x4 x5], 5, 2⟩)]
theorem g14_eq {R : Type} (A : Ar) (n : Nat) (kk : KK R) (x0 : LN) (x1 x2 : Nat) (x3 : Int) (x4 : Nat) (x5 : LN) :
    funD A gtys (g14O A) g14an n (bodyOf Try.f14) g14res [(pT 0 0)] [(0, bH 1 x0 (some x1) x2 x3), (1, bY x4 x5)] kk = g14 A n kk x0 x1 x2 x3 x4 x5 := by
  have h1 : (g14T kk) .ret (g14R1s0 A x0 x1 x2 x3 x4 x5) = kk (i6 x3) [(0, bH 1 x0 (some x1) x2 x3), (1, bY x4 x5)] := by kernel_rfl
  have h2 := (g14p7 A n _ _).trans h1
  have h3 := (g14Qn A n _ _ _).trans h2
  have h4 := (g14F A n _ 1 _ (g14R0s0 A x0 x1 x2 x3 x4 x5) _ (by kernel_rfl) (by kernel_rfl)).trans (g14R1 A n (g14Q A n (pth 7) (g14T kk)) x0 x1 x2 x3 x4 x5)
  rw [h3] at h4
  have h5 := (g14p3 A n _ _).trans h4
  have h6 := (g14Qn A n _ _ _).trans h5
  have h7 := (g14F A n _ 0 _ ⟨[(0, pT 0 0)], [(0, bH 1 x0 (some x1) x2 x3), (1, bY x4 x5)]⟩ _ (by kernel_rfl) (by kernel_rfl)).trans (g14R0 A n (g14Q A n (pth 3) (g14T kk)) x0 x1 x2 x3 x4 x5)
  rw [h6] at h7
  have h8 := (g14p1 A n _ _).trans h7
  exact (show funD A gtys (g14O A) g14an n (bodyOf Try.f14) g14res [(pT 0 0)] [(0, bH 1 x0 (some x1) x2 x3), (1, bY x4 x5)] kk = g14D A n (pth 1) (g14T kk) ⟨[(0, pT 0 0)], [(0, bH 1 x0 (some x1) x2 x3), (1, bY x4 x5)]⟩ from by kernel_rfl).trans (h8.trans (by kernel_rfl))
def g14is (o : Option (AV × Heap)) : Bool := match o with
  | some (.v (.cell (.int .i64 _)), [(n0, ⟨[.nums .u64 n1 _, .one (.sl n2 (some _) _ n3), .one (.int .i64 _)], n4, n5⟩), (n6, ⟨[.nums .u8 _ _], n7, n8⟩)]) => Nat.beq n0 0 && (Nat.beq n1 88 && (Nat.beq n2 1 && (Nat.beq n3 1 && (Nat.beq n4 45 && (Nat.beq n5 1 && (Nat.beq n6 1 && (Nat.beq n7 5 && (Nat.beq n8 2))))))))
  | _ => false
def g14g0 (o : Option (AV × Heap)) : Int := match o with
  | some (.v (.cell (.int .i64 x)), [(_, ⟨[.nums .u64 _ _, .one (.sl _ (some _) _ _), .one (.int .i64 _)], _, _⟩), (_, ⟨[.nums .u8 _ _], _, _⟩)]) => x
  | _ => 0
def g14g1 (o : Option (AV × Heap)) : LN := match o with
  | some (.v (.cell (.int .i64 _)), [(_, ⟨[.nums .u64 _ x, .one (.sl _ (some _) _ _), .one (.int .i64 _)], _, _⟩), (_, ⟨[.nums .u8 _ _], _, _⟩)]) => x
  | _ => []
def g14g2 (o : Option (AV × Heap)) : Nat := match o with
  | some (.v (.cell (.int .i64 _)), [(_, ⟨[.nums .u64 _ _, .one (.sl _ (some x) _ _), .one (.int .i64 _)], _, _⟩), (_, ⟨[.nums .u8 _ _], _, _⟩)]) => x
  | _ => 0
def g14g3 (o : Option (AV × Heap)) : Nat := match o with
  | some (.v (.cell (.int .i64 _)), [(_, ⟨[.nums .u64 _ _, .one (.sl _ (some _) x _), .one (.int .i64 _)], _, _⟩), (_, ⟨[.nums .u8 _ _], _, _⟩)]) => x
  | _ => 0
def g14g4 (o : Option (AV × Heap)) : Int := match o with
  | some (.v (.cell (.int .i64 _)), [(_, ⟨[.nums .u64 _ _, .one (.sl _ (some _) _ _), .one (.int .i64 x)], _, _⟩), (_, ⟨[.nums .u8 _ _], _, _⟩)]) => x
  | _ => 0
def g14g5 (o : Option (AV × Heap)) : Nat := match o with
  | some (.v (.cell (.int .i64 _)), [(_, ⟨[.nums .u64 _ _, .one (.sl _ (some _) _ _), .one (.int .i64 _)], _, _⟩), (_, ⟨[.nums .u8 x _], _, _⟩)]) => x
  | _ => 0
def g14g6 (o : Option (AV × Heap)) : LN := match o with
  | some (.v (.cell (.int .i64 _)), [(_, ⟨[.nums .u64 _ _, .one (.sl _ (some _) _ _), .one (.int .i64 _)], _, _⟩), (_, ⟨[.nums .u8 _ x], _, _⟩)]) => x
  | _ => []
theorem g14is_spec {o : Option (AV × Heap)} (h : g14is o = true) : o = some ((i6 (g14g0 o)), [(0, ⟨[.nums .u64 88 (g14g1 o), .one (.sl 1 (some (g14g2 o)) (g14g3 o) 1), .one (.int .i64 (g14g4 o))], 45, 1⟩), (1, ⟨[.nums .u8 (g14g5 o) (g14g6 o)], 5, 2⟩)]) := by
  unfold g14is at h
  split at h
  · rename_i z0 n0 n1 z3 n2 z5 z6 n3 z8 n4 n5 n6 z12 z13 n7 n8
    simp only [Bool.and_eq_true] at h
    have en0 := beq_true h.1
    subst en0
    replace h := h.2
    have en1 := beq_true h.1
    subst en1
    replace h := h.2
    have en2 := beq_true h.1
    subst en2
    replace h := h.2
    have en3 := beq_true h.1
    subst en3
    replace h := h.2
    have en4 := beq_true h.1
    subst en4
    replace h := h.2
    have en5 := beq_true h.1
    subst en5
    replace h := h.2
    have en6 := beq_true h.1
    subst en6
    replace h := h.2
    have en7 := beq_true h.1
    subst en7
    replace h := h.2
    have en8 := beq_true h
    subst en8
    rfl
  · cases h
def g14v (A : Ar) (x0 : LN) (x1 x2 : Nat) (x3 : Int) (x4 : Nat) (x5 : LN) : Option (AV × Heap) := g14 A (100000) (outN [1] [0, 1] none) x0 x1 x2 x3 x4 x5
def g14ok (A : Ar) (x0 : LN) (x1 x2 : Nat) (x3 : Int) (x4 : Nat) (x5 : LN) : Bool := g14is (g14v A x0 x1 x2 x3 x4 x5)
def g14r0 (A : Ar) (x0 : LN) (x1 x2 : Nat) (x3 : Int) (x4 : Nat) (x5 : LN) : Int := g14g0 (g14v A x0 x1 x2 x3 x4 x5)
def g14r1 (A : Ar) (x0 : LN) (x1 x2 : Nat) (x3 : Int) (x4 : Nat) (x5 : LN) : LN := g14g1 (g14v A x0 x1 x2 x3 x4 x5)
def g14r2 (A : Ar) (x0 : LN) (x1 x2 : Nat) (x3 : Int) (x4 : Nat) (x5 : LN) : Nat := g14g2 (g14v A x0 x1 x2 x3 x4 x5)
def g14r3 (A : Ar) (x0 : LN) (x1 x2 : Nat) (x3 : Int) (x4 : Nat) (x5 : LN) : Nat := g14g3 (g14v A x0 x1 x2 x3 x4 x5)
def g14r4 (A : Ar) (x0 : LN) (x1 x2 : Nat) (x3 : Int) (x4 : Nat) (x5 : LN) : Int := g14g4 (g14v A x0 x1 x2 x3 x4 x5)
def g14r5 (A : Ar) (x0 : LN) (x1 x2 : Nat) (x3 : Int) (x4 : Nat) (x5 : LN) : Nat := g14g5 (g14v A x0 x1 x2 x3 x4 x5)
def g14r6 (A : Ar) (x0 : LN) (x1 x2 : Nat) (x3 : Int) (x4 : Nat) (x5 : LN) : LN := g14g6 (g14v A x0 x1 x2 x3 x4 x5)
theorem g14ok_spec {A : Ar} {x0 x1 x2 x3 x4 x5} (h : g14ok A x0 x1 x2 x3 x4 x5 = true) : g14v A x0 x1 x2 x3 x4 x5 = some ((i6 (g14r0 A x0 x1 x2 x3 x4 x5)), [(0, ⟨[.nums .u64 88 (g14r1 A x0 x1 x2 x3 x4 x5), .one (.sl 1 (some (g14r2 A x0 x1 x2 x3 x4 x5)) (g14r3 A x0 x1 x2 x3 x4 x5) 1), .one (.int .i64 (g14r4 A x0 x1 x2 x3 x4 x5))], 45, 1⟩), (1, ⟨[.nums .u8 (g14r5 A x0 x1 x2 x3 x4 x5) (g14r6 A x0 x1 x2 x3 x4 x5)], 5, 2⟩)]) := g14is_spec h
def g14o (A : Ar) (args : List AV) (h : Heap) : Option (Bool × AV × Heap) := match args, h with
  | [.v (.cell (.ptr n0 n1 none))], [(n2, ⟨[.nums .u64 n3 x0, .one (.sl n4 (some x1) x2 n5), .one (.int .i64 x3)], n6, n7⟩), (n8, ⟨[.nums .u8 x4 x5], n9, n10⟩)] => match Nat.beq n0 0 && (Nat.beq n1 0 && (Nat.beq n2 0 && (Nat.beq n3 88 && (Nat.beq n4 1 && (Nat.beq n5 1 && (Nat.beq n6 45 && (Nat.beq n7 1 && (Nat.beq n8 1 && (Nat.beq n9 5 && (Nat.beq n10 2)))))))))) with
    | true => some (g14ok A x0 x1 x2 x3 x4 x5, (i6 (g14r0 A x0 x1 x2 x3 x4 x5)), [(0, ⟨[.nums .u64 88 (g14r1 A x0 x1 x2 x3 x4 x5), .one (.sl 1 (some (g14r2 A x0 x1 x2 x3 x4 x5)) (g14r3 A x0 x1 x2 x3 x4 x5) 1), .one (.int .i64 (g14r4 A x0 x1 x2 x3 x4 x5))], 45, 1⟩), (1, ⟨[.nums .u8 (g14r5 A x0 x1 x2 x3 x4 x5) (g14r6 A x0 x1 x2 x3 x4 x5)], 5, 2⟩)])
    | false => none
  | _, _ => none
theorem g14o_sound : ∀ args h v h', g14o realA args h = some (true, v, h') → FnH Try.prog 14 args h v h' := by
  intro args h v h' hh
  unfold g14o at hh
  split at hh
  · rename_i n0 n1 n2 n3 x0 n4 x1 x2 n5 x3 n6 n7 n8 x4 x5 n9 n10
    split at hh
    case h_2 => cases hh
    rename_i hc0
    simp only [Option.some.injEq, Prod.mk.injEq] at hh
    obtain ⟨hc, hv, hh⟩ := hh
    subst hv
    subst hh
    simp only [Bool.and_eq_true] at hc0
    have en0 := beq_true hc0.1
    subst en0
    replace hc0 := hc0.2
    have en1 := beq_true hc0.1
    subst en1
    replace hc0 := hc0.2
    have en2 := beq_true hc0.1
    subst en2
    replace hc0 := hc0.2
    have en3 := beq_true hc0.1
    subst en3
    replace hc0 := hc0.2
    have en4 := beq_true hc0.1
    subst en4
    replace hc0 := hc0.2
    have en5 := beq_true hc0.1
    subst en5
    replace hc0 := hc0.2
    have en6 := beq_true hc0.1
    subst en6
    replace hc0 := hc0.2
    have en7 := beq_true hc0.1
    subst en7
    replace hc0 := hc0.2
    have en8 := beq_true hc0.1
    subst en8
    replace hc0 := hc0.2
    have en9 := beq_true hc0.1
    subst en9
    replace hc0 := hc0.2
    have en10 := beq_true hc0
    subst en10
    exact fnh_ofN mixed gtysOK g14O_sound g14O_det (an := g14an) (n := 100000) Try.func14 (c := bodyOf Try.f14) rfl (by kernel_rfl) Try.call14 (Nat.le_of_ble_eq_true rfl) (B := [1]) (pins := [0, 1]) (nilr := none) (fun _ => (g14_eq realA (100000) (outN [1] [0, 1] none) x0 x1 x2 x3 x4 x5).trans (show g14v realA x0 x1 x2 x3 x4 x5 = _ from g14ok_spec hc))
  · cases hh
def g8O (A : Ar) : Orc := orcN [(11, (1, 1, ⟨[.nums .u8 0 []], 5, 2⟩))] (orcH [(9, g9o A), (15, g15o A)] [(11, ⟨[], none, (g11o A)⟩), (12, ⟨[0, 1], (some (0, 1, 1, ⟨[.nums .u8 0 []], 5, 2⟩)), (hoN [501, 600] (ho2 (g12o A) (g12a_o A)))⟩), (13, ⟨[], none, (hoN [1] (g13o A))⟩), (14, ⟨[], none, (hoN [1] (g14o A))⟩)])
theorem g8O_sound : OSound Try.prog (g8O realA) := orcN_sound <| orcH_sound (fun f g hm args v hv => by
    simp only [List.mem_cons, List.not_mem_nil, or_false, Prod.mk.injEq] at hm
    rcases hm with ⟨rfl, rfl⟩ | ⟨rfl, rfl⟩
    · exact g9o_sound _ _ hv
    · exact g15o_sound _ _ hv) (fun f e hm args h v h' hv => by
    simp only [List.mem_cons, List.not_mem_nil, or_false, Prod.mk.injEq] at hm
    rcases hm with ⟨rfl, rfl⟩ | ⟨rfl, rfl⟩ | ⟨rfl, rfl⟩ | ⟨rfl, rfl⟩
    · exact g11o_sound _ _ _ _ hv
    · exact (hoN_sound (ho2_sound g12o_sound g12a_o_sound)) _ _ _ _ hv
    · exact (hoN_sound g13o_sound) _ _ _ _ hv
    · exact (hoN_sound g14o_sound) _ _ _ _ hv)
theorem g8O_det : ODet (g8O realA) := orcN_det <| orcH_det _ _
def g8an : Ann := [(0, ([], [])), (1, ([], [])), (2, ([1], [2000, 2500])), (3, ([], [])), (4, ([1], [2000, 2500])), (5, ([1], [2000, 2500])), (6, ([1], [2000, 2500]))]
def g8res : List ResultVar := [.tmp 0]
abbrev g8t0 (A : Ar) (x0 : LN) (x1 : Nat) (x2 : Int) (x3 : Nat) (x4 : LN) : LN := g12r0 A [98, 99] (g12r0 A [97] x0 0 x1 x2 x3 x4) (g12r1 A [97] x0 0 x1 x2 x3 x4) (g12r2 A [97] x0 0 x1 x2 x3 x4) (g12r3 A [97] x0 0 x1 x2 x3 x4) (g12r4 A [97] x0 0 x1 x2 x3 x4) (g12r5 A [97] x0 0 x1 x2 x3 x4)
abbrev g8t1 (A : Ar) (x0 : LN) (x1 : Nat) (x2 : Int) (x3 : Nat) (x4 : LN) : Nat := g12r1 A [98, 99] (g12r0 A [97] x0 0 x1 x2 x3 x4) (g12r1 A [97] x0 0 x1 x2 x3 x4) (g12r2 A [97] x0 0 x1 x2 x3 x4) (g12r3 A [97] x0 0 x1 x2 x3 x4) (g12r4 A [97] x0 0 x1 x2 x3 x4) (g12r5 A [97] x0 0 x1 x2 x3 x4)
abbrev g8t2 (A : Ar) (x0 : LN) (x1 : Nat) (x2 : Int) (x3 : Nat) (x4 : LN) : Nat := g12r2 A [98, 99] (g12r0 A [97] x0 0 x1 x2 x3 x4) (g12r1 A [97] x0 0 x1 x2 x3 x4) (g12r2 A [97] x0 0 x1 x2 x3 x4) (g12r3 A [97] x0 0 x1 x2 x3 x4) (g12r4 A [97] x0 0 x1 x2 x3 x4) (g12r5 A [97] x0 0 x1 x2 x3 x4)
abbrev g8t3 (A : Ar) (x0 : LN) (x1 : Nat) (x2 : Int) (x3 : Nat) (x4 : LN) : Int := g12r3 A [98, 99] (g12r0 A [97] x0 0 x1 x2 x3 x4) (g12r1 A [97] x0 0 x1 x2 x3 x4) (g12r2 A [97] x0 0 x1 x2 x3 x4) (g12r3 A [97] x0 0 x1 x2 x3 x4) (g12r4 A [97] x0 0 x1 x2 x3 x4) (g12r5 A [97] x0 0 x1 x2 x3 x4)
abbrev g8t4 (A : Ar) (x0 : LN) (x1 : Nat) (x2 : Int) (x3 : Nat) (x4 : LN) : Nat := g12r4 A [98, 99] (g12r0 A [97] x0 0 x1 x2 x3 x4) (g12r1 A [97] x0 0 x1 x2 x3 x4) (g12r2 A [97] x0 0 x1 x2 x3 x4) (g12r3 A [97] x0 0 x1 x2 x3 x4) (g12r4 A [97] x0 0 x1 x2 x3 x4) (g12r5 A [97] x0 0 x1 x2 x3 x4)
abbrev g8t5 (A : Ar) (x0 : LN) (x1 : Nat) (x2 : Int) (x3 : Nat) (x4 : LN) : LN := g12r5 A [98, 99] (g12r0 A [97] x0 0 x1 x2 x3 x4) (g12r1 A [97] x0 0 x1 x2 x3 x4) (g12r2 A [97] x0 0 x1 x2 x3 x4) (g12r3 A [97] x0 0 x1 x2 x3 x4) (g12r4 A [97] x0 0 x1 x2 x3 x4) (g12r5 A [97] x0 0 x1 x2 x3 x4)
abbrev g8t6 (A : Ar) (x0 : LN) (x1 x2 : Nat) (x3 : Int) (x4 : Nat) (x5 : LN) : Int := g14r0 A (g13r1 A x0 x1 x2 x3 x4 x5) (g13r2 A x0 x1 x2 x3 x4 x5) (g13r3 A x0 x1 x2 x3 x4 x5) (g13r4 A x0 x1 x2 x3 x4 x5) (g13r5 A x0 x1 x2 x3 x4 x5) (g13r6 A x0 x1 x2 x3 x4 x5)
abbrev g8t7 (A : Ar) (x0 : LN) (x1 x2 : Nat) (x3 : Int) (x4 : Nat) (x5 : LN) : LN := g14r1 A (g13r1 A x0 x1 x2 x3 x4 x5) (g13r2 A x0 x1 x2 x3 x4 x5) (g13r3 A x0 x1 x2 x3 x4 x5) (g13r4 A x0 x1 x2 x3 x4 x5) (g13r5 A x0 x1 x2 x3 x4 x5) (g13r6 A x0 x1 x2 x3 x4 x5)
abbrev g8t8 (A : Ar) (x0 : LN) (x1 x2 : Nat) (x3 : Int) (x4 : Nat) (x5 : LN) : Nat := g14r2 A (g13r1 A x0 x1 x2 x3 x4 x5) (g13r2 A x0 x1 x2 x3 x4 x5) (g13r3 A x0 x1 x2 x3 x4 x5) (g13r4 A x0 x1 x2 x3 x4 x5) (g13r5 A x0 x1 x2 x3 x4 x5) (g13r6 A x0 x1 x2 x3 x4 x5)
abbrev g8t9 (A : Ar) (x0 : LN) (x1 x2 : Nat) (x3 : Int) (x4 : Nat) (x5 : LN) : Nat := g14r3 A (g13r1 A x0 x1 x2 x3 x4 x5) (g13r2 A x0 x1 x2 x3 x4 x5) (g13r3 A x0 x1 x2 x3 x4 x5) (g13r4 A x0 x1 x2 x3 x4 x5) (g13r5 A x0 x1 x2 x3 x4 x5) (g13r6 A x0 x1 x2 x3 x4 x5)
abbrev g8t10 (A : Ar) (x0 : LN) (x1 x2 : Nat) (x3 : Int) (x4 : Nat) (x5 : LN) : Int := g14r4 A (g13r1 A x0 x1 x2 x3 x4 x5) (g13r2 A x0 x1 x2 x3 x4 x5) (g13r3 A x0 x1 x2 x3 x4 x5) (g13r4 A x0 x1 x2 x3 x4 x5) (g13r5 A x0 x1 x2 x3 x4 x5) (g13r6 A x0 x1 x2 x3 x4 x5)
abbrev g8t11 (A : Ar) (x0 : LN) (x1 x2 : Nat) (x3 : Int) (x4 : Nat) (x5 : LN) : Nat := g14r5 A (g13r1 A x0 x1 x2 x3 x4 x5) (g13r2 A x0 x1 x2 x3 x4 x5) (g13r3 A x0 x1 x2 x3 x4 x5) (g13r4 A x0 x1 x2 x3 x4 x5) (g13r5 A x0 x1 x2 x3 x4 x5) (g13r6 A x0 x1 x2 x3 x4 x5)
abbrev g8t12 (A : Ar) (x0 : LN) (x1 x2 : Nat) (x3 : Int) (x4 : Nat) (x5 : LN) : LN := g14r6 A (g13r1 A x0 x1 x2 x3 x4 x5) (g13r2 A x0 x1 x2 x3 x4 x5) (g13r3 A x0 x1 x2 x3 x4 x5) (g13r4 A x0 x1 x2 x3 x4 x5) (g13r5 A x0 x1 x2 x3 x4 x5) (g13r6 A x0 x1 x2 x3 x4 x5)
abbrev g8t13 (A : Ar) (x0 : LN) (x1 : Nat) (x2 : Int) (x3 : Nat) (x4 : LN) : LN := g13r0 A (g8t0 A x0 x1 x2 x3 x4) (g8t1 A x0 x1 x2 x3 x4) (g8t2 A x0 x1 x2 x3 x4) (g8t3 A x0 x1 x2 x3 x4) (g8t4 A x0 x1 x2 x3 x4) (g8t5 A x0 x1 x2 x3 x4)
abbrev g8t14 (A : Ar) (x0 : LN) (x1 : Nat) (x2 : Int) (x3 : Nat) (x4 : LN) : LN := g13r1 A (g8t0 A x0 x1 x2 x3 x4) (g8t1 A x0 x1 x2 x3 x4) (g8t2 A x0 x1 x2 x3 x4) (g8t3 A x0 x1 x2 x3 x4) (g8t4 A x0 x1 x2 x3 x4) (g8t5 A x0 x1 x2 x3 x4)
abbrev g8t15 (A : Ar) (x0 : LN) (x1 : Nat) (x2 : Int) (x3 : Nat) (x4 : LN) : Nat := g13r2 A (g8t0 A x0 x1 x2 x3 x4) (g8t1 A x0 x1 x2 x3 x4) (g8t2 A x0 x1 x2 x3 x4) (g8t3 A x0 x1 x2 x3 x4) (g8t4 A x0 x1 x2 x3 x4) (g8t5 A x0 x1 x2 x3 x4)
abbrev g8t16 (A : Ar) (x0 : LN) (x1 : Nat) (x2 : Int) (x3 : Nat) (x4 : LN) : Nat := g13r3 A (g8t0 A x0 x1 x2 x3 x4) (g8t1 A x0 x1 x2 x3 x4) (g8t2 A x0 x1 x2 x3 x4) (g8t3 A x0 x1 x2 x3 x4) (g8t4 A x0 x1 x2 x3 x4) (g8t5 A x0 x1 x2 x3 x4)
abbrev g8t17 (A : Ar) (x0 : LN) (x1 : Nat) (x2 : Int) (x3 : Nat) (x4 : LN) : Int := g13r4 A (g8t0 A x0 x1 x2 x3 x4) (g8t1 A x0 x1 x2 x3 x4) (g8t2 A x0 x1 x2 x3 x4) (g8t3 A x0 x1 x2 x3 x4) (g8t4 A x0 x1 x2 x3 x4) (g8t5 A x0 x1 x2 x3 x4)
abbrev g8t18 (A : Ar) (x0 : LN) (x1 : Nat) (x2 : Int) (x3 : Nat) (x4 : LN) : Nat := g13r5 A (g8t0 A x0 x1 x2 x3 x4) (g8t1 A x0 x1 x2 x3 x4) (g8t2 A x0 x1 x2 x3 x4) (g8t3 A x0 x1 x2 x3 x4) (g8t4 A x0 x1 x2 x3 x4) (g8t5 A x0 x1 x2 x3 x4)
abbrev g8t19 (A : Ar) (x0 : LN) (x1 : Nat) (x2 : Int) (x3 : Nat) (x4 : LN) : LN := g13r6 A (g8t0 A x0 x1 x2 x3 x4) (g8t1 A x0 x1 x2 x3 x4) (g8t2 A x0 x1 x2 x3 x4) (g8t3 A x0 x1 x2 x3 x4) (g8t4 A x0 x1 x2 x3 x4) (g8t5 A x0 x1 x2 x3 x4)
abbrev g8t20 (A : Ar) (x0 : LN) (x1 : Nat) (x2 : Int) (x3 : Nat) (x4 : LN) : Int := g14r0 A (g8t14 A x0 x1 x2 x3 x4) (g8t15 A x0 x1 x2 x3 x4) (g8t16 A x0 x1 x2 x3 x4) (g8t17 A x0 x1 x2 x3 x4) (g8t18 A x0 x1 x2 x3 x4) (g8t19 A x0 x1 x2 x3 x4)
abbrev g8t21 (A : Ar) (x0 : LN) (x1 : Nat) (x2 : Int) (x3 : Nat) (x4 : LN) : LN := g14r1 A (g8t14 A x0 x1 x2 x3 x4) (g8t15 A x0 x1 x2 x3 x4) (g8t16 A x0 x1 x2 x3 x4) (g8t17 A x0 x1 x2 x3 x4) (g8t18 A x0 x1 x2 x3 x4) (g8t19 A x0 x1 x2 x3 x4)
abbrev g8t22 (A : Ar) (x0 : LN) (x1 : Nat) (x2 : Int) (x3 : Nat) (x4 : LN) : Nat := g14r2 A (g8t14 A x0 x1 x2 x3 x4) (g8t15 A x0 x1 x2 x3 x4) (g8t16 A x0 x1 x2 x3 x4) (g8t17 A x0 x1 x2 x3 x4) (g8t18 A x0 x1 x2 x3 x4) (g8t19 A x0 x1 x2 x3 x4)
abbrev g8t23 (A : Ar) (x0 : LN) (x1 : Nat) (x2 : Int) (x3 : Nat) (x4 : LN) : Nat := g14r3 A (g8t14 A x0 x1 x2 x3 x4) (g8t15 A x0 x1 x2 x3 x4) (g8t16 A x0 x1 x2 x3 x4) (g8t17 A x0 x1 x2 x3 x4) (g8t18 A x0 x1 x2 x3 x4) (g8t19 A x0 x1 x2 x3 x4)
abbrev g8t24 (A : Ar) (x0 : LN) (x1 : Nat) (x2 : Int) (x3 : Nat) (x4 : LN) : Int := g14r4 A (g8t14 A x0 x1 x2 x3 x4) (g8t15 A x0 x1 x2 x3 x4) (g8t16 A x0 x1 x2 x3 x4) (g8t17 A x0 x1 x2 x3 x4) (g8t18 A x0 x1 x2 x3 x4) (g8t19 A x0 x1 x2 x3 x4)
abbrev g8t25 (A : Ar) (x0 : LN) (x1 : Nat) (x2 : Int) (x3 : Nat) (x4 : LN) : Nat := g14r5 A (g8t14 A x0 x1 x2 x3 x4) (g8t15 A x0 x1 x2 x3 x4) (g8t16 A x0 x1 x2 x3 x4) (g8t17 A x0 x1 x2 x3 x4) (g8t18 A x0 x1 x2 x3 x4) (g8t19 A x0 x1 x2 x3 x4)
abbrev g8t26 (A : Ar) (x0 : LN) (x1 : Nat) (x2 : Int) (x3 : Nat) (x4 : LN) : LN := g14r6 A (g8t14 A x0 x1 x2 x3 x4) (g8t15 A x0 x1 x2 x3 x4) (g8t16 A x0 x1 x2 x3 x4) (g8t17 A x0 x1 x2 x3 x4) (g8t18 A x0 x1 x2 x3 x4) (g8t19 A x0 x1 x2 x3 x4)
noncomputable def g8D {R : Type} (A : Ar) (n : Nat) (p : List Bool) (K : Ex → St → Option R) (s : St) : Option R := codeD A gtys (g8O A) g8an n (sub (bodyOf Try.f8) p) K s
noncomputable def g8Q {R : Type} (A : Ar) (n : Nat) (p : List Bool) (K : Ex → St → Option R) : Ex → St → Option R := seqC (g8D A n p K) K
noncomputable def g8T {R : Type} (kk : KK R) : Ex → St → Option R := finD gtys g8res kk
theorem g8Qn {R : Type} (A : Ar) (n : Nat) (p : List Bool) (K : Ex → St → Option R) (s : St) : g8Q A n p K .normal s = g8D A n p K s := rfl
theorem g8F {R : Type} (A : Ar) (n : Nat) (p : List Bool) (i : Nat) (K : Ex → St → Option R) (s s' : St) (hf : firstReg (sub (bodyOf Try.f8) p) = some i) (h : keep g8an i s = keep g8an i s') : g8D A n p K s = g8D A n p K s' := codeD_first hf h K
section
variable {R : Type} (A : Ar) (n : Nat) (K : Ex → St → Option R) (s : St)
theorem g8p1 : g8D A n (pth 1) K s = g8D A n (pth 2) (g8Q A n (pth 3) K) s := by kernel_rfl
theorem g8p3 : g8D A n (pth 3) K s = g8D A n (pth 5) (g8Q A n (pth 7) K) s := by kernel_rfl
theorem g8p7 : g8D A n (pth 7) K s = g8D A n (pth 11) (g8Q A n (pth 15) K) s := by kernel_rfl
theorem g8p11 : g8D A n (pth 11) K s = g8D A n (pth 19) (g8Q A n (pth 27) K) s := by kernel_rfl
theorem g8p27 (t : Bool) : ev s (.tmp 4) = some (.v (.cell (.bool t))) → g8D A n (pth 27) K s = (match t with
    | true => g8D A n (pth 43) K s
    | false => g8D A n (pth 59) K s) := codeD_cond t
theorem g8p59 : g8D A n (pth 59) K s = K .normal s := by kernel_rfl
theorem g8p15 : g8D A n (pth 15) K s = g8D A n (pth 23) (g8Q A n (pth 31) K) s := by kernel_rfl
theorem g8p31 : g8D A n (pth 31) K s = g8D A n (pth 47) (g8Q A n (pth 63) K) s := by kernel_rfl
theorem g8p63 : g8D A n (pth 63) K s = g8D A n (pth 95) (g8Q A n (pth 127) K) s := by kernel_rfl
theorem g8p127 : g8D A n (pth 127) K s = K .ret s := by kernel_rfl
def g8R4s0 (A : Ar) (x0 : LN) (x1 : Nat) (x2 : Int) (x3 : Nat) (x4 : LN) : St := ⟨[(6, (.tup [])), (5, pT 2000 0), (1, pT 2000 0)], [(2000, bH 2500 (g12r0 A [97] x0 0 x1 x2 x3 x4) (some (g12r1 A [97] x0 0 x1 x2 x3 x4)) (g12r2 A [97] x0 0 x1 x2 x3 x4) (g12r3 A [97] x0 0 x1 x2 x3 x4)), (2500, bY (g12r4 A [97] x0 0 x1 x2 x3 x4) (g12r5 A [97] x0 0 x1 x2 x3 x4))]⟩
theorem g8R4 (x0 : LN) (x1 : Nat) (x2 : Int) (x3 : Nat) (x4 : LN) : g8D A n (pth 23) K ⟨[(1, pT 2000 0)], [(2000, bH 2500 x0 none x1 x2), (2500, bY x3 x4)]⟩ = match g12ok A [97] x0 0 x1 x2 x3 x4 with
    | true => K .normal (g8R4s0 A x0 x1 x2 x3 x4)
    | false => none := by kernel_rfl
def g8R5s0 (A : Ar) (x0 : LN) (x1 x2 : Nat) (x3 : Int) (x4 : Nat) (x5 : LN) : St := ⟨[(8, (.tup [])), (7, pT 2000 0), (1, pT 2000 0)], [(2000, bH 2500 (g12r0 A [98, 99] x0 x1 x2 x3 x4 x5) (some (g12r1 A [98, 99] x0 x1 x2 x3 x4 x5)) (g12r2 A [98, 99] x0 x1 x2 x3 x4 x5) (g12r3 A [98, 99] x0 x1 x2 x3 x4 x5)), (2500, bY (g12r4 A [98, 99] x0 x1 x2 x3 x4 x5) (g12r5 A [98, 99] x0 x1 x2 x3 x4 x5))]⟩
theorem g8R5 (x0 : LN) (x1 x2 : Nat) (x3 : Int) (x4 : Nat) (x5 : LN) : g8D A n (pth 47) K ⟨[(1, pT 2000 0)], [(2000, bH 2500 x0 (some x1) x2 x3), (2500, bY x4 x5)]⟩ = match g12ok A [98, 99] x0 x1 x2 x3 x4 x5 with
    | true => K .normal (g8R5s0 A x0 x1 x2 x3 x4 x5)
    | false => none := by kernel_rfl
def g8R6s0 (A : Ar) (x0 : LN) (x1 x2 : Nat) (x3 : Int) (x4 : Nat) (x5 : LN) : St := ⟨[(0, bO (A.ic .eql (g8t6 A x0 x1 x2 x3 x4 x5) 3)), (22, bO (A.ic .eql (g8t6 A x0 x1 x2 x3 x4 x5) 3)), (21, bO (A.ic .eql (g8t6 A x0 x1 x2 x3 x4 x5) 3)), (20, i6 (g8t6 A x0 x1 x2 x3 x4 x5)), (19, pT 2000 0), (18, bO true), (17, bO (A.sc .eql (g13r0 A x0 x1 x2 x3 x4 x5) (g9r0 A [97, 98, 99]))), (16, bO (A.sc .eql (g13r0 A x0 x1 x2 x3 x4 x5) (g9r0 A [97, 98, 99]))), (15, tS (g9r0 A [97, 98, 99])), (14, tS (g13r0 A x0 x1 x2 x3 x4 x5)), (13, pT 2000 0), (12, bO true), (11, bO (A.sc .eql (g15r0 A (g9r0 A [97, 98, 99])) [100, 100, 97, 102, 51, 53, 97, 49, 57, 51, 54, 49, 55, 97, 98, 97, 99, 99, 52, 49, 55, 51, 52, 57, 97, 101, 50, 48, 52, 49, 51, 49, 49, 50, 101, 54, 102, 97, 52, 101, 56, 57, 97, 57, 55, 101, 97, 50, 48, 97, 57, 101, 101, 101, 101, 54, 52, 98, 53, 53, 100, 51, 57, 97, 50, 49, 57, 50, 57, 57, 50, 97, 50, 55, 52, 102, 99, 49, 97, 56, 51, 54, 98, 97, 51, 99, 50, 51, 97, 51, 102, 101, 101, 98, 98, 100, 52, 53, 52, 100, 52, 52, 50, 51, 54, 52, 51, 99, 101, 56, 48, 101, 50, 97, 57, 97, 99, 57, 52, 102, 97, 53, 52, 99, 97, 52, 57, 102])), (10, tS (g15r0 A (g9r0 A [97, 98, 99]))), (9, tS (g9r0 A [97, 98, 99])), (1, pT 2000 0)], [(2000, bH 2500 (g8t7 A x0 x1 x2 x3 x4 x5) (some (g8t8 A x0 x1 x2 x3 x4 x5)) (g8t9 A x0 x1 x2 x3 x4 x5) (g8t10 A x0 x1 x2 x3 x4 x5)), (2500, bY (g8t11 A x0 x1 x2 x3 x4 x5) (g8t12 A x0 x1 x2 x3 x4 x5))]⟩
def g8R6s1 (A : Ar) (x0 : LN) (x1 x2 : Nat) (x3 : Int) (x4 : Nat) (x5 : LN) : St := ⟨[(0, bO false), (22, bO false), (21, uN), (20, uN), (19, uN), (18, bO false), (17, bO (A.sc .eql (g13r0 A x0 x1 x2 x3 x4 x5) (g9r0 A [97, 98, 99]))), (16, bO (A.sc .eql (g13r0 A x0 x1 x2 x3 x4 x5) (g9r0 A [97, 98, 99]))), (15, tS (g9r0 A [97, 98, 99])), (14, tS (g13r0 A x0 x1 x2 x3 x4 x5)), (13, pT 2000 0), (12, bO true), (11, bO (A.sc .eql (g15r0 A (g9r0 A [97, 98, 99])) [100, 100, 97, 102, 51, 53, 97, 49, 57, 51, 54, 49, 55, 97, 98, 97, 99, 99, 52, 49, 55, 51, 52, 57, 97, 101, 50, 48, 52, 49, 51, 49, 49, 50, 101, 54, 102, 97, 52, 101, 56, 57, 97, 57, 55, 101, 97, 50, 48, 97, 57, 101, 101, 101, 101, 54, 52, 98, 53, 53, 100, 51, 57, 97, 50, 49, 57, 50, 57, 57, 50, 97, 50, 55, 52, 102, 99, 49, 97, 56, 51, 54, 98, 97, 51, 99, 50, 51, 97, 51, 102, 101, 101, 98, 98, 100, 52, 53, 52, 100, 52, 52, 50, 51, 54, 52, 51, 99, 101, 56, 48, 101, 50, 97, 57, 97, 99, 57, 52, 102, 97, 53, 52, 99, 97, 52, 57, 102])), (10, tS (g15r0 A (g9r0 A [97, 98, 99]))), (9, tS (g9r0 A [97, 98, 99])), (1, pT 2000 0)], [(2000, bH 2500 (g13r1 A x0 x1 x2 x3 x4 x5) (some (g13r2 A x0 x1 x2 x3 x4 x5)) (g13r3 A x0 x1 x2 x3 x4 x5) (g13r4 A x0 x1 x2 x3 x4 x5)), (2500, bY (g13r5 A x0 x1 x2 x3 x4 x5) (g13r6 A x0 x1 x2 x3 x4 x5))]⟩
def g8R6s2 (A : Ar) (x0 : LN) (x1 x2 : Nat) (x3 : Int) (x4 : Nat) (x5 : LN) : St := ⟨[(0, bO false), (22, bO false), (21, uN), (20, uN), (19, uN), (18, bO false), (17, bO false), (16, uN), (15, uN), (14, uN), (13, uN), (12, bO false), (11, bO (A.sc .eql (g15r0 A (g9r0 A [97, 98, 99])) [100, 100, 97, 102, 51, 53, 97, 49, 57, 51, 54, 49, 55, 97, 98, 97, 99, 99, 52, 49, 55, 51, 52, 57, 97, 101, 50, 48, 52, 49, 51, 49, 49, 50, 101, 54, 102, 97, 52, 101, 56, 57, 97, 57, 55, 101, 97, 50, 48, 97, 57, 101, 101, 101, 101, 54, 52, 98, 53, 53, 100, 51, 57, 97, 50, 49, 57, 50, 57, 57, 50, 97, 50, 55, 52, 102, 99, 49, 97, 56, 51, 54, 98, 97, 51, 99, 50, 51, 97, 51, 102, 101, 101, 98, 98, 100, 52, 53, 52, 100, 52, 52, 50, 51, 54, 52, 51, 99, 101, 56, 48, 101, 50, 97, 57, 97, 99, 57, 52, 102, 97, 53, 52, 99, 97, 52, 57, 102])), (10, tS (g15r0 A (g9r0 A [97, 98, 99]))), (9, tS (g9r0 A [97, 98, 99])), (1, pT 2000 0)], [(2000, bH 2500 x0 (some x1) x2 x3), (2500, bY x4 x5)]⟩
theorem g8R6 (x0 : LN) (x1 x2 : Nat) (x3 : Int) (x4 : Nat) (x5 : LN) : g8D A n (pth 95) K ⟨[(1, pT 2000 0)], [(2000, bH 2500 x0 (some x1) x2 x3), (2500, bY x4 x5)]⟩ = match g9ok A [97, 98, 99] with
    | true => match g15ok A (g9r0 A [97, 98, 99]) with
      | true => match A.sc .eql (g15r0 A (g9r0 A [97, 98, 99])) [100, 100, 97, 102, 51, 53, 97, 49, 57, 51, 54, 49, 55, 97, 98, 97, 99, 99, 52, 49, 55, 51, 52, 57, 97, 101, 50, 48, 52, 49, 51, 49, 49, 50, 101, 54, 102, 97, 52, 101, 56, 57, 97, 57, 55, 101, 97, 50, 48, 97, 57, 101, 101, 101, 101, 54, 52, 98, 53, 53, 100, 51, 57, 97, 50, 49, 57, 50, 57, 57, 50, 97, 50, 55, 52, 102, 99, 49, 97, 56, 51, 54, 98, 97, 51, 99, 50, 51, 97, 51, 102, 101, 101, 98, 98, 100, 52, 53, 52, 100, 52, 52, 50, 51, 54, 52, 51, 99, 101, 56, 48, 101, 50, 97, 57, 97, 99, 57, 52, 102, 97, 53, 52, 99, 97, 52, 57, 102] with
        | true => match g13ok A x0 x1 x2 x3 x4 x5 with
          | true => match g9ok A [97, 98, 99] with
            | true => match A.sc .eql (g13r0 A x0 x1 x2 x3 x4 x5) (g9r0 A [97, 98, 99]) with
              | true => match g14ok A (g13r1 A x0 x1 x2 x3 x4 x5) (g13r2 A x0 x1 x2 x3 x4 x5) (g13r3 A x0 x1 x2 x3 x4 x5) (g13r4 A x0 x1 x2 x3 x4 x5) (g13r5 A x0 x1 x2 x3 x4 x5) (g13r6 A x0 x1 x2 x3 x4 x5) with
                | true => K .normal (g8R6s0 A x0 x1 x2 x3 x4 x5)
                | false => none
              | false => K .normal (g8R6s1 A x0 x1 x2 x3 x4 x5)
            | false => none
          | false => none
        | false => K .normal (g8R6s2 A x0 x1 x2 x3 x4 x5)
      | false => none
    | false => none := by kernel_rfl
def g8R0s0 (A : Ar) : St := ⟨[(0, bO false)], []⟩
theorem g8R0 : g8D A n (pth 2) K ⟨[], []⟩ = K .normal (g8R0s0 A) := by kernel_rfl
def g8R1s0 (A : Ar) : St := ⟨[(1, pT 2000 0), (2, pT 2000 0)], [(2500, bY 0 []), (2000, bH 2500 (g11r0 A) none 0 (g11r1 A))]⟩
theorem g8R1 : g8D A n (pth 5) K ⟨[], []⟩ = match g11ok A with
    | true => K .normal (g8R1s0 A)
    | false => none := by kernel_rfl
def g8R2s0 (A : Ar) (x0 : LN) (x1 : Nat) (x2 : Int) (x3 : Nat) (x4 : LN) : St := ⟨[(4, bO false), (3, pT 2000 0), (1, pT 2000 0)], [(2000, bH 2500 x0 none x1 x2), (2500, bY x3 x4)]⟩
theorem g8R2 (x0 : LN) (x1 : Nat) (x2 : Int) (x3 : Nat) (x4 : LN) : g8D A n (pth 19) K ⟨[(1, pT 2000 0)], [(2000, bH 2500 x0 none x1 x2), (2500, bY x3 x4)]⟩ = K .normal (g8R2s0 A x0 x1 x2 x3 x4) := by kernel_rfl
end
def g8J4 {R : Type} (A : Ar) (n : Nat) (kk : KK R) (x0 : LN) (x1 : Nat) (x2 : Int) (x3 : Nat) (x4 : LN) : Option R :=
  match g12ok A [97] x0 0 x1 x2 x3 x4 with
  | true => match g12ok A [98, 99] (g12r0 A [97] x0 0 x1 x2 x3 x4) (g12r1 A [97] x0 0 x1 x2 x3 x4) (g12r2 A [97] x0 0 x1 x2 x3 x4) (g12r3 A [97] x0 0 x1 x2 x3 x4) (g12r4 A [97] x0 0 x1 x2 x3 x4) (g12r5 A [97] x0 0 x1 x2 x3 x4) with
    | true => match g9ok A [97, 98, 99] with
      | true => match g15ok A (g9r0 A [97, 98, 99]) with
        | true => match A.sc .eql (g15r0 A (g9r0 A [97, 98, 99])) [100, 100, 97, 102, 51, 53, 97, 49, 57, 51, 54, 49, 55, 97, 98, 97, 99, 99, 52, 49, 55, 51, 52, 57, 97, 101, 50, 48, 52, 49, 51, 49, 49, 50, 101, 54, 102, 97, 52, 101, 56, 57, 97, 57, 55, 101, 97, 50, 48, 97, 57, 101, 101, 101, 101, 54, 52, 98, 53, 53, 100, 51, 57, 97, 50, 49, 57, 50, 57, 57, 50, 97, 50, 55, 52, 102, 99, 49, 97, 56, 51, 54, 98, 97, 51, 99, 50, 51, 97, 51, 102, 101, 101, 98, 98, 100, 52, 53, 52, 100, 52, 52, 50, 51, 54, 52, 51, 99, 101, 56, 48, 101, 50, 97, 57, 97, 99, 57, 52, 102, 97, 53, 52, 99, 97, 52, 57, 102] with
          | true => match g13ok A (g8t0 A x0 x1 x2 x3 x4) (g8t1 A x0 x1 x2 x3 x4) (g8t2 A x0 x1 x2 x3 x4) (g8t3 A x0 x1 x2 x3 x4) (g8t4 A x0 x1 x2 x3 x4) (g8t5 A x0 x1 x2 x3 x4) with
            | true => match g9ok A [97, 98, 99] with
              | true => match A.sc .eql (g8t13 A x0 x1 x2 x3 x4) (g9r0 A [97, 98, 99]) with
                | true => match g14ok A (g8t14 A x0 x1 x2 x3 x4) (g8t15 A x0 x1 x2 x3 x4) (g8t16 A x0 x1 x2 x3 x4) (g8t17 A x0 x1 x2 x3 x4) (g8t18 A x0 x1 x2 x3 x4) (g8t19 A x0 x1 x2 x3 x4) with
                  | true => kk (bO (A.ic .eql (g8t20 A x0 x1 x2 x3 x4) 3)) [(2000, ⟨[.nums .u64 88 (g8t21 A x0 x1 x2 x3 x4), .one (.sl 2500 (some (g8t22 A x0 x1 x2 x3 x4)) (g8t23 A x0 x1 x2 x3 x4) 1), .one (.int .i64 (g8t24 A x0 x1 x2 x3 x4))], 45, 1⟩), (2500, ⟨[.nums .u8 (g8t25 A x0 x1 x2 x3 x4) (g8t26 A x0 x1 x2 x3 x4)], 5, 2⟩)]
                  | false => none
                | false => kk (bO false) [(2000, ⟨[.nums .u64 88 (g8t14 A x0 x1 x2 x3 x4), .one (.sl 2500 (some (g8t15 A x0 x1 x2 x3 x4)) (g8t16 A x0 x1 x2 x3 x4) 1), .one (.int .i64 (g8t17 A x0 x1 x2 x3 x4))], 45, 1⟩), (2500, ⟨[.nums .u8 (g8t18 A x0 x1 x2 x3 x4) (g8t19 A x0 x1 x2 x3 x4)], 5, 2⟩)]
              | false => none
            | false => none
          | false => kk (bO false) [(2000, ⟨[.nums .u64 88 (g8t0 A x0 x1 x2 x3 x4), .one (.sl 2500 (some (g8t1 A x0 x1 x2 x3 x4)) (g8t2 A x0 x1 x2 x3 x4) 1), .one (.int .i64 (g8t3 A x0 x1 x2 x3 x4))], 45, 1⟩), (2500, ⟨[.nums .u8 (g8t4 A x0 x1 x2 x3 x4) (g8t5 A x0 x1 x2 x3 x4)], 5, 2⟩)]
        | false => none
      | false => none
    | false => none
  | false => none
theorem g8J4_eq {R : Type} (A : Ar) (n : Nat) (kk : KK R) (s : St) (x0 : LN) (x1 : Nat) (x2 : Int) (x3 : Nat) (x4 : LN) (h : keep g8an 4 s = ⟨[(1, pT 2000 0)], [(2000, bH 2500 x0 none x1 x2), (2500, bY x3 x4)]⟩) :
    g8D A n (pth 15) (g8T kk) s = g8J4 A n kk x0 x1 x2 x3 x4 := by
  have h1 : (g8T kk) .ret (g8R6s0 A (g8t0 A x0 x1 x2 x3 x4) (g8t1 A x0 x1 x2 x3 x4) (g8t2 A x0 x1 x2 x3 x4) (g8t3 A x0 x1 x2 x3 x4) (g8t4 A x0 x1 x2 x3 x4) (g8t5 A x0 x1 x2 x3 x4)) = kk (bO (A.ic .eql (g8t20 A x0 x1 x2 x3 x4) 3)) [(2000, bH 2500 (g8t21 A x0 x1 x2 x3 x4) (some (g8t22 A x0 x1 x2 x3 x4)) (g8t23 A x0 x1 x2 x3 x4) (g8t24 A x0 x1 x2 x3 x4)), (2500, bY (g8t25 A x0 x1 x2 x3 x4) (g8t26 A x0 x1 x2 x3 x4))] := by kernel_rfl
  have h2 := (g8p127 A n _ _).trans h1
  have h3 := (g8Qn A n _ _ _).trans h2
  have h4 : (g8T kk) .ret (g8R6s1 A (g8t0 A x0 x1 x2 x3 x4) (g8t1 A x0 x1 x2 x3 x4) (g8t2 A x0 x1 x2 x3 x4) (g8t3 A x0 x1 x2 x3 x4) (g8t4 A x0 x1 x2 x3 x4) (g8t5 A x0 x1 x2 x3 x4)) = kk (bO false) [(2000, bH 2500 (g8t14 A x0 x1 x2 x3 x4) (some (g8t15 A x0 x1 x2 x3 x4)) (g8t16 A x0 x1 x2 x3 x4) (g8t17 A x0 x1 x2 x3 x4)), (2500, bY (g8t18 A x0 x1 x2 x3 x4) (g8t19 A x0 x1 x2 x3 x4))] := by kernel_rfl
  have h5 := (g8p127 A n _ _).trans h4
  have h6 := (g8Qn A n _ _ _).trans h5
  have h7 : (g8T kk) .ret (g8R6s2 A (g8t0 A x0 x1 x2 x3 x4) (g8t1 A x0 x1 x2 x3 x4) (g8t2 A x0 x1 x2 x3 x4) (g8t3 A x0 x1 x2 x3 x4) (g8t4 A x0 x1 x2 x3 x4) (g8t5 A x0 x1 x2 x3 x4)) = kk (bO false) [(2000, bH 2500 (g8t0 A x0 x1 x2 x3 x4) (some (g8t1 A x0 x1 x2 x3 x4)) (g8t2 A x0 x1 x2 x3 x4) (g8t3 A x0 x1 x2 x3 x4)), (2500, bY (g8t4 A x0 x1 x2 x3 x4) (g8t5 A x0 x1 x2 x3 x4))] := by kernel_rfl
  have h8 := (g8p127 A n _ _).trans h7
  have h9 := (g8Qn A n _ _ _).trans h8
  have h10 := (g8F A n _ 6 _ (g8R5s0 A (g12r0 A [97] x0 0 x1 x2 x3 x4) (g12r1 A [97] x0 0 x1 x2 x3 x4) (g12r2 A [97] x0 0 x1 x2 x3 x4) (g12r3 A [97] x0 0 x1 x2 x3 x4) (g12r4 A [97] x0 0 x1 x2 x3 x4) (g12r5 A [97] x0 0 x1 x2 x3 x4)) _ (by kernel_rfl) (by kernel_rfl)).trans (g8R6 A n (g8Q A n (pth 127) (g8T kk)) (g8t0 A x0 x1 x2 x3 x4) (g8t1 A x0 x1 x2 x3 x4) (g8t2 A x0 x1 x2 x3 x4) (g8t3 A x0 x1 x2 x3 x4) (g8t4 A x0 x1 x2 x3 x4) (g8t5 A x0 x1 x2 x3 x4))
  rw [h3, h6, h9] at h10
  have h11 := (g8p63 A n _ _).trans h10
  have h12 := (g8Qn A n _ _ _).trans h11
  have h13 := (g8F A n _ 5 _ (g8R4s0 A x0 x1 x2 x3 x4) _ (by kernel_rfl) (by kernel_rfl)).trans (g8R5 A n (g8Q A n (pth 63) (g8T kk)) (g12r0 A [97] x0 0 x1 x2 x3 x4) (g12r1 A [97] x0 0 x1 x2 x3 x4) (g12r2 A [97] x0 0 x1 x2 x3 x4) (g12r3 A [97] x0 0 x1 x2 x3 x4) (g12r4 A [97] x0 0 x1 x2 x3 x4) (g12r5 A [97] x0 0 x1 x2 x3 x4))
  rw [h12] at h13
  have h14 := (g8p31 A n _ _).trans h13
  have h15 := (g8Qn A n _ _ _).trans h14
  have h16 := (g8F A n _ 4 _ ⟨[(1, pT 2000 0)], [(2000, bH 2500 x0 none x1 x2), (2500, bY x3 x4)]⟩ _ (by kernel_rfl) (by kernel_rfl)).trans (g8R4 A n (g8Q A n (pth 31) (g8T kk)) x0 x1 x2 x3 x4)
  rw [h15] at h16
  have h17 := (g8p15 A n _ _).trans h16
  exact (g8F A n _ 4 _ _ ⟨[(1, pT 2000 0)], [(2000, bH 2500 x0 none x1 x2), (2500, bY x3 x4)]⟩ (by kernel_rfl) (h.trans (by kernel_rfl))).trans (h17.trans (by kernel_rfl))
def g8 {R : Type} (A : Ar) (n : Nat) (kk : KK R) : Option R :=
  match g11ok A with
  | true => g8J4 A n kk (g11r0 A) 0 (g11r1 A) 0 []
  | false => none
theorem g8_eq {R : Type} (A : Ar) (n : Nat) (kk : KK R) :
    funD A gtys (g8O A) g8an n (bodyOf Try.f8) g8res [] [] kk = g8 A n kk := by
  have h1 := (g8Qn A n _ _ _).trans (g8J4_eq A n kk (g8R2s0 A (g11r0 A) 0 (g11r1 A) 0 []) (g11r0 A) 0 (g11r1 A) 0 [] (by kernel_rfl))
  have h2 := (g8p59 A n _ _).trans h1
  have h3 := (g8p27 A n (g8Q A n (pth 15) (g8T kk)) (g8R2s0 A (g11r0 A) 0 (g11r1 A) 0 []) false (by kernel_rfl)).trans h2
  have h4 := (g8Qn A n _ _ _).trans h3
  have h5 := (g8F A n _ 2 _ (g8R1s0 A) _ (by kernel_rfl) (by kernel_rfl)).trans (g8R2 A n (g8Q A n (pth 27) (g8Q A n (pth 15) (g8T kk))) (g11r0 A) 0 (g11r1 A) 0 [])
  rw [h4] at h5
  have h6 := (g8p11 A n _ _).trans h5
  have h7 := (g8p7 A n _ _).trans h6
  have h8 := (g8Qn A n _ _ _).trans h7
  have h9 := (g8F A n _ 1 _ (g8R0s0 A) _ (by kernel_rfl) (by kernel_rfl)).trans (g8R1 A n (g8Q A n (pth 7) (g8T kk)) )
  rw [h8] at h9
  have h10 := (g8p3 A n _ _).trans h9
  have h11 := (g8Qn A n _ _ _).trans h10
  have h12 := (g8F A n _ 0 _ ⟨[], []⟩ _ (by kernel_rfl) (by kernel_rfl)).trans (g8R0 A n (g8Q A n (pth 3) (g8T kk)) )
  rw [h11] at h12
  have h13 := (g8p1 A n _ _).trans h12
  exact (show funD A gtys (g8O A) g8an n (bodyOf Try.f8) g8res [] [] kk = g8D A n (pth 1) (g8T kk) ⟨[], []⟩ from by kernel_rfl).trans (h13.trans (by kernel_rfl))
def g8is (o : Option AV) : Bool := match o with
  | some (.v (.cell (.bool _))) => true
  | _ => false
def g8g0 (o : Option AV) : Bool := match o with
  | some (.v (.cell (.bool x))) => x
  | _ => false
theorem g8is_spec {o : Option AV} (h : g8is o = true) : o = some (.v (.cell (.bool (g8g0 o)))) := by
  unfold g8is at h
  split at h
  · rfl
  · cases h
def g8v (A : Ar) : Option AV := g8 A (100000) (fun v _ => some v)
def g8ok (A : Ar) : Bool := g8is (g8v A )
def g8r0 (A : Ar) : Bool := g8g0 (g8v A )
theorem g8ok_spec {A : Ar} (h : g8ok A = true) : g8v A = some (.v (.cell (.bool (g8r0 A)))) := g8is_spec h
def g8o (A : Ar) (args : List AV) : Option (Bool × AV) := match args with
  | [] => some (g8ok A , .v (.cell (.bool (g8r0 A))))
  | _ => none
theorem g8o_sound : ∀ args v, g8o realA args = some (true, v) → Fn1 Try.prog 8 args v := by
  intro args v h
  unfold g8o at h
  split at h
  · simp only [Option.some.injEq, Prod.mk.injEq] at h
    obtain ⟨hc, h⟩ := h
    subst h
    · skip
      exact fn1_of mixed gtysOK g8O_sound g8O_det (an := g8an) (n := 100000) Try.func8 (c := bodyOf Try.f8) rfl (by kernel_rfl) Try.call8 (Nat.le_of_ble_eq_true rfl) (fun b => rfl) (fun _ => (g8_eq realA (100000) (fun v _ => some v) ).trans (show g8v realA = _ from g8ok_spec hc))
  · cases h
def g16O (A : Ar) : Orc := orcOf []
theorem g16O_sound : OSound Try.prog (g16O realA) := orc_sound fun f g hm args v hv => by
  cases hm
theorem g16O_det : ODet (g16O realA) := orc_det _
def g16an : Ann := [(0, ([0], [])), (1, ([0], [])), (2, ([0, 3], [2000])), (3, ([0, 3, 4], [2000])), (4, ([0, 3, 4], [2000])), (5, ([0, 3, 4], [2000])), (6, ([3], [2000]))]
def g16res : List ResultVar := [.tmp 2]
noncomputable def g16D {R : Type} (A : Ar) (n : Nat) (p : List Bool) (K : Ex → St → Option R) (s : St) : Option R := codeD A gtys (g16O A) g16an n (sub (bodyOf Try.f16) p) K s
noncomputable def g16V {R : Type} (A : Ar) (n : Nat) (p : List Bool) (m : Nat) (K : Ex → St → Option R) (s : St) : Option R := loopD (fun K' s'' => codeD A gtys (g16O A) g16an n (sub (bodyOf Try.f16) p) K' s'') m K s
noncomputable def g16Q {R : Type} (A : Ar) (n : Nat) (p : List Bool) (K : Ex → St → Option R) : Ex → St → Option R := seqC (g16D A n p K) K
noncomputable def g16W {R : Type} (A : Ar) (n : Nat) (p : List Bool) (m : Nat) (K : Ex → St → Option R) : Ex → St → Option R := seqC (g16V A n p m K) K
noncomputable def g16T {R : Type} (kk : KK R) : Ex → St → Option R := finD gtys g16res kk
theorem g16Qn {R : Type} (A : Ar) (n : Nat) (p : List Bool) (K : Ex → St → Option R) (s : St) : g16Q A n p K .normal s = g16D A n p K s := rfl
theorem g16Qe {R : Type} (A : Ar) (n : Nat) (p : List Bool) (K : Ex → St → Option R) (i : Nat) (s : St) : g16Q A n p K (.exit i) s = K (.exit i) s := rfl
theorem g16Wn {R : Type} (A : Ar) (n : Nat) (p : List Bool) (m : Nat) (K : Ex → St → Option R) (s : St) : g16W A n p m K .normal s = g16V A n p m K s := rfl
theorem g16We {R : Type} (A : Ar) (n : Nat) (p : List Bool) (m : Nat) (K : Ex → St → Option R) (i : Nat) (s : St) : g16W A n p m K (.exit i) s = K (.exit i) s := rfl
theorem g16Vs {R : Type} (A : Ar) (n : Nat) (p : List Bool) (m : Nat) (K : Ex → St → Option R) (s : St) : g16V A n p (m + 1) K s = g16D A n p (g16W A n p m K) s := rfl
theorem g16F {R : Type} (A : Ar) (n : Nat) (p : List Bool) (i : Nat) (K : Ex → St → Option R) (s s' : St) (hf : firstReg (sub (bodyOf Try.f16) p) = some i) (h : keep g16an i s = keep g16an i s') : g16D A n p K s = g16D A n p K s' := codeD_first hf h K
section
variable {R : Type} (A : Ar) (n : Nat) (K : Ex → St → Option R) (s : St)
theorem g16p1 : g16D A n (pth 1) K s = g16D A n (pth 2) (g16Q A n (pth 3) K) s := by kernel_rfl
theorem g16p3 : g16D A n (pth 3) K s = g16D A n (pth 5) (g16Q A n (pth 7) K) s := by kernel_rfl
theorem g16p7 : g16D A n (pth 7) K s = g16D A n (pth 11) (g16Q A n (pth 15) K) s := by kernel_rfl
theorem g16p11 : g16D A n (pth 11) K s = g16D A n (pth 19) (g16Q A n (pth 27) K) s := by kernel_rfl
theorem g16p27 : g16D A n (pth 27) K s = g16D A n (pth 43) (blockK 0 K) s := by kernel_rfl
theorem g16p43 : g16D A n (pth 43) K s = g16V A n (pth 75) n K s := by kernel_rfl
theorem g16p75 : g16D A n (pth 75) K s = g16D A n (pth 139) (g16Q A n (pth 203) K) s := by kernel_rfl
theorem g16p139 : g16D A n (pth 139) K s = g16D A n (pth 267) (g16Q A n (pth 395) K) s := by kernel_rfl
theorem g16p395 (t : Bool) : ev s (.tmp 7) = some (.v (.cell (.bool t))) → g16D A n (pth 395) K s = (match t with
    | true => g16D A n (pth 651) K s
    | false => g16D A n (pth 907) K s) := codeD_cond t
theorem g16p651 : g16D A n (pth 651) K s = K .normal s := by kernel_rfl
theorem g16p907 : g16D A n (pth 907) K s = K (.exit 0) s := by kernel_rfl
theorem g16p203 : g16D A n (pth 203) K s = g16D A n (pth 331) (g16Q A n (pth 459) K) s := by kernel_rfl
theorem g16p331 : g16D A n (pth 331) K s = g16D A n (pth 587) (blockK 1 K) s := by kernel_rfl
theorem g16p15 : g16D A n (pth 15) K s = g16D A n (pth 23) (g16Q A n (pth 31) K) s := by kernel_rfl
theorem g16p31 : g16D A n (pth 31) K s = K .ret s := by kernel_rfl
def g16R5s0 (A : Ar) (x0 x1 : Nat) (x2 : Int) (x3 : Nat) (x4 : LN) : St := ⟨[(18, (.v (.cell (.ptr 2000 0 (some ⟨A.toN x2, 1, x1, A.toN x2, 0, 1⟩))))), (17, u8v (A.n2n .u8 (A.nsh .shr .u64 x0 (A.toN (A.ib .sub .i64 56 (A.ib .mul .i64 8 x2)))))), (16, u64v (A.nsh .shr .u64 x0 (A.toN (A.ib .sub .i64 56 (A.ib .mul .i64 8 x2))))), (15, i6 (A.ib .sub .i64 56 (A.ib .mul .i64 8 x2))), (14, i6 (A.ib .mul .i64 8 x2)), (13, i6 x2), (12, u64v x0), (11, i6 x2), (10, sL 2000 none x1 1), (0, u64v x0), (3, sL 2000 none x1 1), (4, i6 x2)], [(2000, bY x3 (x4.set (A.toN x2) (A.n2n .u8 (A.nsh .shr .u64 x0 (A.toN (A.ib .sub .i64 56 (A.ib .mul .i64 8 x2)))))))]⟩
theorem g16R5 (x0 x1 : Nat) (x2 : Int) (x3 : Nat) (x4 : LN) : g16D A n (pth 587) K ⟨[(0, u64v x0), (3, sL 2000 none x1 1), (4, i6 x2)], [(2000, bY x3 x4)]⟩ = match A.neg (A.ib .sub .i64 56 (A.ib .mul .i64 8 x2)) with
    | true => none
    | false => match A.neg x2 with
      | true => none
      | false => match A.lt (A.toN x2) x1 with
        | true => K .normal (g16R5s0 A x0 x1 x2 x3 x4)
        | false => none := by kernel_rfl
def g16R4s0 (A : Ar) (x0 x1 : Nat) (x2 : Int) (x3 : Nat) (x4 : LN) : St := ⟨[(4, i6 (A.ib .add .i64 x2 1)), (9, i6 (A.ib .add .i64 x2 1)), (8, i6 x2), (0, u64v x0), (3, sL 2000 none x1 1), (4, i6 x2)], [(2000, bY x3 x4)]⟩
theorem g16R4 (x0 x1 : Nat) (x2 : Int) (x3 : Nat) (x4 : LN) : g16D A n (pth 459) K ⟨[(0, u64v x0), (3, sL 2000 none x1 1), (4, i6 x2)], [(2000, bY x3 x4)]⟩ = K .normal (g16R4s0 A x0 x1 x2 x3 x4) := by kernel_rfl
def g16R3s0 (A : Ar) (x0 x1 : Nat) (x2 : Int) (x3 : Nat) (x4 : LN) : St := ⟨[(7, bO (A.ic .lss x2 8)), (6, i6 x2), (0, u64v x0), (3, sL 2000 none x1 1), (4, i6 x2)], [(2000, bY x3 x4)]⟩
theorem g16R3 (x0 x1 : Nat) (x2 : Int) (x3 : Nat) (x4 : LN) : g16D A n (pth 267) K ⟨[(0, u64v x0), (3, sL 2000 none x1 1), (4, i6 x2)], [(2000, bY x3 x4)]⟩ = K .normal (g16R3s0 A x0 x1 x2 x3 x4) := by kernel_rfl
def g16R6s0 (A : Ar) (x0 x1 : Nat) (x2 : LN) : St := ⟨[(2, tS (x2.take x0)), (20, tS (x2.take x0)), (19, sL 2000 none x0 1), (3, sL 2000 none x0 1)], [(2000, bY x1 x2)]⟩
theorem g16R6 (x0 x1 : Nat) (x2 : LN) : g16D A n (pth 23) K ⟨[(3, sL 2000 none x0 1)], [(2000, bY x1 x2)]⟩ = K .normal (g16R6s0 A x0 x1 x2) := by kernel_rfl
def g16R0s0 (A : Ar) (x0 : Nat) : St := ⟨[(2, tS []), (0, u64v x0)], []⟩
theorem g16R0 (x0 : Nat) : g16D A n (pth 2) K ⟨[(0, u64v x0)], []⟩ = K .normal (g16R0s0 A x0) := by kernel_rfl
def g16R1s0 (A : Ar) (x0 : Nat) : St := ⟨[(3, sL 2000 none 8 1), (5, sL 2000 none 8 1), (0, u64v x0)], [(2000, bY 8 (List.replicate 8 0))]⟩
theorem g16R1 (x0 : Nat) : g16D A n (pth 5) K ⟨[(0, u64v x0)], []⟩ = match A.le 8 8 with
    | true => match A.le 8 140737488355328 with
      | true => K .normal (g16R1s0 A x0)
      | false => none
    | false => none := by kernel_rfl
def g16R2s0 (A : Ar) (x0 x1 x2 : Nat) (x3 : LN) : St := ⟨[(4, i6 0), (0, u64v x0), (3, sL 2000 none x1 1)], [(2000, bY x2 x3)]⟩
theorem g16R2 (x0 x1 x2 : Nat) (x3 : LN) : g16D A n (pth 19) K ⟨[(0, u64v x0), (3, sL 2000 none x1 1)], [(2000, bY x2 x3)]⟩ = K .normal (g16R2s0 A x0 x1 x2 x3) := by kernel_rfl
end
def g16J5 {R : Type} (A : Ar) (n : Nat) (kk : KK R) (lg16L3 : Nat → Nat → Int → Nat → LN → Option R) (x0 x1 : Nat) (x2 : Int) (x3 : Nat) (x4 : LN) : Option R :=
  match A.neg (A.ib .sub .i64 56 (A.ib .mul .i64 8 x2)) with
  | true => none
  | false => match A.neg x2 with
    | true => none
    | false => match A.lt (A.toN x2) x1 with
      | true => lg16L3 x0 x1 (A.ib .add .i64 x2 1) x3 (x4.set (A.toN x2) (A.n2n .u8 (A.nsh .shr .u64 x0 (A.toN (A.ib .sub .i64 56 (A.ib .mul .i64 8 x2))))))
      | false => none
abbrev u49 (A : Ar) (x4 : LN) (x2 : Int) (x0 : Nat) := x4.set (A.toN x2) (A.n2n .u8 (A.nsh .shr .u64 x0 (A.toN (A.ib .sub .i64 56 (A.ib .mul .i64 8 x2)))))
theorem g16J5_eq {R : Type} (A : Ar) (n : Nat) (kk : KK R) (m0 : Nat) (lg16L3 : Nat → Nat → Int → Nat → LN → Option R)
    (hg16L3 : ∀ (s : St) (x0 x1 : Nat) (x2 : Int) (x3 : Nat) (x4 : LN), keep g16an 3 s = ⟨[(0, u64v x0), (3, sL 2000 none x1 1), (4, i6 x2)], [(2000, bY x3 x4)]⟩ → g16V A n (pth 75) m0 (blockK 0 (g16Q A n (pth 15) (g16T kk))) s = lg16L3 x0 x1 x2 x3 x4) (s : St) (x0 x1 : Nat) (x2 : Int) (x3 : Nat) (x4 : LN) (h : keep g16an 5 s = ⟨[(0, u64v x0), (3, sL 2000 none x1 1), (4, i6 x2)], [(2000, bY x3 x4)]⟩) :
    g16D A n (pth 203) (g16W A n (pth 75) m0 (blockK 0 (g16Q A n (pth 15) (g16T kk)))) s = g16J5 A n kk lg16L3 x0 x1 x2 x3 x4 := by
  have h1 := (g16Wn A n _ _ _ _).trans (hg16L3 (g16R4s0 A x0 x1 x2 x3 (u49 A x4 x2 x0)) x0 x1 (A.ib .add .i64 x2 1) x3 (u49 A x4 x2 x0) (by kernel_rfl))
  have h2 := (g16F A n _ 4 _ (g16R5s0 A x0 x1 x2 x3 x4) _ (by kernel_rfl) (by kernel_rfl)).trans (g16R4 A n (g16W A n (pth 75) m0 (blockK 0 (g16Q A n (pth 15) (g16T kk)))) x0 x1 x2 x3 (u49 A x4 x2 x0))
  rw [h1] at h2
  have h3 := (g16Qn A n _ _ _).trans h2
  have h4 := (blockK_n 1 _ _).trans h3
  have h5 := (g16F A n _ 5 _ ⟨[(0, u64v x0), (3, sL 2000 none x1 1), (4, i6 x2)], [(2000, bY x3 x4)]⟩ _ (by kernel_rfl) (by kernel_rfl)).trans (g16R5 A n (blockK 1 (g16Q A n (pth 459) (g16W A n (pth 75) m0 (blockK 0 (g16Q A n (pth 15) (g16T kk)))))) x0 x1 x2 x3 x4)
  rw [h4] at h5
  have h6 := (g16p331 A n _ _).trans h5
  have h7 := (g16p203 A n _ _).trans h6
  exact (g16F A n _ 5 _ _ ⟨[(0, u64v x0), (3, sL 2000 none x1 1), (4, i6 x2)], [(2000, bY x3 x4)]⟩ (by kernel_rfl) (h.trans (by kernel_rfl))).trans (h7.trans (by kernel_rfl))
def g16L3 {R : Type} (A : Ar) (n : Nat) (kk : KK R) : Nat → Nat → Nat → Int → Nat → LN → Option R
  | 0, _, _, _, _, _ => none
  | m + 1, x0, x1, x2, x3, x4 => match A.ic .lss x2 8 with
  | true => g16J5 A n kk (g16L3 A n kk m) x0 x1 x2 x3 x4
  | false => kk (tS (x4.take x1)) [(2000, ⟨[.nums .u8 x3 x4], 5, 2⟩)]
theorem g16L3_eq {R : Type} (A : Ar) (n : Nat) (kk : KK R) (m : Nat) (s : St) (x0 x1 : Nat) (x2 : Int) (x3 : Nat) (x4 : LN) (h : keep g16an 3 s = ⟨[(0, u64v x0), (3, sL 2000 none x1 1), (4, i6 x2)], [(2000, bY x3 x4)]⟩) :
    g16V A n (pth 75) m (blockK 0 (g16Q A n (pth 15) (g16T kk))) s = g16L3 A n kk m x0 x1 x2 x3 x4 := by
  induction m generalizing s x0 x1 x2 x3 x4 with
  | zero => rfl
  | succ m ih =>
    have h1 := (g16Qn A n _ _ _).trans (g16J5_eq A n kk m (g16L3 A n kk m) ih (g16R3s0 A x0 x1 x2 x3 x4) x0 x1 x2 x3 x4 (by kernel_rfl))
    have h2 := (g16p651 A n _ _).trans h1
    have h3 : (g16T kk) .ret (g16R6s0 A x1 x3 x4) = kk (tS (x4.take x1)) [(2000, bY x3 x4)] := by kernel_rfl
    have h4 := (g16p31 A n _ _).trans h3
    have h5 := (g16Qn A n _ _ _).trans h4
    have h6 := (g16F A n _ 6 _ (g16R3s0 A x0 x1 x2 x3 x4) _ (by kernel_rfl) (by kernel_rfl)).trans (g16R6 A n (g16Q A n (pth 31) (g16T kk)) x1 x3 x4)
    rw [h5] at h6
    have h7 := (g16p15 A n _ _).trans h6
    have h8 := (g16Qn A n _ _ _).trans h7
    have h9 := (blockK_hit 0 _ _).trans h8
    have h10 := (g16We A n (pth 75) m _ _ _).trans h9
    have h11 := (g16Qe A n (pth 203) _ _ _).trans h10
    have h12 := (g16p907 A n _ _).trans h11
    have h13 := g16p395 A n (g16Q A n (pth 203) (g16W A n (pth 75) m (blockK 0 (g16Q A n (pth 15) (g16T kk))))) (g16R3s0 A x0 x1 x2 x3 x4) (A.ic .lss x2 8) (by kernel_rfl)
    rw [h2, h12] at h13
    have h14 := (g16Qn A n _ _ _).trans h13
    have h15 := (g16F A n _ 3 _ ⟨[(0, u64v x0), (3, sL 2000 none x1 1), (4, i6 x2)], [(2000, bY x3 x4)]⟩ _ (by kernel_rfl) (by kernel_rfl)).trans (g16R3 A n (g16Q A n (pth 395) (g16Q A n (pth 203) (g16W A n (pth 75) m (blockK 0 (g16Q A n (pth 15) (g16T kk)))))) x0 x1 x2 x3 x4)
    rw [h14] at h15
    have h16 := (g16p139 A n _ _).trans h15
    have h17 := (g16p75 A n _ _).trans h16
    exact (loopD_first (s' := ⟨[(0, u64v x0), (3, sL 2000 none x1 1), (4, i6 x2)], [(2000, bY x3 x4)]⟩) (id := 3) (by kernel_rfl) (h.trans (by kernel_rfl)) _).trans ((g16Vs A n _ m _ _).trans (h17.trans (by kernel_rfl)))
def g16 {R : Type} (A : Ar) (n : Nat) (kk : KK R) (a : Nat) : Option R :=
  match A.le 8 8 with
  | true => match A.le 8 140737488355328 with
    | true => g16L3 A n kk n a 8 0 8 (List.replicate 8 0)
    | false => none
  | false => none
abbrev u50 := List.replicate 8 0
theorem g16_eq {R : Type} (A : Ar) (n : Nat) (kk : KK R) (a : Nat) :
    funD A gtys (g16O A) g16an n (bodyOf Try.f16) g16res [(u64v a)] [] kk = g16 A n kk a := by
  have h1 := (g16p43 A n _ _).trans (g16L3_eq A n kk n (g16R2s0 A a 8 8 (u50)) a 8 0 8 (u50) (by kernel_rfl))
  have h2 := (g16p27 A n _ _).trans h1
  have h3 := (g16Qn A n _ _ _).trans h2
  have h4 := (g16F A n _ 2 _ (g16R1s0 A a) _ (by kernel_rfl) (by kernel_rfl)).trans (g16R2 A n (g16Q A n (pth 27) (g16Q A n (pth 15) (g16T kk))) a 8 8 (u50))
  rw [h3] at h4
  have h5 := (g16p11 A n _ _).trans h4
  have h6 := (g16p7 A n _ _).trans h5
  have h7 := (g16Qn A n _ _ _).trans h6
  have h8 := (g16F A n _ 1 _ (g16R0s0 A a) _ (by kernel_rfl) (by kernel_rfl)).trans (g16R1 A n (g16Q A n (pth 7) (g16T kk)) a)
  rw [h7] at h8
  have h9 := (g16p3 A n _ _).trans h8
  have h10 := (g16Qn A n _ _ _).trans h9
  have h11 := (g16F A n _ 0 _ ⟨[(0, u64v a)], []⟩ _ (by kernel_rfl) (by kernel_rfl)).trans (g16R0 A n (g16Q A n (pth 3) (g16T kk)) a)
  rw [h10] at h11
  have h12 := (g16p1 A n _ _).trans h11
  exact (show funD A gtys (g16O A) g16an n (bodyOf Try.f16) g16res [(u64v a)] [] kk = g16D A n (pth 1) (g16T kk) ⟨[(0, u64v a)], []⟩ from by kernel_rfl).trans (h12.trans (by kernel_rfl))
def g16is (o : Option AV) : Bool := match o with
  | some (.v (.cell (.str _))) => true
  | _ => false
def g16g0 (o : Option AV) : LN := match o with
  | some (.v (.cell (.str x))) => x
  | _ => []
theorem g16is_spec {o : Option AV} (h : g16is o = true) : o = some (.v (.cell (.str (g16g0 o)))) := by
  unfold g16is at h
  split at h
  · rfl
  · cases h
def g16v (A : Ar) (a : Nat) : Option AV := g16 A (100000) (fun v _ => some v) a
def g16ok (A : Ar) (a : Nat) : Bool := g16is (g16v A a)
def g16r0 (A : Ar) (a : Nat) : LN := g16g0 (g16v A a)
theorem g16ok_spec {A : Ar} {a} (h : g16ok A a = true) : g16v A a = some (.v (.cell (.str (g16r0 A a)))) := g16is_spec h
def g16o (A : Ar) (args : List AV) : Option (Bool × AV) := match args with
  | [.v (.cell (.nat .u64 a))] => some (g16ok A a, .v (.cell (.str (g16r0 A a))))
  | _ => none
theorem g16o_sound : ∀ args v, g16o realA args = some (true, v) → Fn1 Try.prog 16 args v := by
  intro args v h
  unfold g16o at h
  split at h
  · rename_i a
    simp only [Option.some.injEq, Prod.mk.injEq] at h
    obtain ⟨hc, h⟩ := h
    subst h
    · skip
      exact fn1_of mixed gtysOK g16O_sound g16O_det (an := g16an) (n := 100000) Try.func16 (c := bodyOf Try.f16) rfl (by kernel_rfl) Try.call16 (Nat.le_of_ble_eq_true rfl) (fun b => rfl) (fun _ => (g16_eq realA (100000) (fun v _ => some v) a).trans (show g16v realA a = _ from g16ok_spec hc))
  · cases h
def g22O (A : Ar) : Orc := orcOf []
theorem g22O_sound : OSound Try.prog (g22O realA) := orc_sound fun f g hm args v hv => by
  cases hm
theorem g22O_det : ODet (g22O realA) := orc_det _
def g22an : Ann := [(0, ([0, 1], [])), (1, ([0, 1], []))]
def g22res : List ResultVar := [.tmp 4]
noncomputable def g22D {R : Type} (A : Ar) (n : Nat) (p : List Bool) (K : Ex → St → Option R) (s : St) : Option R := codeD A gtys (g22O A) g22an n (sub (bodyOf Try.f22) p) K s
noncomputable def g22Q {R : Type} (A : Ar) (n : Nat) (p : List Bool) (K : Ex → St → Option R) : Ex → St → Option R := seqC (g22D A n p K) K
noncomputable def g22T {R : Type} (kk : KK R) : Ex → St → Option R := finD gtys g22res kk
theorem g22Qn {R : Type} (A : Ar) (n : Nat) (p : List Bool) (K : Ex → St → Option R) (s : St) : g22Q A n p K .normal s = g22D A n p K s := rfl
theorem g22F {R : Type} (A : Ar) (n : Nat) (p : List Bool) (i : Nat) (K : Ex → St → Option R) (s s' : St) (hf : firstReg (sub (bodyOf Try.f22) p) = some i) (h : keep g22an i s = keep g22an i s') : g22D A n p K s = g22D A n p K s' := codeD_first hf h K
section
variable {R : Type} (A : Ar) (n : Nat) (K : Ex → St → Option R) (s : St)
theorem g22p1 : g22D A n (pth 1) K s = g22D A n (pth 2) (g22Q A n (pth 3) K) s := by kernel_rfl
theorem g22p3 : g22D A n (pth 3) K s = g22D A n (pth 5) (g22Q A n (pth 7) K) s := by kernel_rfl
theorem g22p7 : g22D A n (pth 7) K s = K .ret s := by kernel_rfl
def g22R0s0 (A : Ar) (x0 x1 : Nat) : St := ⟨[(4, u64v 0), (0, u64v x0), (1, u64v x1)], []⟩
theorem g22R0 (x0 x1 : Nat) : g22D A n (pth 2) K ⟨[(0, u64v x0), (1, u64v x1)], []⟩ = K .normal (g22R0s0 A x0 x1) := by kernel_rfl
def g22R1s0 (A : Ar) (x0 x1 : Nat) : St := ⟨[(4, u64v (A.nb .or .u64 (A.nsh .shr .u64 x0 x1) (A.nsh .shl .u64 x0 (A.nb .sub .u64 64 x1)))), (12, u64v (A.nb .or .u64 (A.nsh .shr .u64 x0 x1) (A.nsh .shl .u64 x0 (A.nb .sub .u64 64 x1)))), (11, u64v (A.nsh .shl .u64 x0 (A.nb .sub .u64 64 x1))), (10, u64v (A.nb .sub .u64 64 x1)), (9, u64v x1), (8, u64v x0), (7, u64v (A.nsh .shr .u64 x0 x1)), (6, u64v x1), (5, u64v x0), (0, u64v x0), (1, u64v x1)], []⟩
theorem g22R1 (x0 x1 : Nat) : g22D A n (pth 5) K ⟨[(0, u64v x0), (1, u64v x1)], []⟩ = K .normal (g22R1s0 A x0 x1) := by kernel_rfl
end
def g22 {R : Type} (A : Ar) (n : Nat) (kk : KK R) (a b : Nat) : Option R :=
  kk (u64v (A.nb .or .u64 (A.nsh .shr .u64 a b) (A.nsh .shl .u64 a (A.nb .sub .u64 64 b)))) []
theorem g22_eq {R : Type} (A : Ar) (n : Nat) (kk : KK R) (a b : Nat) :
    funD A gtys (g22O A) g22an n (bodyOf Try.f22) g22res [(u64v a), (u64v b)] [] kk = g22 A n kk a b := by
  have h1 : (g22T kk) .ret (g22R1s0 A a b) = kk (u64v (A.nb .or .u64 (A.nsh .shr .u64 a b) (A.nsh .shl .u64 a (A.nb .sub .u64 64 b)))) [] := by kernel_rfl
  have h2 := (g22p7 A n _ _).trans h1
  have h3 := (g22Qn A n _ _ _).trans h2
  have h4 := (g22F A n _ 1 _ (g22R0s0 A a b) _ (by kernel_rfl) (by kernel_rfl)).trans (g22R1 A n (g22Q A n (pth 7) (g22T kk)) a b)
  rw [h3] at h4
  have h5 := (g22p3 A n _ _).trans h4
  have h6 := (g22Qn A n _ _ _).trans h5
  have h7 := (g22F A n _ 0 _ ⟨[(0, u64v a), (1, u64v b)], []⟩ _ (by kernel_rfl) (by kernel_rfl)).trans (g22R0 A n (g22Q A n (pth 3) (g22T kk)) a b)
  rw [h6] at h7
  have h8 := (g22p1 A n _ _).trans h7
  exact (show funD A gtys (g22O A) g22an n (bodyOf Try.f22) g22res [(u64v a), (u64v b)] [] kk = g22D A n (pth 1) (g22T kk) ⟨[(0, u64v a), (1, u64v b)], []⟩ from by kernel_rfl).trans (h8.trans (by kernel_rfl))
def g22is (o : Option AV) : Bool := match o with
  | some (.v (.cell (.nat .u64 _))) => true
  | _ => false
def g22g0 (o : Option AV) : Nat := match o with
  | some (.v (.cell (.nat .u64 x))) => x
  | _ => 0
theorem g22is_spec {o : Option AV} (h : g22is o = true) : o = some (.v (.cell (.nat .u64 (g22g0 o)))) := by
  unfold g22is at h
  split at h
  · rfl
  · cases h
def g22v (A : Ar) (a b : Nat) : Option AV := g22 A (100000) (fun v _ => some v) a b
def g22ok (A : Ar) (a b : Nat) : Bool := g22is (g22v A a b)
def g22r0 (A : Ar) (a b : Nat) : Nat := g22g0 (g22v A a b)
theorem g22ok_spec {A : Ar} {a b} (h : g22ok A a b = true) : g22v A a b = some (.v (.cell (.nat .u64 (g22r0 A a b)))) := g22is_spec h
def g22o (A : Ar) (args : List AV) : Option (Bool × AV) := match args with
  | [.v (.cell (.nat .u64 a)), .v (.cell (.nat .u64 b))] => some (g22ok A a b, .v (.cell (.nat .u64 (g22r0 A a b))))
  | _ => none
theorem g22o_sound : ∀ args v, g22o realA args = some (true, v) → Fn1 Try.prog 22 args v := by
  intro args v h
  unfold g22o at h
  split at h
  · rename_i a b
    simp only [Option.some.injEq, Prod.mk.injEq] at h
    obtain ⟨hc, h⟩ := h
    subst h
    · skip
      exact fn1_of mixed gtysOK g22O_sound g22O_det (an := g22an) (n := 100000) Try.func22 (c := bodyOf Try.f22) rfl (by kernel_rfl) Try.call22 (Nat.le_of_ble_eq_true rfl) (fun b => rfl) (fun _ => (g22_eq realA (100000) (fun v _ => some v) a b).trans (show g22v realA a b = _ from g22ok_spec hc))
  · cases h
end Go.Sx
