import Derived.Test.YtcgjapkajaflpaaSxR04a
namespace Go.Sx
open Go.Proofs
set_option linter.unusedVariables false
theorem SxR04bmt {α : Type} {c : Bool} (h : c = true) (a b : α) : (match (generalizing := false) c with | true => a | false => b) = a := by subst h; rfl
theorem SxR04bmf {α : Type} {c : Bool} (h : c = false) (a b : α) : (match (generalizing := false) c with | true => a | false => b) = b := by subst h; rfl
def g9O (A : Ar) : Orc := orcOf [(16, g16o A), (10, g10o A), (12, g12o A), (14, g14o A)]
theorem g9O_sound : OSound Try.prog (g9O realA) := orc_sound fun f g hm args v hv => by
  simp only [List.mem_cons, List.not_mem_nil, or_false, Prod.mk.injEq] at hm
  rcases hm with ⟨rfl, rfl⟩ | ⟨rfl, rfl⟩ | ⟨rfl, rfl⟩ | ⟨rfl, rfl⟩
  · exact g16o_sound _ _ hv
  · exact g10o_sound _ _ hv
  · exact g12o_sound _ _ hv
  · exact g14o_sound _ _ hv
theorem g9O_det : ODet (g9O realA) := orc_det _
def g9an : Ann := [(0, ([], [])), (1, ([], [])), (2, ([1], []))]
def g9res : List ResultVar := [.tmp 0]
noncomputable def g9D {R : Type} (A : Ar) (n : Nat) (p : List Bool) (K : Ex → St → Option R) (s : St) : Option R := codeD A gtys (g9O A) g9an n (sub (bodyOf Try.f9) p) K s
noncomputable def g9Q {R : Type} (A : Ar) (n : Nat) (p : List Bool) (K : Ex → St → Option R) : Ex → St → Option R := seqC (g9D A n p K) K
noncomputable def g9T {R : Type} (kk : AV → Heap → Option R) : Ex → St → Option R := finD gtys g9res kk
theorem g9Qn {R : Type} (A : Ar) (n : Nat) (p : List Bool) (K : Ex → St → Option R) (s : St) : g9Q A n p K .normal s = g9D A n p K s := rfl
theorem g9F {R : Type} (A : Ar) (n : Nat) (p : List Bool) (i : Nat) (K : Ex → St → Option R) (s s' : St) (hf : firstReg (sub (bodyOf Try.f9) p) = some i) (h : keep g9an i s = keep g9an i s') : g9D A n p K s = g9D A n p K s' := codeD_first hf h K
section
variable {R : Type} (A : Ar) (n : Nat) (K : Ex → St → Option R) (s : St)
theorem g9p1 : g9D A n (pth 1) K s = g9D A n (pth 2) (g9Q A n (pth 3) K) s := by kernel_rfl
theorem g9p3 : g9D A n (pth 3) K s = g9D A n (pth 5) (g9Q A n (pth 7) K) s := by kernel_rfl
theorem g9p7 : g9D A n (pth 7) K s = g9D A n (pth 11) (g9Q A n (pth 15) K) s := by kernel_rfl
theorem g9p15 : g9D A n (pth 15) K s = K .ret s := by kernel_rfl
def g9R0s0 (A : Ar)  : St := ⟨[(0, (bO false))], []⟩
theorem g9R0 : g9D A n (pth 2) K ⟨[], []⟩ = K .normal (g9R0s0 A) := by kernel_rfl
def g9R1s0 (A : Ar)  : St := ⟨[(1, (tS ((List.replicate 32 0).take 32))), (3, (tS ((List.replicate 32 0).take 32))), (2, (sL 2000 none 32 1))], [(2000, ⟨[.nums .u8 32 (List.replicate 32 0)], 5, 2⟩)]⟩
theorem g9R1 : g9D A n (pth 5) K ⟨[], []⟩ = match (generalizing := false) A.le 32 32 with
    | true => match (generalizing := false) A.le 32 140737488355328 with
      | true => K .normal (g9R1s0 A)
      | false => none
    | false => none := by kernel_rfl
def g9R2s0 (A : Ar) (x0 : List Nat) : St := ⟨[(0, (bO (A.sc .eql (g14r0 A [3] [4] [5]) ([17] ++ ((x0.take x0.length).drop 1))))), (23, (bO (A.sc .eql (g14r0 A [3] [4] [5]) ([17] ++ ((x0.take x0.length).drop 1))))), (22, (bO (A.sc .eql (g14r0 A [3] [4] [5]) ([17] ++ ((x0.take x0.length).drop 1))))), (21, (tS ([17] ++ ((x0.take x0.length).drop 1)))), (20, (tS ((x0.take x0.length).drop 1))), (19, (tS x0)), (18, (tS (g14r0 A [3] [4] [5]))), (17, (bO true)), (16, (bO (g12r0 A x0))), (15, (bO (g12r0 A x0))), (14, (tS x0)), (13, (bO true)), (12, (bO (!(g12r0 A (g16r0 A))))), (11, (bO (!(g12r0 A (g16r0 A))))), (10, (bO (g12r0 A (g16r0 A)))), (9, (tS (g16r0 A))), (8, (bO true)), (7, (bO (A.sc .eql (g10r0 A (g16r0 A)) x0))), (6, (tS x0)), (5, (tS (g10r0 A (g16r0 A)))), (4, (tS (g16r0 A))), (1, (tS x0))], []⟩
def g9R2s1 (A : Ar) (x0 : List Nat) : St := ⟨[(0, (bO false)), (23, (bO false)), (22, uN), (21, uN), (20, uN), (19, uN), (18, uN), (17, (bO false)), (16, (bO (g12r0 A x0))), (15, (bO (g12r0 A x0))), (14, (tS x0)), (13, (bO true)), (12, (bO (!(g12r0 A (g16r0 A))))), (11, (bO (!(g12r0 A (g16r0 A))))), (10, (bO (g12r0 A (g16r0 A)))), (9, (tS (g16r0 A))), (8, (bO true)), (7, (bO (A.sc .eql (g10r0 A (g16r0 A)) x0))), (6, (tS x0)), (5, (tS (g10r0 A (g16r0 A)))), (4, (tS (g16r0 A))), (1, (tS x0))], []⟩
def g9R2s2 (A : Ar) (x0 : List Nat) : St := ⟨[(0, (bO false)), (23, (bO false)), (22, uN), (21, uN), (20, uN), (19, uN), (18, uN), (17, (bO false)), (16, (bO false)), (15, uN), (14, uN), (13, (bO false)), (12, (bO (!(g12r0 A (g16r0 A))))), (11, (bO (!(g12r0 A (g16r0 A))))), (10, (bO (g12r0 A (g16r0 A)))), (9, (tS (g16r0 A))), (8, (bO true)), (7, (bO (A.sc .eql (g10r0 A (g16r0 A)) x0))), (6, (tS x0)), (5, (tS (g10r0 A (g16r0 A)))), (4, (tS (g16r0 A))), (1, (tS x0))], []⟩
def g9R2s3 (A : Ar) (x0 : List Nat) : St := ⟨[(0, (bO false)), (23, (bO false)), (22, uN), (21, uN), (20, uN), (19, uN), (18, uN), (17, (bO false)), (16, (bO false)), (15, uN), (14, uN), (13, (bO false)), (12, (bO false)), (11, uN), (10, uN), (9, uN), (8, (bO false)), (7, (bO (A.sc .eql (g10r0 A (g16r0 A)) x0))), (6, (tS x0)), (5, (tS (g10r0 A (g16r0 A)))), (4, (tS (g16r0 A))), (1, (tS x0))], []⟩
theorem g9R2 (x0 : List Nat) : g9D A n (pth 11) K ⟨[(1, (tS x0))], []⟩ = match (generalizing := false) g16ok A with
    | true => match (generalizing := false) g10ok A (g16r0 A) with
      | true => match (generalizing := false) A.sc .eql (g10r0 A (g16r0 A)) x0 with
        | true => match (generalizing := false) g16ok A with
          | true => match (generalizing := false) g12ok A (g16r0 A) with
            | true => match (generalizing := false) !(g12r0 A (g16r0 A)) with
              | true => match (generalizing := false) g12ok A x0 with
                | true => match (generalizing := false) g12r0 A x0 with
                  | true => match (generalizing := false) g14ok A [3] [4] [5] with
                    | true => match (generalizing := false) A.le 1 x0.length with
                      | true => match (generalizing := false) A.le ([17].length + ((x0.take x0.length).drop 1).length) 9223372036854775807 with
                        | true => K .normal (g9R2s0 A x0)
                        | false => none
                      | false => none
                    | false => none
                  | false => K .normal (g9R2s1 A x0)
                | false => none
              | false => K .normal (g9R2s2 A x0)
            | false => none
          | false => none
        | false => K .normal (g9R2s3 A x0)
      | false => none
    | false => none := by kernel_rfl
end
def g9 {R : Type} (A : Ar) (n : Nat) (kk : AV → Heap → Option R)  : Option R :=
  match (generalizing := false) A.le 32 32 with
  | true => match (generalizing := false) A.le 32 140737488355328 with
    | true => match (generalizing := false) g16ok A with
      | true => match (generalizing := false) g10ok A (g16r0 A) with
        | true => match (generalizing := false) A.sc .eql (g10r0 A (g16r0 A)) ((List.replicate 32 0).take 32) with
          | true => match (generalizing := false) g16ok A with
            | true => match (generalizing := false) g12ok A (g16r0 A) with
              | true => match (generalizing := false) !(g12r0 A (g16r0 A)) with
                | true => match (generalizing := false) g12ok A ((List.replicate 32 0).take 32) with
                  | true => match (generalizing := false) g12r0 A ((List.replicate 32 0).take 32) with
                    | true => match (generalizing := false) g14ok A [3] [4] [5] with
                      | true => match (generalizing := false) A.le 1 (((List.replicate 32 0).take 32).length) with
                        | true => match (generalizing := false) A.le ([17].length + ((((List.replicate 32 0).take 32).take (((List.replicate 32 0).take 32).length)).drop 1).length) 9223372036854775807 with
                          | true => kk (bO (A.sc .eql (g14r0 A [3] [4] [5]) ([17] ++ ((((List.replicate 32 0).take 32).take (((List.replicate 32 0).take 32).length)).drop 1)))) []
                          | false => none
                        | false => none
                      | false => none
                    | false => kk (bO false) []
                  | false => none
                | false => kk (bO false) []
              | false => none
            | false => none
          | false => kk (bO false) []
        | false => none
      | false => none
    | false => none
  | false => none
set_option maxRecDepth 100000 in
theorem g9_eq {R : Type} (A : Ar) (n : Nat) (kk : AV → Heap → Option R)  :
    funD A gtys (g9O A) g9an n (bodyOf Try.f9) g9res [] [] kk = g9 A n kk  := by
  have h1 : (g9T kk) .ret (g9R2s0 A ((List.replicate 32 0).take 32)) = kk (bO (A.sc .eql (g14r0 A [3] [4] [5]) ([17] ++ ((((List.replicate 32 0).take 32).take (((List.replicate 32 0).take 32).length)).drop 1)))) [] := by kernel_rfl
  have h2 := (g9p15 A n _ _).trans h1
  have h3 := (g9Qn A n _ _ _).trans h2
  have h4 : (g9T kk) .ret (g9R2s1 A ((List.replicate 32 0).take 32)) = kk (bO false) [] := by kernel_rfl
  have h5 := (g9p15 A n _ _).trans h4
  have h6 := (g9Qn A n _ _ _).trans h5
  have h7 : (g9T kk) .ret (g9R2s2 A ((List.replicate 32 0).take 32)) = kk (bO false) [] := by kernel_rfl
  have h8 := (g9p15 A n _ _).trans h7
  have h9 := (g9Qn A n _ _ _).trans h8
  have h10 : (g9T kk) .ret (g9R2s3 A ((List.replicate 32 0).take 32)) = kk (bO false) [] := by kernel_rfl
  have h11 := (g9p15 A n _ _).trans h10
  have h12 := (g9Qn A n _ _ _).trans h11
  have h13 := (g9F A n _ 2 _ (g9R1s0 A) _ (by kernel_rfl) (by kernel_rfl)).trans (g9R2 A n (g9Q A n (pth 15) (g9T kk)) ((List.replicate 32 0).take 32))
  rw [h3, h6, h9, h12] at h13
  have h14 := (g9p7 A n _ _).trans h13
  have h15 := (g9Qn A n _ _ _).trans h14
  have h16 := (g9F A n _ 1 _ (g9R0s0 A) _ (by kernel_rfl) (by kernel_rfl)).trans (g9R1 A n (g9Q A n (pth 7) (g9T kk)) )
  rw [h15] at h16
  have h17 := (g9p3 A n _ _).trans h16
  have h18 := (g9Qn A n _ _ _).trans h17
  have h19 := (g9F A n _ 0 _ ⟨[], []⟩ _ (by kernel_rfl) (by kernel_rfl)).trans (g9R0 A n (g9Q A n (pth 3) (g9T kk)) )
  rw [h18] at h19
  have h20 := (g9p1 A n _ _).trans h19
  exact (show funD A gtys (g9O A) g9an n (bodyOf Try.f9) g9res [] [] kk = g9D A n (pth 1) (g9T kk) ⟨[], []⟩ from by kernel_rfl).trans (h20.trans (by kernel_rfl))
def g9is (o : Option AV) : Bool := match o with
  | some (.v (.cell (.bool _))) => true
  | _ => false
def g9g0 (o : Option AV) : Bool := match o with
  | some (.v (.cell (.bool x))) => x
  | _ => false
theorem g9is_spec {o : Option AV} (h : g9is o = true) : o = some (.v (.cell (.bool (g9g0 o)))) := by
  unfold g9is at h
  split at h
  · rfl
  · cases h
def g9v (A : Ar)  : Option AV := g9 A (100000) (fun v _ => some v) 
def g9ok (A : Ar)  : Bool := g9is (g9v A )
def g9r0 (A : Ar)  : Bool := g9g0 (g9v A )
theorem g9ok_spec {A : Ar} (h : g9ok A = true) : g9v A = some (.v (.cell (.bool (g9r0 A)))) := g9is_spec h
def g9o (A : Ar) (args : List AV) : Option (Bool × AV) := match args with
  | [] => some (g9ok A , .v (.cell (.bool (g9r0 A))))
  | _ => none
theorem g9o_sound : ∀ args v, g9o realA args = some (true, v) → Fn1 Try.prog 9 args v := by
  intro args v h
  unfold g9o at h
  split at h
  · simp only [Option.some.injEq, Prod.mk.injEq] at h
    obtain ⟨hc, h⟩ := h
    subst h
    · skip
      exact fn1_of mixed gtysOK g9O_sound g9O_det (an := g9an) (n := 100000) Try.func9 (c := bodyOf Try.f9) rfl (by kernel_rfl) Try.call9 (Nat.le_of_ble_eq_true rfl) (fun b => rfl) (fun _ => (g9_eq realA (100000) (fun v _ => some v) ).trans (show g9v realA  = _ from g9ok_spec hc))
  · cases h
def g21O (A : Ar) : Orc := orcOf []
theorem g21O_sound : OSound Try.prog (g21O realA) := orc_sound fun f g hm args v hv => by
  cases hm
theorem g21O_det : ODet (g21O realA) := orc_det _
def g21an : Ann := [(0, ([0, 1], [])), (1, ([0, 1], [])), (2, ([], [])), (3, ([0, 1], []))]
def g21res : List ResultVar := [.tmp 4]
noncomputable def g21D {R : Type} (A : Ar) (n : Nat) (p : List Bool) (K : Ex → St → Option R) (s : St) : Option R := codeD A gtys (g21O A) g21an n (sub (bodyOf Try.f21) p) K s
noncomputable def g21Q {R : Type} (A : Ar) (n : Nat) (p : List Bool) (K : Ex → St → Option R) : Ex → St → Option R := seqC (g21D A n p K) K
noncomputable def g21T {R : Type} (kk : AV → Heap → Option R) : Ex → St → Option R := finD gtys g21res kk
theorem g21Qn {R : Type} (A : Ar) (n : Nat) (p : List Bool) (K : Ex → St → Option R) (s : St) : g21Q A n p K .normal s = g21D A n p K s := rfl
theorem g21Qr {R : Type} (A : Ar) (n : Nat) (p : List Bool) (K : Ex → St → Option R) (s : St) : g21Q A n p K .ret s = K .ret s := rfl
theorem g21F {R : Type} (A : Ar) (n : Nat) (p : List Bool) (i : Nat) (K : Ex → St → Option R) (s s' : St) (hf : firstReg (sub (bodyOf Try.f21) p) = some i) (h : keep g21an i s = keep g21an i s') : g21D A n p K s = g21D A n p K s' := codeD_first hf h K
section
variable {R : Type} (A : Ar) (n : Nat) (K : Ex → St → Option R) (s : St)
theorem g21p1 : g21D A n (pth 1) K s = g21D A n (pth 2) (g21Q A n (pth 3) K) s := by kernel_rfl
theorem g21p3 : g21D A n (pth 3) K s = g21D A n (pth 5) (g21Q A n (pth 7) K) s := by kernel_rfl
theorem g21p5 : g21D A n (pth 5) K s = g21D A n (pth 9) (g21Q A n (pth 13) K) s := by kernel_rfl
theorem g21p13 (t : Bool) : ev s (.tmp 13) = some (.v (.cell (.bool t))) → g21D A n (pth 13) K s = (match t with
    | true => g21D A n (pth 21) K s
    | false => g21D A n (pth 29) K s) := codeD_cond t
theorem g21p21 : g21D A n (pth 21) K s = g21D A n (pth 37) (g21Q A n (pth 53) K) s := by kernel_rfl
theorem g21p53 : g21D A n (pth 53) K s = K .ret s := by kernel_rfl
theorem g21p29 : g21D A n (pth 29) K s = K .normal s := by kernel_rfl
theorem g21p7 : g21D A n (pth 7) K s = g21D A n (pth 11) (g21Q A n (pth 15) K) s := by kernel_rfl
theorem g21p15 : g21D A n (pth 15) K s = K .ret s := by kernel_rfl
def g21R3s0 (A : Ar) (x0 : List Nat) (x1 : Int) : St := ⟨[(4, (i6 (A.ib .and .i64 (A.ofN (A.nsh .shr .u8 (x0.getD (A.toN (A.ib .quo .i64 x1 8)) 0) (A.toN (A.ib .rem .i64 x1 8)))) 1))), (22, (i6 (A.ib .and .i64 (A.ofN (A.nsh .shr .u8 (x0.getD (A.toN (A.ib .quo .i64 x1 8)) 0) (A.toN (A.ib .rem .i64 x1 8)))) 1))), (21, (i6 (A.ofN (A.nsh .shr .u8 (x0.getD (A.toN (A.ib .quo .i64 x1 8)) 0) (A.toN (A.ib .rem .i64 x1 8)))))), (20, (u8v (A.nsh .shr .u8 (x0.getD (A.toN (A.ib .quo .i64 x1 8)) 0) (A.toN (A.ib .rem .i64 x1 8))))), (19, (i6 (A.ib .rem .i64 x1 8))), (18, (i6 x1)), (17, (u8v (x0.getD (A.toN (A.ib .quo .i64 x1 8)) 0))), (16, (i6 (A.ib .quo .i64 x1 8))), (15, (i6 x1)), (14, (tS x0)), (0, (tS x0)), (1, (i6 x1))], []⟩
theorem g21R3 (x0 : List Nat) (x1 : Int) : g21D A n (pth 11) K ⟨[(0, (tS x0)), (1, (i6 x1))], []⟩ = match (generalizing := false) A.neg (A.ib .quo .i64 x1 8) with
    | true => none
    | false => match (generalizing := false) A.lt (A.toN (A.ib .quo .i64 x1 8)) x0.length with
      | true => match (generalizing := false) A.neg (A.ib .rem .i64 x1 8) with
        | true => none
        | false => K .normal (g21R3s0 A x0 x1)
      | false => none := by kernel_rfl
def g21R0s0 (A : Ar) (x0 : List Nat) (x1 : Int) : St := ⟨[(4, (i6 0)), (0, (tS x0)), (1, (i6 x1))], []⟩
theorem g21R0 (x0 : List Nat) (x1 : Int) : g21D A n (pth 2) K ⟨[(0, (tS x0)), (1, (i6 x1))], []⟩ = K .normal (g21R0s0 A x0 x1) := by kernel_rfl
def g21R1s0 (A : Ar) (x0 : List Nat) (x1 : Int) : St := ⟨[(13, (bO true)), (12, uN), (11, uN), (10, uN), (9, uN), (8, uN), (7, (bO true)), (6, (bO (A.ic .lss x1 0))), (5, (i6 x1)), (0, (tS x0)), (1, (i6 x1))], []⟩
def g21R1s1 (A : Ar) (x0 : List Nat) (x1 : Int) : St := ⟨[(13, (bO (A.ic .geq (A.ib .quo .i64 x1 8) (A.ofN x0.length)))), (12, (bO (A.ic .geq (A.ib .quo .i64 x1 8) (A.ofN x0.length)))), (11, (i6 (A.ofN x0.length))), (10, (tS x0)), (9, (i6 (A.ib .quo .i64 x1 8))), (8, (i6 x1)), (7, (bO false)), (6, (bO (A.ic .lss x1 0))), (5, (i6 x1)), (0, (tS x0)), (1, (i6 x1))], []⟩
theorem g21R1 (x0 : List Nat) (x1 : Int) : g21D A n (pth 9) K ⟨[(0, (tS x0)), (1, (i6 x1))], []⟩ = match (generalizing := false) A.ic .lss x1 0 with
    | true => K .normal (g21R1s0 A x0 x1)
    | false => K .normal (g21R1s1 A x0 x1) := by kernel_rfl
def g21R2s0 (A : Ar)  : St := ⟨[(4, (i6 0))], []⟩
theorem g21R2 : g21D A n (pth 37) K ⟨[], []⟩ = K .normal (g21R2s0 A) := by kernel_rfl
end
def g21J3 {R : Type} (A : Ar) (n : Nat) (kk : AV → Heap → Option R)  (x0 : List Nat) (x1 : Int) : Option R :=
  match (generalizing := false) A.neg (A.ib .quo .i64 x1 8) with
  | true => none
  | false => match (generalizing := false) A.lt (A.toN (A.ib .quo .i64 x1 8)) x0.length with
    | true => match (generalizing := false) A.neg (A.ib .rem .i64 x1 8) with
      | true => none
      | false => kk (i6 (A.ib .and .i64 (A.ofN (A.nsh .shr .u8 (x0.getD (A.toN (A.ib .quo .i64 x1 8)) 0) (A.toN (A.ib .rem .i64 x1 8)))) 1)) []
    | false => none
set_option maxRecDepth 100000 in
theorem g21J3_eq {R : Type} (A : Ar) (n : Nat) (kk : AV → Heap → Option R)    (s : St) (x0 : List Nat) (x1 : Int) (h : keep g21an 3 s = ⟨[(0, (tS x0)), (1, (i6 x1))], []⟩) :
    g21D A n (pth 7) (g21T kk) s = g21J3 A n kk  x0 x1 := by
  have h1 : (g21T kk) .ret (g21R3s0 A x0 x1) = kk (i6 (A.ib .and .i64 (A.ofN (A.nsh .shr .u8 (x0.getD (A.toN (A.ib .quo .i64 x1 8)) 0) (A.toN (A.ib .rem .i64 x1 8)))) 1)) [] := by kernel_rfl
  have h2 := (g21p15 A n _ _).trans h1
  have h3 := (g21Qn A n _ _ _).trans h2
  have h4 := (g21F A n _ 3 _ ⟨[(0, (tS x0)), (1, (i6 x1))], []⟩ _ (by kernel_rfl) (by kernel_rfl)).trans (g21R3 A n (g21Q A n (pth 15) (g21T kk)) x0 x1)
  rw [h3] at h4
  have h5 := (g21p7 A n _ _).trans h4
  exact (g21F A n _ 3 _ _ ⟨[(0, (tS x0)), (1, (i6 x1))], []⟩ (by kernel_rfl) (h.trans (by kernel_rfl))).trans (h5.trans (by kernel_rfl))
def g21 {R : Type} (A : Ar) (n : Nat) (kk : AV → Heap → Option R) (a : List Nat) (b : Int) : Option R :=
  match (generalizing := false) A.ic .lss b 0 with
  | true => kk (i6 0) []
  | false => match (generalizing := false) A.ic .geq (A.ib .quo .i64 b 8) (A.ofN a.length) with
    | true => kk (i6 0) []
    | false => g21J3 A n kk  a b
set_option maxRecDepth 100000 in
theorem g21_eq {R : Type} (A : Ar) (n : Nat) (kk : AV → Heap → Option R) (a : List Nat) (b : Int) :
    funD A gtys (g21O A) g21an n (bodyOf Try.f21) g21res [(tS a), (i6 b)] [] kk = g21 A n kk a b := by
  have h1 : (g21T kk) .ret (g21R2s0 A) = kk (i6 0) [] := by kernel_rfl
  have h2 := (g21Qr A n (pth 7) _ _).trans h1
  have h3 := (g21p53 A n _ _).trans h2
  have h4 := (g21Qn A n _ _ _).trans h3
  have h5 := (g21F A n _ 2 _ (g21R1s0 A a b) _ (by kernel_rfl) (by kernel_rfl)).trans (g21R2 A n (g21Q A n (pth 53) (g21Q A n (pth 7) (g21T kk))) )
  rw [h4] at h5
  have h6 := (g21p21 A n _ _).trans h5
  have h7 := (g21p13 A n (g21Q A n (pth 7) (g21T kk)) (g21R1s0 A a b) true (by kernel_rfl)).trans h6
  have h8 := (g21Qn A n _ _ _).trans h7
  have h9 : (g21T kk) .ret (g21R2s0 A) = kk (i6 0) [] := by kernel_rfl
  have h10 := (g21Qr A n (pth 7) _ _).trans h9
  have h11 := (g21p53 A n _ _).trans h10
  have h12 := (g21Qn A n _ _ _).trans h11
  have h13 := (g21F A n _ 2 _ (g21R1s1 A a b) _ (by kernel_rfl) (by kernel_rfl)).trans (g21R2 A n (g21Q A n (pth 53) (g21Q A n (pth 7) (g21T kk))) )
  rw [h12] at h13
  have h14 := (g21p21 A n _ _).trans h13
  have h15 := (g21Qn A n _ _ _).trans (g21J3_eq A n kk     (g21R1s1 A a b) a b (by kernel_rfl))
  have h16 := (g21p29 A n _ _).trans h15
  have h17 := g21p13 A n (g21Q A n (pth 7) (g21T kk)) (g21R1s1 A a b) (A.ic .geq (A.ib .quo .i64 b 8) (A.ofN a.length)) (by kernel_rfl)
  rw [h14, h16] at h17
  have h18 := (g21Qn A n _ _ _).trans h17
  have h19 := (g21F A n _ 1 _ (g21R0s0 A a b) _ (by kernel_rfl) (by kernel_rfl)).trans (g21R1 A n (g21Q A n (pth 13) (g21Q A n (pth 7) (g21T kk))) a b)
  rw [h8, h18] at h19
  have h20 := (g21p5 A n _ _).trans h19
  have h21 := (g21p3 A n _ _).trans h20
  have h22 := (g21Qn A n _ _ _).trans h21
  have h23 := (g21F A n _ 0 _ ⟨[(0, (tS a)), (1, (i6 b))], []⟩ _ (by kernel_rfl) (by kernel_rfl)).trans (g21R0 A n (g21Q A n (pth 3) (g21T kk)) a b)
  rw [h22] at h23
  have h24 := (g21p1 A n _ _).trans h23
  exact (show funD A gtys (g21O A) g21an n (bodyOf Try.f21) g21res [(tS a), (i6 b)] [] kk = g21D A n (pth 1) (g21T kk) ⟨[(0, (tS a)), (1, (i6 b))], []⟩ from by kernel_rfl).trans (h24.trans (by kernel_rfl))
def g21is (o : Option AV) : Bool := match o with
  | some (.v (.cell (.int .i64 _))) => true
  | _ => false
def g21g0 (o : Option AV) : Int := match o with
  | some (.v (.cell (.int .i64 x))) => x
  | _ => 0
theorem g21is_spec {o : Option AV} (h : g21is o = true) : o = some (.v (.cell (.int .i64 (g21g0 o)))) := by
  unfold g21is at h
  split at h
  · rfl
  · cases h
def g21v (A : Ar) (a : List Nat) (b : Int) : Option AV := g21 A (100000) (fun v _ => some v) a b
def g21ok (A : Ar) (a : List Nat) (b : Int) : Bool := g21is (g21v A a b)
def g21r0 (A : Ar) (a : List Nat) (b : Int) : Int := g21g0 (g21v A a b)
theorem g21ok_spec {A : Ar} {a b} (h : g21ok A a b = true) : g21v A a b = some (.v (.cell (.int .i64 (g21r0 A a b)))) := g21is_spec h
def g21o (A : Ar) (args : List AV) : Option (Bool × AV) := match args with
  | [.v (.cell (.str a)), .v (.cell (.int .i64 b))] => some (g21ok A a b, .v (.cell (.int .i64 (g21r0 A a b))))
  | _ => none
theorem g21o_sound : ∀ args v, g21o realA args = some (true, v) → Fn1 Try.prog 21 args v := by
  intro args v h
  unfold g21o at h
  split at h
  · rename_i a b
    simp only [Option.some.injEq, Prod.mk.injEq] at h
    obtain ⟨hc, h⟩ := h
    subst h
    · skip
      exact fn1_of mixed gtysOK g21O_sound g21O_det (an := g21an) (n := 100000) Try.func21 (c := bodyOf Try.f21) rfl (by kernel_rfl) Try.call21 (Nat.le_of_ble_eq_true rfl) (fun b => rfl) (fun _ => (g21_eq realA (100000) (fun v _ => some v) a b).trans (show g21v realA a b = _ from g21ok_spec hc))
  · cases h
def g24O (A : Ar) : Orc := orcOf []
theorem g24O_sound : OSound Try.prog (g24O realA) := orc_sound fun f g hm args v hv => by
  cases hm
theorem g24O_det : ODet (g24O realA) := orc_det _
def g24an : Ann := [(0, ([], [])), (1, ([], [])), (2, ([1], [2000])), (3, ([1], [2000])), (4, ([1], [2000]))]
def g24res : List ResultVar := [.tmp 0]
noncomputable def g24D {R : Type} (A : Ar) (n : Nat) (p : List Bool) (K : Ex → St → Option R) (s : St) : Option R := codeD A gtys (g24O A) g24an n (sub (bodyOf Try.f24) p) K s
noncomputable def g24V {R : Type} (A : Ar) (n : Nat) (p : List Bool) (m : Nat) (K : Ex → St → Option R) (s : St) : Option R := loopD (fun K' s'' => codeD A gtys (g24O A) g24an n (sub (bodyOf Try.f24) p) K' s'') m K s
noncomputable def g24Q {R : Type} (A : Ar) (n : Nat) (p : List Bool) (K : Ex → St → Option R) : Ex → St → Option R := seqC (g24D A n p K) K
noncomputable def g24W {R : Type} (A : Ar) (n : Nat) (p : List Bool) (m : Nat) (K : Ex → St → Option R) : Ex → St → Option R := seqC (g24V A n p m K) K
noncomputable def g24T {R : Type} (kk : AV → Heap → Option R) : Ex → St → Option R := finD gtys g24res kk
theorem g24Qn {R : Type} (A : Ar) (n : Nat) (p : List Bool) (K : Ex → St → Option R) (s : St) : g24Q A n p K .normal s = g24D A n p K s := rfl
theorem g24Qe {R : Type} (A : Ar) (n : Nat) (p : List Bool) (K : Ex → St → Option R) (i : Nat) (s : St) : g24Q A n p K (.exit i) s = K (.exit i) s := rfl
theorem g24Wn {R : Type} (A : Ar) (n : Nat) (p : List Bool) (m : Nat) (K : Ex → St → Option R) (s : St) : g24W A n p m K .normal s = g24V A n p m K s := rfl
theorem g24We {R : Type} (A : Ar) (n : Nat) (p : List Bool) (m : Nat) (K : Ex → St → Option R) (i : Nat) (s : St) : g24W A n p m K (.exit i) s = K (.exit i) s := rfl
theorem g24Vs {R : Type} (A : Ar) (n : Nat) (p : List Bool) (m : Nat) (K : Ex → St → Option R) (s : St) : g24V A n p (m + 1) K s = g24D A n p (g24W A n p m K) s := rfl
theorem g24F {R : Type} (A : Ar) (n : Nat) (p : List Bool) (i : Nat) (K : Ex → St → Option R) (s s' : St) (hf : firstReg (sub (bodyOf Try.f24) p) = some i) (h : keep g24an i s = keep g24an i s') : g24D A n p K s = g24D A n p K s' := codeD_first hf h K
section
variable {R : Type} (A : Ar) (n : Nat) (K : Ex → St → Option R) (s : St)
theorem g24p1 : g24D A n (pth 1) K s = g24D A n (pth 2) (g24Q A n (pth 3) K) s := by kernel_rfl
theorem g24p3 : g24D A n (pth 3) K s = g24D A n (pth 5) (g24Q A n (pth 7) K) s := by kernel_rfl
theorem g24p7 : g24D A n (pth 7) K s = g24D A n (pth 11) (g24Q A n (pth 15) K) s := by kernel_rfl
theorem g24p11 : g24D A n (pth 11) K s = g24D A n (pth 19) (blockK 0 K) s := by kernel_rfl
theorem g24p19 : g24D A n (pth 19) K s = g24V A n (pth 35) n K s := by kernel_rfl
theorem g24p35 : g24D A n (pth 35) K s = g24D A n (pth 67) (g24Q A n (pth 99) K) s := by kernel_rfl
theorem g24p67 : g24D A n (pth 67) K s = g24D A n (pth 131) (g24Q A n (pth 195) K) s := by kernel_rfl
theorem g24p195 (t : Bool) : ev s (.tmp 5) = some (.v (.cell (.bool t))) → g24D A n (pth 195) K s = (match t with
    | true => g24D A n (pth 323) K s
    | false => g24D A n (pth 451) K s) := codeD_cond t
theorem g24p323 : g24D A n (pth 323) K s = K .normal s := by kernel_rfl
theorem g24p451 : g24D A n (pth 451) K s = K (.exit 0) s := by kernel_rfl
theorem g24p99 : g24D A n (pth 99) K s = g24D A n (pth 163) (blockK 1 K) s := by kernel_rfl
theorem g24p15 : g24D A n (pth 15) K s = g24D A n (pth 23) (g24Q A n (pth 31) K) s := by kernel_rfl
theorem g24p31 : g24D A n (pth 31) K s = K .ret s := by kernel_rfl
def g24R2s0 (A : Ar) (x0 x1 : Nat) (x2 : List Int) : St := ⟨[(5, (bO (A.ic .lss (A.ofN x0) 31))), (4, (i6 (A.ofN x0))), (3, (sL 2000 none x0 1)), (1, (sL 2000 none x0 1))], [(2000, ⟨[.ints .i64 x1 x2], 3, 2⟩)]⟩
theorem g24R2 (x0 x1 : Nat) (x2 : List Int) : g24D A n (pth 131) K ⟨[(1, (sL 2000 none x0 1))], [(2000, ⟨[.ints .i64 x1 x2], 3, 2⟩)]⟩ = K .normal (g24R2s0 A x0 x1 x2) := by kernel_rfl
def g24R3s0 (A : Ar) (x0 x1 : Nat) (x2 : List Int) : St := ⟨[(1, (sL 2000 none ((x2 ++ ([0].take 1)).length) 1)), (8, (sL 2000 none ((x2 ++ ([0].take 1)).length) 1)), (7, (sL 4001 none 1 1)), (6, (.v (.cell .top))), (1, (.v (.cell .top)))], [(2000, ⟨[.ints .i64 ((x2 ++ ([0].take 1)).length) (x2 ++ ([0].take 1))], 3, 2⟩), (4001, ⟨[.ints .i64 1 [0]], 3, 2⟩)]⟩
theorem g24R3 (x0 x1 : Nat) (x2 : List Int) : g24D A n (pth 163) K ⟨[(1, (sL 2000 none x0 1))], [(2000, ⟨[.ints .i64 x1 x2], 3, 2⟩)]⟩ = match (generalizing := false) A.eq x0 (x1 + 0) with
    | true => match (generalizing := false) A.le (((x2 ++ ([0].take 1)).length) * 8) 140737488355328 with
      | true => K .normal (g24R3s0 A x0 x1 x2)
      | false => none
    | false => none := by kernel_rfl
def g24R4s0 (A : Ar) (x0 x1 : Nat) (x2 : List Int) : St := ⟨[(0, (sL 2000 none ((x2 ++ ([16].take 1)).length) 1)), (11, (sL 2000 none ((x2 ++ ([16].take 1)).length) 1)), (10, (sL 5001 none 1 1)), (9, (.v (.cell .top))), (1, (.v (.cell .top)))], [(2000, ⟨[.ints .i64 ((x2 ++ ([16].take 1)).length) (x2 ++ ([16].take 1))], 3, 2⟩), (5001, ⟨[.ints .i64 1 [16]], 3, 2⟩)]⟩
theorem g24R4 (x0 x1 : Nat) (x2 : List Int) : g24D A n (pth 23) K ⟨[(1, (sL 2000 none x0 1))], [(2000, ⟨[.ints .i64 x1 x2], 3, 2⟩)]⟩ = match (generalizing := false) A.eq x0 (x1 + 0) with
    | true => match (generalizing := false) A.le (((x2 ++ ([16].take 1)).length) * 8) 140737488355328 with
      | true => K .normal (g24R4s0 A x0 x1 x2)
      | false => none
    | false => none := by kernel_rfl
def g24R0s0 (A : Ar)  : St := ⟨[(0, (sL 1000 none 0 1))], [(1000, ⟨[.ints .i64 0 []], 3, 2⟩)]⟩
theorem g24R0 : g24D A n (pth 2) K ⟨[], []⟩ = K .normal (g24R0s0 A) := by kernel_rfl
def g24R1s0 (A : Ar)  : St := ⟨[(1, (sL 2000 none 16 1)), (2, (sL 2000 none 16 1))], [(2000, ⟨[.ints .i64 16 [237, 211, 245, 92, 26, 99, 18, 88, 214, 156, 247, 162, 222, 249, 222, 20]], 3, 2⟩)]⟩
theorem g24R1 : g24D A n (pth 5) K ⟨[], []⟩ = K .normal (g24R1s0 A) := by kernel_rfl
end
def g24L2 {R : Type} (A : Ar) (n : Nat) (kk : AV → Heap → Option R)  : Nat → Nat → Nat → List Int → Option R
  | 0, _, _, _ => none
  | m + 1, x0, x1, x2 => match (generalizing := false) A.ic .lss (A.ofN x0) 31 with
  | true => match (generalizing := false) A.eq x0 (x1 + 0) with
    | true => match (generalizing := false) A.le (((x2 ++ ([0].take 1)).length) * 8) 140737488355328 with
      | true => g24L2 A n kk  m ((x2 ++ ([0].take 1)).length) ((x2 ++ ([0].take 1)).length) (x2 ++ ([0].take 1))
      | false => none
    | false => none
  | false => match (generalizing := false) A.eq x0 (x1 + 0) with
    | true => match (generalizing := false) A.le (((x2 ++ ([16].take 1)).length) * 8) 140737488355328 with
      | true => kk (sL 2000 none ((x2 ++ ([16].take 1)).length) 1) [(2000, ⟨[.ints .i64 ((x2 ++ ([16].take 1)).length) (x2 ++ ([16].take 1))], 3, 2⟩), (5001, ⟨[.ints .i64 1 [16]], 3, 2⟩)]
      | false => none
    | false => none
set_option maxRecDepth 100000 in
theorem g24L2_eq {R : Type} (A : Ar) (n : Nat) (kk : AV → Heap → Option R)    (m : Nat) (s : St) (x0 x1 : Nat) (x2 : List Int) (h : keep g24an 2 s = ⟨[(1, (sL 2000 none x0 1))], [(2000, ⟨[.ints .i64 x1 x2], 3, 2⟩)]⟩) :
    g24V A n (pth 35) m (blockK 0 (g24Q A n (pth 15) (g24T kk))) s = g24L2 A n kk  m x0 x1 x2 := by
  induction m generalizing s x0 x1 x2 with
  | zero => rfl
  | succ m ih =>
    have h1 := (g24Wn A n _ _ _ _).trans (ih (g24R3s0 A x0 x1 x2) ((x2 ++ ([0].take 1)).length) ((x2 ++ ([0].take 1)).length) (x2 ++ ([0].take 1)) (by kernel_rfl))
    have h2 := (blockK_n 1 _ _).trans h1
    have h3 := (g24F A n _ 3 _ (g24R2s0 A x0 x1 x2) _ (by kernel_rfl) (by kernel_rfl)).trans (g24R3 A n (blockK 1 (g24W A n (pth 35) m (blockK 0 (g24Q A n (pth 15) (g24T kk))))) x0 x1 x2)
    rw [h2] at h3
    have h4 := (g24p99 A n _ _).trans h3
    have h5 := (g24Qn A n _ _ _).trans h4
    have h6 := (g24p323 A n _ _).trans h5
    have h7 : (g24T kk) .ret (g24R4s0 A x0 x1 x2) = kk (sL 2000 none ((x2 ++ ([16].take 1)).length) 1) [(2000, ⟨[.ints .i64 ((x2 ++ ([16].take 1)).length) (x2 ++ ([16].take 1))], 3, 2⟩), (5001, ⟨[.ints .i64 1 [16]], 3, 2⟩)] := by kernel_rfl
    have h8 := (g24p31 A n _ _).trans h7
    have h9 := (g24Qn A n _ _ _).trans h8
    have h10 := (g24F A n _ 4 _ (g24R2s0 A x0 x1 x2) _ (by kernel_rfl) (by kernel_rfl)).trans (g24R4 A n (g24Q A n (pth 31) (g24T kk)) x0 x1 x2)
    rw [h9] at h10
    have h11 := (g24p15 A n _ _).trans h10
    have h12 := (g24Qn A n _ _ _).trans h11
    have h13 := (blockK_hit 0 _ _).trans h12
    have h14 := (g24We A n (pth 35) m _ _ _).trans h13
    have h15 := (g24Qe A n (pth 99) _ _ _).trans h14
    have h16 := (g24p451 A n _ _).trans h15
    have h17 := g24p195 A n (g24Q A n (pth 99) (g24W A n (pth 35) m (blockK 0 (g24Q A n (pth 15) (g24T kk))))) (g24R2s0 A x0 x1 x2) (A.ic .lss (A.ofN x0) 31) (by kernel_rfl)
    rw [h6, h16] at h17
    have h18 := (g24Qn A n _ _ _).trans h17
    have h19 := (g24F A n _ 2 _ ⟨[(1, (sL 2000 none x0 1))], [(2000, ⟨[.ints .i64 x1 x2], 3, 2⟩)]⟩ _ (by kernel_rfl) (by kernel_rfl)).trans (g24R2 A n (g24Q A n (pth 195) (g24Q A n (pth 99) (g24W A n (pth 35) m (blockK 0 (g24Q A n (pth 15) (g24T kk)))))) x0 x1 x2)
    rw [h18] at h19
    have h20 := (g24p67 A n _ _).trans h19
    have h21 := (g24p35 A n _ _).trans h20
    exact (loopD_first (s' := ⟨[(1, (sL 2000 none x0 1))], [(2000, ⟨[.ints .i64 x1 x2], 3, 2⟩)]⟩) (id := 2) (by kernel_rfl) (h.trans (by kernel_rfl)) _).trans ((g24Vs A n _ m _ _).trans (h21.trans (by kernel_rfl)))
def g24 {R : Type} (A : Ar) (n : Nat) (kk : AV → Heap → Option R)  : Option R :=
  g24L2 A n kk  n 16 16 [237, 211, 245, 92, 26, 99, 18, 88, 214, 156, 247, 162, 222, 249, 222, 20]
set_option maxRecDepth 100000 in
theorem g24_eq {R : Type} (A : Ar) (n : Nat) (kk : AV → Heap → Option R)  :
    funD A gtys (g24O A) g24an n (bodyOf Try.f24) g24res [] [] kk = g24 A n kk  := by
  have h1 := (g24p19 A n _ _).trans (g24L2_eq A n kk    n (g24R1s0 A) 16 16 [237, 211, 245, 92, 26, 99, 18, 88, 214, 156, 247, 162, 222, 249, 222, 20] (by kernel_rfl))
  have h2 := (g24p11 A n _ _).trans h1
  have h3 := (g24p7 A n _ _).trans h2
  have h4 := (g24Qn A n _ _ _).trans h3
  have h5 := (g24F A n _ 1 _ (g24R0s0 A) _ (by kernel_rfl) (by kernel_rfl)).trans (g24R1 A n (g24Q A n (pth 7) (g24T kk)) )
  rw [h4] at h5
  have h6 := (g24p3 A n _ _).trans h5
  have h7 := (g24Qn A n _ _ _).trans h6
  have h8 := (g24F A n _ 0 _ ⟨[], []⟩ _ (by kernel_rfl) (by kernel_rfl)).trans (g24R0 A n (g24Q A n (pth 3) (g24T kk)) )
  rw [h7] at h8
  have h9 := (g24p1 A n _ _).trans h8
  exact (show funD A gtys (g24O A) g24an n (bodyOf Try.f24) g24res [] [] kk = g24D A n (pth 1) (g24T kk) ⟨[], []⟩ from by kernel_rfl).trans (h9.trans (by kernel_rfl))
def g24is (o : Option (AV × Heap)) : Bool := match o with
  | some (.v (.cell (.sl n0 none _ n1)), [(n2, ⟨[.ints .i64 _ _], n3, n4⟩)]) => Nat.beq n0 700 && (Nat.beq n1 1 && (Nat.beq n2 700 && (Nat.beq n3 3 && (Nat.beq n4 2))))
  | _ => false
def g24g0 (o : Option (AV × Heap)) : Nat := match o with
  | some (.v (.cell (.sl _ none x _)), [(_, ⟨[.ints .i64 _ _], _, _⟩)]) => x
  | _ => 0
def g24g1 (o : Option (AV × Heap)) : Nat := match o with
  | some (.v (.cell (.sl _ none _ _)), [(_, ⟨[.ints .i64 x _], _, _⟩)]) => x
  | _ => 0
def g24g2 (o : Option (AV × Heap)) : List Int := match o with
  | some (.v (.cell (.sl _ none _ _)), [(_, ⟨[.ints .i64 _ x], _, _⟩)]) => x
  | _ => []
theorem g24is_spec {o : Option (AV × Heap)} (h : g24is o = true) : o = some ((sL 700 none (g24g0 o) 1), [(700, ⟨[.ints .i64 (g24g1 o) (g24g2 o)], 3, 2⟩)]) := by
  unfold g24is at h
  split at h
  · rename_i n0 z1 n1 n2 z4 z5 n3 n4
    simp only [Bool.and_eq_true] at h
    have en0 := beq_true h.1
    subst en0
    replace h := h.2
    have en1 := beq_true h.1
    subst en1
    replace h := h.2
    have en2 := beq_true h.1
    subst en2
    replace h := h.2
    have en3 := beq_true h.1
    subst en3
    replace h := h.2
    have en4 := beq_true h
    subst en4
    rfl
  · cases h
def g24v (A : Ar)  : Option (AV × Heap) := g24 A (100000) (outH [] none) 
def g24ok (A : Ar)  : Bool := g24is (g24v A)
def g24r0 (A : Ar)  : Nat := g24g0 (g24v A)
def g24r1 (A : Ar)  : Nat := g24g1 (g24v A)
def g24r2 (A : Ar)  : List Int := g24g2 (g24v A)
theorem g24ok_spec {A : Ar} (h : g24ok A = true) : g24v A = some ((sL 700 none (g24r0 A) 1), [(700, ⟨[.ints .i64 (g24r1 A) (g24r2 A)], 3, 2⟩)]) := g24is_spec h
def g24o (A : Ar) (args : List AV) (h : Heap) : Option (Bool × AV × Heap) := match args, h with
  | [], [] => some (g24ok A, (sL 700 none (g24r0 A) 1), [(700, ⟨[.ints .i64 (g24r1 A) (g24r2 A)], 3, 2⟩)])
  | _, _ => none
theorem g24o_sound : ∀ args h v h', g24o realA args h = some (true, v, h') → FnH Try.prog 24 args h v h' := by
  intro args h v h' hh
  unfold g24o at hh
  split at hh
  · simp only [Option.some.injEq, Prod.mk.injEq] at hh
    obtain ⟨hc, hv, hh⟩ := hh
    subst hv
    subst hh
    exact fnh_of mixed gtysOK g24O_sound g24O_det (an := g24an) (n := 100000) Try.func24 (c := bodyOf Try.f24) rfl (by kernel_rfl) Try.call24 (Nat.le_of_ble_eq_true rfl) (pins := []) (nilr := none) (fun _ => (g24_eq realA (100000) (outH [] none) ).trans (show g24v realA = _ from g24ok_spec hc))
  · cases hh
def g25O (A : Ar) : Orc := orcH [] [(24, ⟨[], none, (g24o A)⟩)]
theorem g25O_sound : OSound Try.prog (g25O realA) := orcH_sound (fun f g hm args v hv => by
    cases hm) (fun f e hm args h v h' hv => by
    simp only [List.mem_cons, List.not_mem_nil, or_false, Prod.mk.injEq] at hm
    rcases hm with ⟨rfl, rfl⟩
    · exact g24o_sound _ _ _ _ hv)
theorem g25O_det : ODet (g25O realA) := orcH_det _ _
def g25an : Ann := [(0, ([0], [0])), (1, ([0], [0])), (2, ([0, 3], [0, 2000])), (3, ([], [0])), (4, ([0, 3], [0, 2000])), (5, ([0, 3, 4], [0, 2000])), (6, ([0, 3, 4], [0, 2000])), (7, ([0, 3, 4], [0, 2000])), (8, ([0, 3, 4], [0, 2000])), (9, ([], [0]))]
def g25res : List ResultVar := [.tmp 2]
noncomputable def g25D {R : Type} (A : Ar) (n : Nat) (p : List Bool) (K : Ex → St → Option R) (s : St) : Option R := codeD A gtys (g25O A) g25an n (sub (bodyOf Try.f25) p) K s
noncomputable def g25V {R : Type} (A : Ar) (n : Nat) (p : List Bool) (m : Nat) (K : Ex → St → Option R) (s : St) : Option R := loopD (fun K' s'' => codeD A gtys (g25O A) g25an n (sub (bodyOf Try.f25) p) K' s'') m K s
noncomputable def g25Q {R : Type} (A : Ar) (n : Nat) (p : List Bool) (K : Ex → St → Option R) : Ex → St → Option R := seqC (g25D A n p K) K
noncomputable def g25W {R : Type} (A : Ar) (n : Nat) (p : List Bool) (m : Nat) (K : Ex → St → Option R) : Ex → St → Option R := seqC (g25V A n p m K) K
noncomputable def g25T {R : Type} (kk : AV → Heap → Option R) : Ex → St → Option R := finD gtys g25res kk
theorem g25Qn {R : Type} (A : Ar) (n : Nat) (p : List Bool) (K : Ex → St → Option R) (s : St) : g25Q A n p K .normal s = g25D A n p K s := rfl
theorem g25Qe {R : Type} (A : Ar) (n : Nat) (p : List Bool) (K : Ex → St → Option R) (i : Nat) (s : St) : g25Q A n p K (.exit i) s = K (.exit i) s := rfl
theorem g25Qr {R : Type} (A : Ar) (n : Nat) (p : List Bool) (K : Ex → St → Option R) (s : St) : g25Q A n p K .ret s = K .ret s := rfl
theorem g25Wn {R : Type} (A : Ar) (n : Nat) (p : List Bool) (m : Nat) (K : Ex → St → Option R) (s : St) : g25W A n p m K .normal s = g25V A n p m K s := rfl
theorem g25We {R : Type} (A : Ar) (n : Nat) (p : List Bool) (m : Nat) (K : Ex → St → Option R) (i : Nat) (s : St) : g25W A n p m K (.exit i) s = K (.exit i) s := rfl
theorem g25Wr {R : Type} (A : Ar) (n : Nat) (p : List Bool) (m : Nat) (K : Ex → St → Option R) (s : St) : g25W A n p m K .ret s = K .ret s := rfl
theorem g25Vs {R : Type} (A : Ar) (n : Nat) (p : List Bool) (m : Nat) (K : Ex → St → Option R) (s : St) : g25V A n p (m + 1) K s = g25D A n p (g25W A n p m K) s := rfl
theorem g25F {R : Type} (A : Ar) (n : Nat) (p : List Bool) (i : Nat) (K : Ex → St → Option R) (s s' : St) (hf : firstReg (sub (bodyOf Try.f25) p) = some i) (h : keep g25an i s = keep g25an i s') : g25D A n p K s = g25D A n p K s' := codeD_first hf h K
section
variable {R : Type} (A : Ar) (n : Nat) (K : Ex → St → Option R) (s : St)
theorem g25p1 : g25D A n (pth 1) K s = g25D A n (pth 2) (g25Q A n (pth 3) K) s := by kernel_rfl
theorem g25p3 : g25D A n (pth 3) K s = g25D A n (pth 5) (g25Q A n (pth 7) K) s := by kernel_rfl
theorem g25p7 : g25D A n (pth 7) K s = g25D A n (pth 11) (g25Q A n (pth 15) K) s := by kernel_rfl
theorem g25p11 : g25D A n (pth 11) K s = g25D A n (pth 19) (g25Q A n (pth 27) K) s := by kernel_rfl
theorem g25p27 (t : Bool) : ev s (.tmp 9) = some (.v (.cell (.bool t))) → g25D A n (pth 27) K s = (match t with
    | true => g25D A n (pth 43) K s
    | false => g25D A n (pth 59) K s) := codeD_cond t
theorem g25p43 : g25D A n (pth 43) K s = g25D A n (pth 75) (g25Q A n (pth 107) K) s := by kernel_rfl
theorem g25p107 : g25D A n (pth 107) K s = K .ret s := by kernel_rfl
theorem g25p59 : g25D A n (pth 59) K s = K .normal s := by kernel_rfl
theorem g25p15 : g25D A n (pth 15) K s = g25D A n (pth 23) (g25Q A n (pth 31) K) s := by kernel_rfl
theorem g25p23 : g25D A n (pth 23) K s = g25D A n (pth 39) (g25Q A n (pth 55) K) s := by kernel_rfl
theorem g25p55 : g25D A n (pth 55) K s = g25D A n (pth 87) (blockK 0 K) s := by kernel_rfl
theorem g25p87 : g25D A n (pth 87) K s = g25V A n (pth 151) n K s := by kernel_rfl
theorem g25p151 : g25D A n (pth 151) K s = g25D A n (pth 279) (g25Q A n (pth 407) K) s := by kernel_rfl
theorem g25p279 : g25D A n (pth 279) K s = g25D A n (pth 535) (g25Q A n (pth 791) K) s := by kernel_rfl
theorem g25p791 (t : Bool) : ev s (.tmp 11) = some (.v (.cell (.bool t))) → g25D A n (pth 791) K s = (match t with
    | true => g25D A n (pth 1303) K s
    | false => g25D A n (pth 1815) K s) := codeD_cond t
theorem g25p1303 : g25D A n (pth 1303) K s = K .normal s := by kernel_rfl
theorem g25p1815 : g25D A n (pth 1815) K s = K (.exit 0) s := by kernel_rfl
theorem g25p407 : g25D A n (pth 407) K s = g25D A n (pth 663) (g25Q A n (pth 919) K) s := by kernel_rfl
theorem g25p663 : g25D A n (pth 663) K s = g25D A n (pth 1175) (blockK 1 K) s := by kernel_rfl
theorem g25p1175 : g25D A n (pth 1175) K s = g25D A n (pth 2199) (g25Q A n (pth 3223) K) s := by kernel_rfl
theorem g25p3223 (t : Bool) : ev s (.tmp 22) = some (.v (.cell (.bool t))) → g25D A n (pth 3223) K s = (match t with
    | true => g25D A n (pth 5271) K s
    | false => g25D A n (pth 7319) K s) := codeD_cond t
theorem g25p5271 : g25D A n (pth 5271) K s = g25D A n (pth 9367) (g25Q A n (pth 13463) K) s := by kernel_rfl
theorem g25p13463 : g25D A n (pth 13463) K s = K .ret s := by kernel_rfl
theorem g25p7319 : g25D A n (pth 7319) K s = K .normal s := by kernel_rfl
theorem g25p31 : g25D A n (pth 31) K s = g25D A n (pth 47) (g25Q A n (pth 63) K) s := by kernel_rfl
theorem g25p63 : g25D A n (pth 63) K s = K .ret s := by kernel_rfl
def g25R7s0 (A : Ar) (x0 x1 : Nat) (x2 : Int) (x3 : Nat) (x4 : List Int) (x5 : Nat) (x6 : List Int) : St := ⟨[(22, (bO (A.ic .neq (x4.getD (A.toN x2) 0) (x6.getD (A.toN x2) 0)))), (21, (i6 (x6.getD (A.toN x2) 0))), (20, (.v (.cell (.ptr 2000 0 (some ⟨A.toN x2, 1, x1, A.toN x2, 0, 1⟩))))), (19, (i6 x2)), (18, (sL 2000 none x1 1)), (17, (i6 (x4.getD (A.toN x2) 0))), (16, (.v (.cell (.ptr 0 0 (some ⟨A.toN x2, 1, x0, A.toN x2, 0, 1⟩))))), (15, (i6 x2)), (14, (sL 0 none x0 1)), (0, (sL 0 none x0 1)), (3, (sL 2000 none x1 1)), (4, (i6 x2))], [(0, ⟨[.ints .i64 x3 x4], 3, 2⟩), (2000, ⟨[.ints .i64 x5 x6], 3, 2⟩)]⟩
theorem g25R7 (x0 x1 : Nat) (x2 : Int) (x3 : Nat) (x4 : List Int) (x5 : Nat) (x6 : List Int) : g25D A n (pth 2199) K ⟨[(0, (sL 0 none x0 1)), (3, (sL 2000 none x1 1)), (4, (i6 x2))], [(0, ⟨[.ints .i64 x3 x4], 3, 2⟩), (2000, ⟨[.ints .i64 x5 x6], 3, 2⟩)]⟩ = match (generalizing := false) A.neg x2 with
    | true => none
    | false => match (generalizing := false) A.lt (A.toN x2) x0 with
      | true => match (generalizing := false) A.neg x2 with
        | true => none
        | false => match (generalizing := false) A.lt (A.toN x2) x1 with
          | true => K .normal (g25R7s0 A x0 x1 x2 x3 x4 x5 x6)
          | false => none
      | false => none := by kernel_rfl
def g25R8s0 (A : Ar) (x0 x1 : Nat) (x2 : Int) (x3 : Nat) (x4 : List Int) (x5 : Nat) (x6 : List Int) : St := ⟨[(2, (bO (A.ic .lss (x4.getD (A.toN x2) 0) (x6.getD (A.toN x2) 0)))), (31, (bO (A.ic .lss (x4.getD (A.toN x2) 0) (x6.getD (A.toN x2) 0)))), (30, (i6 (x6.getD (A.toN x2) 0))), (29, (.v (.cell (.ptr 2000 0 (some ⟨A.toN x2, 1, x1, A.toN x2, 0, 1⟩))))), (28, (i6 x2)), (27, (sL 2000 none x1 1)), (26, (i6 (x4.getD (A.toN x2) 0))), (25, (.v (.cell (.ptr 0 0 (some ⟨A.toN x2, 1, x0, A.toN x2, 0, 1⟩))))), (24, (i6 x2)), (23, (sL 0 none x0 1)), (0, (sL 0 none x0 1)), (3, (sL 2000 none x1 1)), (4, (i6 x2))], [(0, ⟨[.ints .i64 x3 x4], 3, 2⟩), (2000, ⟨[.ints .i64 x5 x6], 3, 2⟩)]⟩
theorem g25R8 (x0 x1 : Nat) (x2 : Int) (x3 : Nat) (x4 : List Int) (x5 : Nat) (x6 : List Int) : g25D A n (pth 9367) K ⟨[(0, (sL 0 none x0 1)), (3, (sL 2000 none x1 1)), (4, (i6 x2))], [(0, ⟨[.ints .i64 x3 x4], 3, 2⟩), (2000, ⟨[.ints .i64 x5 x6], 3, 2⟩)]⟩ = match (generalizing := false) A.neg x2 with
    | true => none
    | false => match (generalizing := false) A.lt (A.toN x2) x0 with
      | true => match (generalizing := false) A.neg x2 with
        | true => none
        | false => match (generalizing := false) A.lt (A.toN x2) x1 with
          | true => K .normal (g25R8s0 A x0 x1 x2 x3 x4 x5 x6)
          | false => none
      | false => none := by kernel_rfl
def g25R6s0 (A : Ar) (x0 x1 : Nat) (x2 : Int) (x3 : Nat) (x4 : List Int) (x5 : Nat) (x6 : List Int) : St := ⟨[(4, (i6 (A.ib .sub .i64 x2 1))), (13, (i6 (A.ib .sub .i64 x2 1))), (12, (i6 x2)), (0, (sL 0 none x0 1)), (3, (sL 2000 none x1 1)), (4, (i6 x2))], [(0, ⟨[.ints .i64 x3 x4], 3, 2⟩), (2000, ⟨[.ints .i64 x5 x6], 3, 2⟩)]⟩
theorem g25R6 (x0 x1 : Nat) (x2 : Int) (x3 : Nat) (x4 : List Int) (x5 : Nat) (x6 : List Int) : g25D A n (pth 919) K ⟨[(0, (sL 0 none x0 1)), (3, (sL 2000 none x1 1)), (4, (i6 x2))], [(0, ⟨[.ints .i64 x3 x4], 3, 2⟩), (2000, ⟨[.ints .i64 x5 x6], 3, 2⟩)]⟩ = K .normal (g25R6s0 A x0 x1 x2 x3 x4 x5 x6) := by kernel_rfl
def g25R5s0 (A : Ar) (x0 x1 : Nat) (x2 : Int) (x3 : Nat) (x4 : List Int) (x5 : Nat) (x6 : List Int) : St := ⟨[(11, (bO (A.ic .geq x2 0))), (10, (i6 x2)), (0, (sL 0 none x0 1)), (3, (sL 2000 none x1 1)), (4, (i6 x2))], [(0, ⟨[.ints .i64 x3 x4], 3, 2⟩), (2000, ⟨[.ints .i64 x5 x6], 3, 2⟩)]⟩
theorem g25R5 (x0 x1 : Nat) (x2 : Int) (x3 : Nat) (x4 : List Int) (x5 : Nat) (x6 : List Int) : g25D A n (pth 535) K ⟨[(0, (sL 0 none x0 1)), (3, (sL 2000 none x1 1)), (4, (i6 x2))], [(0, ⟨[.ints .i64 x3 x4], 3, 2⟩), (2000, ⟨[.ints .i64 x5 x6], 3, 2⟩)]⟩ = K .normal (g25R5s0 A x0 x1 x2 x3 x4 x5 x6) := by kernel_rfl
def g25R9s0 (A : Ar) (x0 : Nat) (x1 : List Int) : St := ⟨[(2, (bO false))], [(0, ⟨[.ints .i64 x0 x1], 3, 2⟩)]⟩
theorem g25R9 (x0 : Nat) (x1 : List Int) : g25D A n (pth 47) K ⟨[], [(0, ⟨[.ints .i64 x0 x1], 3, 2⟩)]⟩ = K .normal (g25R9s0 A x0 x1) := by kernel_rfl
def g25R4s0 (A : Ar) (x0 x1 x2 : Nat) (x3 : List Int) (x4 : Nat) (x5 : List Int) : St := ⟨[(4, (i6 31)), (0, (sL 0 none x0 1)), (3, (sL 2000 none x1 1))], [(0, ⟨[.ints .i64 x2 x3], 3, 2⟩), (2000, ⟨[.ints .i64 x4 x5], 3, 2⟩)]⟩
theorem g25R4 (x0 x1 x2 : Nat) (x3 : List Int) (x4 : Nat) (x5 : List Int) : g25D A n (pth 39) K ⟨[(0, (sL 0 none x0 1)), (3, (sL 2000 none x1 1))], [(0, ⟨[.ints .i64 x2 x3], 3, 2⟩), (2000, ⟨[.ints .i64 x4 x5], 3, 2⟩)]⟩ = K .normal (g25R4s0 A x0 x1 x2 x3 x4 x5) := by kernel_rfl
def g25R0s0 (A : Ar) (x0 x1 : Nat) (x2 : List Int) : St := ⟨[(2, (bO false)), (0, (sL 0 none x0 1))], [(0, ⟨[.ints .i64 x1 x2], 3, 2⟩)]⟩
theorem g25R0 (x0 x1 : Nat) (x2 : List Int) : g25D A n (pth 2) K ⟨[(0, (sL 0 none x0 1))], [(0, ⟨[.ints .i64 x1 x2], 3, 2⟩)]⟩ = K .normal (g25R0s0 A x0 x1 x2) := by kernel_rfl
def g25R1s0 (A : Ar) (x0 x1 : Nat) (x2 : List Int) : St := ⟨[(3, (sL 2000 none (g24r0 A) 1)), (5, (sL 2000 none (g24r0 A) 1)), (0, (sL 0 none x0 1))], [(2000, ⟨[.ints .i64 (g24r1 A) (g24r2 A)], 3, 2⟩), (0, ⟨[.ints .i64 x1 x2], 3, 2⟩)]⟩
theorem g25R1 (x0 x1 : Nat) (x2 : List Int) : g25D A n (pth 5) K ⟨[(0, (sL 0 none x0 1))], [(0, ⟨[.ints .i64 x1 x2], 3, 2⟩)]⟩ = match (generalizing := false) g24ok A with
    | true => K .normal (g25R1s0 A x0 x1 x2)
    | false => none := by kernel_rfl
def g25R2s0 (A : Ar) (x0 x1 x2 : Nat) (x3 : List Int) (x4 : Nat) (x5 : List Int) : St := ⟨[(9, (bO (A.ic .gtr (x3.getD 32 0) 0))), (8, (i6 (x3.getD 32 0))), (7, (.v (.cell (.ptr 0 0 (some ⟨32, 1, x0, 32, 0, 1⟩))))), (6, (sL 0 none x0 1)), (0, (sL 0 none x0 1)), (3, (sL 2000 none x1 1))], [(0, ⟨[.ints .i64 x2 x3], 3, 2⟩), (2000, ⟨[.ints .i64 x4 x5], 3, 2⟩)]⟩
theorem g25R2 (x0 x1 x2 : Nat) (x3 : List Int) (x4 : Nat) (x5 : List Int) : g25D A n (pth 19) K ⟨[(0, (sL 0 none x0 1)), (3, (sL 2000 none x1 1))], [(0, ⟨[.ints .i64 x2 x3], 3, 2⟩), (2000, ⟨[.ints .i64 x4 x5], 3, 2⟩)]⟩ = match (generalizing := false) Nat.blt 32 x0 with
    | true => K .normal (g25R2s0 A x0 x1 x2 x3 x4 x5)
    | false => none := by kernel_rfl
def g25R3s0 (A : Ar) (x0 : Nat) (x1 : List Int) : St := ⟨[(2, (bO false))], [(0, ⟨[.ints .i64 x0 x1], 3, 2⟩)]⟩
theorem g25R3 (x0 : Nat) (x1 : List Int) : g25D A n (pth 75) K ⟨[], [(0, ⟨[.ints .i64 x0 x1], 3, 2⟩)]⟩ = K .normal (g25R3s0 A x0 x1) := by kernel_rfl
end
def g25J7 {R : Type} (A : Ar) (n : Nat) (kk : AV → Heap → Option R) (lg25L5 : Nat → Nat → Int → Nat → List Int → Nat → List Int → Option R) (x0 x1 : Nat) (x2 : Int) (x3 : Nat) (x4 : List Int) (x5 : Nat) (x6 : List Int) : Option R :=
  match (generalizing := false) A.neg x2 with
  | true => none
  | false => match (generalizing := false) A.lt (A.toN x2) x0 with
    | true => match (generalizing := false) A.neg x2 with
      | true => none
      | false => match (generalizing := false) A.lt (A.toN x2) x1 with
        | true => match (generalizing := false) A.ic .neq (x4.getD (A.toN x2) 0) (x6.getD (A.toN x2) 0) with
          | true => match (generalizing := false) A.neg x2 with
            | true => none
            | false => match (generalizing := false) A.lt (A.toN x2) x0 with
              | true => match (generalizing := false) A.neg x2 with
                | true => none
                | false => match (generalizing := false) A.lt (A.toN x2) x1 with
                  | true => kk (bO (A.ic .lss (x4.getD (A.toN x2) 0) (x6.getD (A.toN x2) 0))) [(0, ⟨[.ints .i64 x3 x4], 3, 2⟩), (2000, ⟨[.ints .i64 x5 x6], 3, 2⟩)]
                  | false => none
              | false => none
          | false => lg25L5 x0 x1 (A.ib .sub .i64 x2 1) x3 x4 x5 x6
        | false => none
    | false => none
set_option maxRecDepth 100000 in
theorem g25J7_eq {R : Type} (A : Ar) (n : Nat) (kk : AV → Heap → Option R) (m0 : Nat) (lg25L5 : Nat → Nat → Int → Nat → List Int → Nat → List Int → Option R) 
    (hg25L5 : ∀ (s : St) (x0 x1 : Nat) (x2 : Int) (x3 : Nat) (x4 : List Int) (x5 : Nat) (x6 : List Int), keep g25an 5 s = ⟨[(0, (sL 0 none x0 1)), (3, (sL 2000 none x1 1)), (4, (i6 x2))], [(0, ⟨[.ints .i64 x3 x4], 3, 2⟩), (2000, ⟨[.ints .i64 x5 x6], 3, 2⟩)]⟩ → g25V A n (pth 151) m0 (blockK 0 (g25Q A n (pth 31) (g25T kk))) s = lg25L5 x0 x1 x2 x3 x4 x5 x6) (s : St) (x0 x1 : Nat) (x2 : Int) (x3 : Nat) (x4 : List Int) (x5 : Nat) (x6 : List Int) (h : keep g25an 7 s = ⟨[(0, (sL 0 none x0 1)), (3, (sL 2000 none x1 1)), (4, (i6 x2))], [(0, ⟨[.ints .i64 x3 x4], 3, 2⟩), (2000, ⟨[.ints .i64 x5 x6], 3, 2⟩)]⟩) :
    g25D A n (pth 407) (g25W A n (pth 151) m0 (blockK 0 (g25Q A n (pth 31) (g25T kk)))) s = g25J7 A n kk lg25L5 x0 x1 x2 x3 x4 x5 x6 := by
  have h1 : (g25T kk) .ret (g25R8s0 A x0 x1 x2 x3 x4 x5 x6) = kk (bO (A.ic .lss (x4.getD (A.toN x2) 0) (x6.getD (A.toN x2) 0))) [(0, ⟨[.ints .i64 x3 x4], 3, 2⟩), (2000, ⟨[.ints .i64 x5 x6], 3, 2⟩)] := by kernel_rfl
  have h2 := (g25Qr A n (pth 31) _ _).trans h1
  have h3 := (blockK_r 0 _ _).trans h2
  have h4 := (g25Wr A n (pth 151) m0 _ _).trans h3
  have h5 := (g25Qr A n (pth 919) _ _).trans h4
  have h6 := (blockK_r 1 _ _).trans h5
  have h7 := (g25p13463 A n _ _).trans h6
  have h8 := (g25Qn A n _ _ _).trans h7
  have h9 := (g25F A n _ 8 _ (g25R7s0 A x0 x1 x2 x3 x4 x5 x6) _ (by kernel_rfl) (by kernel_rfl)).trans (g25R8 A n (g25Q A n (pth 13463) (blockK 1 (g25Q A n (pth 919) (g25W A n (pth 151) m0 (blockK 0 (g25Q A n (pth 31) (g25T kk))))))) x0 x1 x2 x3 x4 x5 x6)
  rw [h8] at h9
  have h10 := (g25p5271 A n _ _).trans h9
  have h11 := (g25Wn A n _ _ _ _).trans (hg25L5 (g25R6s0 A x0 x1 x2 x3 x4 x5 x6) x0 x1 (A.ib .sub .i64 x2 1) x3 x4 x5 x6 (by kernel_rfl))
  have h12 := (g25F A n _ 6 _ (g25R7s0 A x0 x1 x2 x3 x4 x5 x6) _ (by kernel_rfl) (by kernel_rfl)).trans (g25R6 A n (g25W A n (pth 151) m0 (blockK 0 (g25Q A n (pth 31) (g25T kk)))) x0 x1 x2 x3 x4 x5 x6)
  rw [h11] at h12
  have h13 := (g25Qn A n _ _ _).trans h12
  have h14 := (blockK_n 1 _ _).trans h13
  have h15 := (g25p7319 A n _ _).trans h14
  have h16 := g25p3223 A n (blockK 1 (g25Q A n (pth 919) (g25W A n (pth 151) m0 (blockK 0 (g25Q A n (pth 31) (g25T kk)))))) (g25R7s0 A x0 x1 x2 x3 x4 x5 x6) (A.ic .neq (x4.getD (A.toN x2) 0) (x6.getD (A.toN x2) 0)) (by kernel_rfl)
  rw [h10, h15] at h16
  have h17 := (g25Qn A n _ _ _).trans h16
  have h18 := (g25F A n _ 7 _ ⟨[(0, (sL 0 none x0 1)), (3, (sL 2000 none x1 1)), (4, (i6 x2))], [(0, ⟨[.ints .i64 x3 x4], 3, 2⟩), (2000, ⟨[.ints .i64 x5 x6], 3, 2⟩)]⟩ _ (by kernel_rfl) (by kernel_rfl)).trans (g25R7 A n (g25Q A n (pth 3223) (blockK 1 (g25Q A n (pth 919) (g25W A n (pth 151) m0 (blockK 0 (g25Q A n (pth 31) (g25T kk))))))) x0 x1 x2 x3 x4 x5 x6)
  rw [h17] at h18
  have h19 := (g25p1175 A n _ _).trans h18
  have h20 := (g25p663 A n _ _).trans h19
  have h21 := (g25p407 A n _ _).trans h20
  exact (g25F A n _ 7 _ _ ⟨[(0, (sL 0 none x0 1)), (3, (sL 2000 none x1 1)), (4, (i6 x2))], [(0, ⟨[.ints .i64 x3 x4], 3, 2⟩), (2000, ⟨[.ints .i64 x5 x6], 3, 2⟩)]⟩ (by kernel_rfl) (h.trans (by kernel_rfl))).trans (h21.trans (by kernel_rfl))
def g25L5 {R : Type} (A : Ar) (n : Nat) (kk : AV → Heap → Option R)  : Nat → Nat → Nat → Int → Nat → List Int → Nat → List Int → Option R
  | 0, _, _, _, _, _, _, _ => none
  | m + 1, x0, x1, x2, x3, x4, x5, x6 => match (generalizing := false) A.ic .geq x2 0 with
  | true => g25J7 A n kk (g25L5 A n kk  m) x0 x1 x2 x3 x4 x5 x6
  | false => kk (bO false) [(0, ⟨[.ints .i64 x3 x4], 3, 2⟩)]
set_option maxRecDepth 100000 in
theorem g25L5_eq {R : Type} (A : Ar) (n : Nat) (kk : AV → Heap → Option R)    (m : Nat) (s : St) (x0 x1 : Nat) (x2 : Int) (x3 : Nat) (x4 : List Int) (x5 : Nat) (x6 : List Int) (h : keep g25an 5 s = ⟨[(0, (sL 0 none x0 1)), (3, (sL 2000 none x1 1)), (4, (i6 x2))], [(0, ⟨[.ints .i64 x3 x4], 3, 2⟩), (2000, ⟨[.ints .i64 x5 x6], 3, 2⟩)]⟩) :
    g25V A n (pth 151) m (blockK 0 (g25Q A n (pth 31) (g25T kk))) s = g25L5 A n kk  m x0 x1 x2 x3 x4 x5 x6 := by
  induction m generalizing s x0 x1 x2 x3 x4 x5 x6 with
  | zero => rfl
  | succ m ih =>
    have h1 := (g25Qn A n _ _ _).trans (g25J7_eq A n kk m (g25L5 A n kk  m) ih  (g25R5s0 A x0 x1 x2 x3 x4 x5 x6) x0 x1 x2 x3 x4 x5 x6 (by kernel_rfl))
    have h2 := (g25p1303 A n _ _).trans h1
    have h3 : (g25T kk) .ret (g25R9s0 A x3 x4) = kk (bO false) [(0, ⟨[.ints .i64 x3 x4], 3, 2⟩)] := by kernel_rfl
    have h4 := (g25p63 A n _ _).trans h3
    have h5 := (g25Qn A n _ _ _).trans h4
    have h6 := (g25F A n _ 9 _ (g25R5s0 A x0 x1 x2 x3 x4 x5 x6) _ (by kernel_rfl) (by kernel_rfl)).trans (g25R9 A n (g25Q A n (pth 63) (g25T kk)) x3 x4)
    rw [h5] at h6
    have h7 := (g25p31 A n _ _).trans h6
    have h8 := (g25Qn A n _ _ _).trans h7
    have h9 := (blockK_hit 0 _ _).trans h8
    have h10 := (g25We A n (pth 151) m _ _ _).trans h9
    have h11 := (g25Qe A n (pth 407) _ _ _).trans h10
    have h12 := (g25p1815 A n _ _).trans h11
    have h13 := g25p791 A n (g25Q A n (pth 407) (g25W A n (pth 151) m (blockK 0 (g25Q A n (pth 31) (g25T kk))))) (g25R5s0 A x0 x1 x2 x3 x4 x5 x6) (A.ic .geq x2 0) (by kernel_rfl)
    rw [h2, h12] at h13
    have h14 := (g25Qn A n _ _ _).trans h13
    have h15 := (g25F A n _ 5 _ ⟨[(0, (sL 0 none x0 1)), (3, (sL 2000 none x1 1)), (4, (i6 x2))], [(0, ⟨[.ints .i64 x3 x4], 3, 2⟩), (2000, ⟨[.ints .i64 x5 x6], 3, 2⟩)]⟩ _ (by kernel_rfl) (by kernel_rfl)).trans (g25R5 A n (g25Q A n (pth 791) (g25Q A n (pth 407) (g25W A n (pth 151) m (blockK 0 (g25Q A n (pth 31) (g25T kk)))))) x0 x1 x2 x3 x4 x5 x6)
    rw [h14] at h15
    have h16 := (g25p279 A n _ _).trans h15
    have h17 := (g25p151 A n _ _).trans h16
    exact (loopD_first (s' := ⟨[(0, (sL 0 none x0 1)), (3, (sL 2000 none x1 1)), (4, (i6 x2))], [(0, ⟨[.ints .i64 x3 x4], 3, 2⟩), (2000, ⟨[.ints .i64 x5 x6], 3, 2⟩)]⟩) (id := 5) (by kernel_rfl) (h.trans (by kernel_rfl)) _).trans ((g25Vs A n _ m _ _).trans (h17.trans (by kernel_rfl)))
def g25J4 {R : Type} (A : Ar) (n : Nat) (kk : AV → Heap → Option R)  (x0 x1 x2 : Nat) (x3 : List Int) (x4 : Nat) (x5 : List Int) : Option R :=
  g25L5 A n kk  n x0 x1 31 x2 x3 x4 x5
set_option maxRecDepth 100000 in
theorem g25J4_eq {R : Type} (A : Ar) (n : Nat) (kk : AV → Heap → Option R)    (s : St) (x0 x1 x2 : Nat) (x3 : List Int) (x4 : Nat) (x5 : List Int) (h : keep g25an 4 s = ⟨[(0, (sL 0 none x0 1)), (3, (sL 2000 none x1 1))], [(0, ⟨[.ints .i64 x2 x3], 3, 2⟩), (2000, ⟨[.ints .i64 x4 x5], 3, 2⟩)]⟩) :
    g25D A n (pth 15) (g25T kk) s = g25J4 A n kk  x0 x1 x2 x3 x4 x5 := by
  have h1 := (g25p87 A n _ _).trans (g25L5_eq A n kk    n (g25R4s0 A x0 x1 x2 x3 x4 x5) x0 x1 31 x2 x3 x4 x5 (by kernel_rfl))
  have h2 := (g25p55 A n _ _).trans h1
  have h3 := (g25Qn A n _ _ _).trans h2
  have h4 := (g25F A n _ 4 _ ⟨[(0, (sL 0 none x0 1)), (3, (sL 2000 none x1 1))], [(0, ⟨[.ints .i64 x2 x3], 3, 2⟩), (2000, ⟨[.ints .i64 x4 x5], 3, 2⟩)]⟩ _ (by kernel_rfl) (by kernel_rfl)).trans (g25R4 A n (g25Q A n (pth 55) (g25Q A n (pth 31) (g25T kk))) x0 x1 x2 x3 x4 x5)
  rw [h3] at h4
  have h5 := (g25p23 A n _ _).trans h4
  have h6 := (g25p15 A n _ _).trans h5
  exact (g25F A n _ 4 _ _ ⟨[(0, (sL 0 none x0 1)), (3, (sL 2000 none x1 1))], [(0, ⟨[.ints .i64 x2 x3], 3, 2⟩), (2000, ⟨[.ints .i64 x4 x5], 3, 2⟩)]⟩ (by kernel_rfl) (h.trans (by kernel_rfl))).trans (h6.trans (by kernel_rfl))
def g25 {R : Type} (A : Ar) (n : Nat) (kk : AV → Heap → Option R) (x0 x1 : Nat) (x2 : List Int) : Option R :=
  match (generalizing := false) g24ok A with
  | true => match (generalizing := false) Nat.blt 32 x0 with
    | true => match (generalizing := false) A.ic .gtr (x2.getD 32 0) 0 with
      | true => kk (bO false) [(0, ⟨[.ints .i64 x1 x2], 3, 2⟩)]
      | false => g25J4 A n kk  x0 (g24r0 A) x1 x2 (g24r1 A) (g24r2 A)
    | false => none
  | false => none
set_option maxRecDepth 100000 in
theorem g25_eq {R : Type} (A : Ar) (n : Nat) (kk : AV → Heap → Option R) (x0 x1 : Nat) (x2 : List Int) :
    funD A gtys (g25O A) g25an n (bodyOf Try.f25) g25res [(sL 0 none x0 1)] [(0, ⟨[.ints .i64 x1 x2], 3, 2⟩)] kk = g25 A n kk x0 x1 x2 := by
  have h1 : (g25T kk) .ret (g25R3s0 A x1 x2) = kk (bO false) [(0, ⟨[.ints .i64 x1 x2], 3, 2⟩)] := by kernel_rfl
  have h2 := (g25Qr A n (pth 15) _ _).trans h1
  have h3 := (g25p107 A n _ _).trans h2
  have h4 := (g25Qn A n _ _ _).trans h3
  have h5 := (g25F A n _ 3 _ (g25R2s0 A x0 (g24r0 A) x1 x2 (g24r1 A) (g24r2 A)) _ (by kernel_rfl) (by kernel_rfl)).trans (g25R3 A n (g25Q A n (pth 107) (g25Q A n (pth 15) (g25T kk))) x1 x2)
  rw [h4] at h5
  have h6 := (g25p43 A n _ _).trans h5
  have h7 := (g25Qn A n _ _ _).trans (g25J4_eq A n kk     (g25R2s0 A x0 (g24r0 A) x1 x2 (g24r1 A) (g24r2 A)) x0 (g24r0 A) x1 x2 (g24r1 A) (g24r2 A) (by kernel_rfl))
  have h8 := (g25p59 A n _ _).trans h7
  have h9 := g25p27 A n (g25Q A n (pth 15) (g25T kk)) (g25R2s0 A x0 (g24r0 A) x1 x2 (g24r1 A) (g24r2 A)) (A.ic .gtr (x2.getD 32 0) 0) (by kernel_rfl)
  rw [h6, h8] at h9
  have h10 := (g25Qn A n _ _ _).trans h9
  have h11 := (g25F A n _ 2 _ (g25R1s0 A x0 x1 x2) _ (by kernel_rfl) (by kernel_rfl)).trans (g25R2 A n (g25Q A n (pth 27) (g25Q A n (pth 15) (g25T kk))) x0 (g24r0 A) x1 x2 (g24r1 A) (g24r2 A))
  rw [h10] at h11
  have h12 := (g25p11 A n _ _).trans h11
  have h13 := (g25p7 A n _ _).trans h12
  have h14 := (g25Qn A n _ _ _).trans h13
  have h15 := (g25F A n _ 1 _ (g25R0s0 A x0 x1 x2) _ (by kernel_rfl) (by kernel_rfl)).trans (g25R1 A n (g25Q A n (pth 7) (g25T kk)) x0 x1 x2)
  rw [h14] at h15
  have h16 := (g25p3 A n _ _).trans h15
  have h17 := (g25Qn A n _ _ _).trans h16
  have h18 := (g25F A n _ 0 _ ⟨[(0, (sL 0 none x0 1))], [(0, ⟨[.ints .i64 x1 x2], 3, 2⟩)]⟩ _ (by kernel_rfl) (by kernel_rfl)).trans (g25R0 A n (g25Q A n (pth 3) (g25T kk)) x0 x1 x2)
  rw [h17] at h18
  have h19 := (g25p1 A n _ _).trans h18
  exact (show funD A gtys (g25O A) g25an n (bodyOf Try.f25) g25res [(sL 0 none x0 1)] [(0, ⟨[.ints .i64 x1 x2], 3, 2⟩)] kk = g25D A n (pth 1) (g25T kk) ⟨[(0, (sL 0 none x0 1))], [(0, ⟨[.ints .i64 x1 x2], 3, 2⟩)]⟩ from by kernel_rfl).trans (h19.trans (by kernel_rfl))
def g25is (o : Option (AV × Heap)) : Bool := match o with
  | some (.v (.cell (.bool _)), [(n0, ⟨[.ints .i64 _ _], n1, n2⟩)]) => Nat.beq n0 0 && (Nat.beq n1 3 && (Nat.beq n2 2))
  | _ => false
def g25g0 (o : Option (AV × Heap)) : Bool := match o with
  | some (.v (.cell (.bool x)), [(_, ⟨[.ints .i64 _ _], _, _⟩)]) => x
  | _ => false
def g25g1 (o : Option (AV × Heap)) : Nat := match o with
  | some (.v (.cell (.bool _)), [(_, ⟨[.ints .i64 x _], _, _⟩)]) => x
  | _ => 0
def g25g2 (o : Option (AV × Heap)) : List Int := match o with
  | some (.v (.cell (.bool _)), [(_, ⟨[.ints .i64 _ x], _, _⟩)]) => x
  | _ => []
theorem g25is_spec {o : Option (AV × Heap)} (h : g25is o = true) : o = some ((bO (g25g0 o)), [(0, ⟨[.ints .i64 (g25g1 o) (g25g2 o)], 3, 2⟩)]) := by
  unfold g25is at h
  split at h
  · rename_i z0 n0 z2 z3 n1 n2
    simp only [Bool.and_eq_true] at h
    have en0 := beq_true h.1
    subst en0
    replace h := h.2
    have en1 := beq_true h.1
    subst en1
    replace h := h.2
    have en2 := beq_true h
    subst en2
    rfl
  · cases h
def g25v (A : Ar) (x0 x1 : Nat) (x2 : List Int) : Option (AV × Heap) := g25 A (100000) (outH [0] none) x0 x1 x2
def g25ok (A : Ar) (x0 x1 : Nat) (x2 : List Int) : Bool := g25is (g25v A x0 x1 x2)
def g25r0 (A : Ar) (x0 x1 : Nat) (x2 : List Int) : Bool := g25g0 (g25v A x0 x1 x2)
def g25r1 (A : Ar) (x0 x1 : Nat) (x2 : List Int) : Nat := g25g1 (g25v A x0 x1 x2)
def g25r2 (A : Ar) (x0 x1 : Nat) (x2 : List Int) : List Int := g25g2 (g25v A x0 x1 x2)
theorem g25ok_spec {A : Ar} {x0 x1 x2} (h : g25ok A x0 x1 x2 = true) : g25v A x0 x1 x2 = some ((bO (g25r0 A x0 x1 x2)), [(0, ⟨[.ints .i64 (g25r1 A x0 x1 x2) (g25r2 A x0 x1 x2)], 3, 2⟩)]) := g25is_spec h
def g25o (A : Ar) (args : List AV) (h : Heap) : Option (Bool × AV × Heap) := match args, h with
  | [.v (.cell (.sl n0 none x0 n1))], [(n2, ⟨[.ints .i64 x1 x2], n3, n4⟩)] => match Nat.beq n0 0 && (Nat.beq n1 1 && (Nat.beq n2 0 && (Nat.beq n3 3 && (Nat.beq n4 2)))) with
    | true => some (g25ok A x0 x1 x2, (bO (g25r0 A x0 x1 x2)), [(0, ⟨[.ints .i64 (g25r1 A x0 x1 x2) (g25r2 A x0 x1 x2)], 3, 2⟩)])
    | false => none
  | _, _ => none
theorem g25o_sound : ∀ args h v h', g25o realA args h = some (true, v, h') → FnH Try.prog 25 args h v h' := by
  intro args h v h' hh
  unfold g25o at hh
  split at hh
  · rename_i n0 x0 n1 n2 x1 x2 n3 n4
    split at hh
    case h_2 => cases hh
    rename_i hc0
    simp only [Option.some.injEq, Prod.mk.injEq] at hh
    obtain ⟨hc, hv, hh⟩ := hh
    subst hv
    subst hh
    simp only [Bool.and_eq_true] at hc0
    have en0 := beq_true hc0.1
    subst en0
    replace hc0 := hc0.2
    have en1 := beq_true hc0.1
    subst en1
    replace hc0 := hc0.2
    have en2 := beq_true hc0.1
    subst en2
    replace hc0 := hc0.2
    have en3 := beq_true hc0.1
    subst en3
    replace hc0 := hc0.2
    have en4 := beq_true hc0
    subst en4
    exact fnh_of mixed gtysOK g25O_sound g25O_det (an := g25an) (n := 100000) Try.func25 (c := bodyOf Try.f25) rfl (by kernel_rfl) Try.call25 (Nat.le_of_ble_eq_true rfl) (pins := [0]) (nilr := none) (fun _ => (g25_eq realA (100000) (outH [0] none) x0 x1 x2).trans (show g25v realA x0 x1 x2 = _ from g25ok_spec hc))
  · cases hh
def g11O (A : Ar) : Orc := orcH [(21, g21o A)] [(24, ⟨[], none, (g24o A)⟩), (25, ⟨[], none, (g25o A)⟩)]
theorem g11O_sound : OSound Try.prog (g11O realA) := orcH_sound (fun f g hm args v hv => by
    simp only [List.mem_cons, List.not_mem_nil, or_false, Prod.mk.injEq] at hm
    rcases hm with ⟨rfl, rfl⟩
    · exact g21o_sound _ _ hv) (fun f e hm args h v h' hv => by
    simp only [List.mem_cons, List.not_mem_nil, or_false, Prod.mk.injEq] at hm
    rcases hm with ⟨rfl, rfl⟩ | ⟨rfl, rfl⟩
    · exact g24o_sound _ _ _ _ hv
    · exact g25o_sound _ _ _ _ hv)
theorem g11O_det : ODet (g11O realA) := orcH_det _ _
def g11an : Ann := [(0, ([0], [])), (1, ([0], [])), (2, ([0], [])), (3, ([0, 3], [3000])), (4, ([0, 3, 4], [3000, 4000])), (5, ([0, 3, 4, 5], [3000, 4000])), (6, ([0, 3, 4, 5], [3000, 4000])), (7, ([0, 3, 4, 5], [3000, 4000])), (8, ([0, 3, 4, 5, 6], [3000, 4000])), (9, ([0, 3, 4, 5, 6, 7], [3000, 4000])), (10, ([0, 3, 4, 5, 6, 7], [3000, 4000])), (11, ([0, 3, 4, 5, 6, 7], [3000, 4000])), (12, ([0, 3, 4, 5, 7, 8], [3000, 4000])), (13, ([0, 3, 4, 5, 7, 8], [3000, 4000])), (14, ([0, 3, 4, 5], [3000, 4000])), (15, ([0, 3, 4, 5], [3000, 4000])), (16, ([0, 3, 4, 5, 9], [3000, 4000])), (17, ([0, 3, 4, 5, 9, 10], [3000, 4000])), (18, ([0, 3, 4, 5, 9, 10], [3000, 4000])), (19, ([0, 3, 4, 5, 9, 10], [3000, 4000])), (20, ([0, 3, 4, 5, 10, 11], [3000, 4000])), (21, ([0, 3, 4, 5, 10, 11], [3000, 4000])), (22, ([4], [4000])), (23, ([4, 12], [4000, 23000])), (24, ([4, 12, 13], [4000, 23000])), (25, ([4, 12, 13], [4000, 23000])), (26, ([4, 12, 13], [4000, 23000])), (27, ([12], [23000]))]
def g11res : List ResultVar := [.tmp 2]
noncomputable def g11D {R : Type} (A : Ar) (n : Nat) (p : List Bool) (K : Ex → St → Option R) (s : St) : Option R := codeD A gtys (g11O A) g11an n (sub (bodyOf Try.f11) p) K s
noncomputable def g11V {R : Type} (A : Ar) (n : Nat) (p : List Bool) (m : Nat) (K : Ex → St → Option R) (s : St) : Option R := loopD (fun K' s'' => codeD A gtys (g11O A) g11an n (sub (bodyOf Try.f11) p) K' s'') m K s
noncomputable def g11Q {R : Type} (A : Ar) (n : Nat) (p : List Bool) (K : Ex → St → Option R) : Ex → St → Option R := seqC (g11D A n p K) K
noncomputable def g11W {R : Type} (A : Ar) (n : Nat) (p : List Bool) (m : Nat) (K : Ex → St → Option R) : Ex → St → Option R := seqC (g11V A n p m K) K
noncomputable def g11T {R : Type} (kk : AV → Heap → Option R) : Ex → St → Option R := finD gtys g11res kk
theorem g11Qn {R : Type} (A : Ar) (n : Nat) (p : List Bool) (K : Ex → St → Option R) (s : St) : g11Q A n p K .normal s = g11D A n p K s := rfl
theorem g11Qe {R : Type} (A : Ar) (n : Nat) (p : List Bool) (K : Ex → St → Option R) (i : Nat) (s : St) : g11Q A n p K (.exit i) s = K (.exit i) s := rfl
theorem g11Wn {R : Type} (A : Ar) (n : Nat) (p : List Bool) (m : Nat) (K : Ex → St → Option R) (s : St) : g11W A n p m K .normal s = g11V A n p m K s := rfl
theorem g11We {R : Type} (A : Ar) (n : Nat) (p : List Bool) (m : Nat) (K : Ex → St → Option R) (i : Nat) (s : St) : g11W A n p m K (.exit i) s = K (.exit i) s := rfl
theorem g11Vs {R : Type} (A : Ar) (n : Nat) (p : List Bool) (m : Nat) (K : Ex → St → Option R) (s : St) : g11V A n p (m + 1) K s = g11D A n p (g11W A n p m K) s := rfl
theorem g11F {R : Type} (A : Ar) (n : Nat) (p : List Bool) (i : Nat) (K : Ex → St → Option R) (s s' : St) (hf : firstReg (sub (bodyOf Try.f11) p) = some i) (h : keep g11an i s = keep g11an i s') : g11D A n p K s = g11D A n p K s' := codeD_first hf h K
section
variable {R : Type} (A : Ar) (n : Nat) (K : Ex → St → Option R) (s : St)
theorem g11p1 : g11D A n (pth 1) K s = g11D A n (pth 2) (g11Q A n (pth 3) K) s := by kernel_rfl
theorem g11p3 : g11D A n (pth 3) K s = g11D A n (pth 5) (g11Q A n (pth 7) K) s := by kernel_rfl
theorem g11p7 : g11D A n (pth 7) K s = g11D A n (pth 11) (g11Q A n (pth 15) K) s := by kernel_rfl
theorem g11p15 : g11D A n (pth 15) K s = g11D A n (pth 23) (g11Q A n (pth 31) K) s := by kernel_rfl
theorem g11p31 : g11D A n (pth 31) K s = g11D A n (pth 47) (g11Q A n (pth 63) K) s := by kernel_rfl
theorem g11p47 : g11D A n (pth 47) K s = g11D A n (pth 79) (g11Q A n (pth 111) K) s := by kernel_rfl
theorem g11p111 : g11D A n (pth 111) K s = g11D A n (pth 175) (blockK 0 K) s := by kernel_rfl
theorem g11p175 : g11D A n (pth 175) K s = g11V A n (pth 303) n K s := by kernel_rfl
theorem g11p303 : g11D A n (pth 303) K s = g11D A n (pth 559) (g11Q A n (pth 815) K) s := by kernel_rfl
theorem g11p559 : g11D A n (pth 559) K s = g11D A n (pth 1071) (g11Q A n (pth 1583) K) s := by kernel_rfl
theorem g11p1583 (t : Bool) : ev s (.tmp 28) = some (.v (.cell (.bool t))) → g11D A n (pth 1583) K s = (match t with
    | true => g11D A n (pth 2607) K s
    | false => g11D A n (pth 3631) K s) := codeD_cond t
theorem g11p2607 : g11D A n (pth 2607) K s = K .normal s := by kernel_rfl
theorem g11p3631 : g11D A n (pth 3631) K s = K (.exit 0) s := by kernel_rfl
theorem g11p815 : g11D A n (pth 815) K s = g11D A n (pth 1327) (g11Q A n (pth 1839) K) s := by kernel_rfl
theorem g11p1327 : g11D A n (pth 1327) K s = g11D A n (pth 2351) (blockK 1 K) s := by kernel_rfl
theorem g11p2351 : g11D A n (pth 2351) K s = g11D A n (pth 4399) (g11Q A n (pth 6447) K) s := by kernel_rfl
theorem g11p6447 : g11D A n (pth 6447) K s = g11D A n (pth 10543) (g11Q A n (pth 14639) K) s := by kernel_rfl
theorem g11p10543 : g11D A n (pth 10543) K s = g11D A n (pth 18735) (g11Q A n (pth 26927) K) s := by kernel_rfl
theorem g11p26927 : g11D A n (pth 26927) K s = g11D A n (pth 43311) (blockK 2 K) s := by kernel_rfl
theorem g11p43311 : g11D A n (pth 43311) K s = g11V A n (pth 76079) n K s := by kernel_rfl
theorem g11p76079 : g11D A n (pth 76079) K s = g11D A n (pth 141615) (g11Q A n (pth 207151) K) s := by kernel_rfl
theorem g11p141615 : g11D A n (pth 141615) K s = g11D A n (pth 272687) (g11Q A n (pth 403759) K) s := by kernel_rfl
theorem g11p403759 (t : Bool) : ev s (.tmp 35) = some (.v (.cell (.bool t))) → g11D A n (pth 403759) K s = (match t with
    | true => g11D A n (pth 665903) K s
    | false => g11D A n (pth 928047) K s) := codeD_cond t
theorem g11p665903 : g11D A n (pth 665903) K s = K .normal s := by kernel_rfl
theorem g11p928047 : g11D A n (pth 928047) K s = K (.exit 2) s := by kernel_rfl
theorem g11p207151 : g11D A n (pth 207151) K s = g11D A n (pth 338223) (g11Q A n (pth 469295) K) s := by kernel_rfl
theorem g11p338223 : g11D A n (pth 338223) K s = g11D A n (pth 600367) (blockK 3 K) s := by kernel_rfl
theorem g11p600367 : g11D A n (pth 600367) K s = g11D A n (pth 1124655) (g11Q A n (pth 1648943) K) s := by kernel_rfl
theorem g11p1648943 : g11D A n (pth 1648943) K s = g11D A n (pth 2697519) (g11Q A n (pth 3746095) K) s := by kernel_rfl
theorem g11p14639 : g11D A n (pth 14639) K s = g11D A n (pth 22831) (g11Q A n (pth 31023) K) s := by kernel_rfl
theorem g11p22831 : g11D A n (pth 22831) K s = g11D A n (pth 39215) (g11Q A n (pth 55599) K) s := by kernel_rfl
theorem g11p55599 (t : Bool) : ev s (.tmp 53) = some (.v (.cell (.bool t))) → g11D A n (pth 55599) K s = (match t with
    | true => g11D A n (pth 88367) K s
    | false => g11D A n (pth 121135) K s) := codeD_cond t
theorem g11p88367 : g11D A n (pth 88367) K s = K (.exit 1) s := by kernel_rfl
theorem g11p121135 : g11D A n (pth 121135) K s = K .normal s := by kernel_rfl
theorem g11p31023 : g11D A n (pth 31023) K s = g11D A n (pth 47407) (g11Q A n (pth 63791) K) s := by kernel_rfl
theorem g11p63791 : g11D A n (pth 63791) K s = g11D A n (pth 96559) (g11Q A n (pth 129327) K) s := by kernel_rfl
theorem g11p129327 : g11D A n (pth 129327) K s = g11D A n (pth 194863) (blockK 4 K) s := by kernel_rfl
theorem g11p194863 : g11D A n (pth 194863) K s = g11V A n (pth 325935) n K s := by kernel_rfl
theorem g11p325935 : g11D A n (pth 325935) K s = g11D A n (pth 588079) (g11Q A n (pth 850223) K) s := by kernel_rfl
theorem g11p588079 : g11D A n (pth 588079) K s = g11D A n (pth 1112367) (g11Q A n (pth 1636655) K) s := by kernel_rfl
theorem g11p1636655 (t : Bool) : ev s (.tmp 55) = some (.v (.cell (.bool t))) → g11D A n (pth 1636655) K s = (match t with
    | true => g11D A n (pth 2685231) K s
    | false => g11D A n (pth 3733807) K s) := codeD_cond t
theorem g11p2685231 : g11D A n (pth 2685231) K s = K .normal s := by kernel_rfl
theorem g11p3733807 : g11D A n (pth 3733807) K s = K (.exit 4) s := by kernel_rfl
theorem g11p850223 : g11D A n (pth 850223) K s = g11D A n (pth 1374511) (g11Q A n (pth 1898799) K) s := by kernel_rfl
theorem g11p1374511 : g11D A n (pth 1374511) K s = g11D A n (pth 2423087) (blockK 5 K) s := by kernel_rfl
theorem g11p2423087 : g11D A n (pth 2423087) K s = g11D A n (pth 4520239) (g11Q A n (pth 6617391) K) s := by kernel_rfl
theorem g11p6617391 : g11D A n (pth 6617391) K s = g11D A n (pth 10811695) (g11Q A n (pth 15005999) K) s := by kernel_rfl
theorem g11p63 : g11D A n (pth 63) K s = g11D A n (pth 95) (g11Q A n (pth 127) K) s := by kernel_rfl
theorem g11p127 : g11D A n (pth 127) K s = g11D A n (pth 191) (g11Q A n (pth 255) K) s := by kernel_rfl
theorem g11p191 : g11D A n (pth 191) K s = g11D A n (pth 319) (g11Q A n (pth 447) K) s := by kernel_rfl
theorem g11p447 : g11D A n (pth 447) K s = g11D A n (pth 703) (blockK 6 K) s := by kernel_rfl
theorem g11p703 : g11D A n (pth 703) K s = g11V A n (pth 1215) n K s := by kernel_rfl
theorem g11p1215 : g11D A n (pth 1215) K s = g11D A n (pth 2239) (g11Q A n (pth 3263) K) s := by kernel_rfl
theorem g11p2239 : g11D A n (pth 2239) K s = g11D A n (pth 4287) (g11Q A n (pth 6335) K) s := by kernel_rfl
theorem g11p6335 (t : Bool) : ev s (.tmp 80) = some (.v (.cell (.bool t))) → g11D A n (pth 6335) K s = (match t with
    | true => g11D A n (pth 10431) K s
    | false => g11D A n (pth 14527) K s) := codeD_cond t
theorem g11p10431 : g11D A n (pth 10431) K s = K .normal s := by kernel_rfl
theorem g11p14527 : g11D A n (pth 14527) K s = K (.exit 6) s := by kernel_rfl
theorem g11p3263 : g11D A n (pth 3263) K s = g11D A n (pth 5311) (g11Q A n (pth 7359) K) s := by kernel_rfl
theorem g11p5311 : g11D A n (pth 5311) K s = g11D A n (pth 9407) (blockK 7 K) s := by kernel_rfl
theorem g11p255 : g11D A n (pth 255) K s = g11D A n (pth 383) (g11Q A n (pth 511) K) s := by kernel_rfl
theorem g11p511 : g11D A n (pth 511) K s = K .ret s := by kernel_rfl
def g11R11s0 (A : Ar) (x0 : List Nat) (x1 x2 : Nat) (x3 x4 x5 : Int) (x6 : Nat) (x7 : List Int) (x8 : Nat) (x9 : List Int) : St := ⟨[(8, (i6 (A.ib .add .i64 (A.ib .mul .i64 2 (x9.getD (A.toN x5) 0)) x4))), (44, (i6 (A.ib .add .i64 (A.ib .mul .i64 2 (x9.getD (A.toN x5) 0)) x4))), (43, (i6 x4)), (42, (i6 (A.ib .mul .i64 2 (x9.getD (A.toN x5) 0)))), (41, (i6 (x9.getD (A.toN x5) 0))), (40, (.v (.cell (.ptr 4000 0 (some ⟨A.toN x5, 1, x2, A.toN x5, 0, 1⟩))))), (39, (i6 x5)), (38, (sL 4000 none x2 1)), (0, (tS x0)), (3, (sL 3000 none x1 1)), (4, (sL 4000 none x2 1)), (5, (i6 x3)), (6, (i6 x4)), (7, (i6 x5))], [(3000, ⟨[.ints .i64 x6 x7], 3, 2⟩), (4000, ⟨[.ints .i64 x8 x9], 3, 2⟩)]⟩
theorem g11R11 (x0 : List Nat) (x1 x2 : Nat) (x3 x4 x5 : Int) (x6 : Nat) (x7 : List Int) (x8 : Nat) (x9 : List Int) : g11D A n (pth 1124655) K ⟨[(0, (tS x0)), (3, (sL 3000 none x1 1)), (4, (sL 4000 none x2 1)), (5, (i6 x3)), (6, (i6 x4)), (7, (i6 x5))], [(3000, ⟨[.ints .i64 x6 x7], 3, 2⟩), (4000, ⟨[.ints .i64 x8 x9], 3, 2⟩)]⟩ = match (generalizing := false) A.neg x5 with
    | true => none
    | false => match (generalizing := false) A.lt (A.toN x5) x2 with
      | true => K .normal (g11R11s0 A x0 x1 x2 x3 x4 x5 x6 x7 x8 x9)
      | false => none := by kernel_rfl
def g11R12s0 (A : Ar) (x0 : List Nat) (x1 x2 : Nat) (x3 x4 x5 : Int) (x6 : Nat) (x7 : List Int) (x8 : Nat) (x9 : List Int) : St := ⟨[(49, (.v (.cell (.ptr 4000 0 (some ⟨A.toN x4, 1, x2, A.toN x4, 0, 1⟩))))), (48, (i6 (A.ib .rem .i64 x5 256))), (47, (i6 x5)), (46, (i6 x4)), (45, (sL 4000 none x2 1)), (0, (tS x0)), (3, (sL 3000 none x1 1)), (4, (sL 4000 none x2 1)), (5, (i6 x3)), (7, (i6 x4)), (8, (i6 x5))], [(3000, ⟨[.ints .i64 x6 x7], 3, 2⟩), (4000, ⟨[.ints .i64 x8 (x9.set (A.toN x4) (A.ib .rem .i64 x5 256))], 3, 2⟩)]⟩
theorem g11R12 (x0 : List Nat) (x1 x2 : Nat) (x3 x4 x5 : Int) (x6 : Nat) (x7 : List Int) (x8 : Nat) (x9 : List Int) : g11D A n (pth 2697519) K ⟨[(0, (tS x0)), (3, (sL 3000 none x1 1)), (4, (sL 4000 none x2 1)), (5, (i6 x3)), (7, (i6 x4)), (8, (i6 x5))], [(3000, ⟨[.ints .i64 x6 x7], 3, 2⟩), (4000, ⟨[.ints .i64 x8 x9], 3, 2⟩)]⟩ = match (generalizing := false) A.neg x4 with
    | true => none
    | false => match (generalizing := false) A.lt (A.toN x4) x2 with
      | true => K .normal (g11R12s0 A x0 x1 x2 x3 x4 x5 x6 x7 x8 x9)
      | false => none := by kernel_rfl
def g11R13s0 (A : Ar) (x0 : List Nat) (x1 x2 : Nat) (x3 x4 x5 : Int) (x6 : Nat) (x7 : List Int) (x8 : Nat) (x9 : List Int) : St := ⟨[(6, (i6 (A.ib .quo .i64 x5 256))), (51, (i6 (A.ib .quo .i64 x5 256))), (50, (i6 x5)), (0, (tS x0)), (3, (sL 3000 none x1 1)), (4, (sL 4000 none x2 1)), (5, (i6 x3)), (7, (i6 x4)), (8, (i6 x5))], [(3000, ⟨[.ints .i64 x6 x7], 3, 2⟩), (4000, ⟨[.ints .i64 x8 x9], 3, 2⟩)]⟩
theorem g11R13 (x0 : List Nat) (x1 x2 : Nat) (x3 x4 x5 : Int) (x6 : Nat) (x7 : List Int) (x8 : Nat) (x9 : List Int) : g11D A n (pth 3746095) K ⟨[(0, (tS x0)), (3, (sL 3000 none x1 1)), (4, (sL 4000 none x2 1)), (5, (i6 x3)), (7, (i6 x4)), (8, (i6 x5))], [(3000, ⟨[.ints .i64 x6 x7], 3, 2⟩), (4000, ⟨[.ints .i64 x8 x9], 3, 2⟩)]⟩ = K .normal (g11R13s0 A x0 x1 x2 x3 x4 x5 x6 x7 x8 x9) := by kernel_rfl
def g11R10s0 (A : Ar) (x0 : List Nat) (x1 x2 : Nat) (x3 x4 x5 : Int) (x6 : Nat) (x7 : List Int) (x8 : Nat) (x9 : List Int) : St := ⟨[(7, (i6 (A.ib .add .i64 x5 1))), (37, (i6 (A.ib .add .i64 x5 1))), (36, (i6 x5)), (0, (tS x0)), (3, (sL 3000 none x1 1)), (4, (sL 4000 none x2 1)), (5, (i6 x3)), (6, (i6 x4)), (7, (i6 x5))], [(3000, ⟨[.ints .i64 x6 x7], 3, 2⟩), (4000, ⟨[.ints .i64 x8 x9], 3, 2⟩)]⟩
theorem g11R10 (x0 : List Nat) (x1 x2 : Nat) (x3 x4 x5 : Int) (x6 : Nat) (x7 : List Int) (x8 : Nat) (x9 : List Int) : g11D A n (pth 469295) K ⟨[(0, (tS x0)), (3, (sL 3000 none x1 1)), (4, (sL 4000 none x2 1)), (5, (i6 x3)), (6, (i6 x4)), (7, (i6 x5))], [(3000, ⟨[.ints .i64 x6 x7], 3, 2⟩), (4000, ⟨[.ints .i64 x8 x9], 3, 2⟩)]⟩ = K .normal (g11R10s0 A x0 x1 x2 x3 x4 x5 x6 x7 x8 x9) := by kernel_rfl
def g11R19s0 (A : Ar) (x0 : List Nat) (x1 x2 : Nat) (x3 x4 x5 : Int) (x6 : Nat) (x7 : List Int) (x8 : Nat) (x9 : List Int) : St := ⟨[(11, (i6 (A.ib .add .i64 (A.ib .sub .i64 (A.ib .sub .i64 (x9.getD (A.toN x5) 0) (x7.getD (A.toN x5) 0)) x4) 256))), (69, (i6 (A.ib .add .i64 (A.ib .sub .i64 (A.ib .sub .i64 (x9.getD (A.toN x5) 0) (x7.getD (A.toN x5) 0)) x4) 256))), (68, (i6 (A.ib .sub .i64 (A.ib .sub .i64 (x9.getD (A.toN x5) 0) (x7.getD (A.toN x5) 0)) x4))), (67, (i6 x4)), (66, (i6 (A.ib .sub .i64 (x9.getD (A.toN x5) 0) (x7.getD (A.toN x5) 0)))), (65, (i6 (x7.getD (A.toN x5) 0))), (64, (.v (.cell (.ptr 3000 0 (some ⟨A.toN x5, 1, x1, A.toN x5, 0, 1⟩))))), (63, (i6 x5)), (62, (sL 3000 none x1 1)), (61, (i6 (x9.getD (A.toN x5) 0))), (60, (.v (.cell (.ptr 4000 0 (some ⟨A.toN x5, 1, x2, A.toN x5, 0, 1⟩))))), (59, (i6 x5)), (58, (sL 4000 none x2 1)), (0, (tS x0)), (3, (sL 3000 none x1 1)), (4, (sL 4000 none x2 1)), (5, (i6 x3)), (9, (i6 x4)), (10, (i6 x5))], [(3000, ⟨[.ints .i64 x6 x7], 3, 2⟩), (4000, ⟨[.ints .i64 x8 x9], 3, 2⟩)]⟩
theorem g11R19 (x0 : List Nat) (x1 x2 : Nat) (x3 x4 x5 : Int) (x6 : Nat) (x7 : List Int) (x8 : Nat) (x9 : List Int) : g11D A n (pth 4520239) K ⟨[(0, (tS x0)), (3, (sL 3000 none x1 1)), (4, (sL 4000 none x2 1)), (5, (i6 x3)), (9, (i6 x4)), (10, (i6 x5))], [(3000, ⟨[.ints .i64 x6 x7], 3, 2⟩), (4000, ⟨[.ints .i64 x8 x9], 3, 2⟩)]⟩ = match (generalizing := false) A.neg x5 with
    | true => none
    | false => match (generalizing := false) A.lt (A.toN x5) x2 with
      | true => match (generalizing := false) A.neg x5 with
        | true => none
        | false => match (generalizing := false) A.lt (A.toN x5) x1 with
          | true => K .normal (g11R19s0 A x0 x1 x2 x3 x4 x5 x6 x7 x8 x9)
          | false => none
      | false => none := by kernel_rfl
def g11R20s0 (A : Ar) (x0 : List Nat) (x1 x2 : Nat) (x3 x4 x5 : Int) (x6 : Nat) (x7 : List Int) (x8 : Nat) (x9 : List Int) : St := ⟨[(74, (.v (.cell (.ptr 4000 0 (some ⟨A.toN x4, 1, x2, A.toN x4, 0, 1⟩))))), (73, (i6 (A.ib .rem .i64 x5 256))), (72, (i6 x5)), (71, (i6 x4)), (70, (sL 4000 none x2 1)), (0, (tS x0)), (3, (sL 3000 none x1 1)), (4, (sL 4000 none x2 1)), (5, (i6 x3)), (10, (i6 x4)), (11, (i6 x5))], [(3000, ⟨[.ints .i64 x6 x7], 3, 2⟩), (4000, ⟨[.ints .i64 x8 (x9.set (A.toN x4) (A.ib .rem .i64 x5 256))], 3, 2⟩)]⟩
theorem g11R20 (x0 : List Nat) (x1 x2 : Nat) (x3 x4 x5 : Int) (x6 : Nat) (x7 : List Int) (x8 : Nat) (x9 : List Int) : g11D A n (pth 10811695) K ⟨[(0, (tS x0)), (3, (sL 3000 none x1 1)), (4, (sL 4000 none x2 1)), (5, (i6 x3)), (10, (i6 x4)), (11, (i6 x5))], [(3000, ⟨[.ints .i64 x6 x7], 3, 2⟩), (4000, ⟨[.ints .i64 x8 x9], 3, 2⟩)]⟩ = match (generalizing := false) A.neg x4 with
    | true => none
    | false => match (generalizing := false) A.lt (A.toN x4) x2 with
      | true => K .normal (g11R20s0 A x0 x1 x2 x3 x4 x5 x6 x7 x8 x9)
      | false => none := by kernel_rfl
def g11R21s0 (A : Ar) (x0 : List Nat) (x1 x2 : Nat) (x3 x4 x5 : Int) (x6 : Nat) (x7 : List Int) (x8 : Nat) (x9 : List Int) : St := ⟨[(9, (i6 (A.ib .sub .i64 1 (A.ib .quo .i64 x5 256)))), (77, (i6 (A.ib .sub .i64 1 (A.ib .quo .i64 x5 256)))), (76, (i6 (A.ib .quo .i64 x5 256))), (75, (i6 x5)), (0, (tS x0)), (3, (sL 3000 none x1 1)), (4, (sL 4000 none x2 1)), (5, (i6 x3)), (10, (i6 x4)), (11, (i6 x5))], [(3000, ⟨[.ints .i64 x6 x7], 3, 2⟩), (4000, ⟨[.ints .i64 x8 x9], 3, 2⟩)]⟩
theorem g11R21 (x0 : List Nat) (x1 x2 : Nat) (x3 x4 x5 : Int) (x6 : Nat) (x7 : List Int) (x8 : Nat) (x9 : List Int) : g11D A n (pth 15005999) K ⟨[(0, (tS x0)), (3, (sL 3000 none x1 1)), (4, (sL 4000 none x2 1)), (5, (i6 x3)), (10, (i6 x4)), (11, (i6 x5))], [(3000, ⟨[.ints .i64 x6 x7], 3, 2⟩), (4000, ⟨[.ints .i64 x8 x9], 3, 2⟩)]⟩ = K .normal (g11R21s0 A x0 x1 x2 x3 x4 x5 x6 x7 x8 x9) := by kernel_rfl
def g11R18s0 (A : Ar) (x0 : List Nat) (x1 x2 : Nat) (x3 x4 x5 : Int) (x6 : Nat) (x7 : List Int) (x8 : Nat) (x9 : List Int) : St := ⟨[(10, (i6 (A.ib .add .i64 x5 1))), (57, (i6 (A.ib .add .i64 x5 1))), (56, (i6 x5)), (0, (tS x0)), (3, (sL 3000 none x1 1)), (4, (sL 4000 none x2 1)), (5, (i6 x3)), (9, (i6 x4)), (10, (i6 x5))], [(3000, ⟨[.ints .i64 x6 x7], 3, 2⟩), (4000, ⟨[.ints .i64 x8 x9], 3, 2⟩)]⟩
theorem g11R18 (x0 : List Nat) (x1 x2 : Nat) (x3 x4 x5 : Int) (x6 : Nat) (x7 : List Int) (x8 : Nat) (x9 : List Int) : g11D A n (pth 1898799) K ⟨[(0, (tS x0)), (3, (sL 3000 none x1 1)), (4, (sL 4000 none x2 1)), (5, (i6 x3)), (9, (i6 x4)), (10, (i6 x5))], [(3000, ⟨[.ints .i64 x6 x7], 3, 2⟩), (4000, ⟨[.ints .i64 x8 x9], 3, 2⟩)]⟩ = K .normal (g11R18s0 A x0 x1 x2 x3 x4 x5 x6 x7 x8 x9) := by kernel_rfl
def g11R17s0 (A : Ar) (x0 : List Nat) (x1 x2 : Nat) (x3 x4 x5 : Int) (x6 : Nat) (x7 : List Int) (x8 : Nat) (x9 : List Int) : St := ⟨[(55, (bO (A.ic .lss x5 33))), (54, (i6 x5)), (0, (tS x0)), (3, (sL 3000 none x1 1)), (4, (sL 4000 none x2 1)), (5, (i6 x3)), (9, (i6 x4)), (10, (i6 x5))], [(3000, ⟨[.ints .i64 x6 x7], 3, 2⟩), (4000, ⟨[.ints .i64 x8 x9], 3, 2⟩)]⟩
theorem g11R17 (x0 : List Nat) (x1 x2 : Nat) (x3 x4 x5 : Int) (x6 : Nat) (x7 : List Int) (x8 : Nat) (x9 : List Int) : g11D A n (pth 1112367) K ⟨[(0, (tS x0)), (3, (sL 3000 none x1 1)), (4, (sL 4000 none x2 1)), (5, (i6 x3)), (9, (i6 x4)), (10, (i6 x5))], [(3000, ⟨[.ints .i64 x6 x7], 3, 2⟩), (4000, ⟨[.ints .i64 x8 x9], 3, 2⟩)]⟩ = K .normal (g11R17s0 A x0 x1 x2 x3 x4 x5 x6 x7 x8 x9) := by kernel_rfl
def g11R6s0 (A : Ar) (x0 : List Nat) (x1 x2 : Nat) (x3 : Int) (x4 : Nat) (x5 : List Int) (x6 : Nat) (x7 : List Int) : St := ⟨[(5, (i6 (A.ib .sub .i64 x3 1))), (30, (i6 (A.ib .sub .i64 x3 1))), (29, (i6 x3)), (0, (tS x0)), (3, (sL 3000 none x1 1)), (4, (sL 4000 none x2 1)), (5, (i6 x3))], [(3000, ⟨[.ints .i64 x4 x5], 3, 2⟩), (4000, ⟨[.ints .i64 x6 x7], 3, 2⟩)]⟩
theorem g11R6 (x0 : List Nat) (x1 x2 : Nat) (x3 : Int) (x4 : Nat) (x5 : List Int) (x6 : Nat) (x7 : List Int) : g11D A n (pth 1839) K ⟨[(0, (tS x0)), (3, (sL 3000 none x1 1)), (4, (sL 4000 none x2 1)), (5, (i6 x3))], [(3000, ⟨[.ints .i64 x4 x5], 3, 2⟩), (4000, ⟨[.ints .i64 x6 x7], 3, 2⟩)]⟩ = K .normal (g11R6s0 A x0 x1 x2 x3 x4 x5 x6 x7) := by kernel_rfl
def g11R15s0 (A : Ar) (x0 : List Nat) (x1 x2 : Nat) (x3 : Int) (x4 : Nat) (x5 : List Int) (x6 : Nat) (x7 : List Int) : St := ⟨[(9, (i6 0)), (0, (tS x0)), (3, (sL 3000 none x1 1)), (4, (sL 4000 none x2 1)), (5, (i6 x3))], [(3000, ⟨[.ints .i64 x4 x5], 3, 2⟩), (4000, ⟨[.ints .i64 x6 x7], 3, 2⟩)]⟩
theorem g11R15 (x0 : List Nat) (x1 x2 : Nat) (x3 : Int) (x4 : Nat) (x5 : List Int) (x6 : Nat) (x7 : List Int) : g11D A n (pth 47407) K ⟨[(0, (tS x0)), (3, (sL 3000 none x1 1)), (4, (sL 4000 none x2 1)), (5, (i6 x3))], [(3000, ⟨[.ints .i64 x4 x5], 3, 2⟩), (4000, ⟨[.ints .i64 x6 x7], 3, 2⟩)]⟩ = K .normal (g11R15s0 A x0 x1 x2 x3 x4 x5 x6 x7) := by kernel_rfl
def g11R16s0 (A : Ar) (x0 : List Nat) (x1 x2 : Nat) (x3 x4 : Int) (x5 : Nat) (x6 : List Int) (x7 : Nat) (x8 : List Int) : St := ⟨[(10, (i6 0)), (0, (tS x0)), (3, (sL 3000 none x1 1)), (4, (sL 4000 none x2 1)), (5, (i6 x3)), (9, (i6 x4))], [(3000, ⟨[.ints .i64 x5 x6], 3, 2⟩), (4000, ⟨[.ints .i64 x7 x8], 3, 2⟩)]⟩
theorem g11R16 (x0 : List Nat) (x1 x2 : Nat) (x3 x4 : Int) (x5 : Nat) (x6 : List Int) (x7 : Nat) (x8 : List Int) : g11D A n (pth 96559) K ⟨[(0, (tS x0)), (3, (sL 3000 none x1 1)), (4, (sL 4000 none x2 1)), (5, (i6 x3)), (9, (i6 x4))], [(3000, ⟨[.ints .i64 x5 x6], 3, 2⟩), (4000, ⟨[.ints .i64 x7 x8], 3, 2⟩)]⟩ = K .normal (g11R16s0 A x0 x1 x2 x3 x4 x5 x6 x7 x8) := by kernel_rfl
def g11R14s0 (A : Ar) (x0 : List Nat) (x1 x2 : Nat) (x3 : Int) (x4 : Nat) (x5 : List Int) (x6 : Nat) (x7 : List Int) : St := ⟨[(53, (bO (g25r0 A x2 x6 x7))), (52, (sL 4000 none x2 1)), (0, (tS x0)), (3, (sL 3000 none x1 1)), (4, (sL 4000 none x2 1)), (5, (i6 x3))], [(3000, ⟨[.ints .i64 x4 x5], 3, 2⟩), (4000, ⟨[.ints .i64 (g25r1 A x2 x6 x7) (g25r2 A x2 x6 x7)], 3, 2⟩)]⟩
theorem g11R14 (x0 : List Nat) (x1 x2 : Nat) (x3 : Int) (x4 : Nat) (x5 : List Int) (x6 : Nat) (x7 : List Int) : g11D A n (pth 39215) K ⟨[(0, (tS x0)), (3, (sL 3000 none x1 1)), (4, (sL 4000 none x2 1)), (5, (i6 x3))], [(3000, ⟨[.ints .i64 x4 x5], 3, 2⟩), (4000, ⟨[.ints .i64 x6 x7], 3, 2⟩)]⟩ = match (generalizing := false) g25ok A x2 x6 x7 with
    | true => K .normal (g11R14s0 A x0 x1 x2 x3 x4 x5 x6 x7)
    | false => none := by kernel_rfl
def g11R9s0 (A : Ar) (x0 : List Nat) (x1 x2 : Nat) (x3 x4 x5 : Int) (x6 : Nat) (x7 : List Int) (x8 : Nat) (x9 : List Int) : St := ⟨[(35, (bO (A.ic .lss x5 33))), (34, (i6 x5)), (0, (tS x0)), (3, (sL 3000 none x1 1)), (4, (sL 4000 none x2 1)), (5, (i6 x3)), (6, (i6 x4)), (7, (i6 x5))], [(3000, ⟨[.ints .i64 x6 x7], 3, 2⟩), (4000, ⟨[.ints .i64 x8 x9], 3, 2⟩)]⟩
theorem g11R9 (x0 : List Nat) (x1 x2 : Nat) (x3 x4 x5 : Int) (x6 : Nat) (x7 : List Int) (x8 : Nat) (x9 : List Int) : g11D A n (pth 272687) K ⟨[(0, (tS x0)), (3, (sL 3000 none x1 1)), (4, (sL 4000 none x2 1)), (5, (i6 x3)), (6, (i6 x4)), (7, (i6 x5))], [(3000, ⟨[.ints .i64 x6 x7], 3, 2⟩), (4000, ⟨[.ints .i64 x8 x9], 3, 2⟩)]⟩ = K .normal (g11R9s0 A x0 x1 x2 x3 x4 x5 x6 x7 x8 x9) := by kernel_rfl
def g11R7s0 (A : Ar) (x0 : List Nat) (x1 x2 : Nat) (x3 : Int) (x4 : Nat) (x5 : List Int) (x6 : Nat) (x7 : List Int) : St := ⟨[(6, (i6 (g21r0 A x0 x3))), (33, (i6 (g21r0 A x0 x3))), (32, (i6 x3)), (31, (tS x0)), (0, (tS x0)), (3, (sL 3000 none x1 1)), (4, (sL 4000 none x2 1)), (5, (i6 x3))], [(3000, ⟨[.ints .i64 x4 x5], 3, 2⟩), (4000, ⟨[.ints .i64 x6 x7], 3, 2⟩)]⟩
theorem g11R7 (x0 : List Nat) (x1 x2 : Nat) (x3 : Int) (x4 : Nat) (x5 : List Int) (x6 : Nat) (x7 : List Int) : g11D A n (pth 4399) K ⟨[(0, (tS x0)), (3, (sL 3000 none x1 1)), (4, (sL 4000 none x2 1)), (5, (i6 x3))], [(3000, ⟨[.ints .i64 x4 x5], 3, 2⟩), (4000, ⟨[.ints .i64 x6 x7], 3, 2⟩)]⟩ = match (generalizing := false) g21ok A x0 x3 with
    | true => K .normal (g11R7s0 A x0 x1 x2 x3 x4 x5 x6 x7)
    | false => none := by kernel_rfl
def g11R8s0 (A : Ar) (x0 : List Nat) (x1 x2 : Nat) (x3 x4 : Int) (x5 : Nat) (x6 : List Int) (x7 : Nat) (x8 : List Int) : St := ⟨[(7, (i6 0)), (0, (tS x0)), (3, (sL 3000 none x1 1)), (4, (sL 4000 none x2 1)), (5, (i6 x3)), (6, (i6 x4))], [(3000, ⟨[.ints .i64 x5 x6], 3, 2⟩), (4000, ⟨[.ints .i64 x7 x8], 3, 2⟩)]⟩
theorem g11R8 (x0 : List Nat) (x1 x2 : Nat) (x3 x4 : Int) (x5 : Nat) (x6 : List Int) (x7 : Nat) (x8 : List Int) : g11D A n (pth 18735) K ⟨[(0, (tS x0)), (3, (sL 3000 none x1 1)), (4, (sL 4000 none x2 1)), (5, (i6 x3)), (6, (i6 x4))], [(3000, ⟨[.ints .i64 x5 x6], 3, 2⟩), (4000, ⟨[.ints .i64 x7 x8], 3, 2⟩)]⟩ = K .normal (g11R8s0 A x0 x1 x2 x3 x4 x5 x6 x7 x8) := by kernel_rfl
def g11R26s0 (A : Ar) (x0 x1 : Nat) (x2 : Int) (x3 : Nat) (x4 : List Int) (x5 : Nat) (x6 : List Nat) : St := ⟨[(90, (.v (.cell (.ptr 23000 0 (some ⟨A.toN x2, 1, x1, A.toN x2, 0, 1⟩))))), (89, (u8v (A.i2n .u8 (x4.getD (A.toN x2) 0)))), (88, (i6 (x4.getD (A.toN x2) 0))), (87, (.v (.cell (.ptr 4000 0 (some ⟨A.toN x2, 1, x0, A.toN x2, 0, 1⟩))))), (86, (i6 x2)), (85, (sL 4000 none x0 1)), (84, (i6 x2)), (83, (sL 23000 none x1 1)), (4, (sL 4000 none x0 1)), (12, (sL 23000 none x1 1)), (13, (i6 x2))], [(4000, ⟨[.ints .i64 x3 x4], 3, 2⟩), (23000, ⟨[.nums .u8 x5 (x6.set (A.toN x2) (A.i2n .u8 (x4.getD (A.toN x2) 0)))], 5, 2⟩)]⟩
theorem g11R26 (x0 x1 : Nat) (x2 : Int) (x3 : Nat) (x4 : List Int) (x5 : Nat) (x6 : List Nat) : g11D A n (pth 9407) K ⟨[(4, (sL 4000 none x0 1)), (12, (sL 23000 none x1 1)), (13, (i6 x2))], [(4000, ⟨[.ints .i64 x3 x4], 3, 2⟩), (23000, ⟨[.nums .u8 x5 x6], 5, 2⟩)]⟩ = match (generalizing := false) A.neg x2 with
    | true => none
    | false => match (generalizing := false) A.lt (A.toN x2) x0 with
      | true => match (generalizing := false) A.neg x2 with
        | true => none
        | false => match (generalizing := false) A.lt (A.toN x2) x1 with
          | true => K .normal (g11R26s0 A x0 x1 x2 x3 x4 x5 x6)
          | false => none
      | false => none := by kernel_rfl
def g11R25s0 (A : Ar) (x0 x1 : Nat) (x2 : Int) (x3 : Nat) (x4 : List Int) (x5 : Nat) (x6 : List Nat) : St := ⟨[(13, (i6 (A.ib .add .i64 x2 1))), (82, (i6 (A.ib .add .i64 x2 1))), (81, (i6 x2)), (4, (sL 4000 none x0 1)), (12, (sL 23000 none x1 1)), (13, (i6 x2))], [(4000, ⟨[.ints .i64 x3 x4], 3, 2⟩), (23000, ⟨[.nums .u8 x5 x6], 5, 2⟩)]⟩
theorem g11R25 (x0 x1 : Nat) (x2 : Int) (x3 : Nat) (x4 : List Int) (x5 : Nat) (x6 : List Nat) : g11D A n (pth 7359) K ⟨[(4, (sL 4000 none x0 1)), (12, (sL 23000 none x1 1)), (13, (i6 x2))], [(4000, ⟨[.ints .i64 x3 x4], 3, 2⟩), (23000, ⟨[.nums .u8 x5 x6], 5, 2⟩)]⟩ = K .normal (g11R25s0 A x0 x1 x2 x3 x4 x5 x6) := by kernel_rfl
def g11R24s0 (A : Ar) (x0 x1 : Nat) (x2 : Int) (x3 : Nat) (x4 : List Int) (x5 : Nat) (x6 : List Nat) : St := ⟨[(80, (bO (A.ic .lss x2 32))), (79, (i6 x2)), (4, (sL 4000 none x0 1)), (12, (sL 23000 none x1 1)), (13, (i6 x2))], [(4000, ⟨[.ints .i64 x3 x4], 3, 2⟩), (23000, ⟨[.nums .u8 x5 x6], 5, 2⟩)]⟩
theorem g11R24 (x0 x1 : Nat) (x2 : Int) (x3 : Nat) (x4 : List Int) (x5 : Nat) (x6 : List Nat) : g11D A n (pth 4287) K ⟨[(4, (sL 4000 none x0 1)), (12, (sL 23000 none x1 1)), (13, (i6 x2))], [(4000, ⟨[.ints .i64 x3 x4], 3, 2⟩), (23000, ⟨[.nums .u8 x5 x6], 5, 2⟩)]⟩ = K .normal (g11R24s0 A x0 x1 x2 x3 x4 x5 x6) := by kernel_rfl
def g11R27s0 (A : Ar) (x0 x1 : Nat) (x2 : List Nat) : St := ⟨[(2, (tS (x2.take x0))), (92, (tS (x2.take x0))), (91, (sL 23000 none x0 1)), (12, (sL 23000 none x0 1))], [(23000, ⟨[.nums .u8 x1 x2], 5, 2⟩)]⟩
theorem g11R27 (x0 x1 : Nat) (x2 : List Nat) : g11D A n (pth 383) K ⟨[(12, (sL 23000 none x0 1))], [(23000, ⟨[.nums .u8 x1 x2], 5, 2⟩)]⟩ = K .normal (g11R27s0 A x0 x1 x2) := by kernel_rfl
def g11R22s0 (A : Ar) (x0 x1 : Nat) (x2 : List Int) : St := ⟨[(12, (sL 23000 none 32 1)), (78, (sL 23000 none 32 1)), (4, (sL 4000 none x0 1))], [(23000, ⟨[.nums .u8 32 (List.replicate 32 0)], 5, 2⟩), (4000, ⟨[.ints .i64 x1 x2], 3, 2⟩)]⟩
theorem g11R22 (x0 x1 : Nat) (x2 : List Int) : g11D A n (pth 95) K ⟨[(4, (sL 4000 none x0 1))], [(4000, ⟨[.ints .i64 x1 x2], 3, 2⟩)]⟩ = match (generalizing := false) A.le 32 32 with
    | true => match (generalizing := false) A.le 32 140737488355328 with
      | true => K .normal (g11R22s0 A x0 x1 x2)
      | false => none
    | false => none := by kernel_rfl
def g11R23s0 (A : Ar) (x0 x1 x2 : Nat) (x3 : List Int) (x4 : Nat) (x5 : List Nat) : St := ⟨[(13, (i6 0)), (4, (sL 4000 none x0 1)), (12, (sL 23000 none x1 1))], [(4000, ⟨[.ints .i64 x2 x3], 3, 2⟩), (23000, ⟨[.nums .u8 x4 x5], 5, 2⟩)]⟩
theorem g11R23 (x0 x1 x2 : Nat) (x3 : List Int) (x4 : Nat) (x5 : List Nat) : g11D A n (pth 319) K ⟨[(4, (sL 4000 none x0 1)), (12, (sL 23000 none x1 1))], [(4000, ⟨[.ints .i64 x2 x3], 3, 2⟩), (23000, ⟨[.nums .u8 x4 x5], 5, 2⟩)]⟩ = K .normal (g11R23s0 A x0 x1 x2 x3 x4 x5) := by kernel_rfl
def g11R5s0 (A : Ar) (x0 : List Nat) (x1 x2 : Nat) (x3 : Int) (x4 : Nat) (x5 : List Int) (x6 : Nat) (x7 : List Int) : St := ⟨[(28, (bO (A.ic .geq x3 0))), (27, (i6 x3)), (0, (tS x0)), (3, (sL 3000 none x1 1)), (4, (sL 4000 none x2 1)), (5, (i6 x3))], [(3000, ⟨[.ints .i64 x4 x5], 3, 2⟩), (4000, ⟨[.ints .i64 x6 x7], 3, 2⟩)]⟩
theorem g11R5 (x0 : List Nat) (x1 x2 : Nat) (x3 : Int) (x4 : Nat) (x5 : List Int) (x6 : Nat) (x7 : List Int) : g11D A n (pth 1071) K ⟨[(0, (tS x0)), (3, (sL 3000 none x1 1)), (4, (sL 4000 none x2 1)), (5, (i6 x3))], [(3000, ⟨[.ints .i64 x4 x5], 3, 2⟩), (4000, ⟨[.ints .i64 x6 x7], 3, 2⟩)]⟩ = K .normal (g11R5s0 A x0 x1 x2 x3 x4 x5 x6 x7) := by kernel_rfl
def g11R0s0 (A : Ar) (x0 : List Nat) : St := ⟨[(2, (tS [])), (0, (tS x0))], []⟩
theorem g11R0 (x0 : List Nat) : g11D A n (pth 2) K ⟨[(0, (tS x0))], []⟩ = K .normal (g11R0s0 A x0) := by kernel_rfl
def g11R1s0 (A : Ar) (x0 : List Nat) : St := ⟨[(0, (tS ((x0.take (A.toN (A.mn (A.ofN x0.length) 64))).drop 0))), (18, (tS ((x0.take (A.toN (A.mn (A.ofN x0.length) 64))).drop 0))), (17, (i6 (A.mn (A.ofN x0.length) 64))), (16, (i6 (A.ofN x0.length))), (15, (tS x0)), (14, (tS x0)), (0, (tS x0))], []⟩
theorem g11R1 (x0 : List Nat) : g11D A n (pth 5) K ⟨[(0, (tS x0))], []⟩ = match (generalizing := false) A.neg (A.mn (A.ofN x0.length) 64) with
    | true => none
    | false => match (generalizing := false) A.le (A.toN (A.mn (A.ofN x0.length) 64)) x0.length with
      | true => K .normal (g11R1s0 A x0)
      | false => none := by kernel_rfl
def g11R2s0 (A : Ar) (x0 : List Nat) : St := ⟨[(3, (sL 3000 none (((g24r2 A) ++ ([0].take 1)).length) 1)), (21, (sL 3000 none (((g24r2 A) ++ ([0].take 1)).length) 1)), (20, (sL 3001 none 1 1)), (19, (.v (.cell .top))), (0, (tS x0))], [(3000, ⟨[.ints .i64 (((g24r2 A) ++ ([0].take 1)).length) ((g24r2 A) ++ ([0].take 1))], 3, 2⟩), (3001, ⟨[.ints .i64 1 [0]], 3, 2⟩)]⟩
theorem g11R2 (x0 : List Nat) : g11D A n (pth 11) K ⟨[(0, (tS x0))], []⟩ = match (generalizing := false) g24ok A with
    | true => match (generalizing := false) A.eq (g24r0 A) ((g24r1 A) + 0) with
      | true => match (generalizing := false) A.le ((((g24r2 A) ++ ([0].take 1)).length) * 8) 140737488355328 with
        | true => K .normal (g11R2s0 A x0)
        | false => none
      | false => none
    | false => none := by kernel_rfl
def g11R3s0 (A : Ar) (x0 : List Nat) (x1 x2 : Nat) (x3 : List Int) : St := ⟨[(4, (sL 4000 none 33 1)), (22, (sL 4000 none 33 1)), (0, (tS x0)), (3, (sL 3000 none x1 1))], [(4000, ⟨[.ints .i64 33 (List.replicate 33 0)], 3, 2⟩), (3000, ⟨[.ints .i64 x2 x3], 3, 2⟩)]⟩
theorem g11R3 (x0 : List Nat) (x1 x2 : Nat) (x3 : List Int) : g11D A n (pth 23) K ⟨[(0, (tS x0)), (3, (sL 3000 none x1 1))], [(3000, ⟨[.ints .i64 x2 x3], 3, 2⟩)]⟩ = match (generalizing := false) A.le 33 33 with
    | true => match (generalizing := false) A.le 264 140737488355328 with
      | true => K .normal (g11R3s0 A x0 x1 x2 x3)
      | false => none
    | false => none := by kernel_rfl
def g11R4s0 (A : Ar) (x0 : List Nat) (x1 x2 x3 : Nat) (x4 : List Int) (x5 : Nat) (x6 : List Int) : St := ⟨[(5, (i6 (A.ib .sub .i64 (A.ib .mul .i64 8 (A.ofN x0.length)) 1))), (26, (i6 (A.ib .sub .i64 (A.ib .mul .i64 8 (A.ofN x0.length)) 1))), (25, (i6 (A.ib .mul .i64 8 (A.ofN x0.length)))), (24, (i6 (A.ofN x0.length))), (23, (tS x0)), (0, (tS x0)), (3, (sL 3000 none x1 1)), (4, (sL 4000 none x2 1))], [(3000, ⟨[.ints .i64 x3 x4], 3, 2⟩), (4000, ⟨[.ints .i64 x5 x6], 3, 2⟩)]⟩
theorem g11R4 (x0 : List Nat) (x1 x2 x3 : Nat) (x4 : List Int) (x5 : Nat) (x6 : List Int) : g11D A n (pth 79) K ⟨[(0, (tS x0)), (3, (sL 3000 none x1 1)), (4, (sL 4000 none x2 1))], [(3000, ⟨[.ints .i64 x3 x4], 3, 2⟩), (4000, ⟨[.ints .i64 x5 x6], 3, 2⟩)]⟩ = K .normal (g11R4s0 A x0 x1 x2 x3 x4 x5 x6) := by kernel_rfl
end
def g11J11 {R : Type} (A : Ar) (n : Nat) (kk : AV → Heap → Option R) (lg11L9 : List Nat → Nat → Nat → Int → Int → Int → Nat → List Int → Nat → List Int → Option R) (x0 : List Nat) (x1 x2 : Nat) (x3 x4 x5 : Int) (x6 : Nat) (x7 : List Int) (x8 : Nat) (x9 : List Int) : Option R :=
  match (generalizing := false) A.neg x5 with
  | true => none
  | false => match (generalizing := false) A.lt (A.toN x5) x2 with
    | true => match (generalizing := false) A.neg x5 with
      | true => none
      | false => match (generalizing := false) A.lt (A.toN x5) x2 with
        | true => lg11L9 x0 x1 x2 x3 (A.ib .quo .i64 (A.ib .add .i64 (A.ib .mul .i64 2 (x9.getD (A.toN x5) 0)) x4) 256) (A.ib .add .i64 x5 1) x6 x7 x8 (x9.set (A.toN x5) (A.ib .rem .i64 (A.ib .add .i64 (A.ib .mul .i64 2 (x9.getD (A.toN x5) 0)) x4) 256))
        | false => none
    | false => none
set_option maxRecDepth 100000 in
theorem g11J11_eq {R : Type} (A : Ar) (n : Nat) (kk : AV → Heap → Option R) (m0 m1 : Nat) (lg11L9 : List Nat → Nat → Nat → Int → Int → Int → Nat → List Int → Nat → List Int → Option R) 
    (hg11L9 : ∀ (s : St) (x0 : List Nat) (x1 x2 : Nat) (x3 x4 x5 : Int) (x6 : Nat) (x7 : List Int) (x8 : Nat) (x9 : List Int), keep g11an 9 s = ⟨[(0, (tS x0)), (3, (sL 3000 none x1 1)), (4, (sL 4000 none x2 1)), (5, (i6 x3)), (6, (i6 x4)), (7, (i6 x5))], [(3000, ⟨[.ints .i64 x6 x7], 3, 2⟩), (4000, ⟨[.ints .i64 x8 x9], 3, 2⟩)]⟩ → g11V A n (pth 76079) m1 (blockK 2 (g11Q A n (pth 14639) (blockK 1 (g11Q A n (pth 1839) (g11W A n (pth 303) m0 (blockK 0 (g11Q A n (pth 63) (g11T kk)))))))) s = lg11L9 x0 x1 x2 x3 x4 x5 x6 x7 x8 x9) (s : St) (x0 : List Nat) (x1 x2 : Nat) (x3 x4 x5 : Int) (x6 : Nat) (x7 : List Int) (x8 : Nat) (x9 : List Int) (h : keep g11an 11 s = ⟨[(0, (tS x0)), (3, (sL 3000 none x1 1)), (4, (sL 4000 none x2 1)), (5, (i6 x3)), (6, (i6 x4)), (7, (i6 x5))], [(3000, ⟨[.ints .i64 x6 x7], 3, 2⟩), (4000, ⟨[.ints .i64 x8 x9], 3, 2⟩)]⟩) :
    g11D A n (pth 207151) (g11W A n (pth 76079) m1 (blockK 2 (g11Q A n (pth 14639) (blockK 1 (g11Q A n (pth 1839) (g11W A n (pth 303) m0 (blockK 0 (g11Q A n (pth 63) (g11T kk))))))))) s = g11J11 A n kk lg11L9 x0 x1 x2 x3 x4 x5 x6 x7 x8 x9 := by
  have h1 := (g11Wn A n _ _ _ _).trans (hg11L9 (g11R10s0 A x0 x1 x2 x3 (A.ib .quo .i64 (A.ib .add .i64 (A.ib .mul .i64 2 (x9.getD (A.toN x5) 0)) x4) 256) x5 x6 x7 x8 (x9.set (A.toN x5) (A.ib .rem .i64 (A.ib .add .i64 (A.ib .mul .i64 2 (x9.getD (A.toN x5) 0)) x4) 256))) x0 x1 x2 x3 (A.ib .quo .i64 (A.ib .add .i64 (A.ib .mul .i64 2 (x9.getD (A.toN x5) 0)) x4) 256) (A.ib .add .i64 x5 1) x6 x7 x8 (x9.set (A.toN x5) (A.ib .rem .i64 (A.ib .add .i64 (A.ib .mul .i64 2 (x9.getD (A.toN x5) 0)) x4) 256)) (by kernel_rfl))
  have h2 := (g11F A n _ 10 _ (g11R13s0 A x0 x1 x2 x3 x5 (A.ib .add .i64 (A.ib .mul .i64 2 (x9.getD (A.toN x5) 0)) x4) x6 x7 x8 (x9.set (A.toN x5) (A.ib .rem .i64 (A.ib .add .i64 (A.ib .mul .i64 2 (x9.getD (A.toN x5) 0)) x4) 256))) _ (by kernel_rfl) (by kernel_rfl)).trans (g11R10 A n (g11W A n (pth 76079) m1 (blockK 2 (g11Q A n (pth 14639) (blockK 1 (g11Q A n (pth 1839) (g11W A n (pth 303) m0 (blockK 0 (g11Q A n (pth 63) (g11T kk))))))))) x0 x1 x2 x3 (A.ib .quo .i64 (A.ib .add .i64 (A.ib .mul .i64 2 (x9.getD (A.toN x5) 0)) x4) 256) x5 x6 x7 x8 (x9.set (A.toN x5) (A.ib .rem .i64 (A.ib .add .i64 (A.ib .mul .i64 2 (x9.getD (A.toN x5) 0)) x4) 256)))
  rw [h1] at h2
  have h3 := (g11Qn A n _ _ _).trans h2
  have h4 := (blockK_n 3 _ _).trans h3
  have h5 := (g11F A n _ 13 _ (g11R12s0 A x0 x1 x2 x3 x5 (A.ib .add .i64 (A.ib .mul .i64 2 (x9.getD (A.toN x5) 0)) x4) x6 x7 x8 x9) _ (by kernel_rfl) (by kernel_rfl)).trans (g11R13 A n (blockK 3 (g11Q A n (pth 469295) (g11W A n (pth 76079) m1 (blockK 2 (g11Q A n (pth 14639) (blockK 1 (g11Q A n (pth 1839) (g11W A n (pth 303) m0 (blockK 0 (g11Q A n (pth 63) (g11T kk))))))))))) x0 x1 x2 x3 x5 (A.ib .add .i64 (A.ib .mul .i64 2 (x9.getD (A.toN x5) 0)) x4) x6 x7 x8 (x9.set (A.toN x5) (A.ib .rem .i64 (A.ib .add .i64 (A.ib .mul .i64 2 (x9.getD (A.toN x5) 0)) x4) 256)))
  rw [h4] at h5
  have h6 := (g11Qn A n _ _ _).trans h5
  have h7 := (g11F A n _ 12 _ (g11R11s0 A x0 x1 x2 x3 x4 x5 x6 x7 x8 x9) _ (by kernel_rfl) (by kernel_rfl)).trans (g11R12 A n (g11Q A n (pth 3746095) (blockK 3 (g11Q A n (pth 469295) (g11W A n (pth 76079) m1 (blockK 2 (g11Q A n (pth 14639) (blockK 1 (g11Q A n (pth 1839) (g11W A n (pth 303) m0 (blockK 0 (g11Q A n (pth 63) (g11T kk)))))))))))) x0 x1 x2 x3 x5 (A.ib .add .i64 (A.ib .mul .i64 2 (x9.getD (A.toN x5) 0)) x4) x6 x7 x8 x9)
  rw [h6] at h7
  have h8 := (g11p1648943 A n _ _).trans h7
  have h9 := (g11Qn A n _ _ _).trans h8
  have h10 := (g11F A n _ 11 _ ⟨[(0, (tS x0)), (3, (sL 3000 none x1 1)), (4, (sL 4000 none x2 1)), (5, (i6 x3)), (6, (i6 x4)), (7, (i6 x5))], [(3000, ⟨[.ints .i64 x6 x7], 3, 2⟩), (4000, ⟨[.ints .i64 x8 x9], 3, 2⟩)]⟩ _ (by kernel_rfl) (by kernel_rfl)).trans (g11R11 A n (g11Q A n (pth 1648943) (blockK 3 (g11Q A n (pth 469295) (g11W A n (pth 76079) m1 (blockK 2 (g11Q A n (pth 14639) (blockK 1 (g11Q A n (pth 1839) (g11W A n (pth 303) m0 (blockK 0 (g11Q A n (pth 63) (g11T kk)))))))))))) x0 x1 x2 x3 x4 x5 x6 x7 x8 x9)
  rw [h9] at h10
  have h11 := (g11p600367 A n _ _).trans h10
  have h12 := (g11p338223 A n _ _).trans h11
  have h13 := (g11p207151 A n _ _).trans h12
  exact (g11F A n _ 11 _ _ ⟨[(0, (tS x0)), (3, (sL 3000 none x1 1)), (4, (sL 4000 none x2 1)), (5, (i6 x3)), (6, (i6 x4)), (7, (i6 x5))], [(3000, ⟨[.ints .i64 x6 x7], 3, 2⟩), (4000, ⟨[.ints .i64 x8 x9], 3, 2⟩)]⟩ (by kernel_rfl) (h.trans (by kernel_rfl))).trans (h13.trans (by kernel_rfl))
def g11J19 {R : Type} (A : Ar) (n : Nat) (kk : AV → Heap → Option R) (lg11L17 : List Nat → Nat → Nat → Int → Int → Int → Nat → List Int → Nat → List Int → Option R) (x0 : List Nat) (x1 x2 : Nat) (x3 x4 x5 : Int) (x6 : Nat) (x7 : List Int) (x8 : Nat) (x9 : List Int) : Option R :=
  match (generalizing := false) A.neg x5 with
  | true => none
  | false => match (generalizing := false) A.lt (A.toN x5) x2 with
    | true => match (generalizing := false) A.neg x5 with
      | true => none
      | false => match (generalizing := false) A.lt (A.toN x5) x1 with
        | true => match (generalizing := false) A.neg x5 with
          | true => none
          | false => match (generalizing := false) A.lt (A.toN x5) x2 with
            | true => lg11L17 x0 x1 x2 x3 (A.ib .sub .i64 1 (A.ib .quo .i64 (A.ib .add .i64 (A.ib .sub .i64 (A.ib .sub .i64 (x9.getD (A.toN x5) 0) (x7.getD (A.toN x5) 0)) x4) 256) 256)) (A.ib .add .i64 x5 1) x6 x7 x8 (x9.set (A.toN x5) (A.ib .rem .i64 (A.ib .add .i64 (A.ib .sub .i64 (A.ib .sub .i64 (x9.getD (A.toN x5) 0) (x7.getD (A.toN x5) 0)) x4) 256) 256))
            | false => none
        | false => none
    | false => none
set_option maxRecDepth 100000 in
theorem g11J19_eq {R : Type} (A : Ar) (n : Nat) (kk : AV → Heap → Option R) (m0 m1 : Nat) (lg11L17 : List Nat → Nat → Nat → Int → Int → Int → Nat → List Int → Nat → List Int → Option R) 
    (hg11L17 : ∀ (s : St) (x0 : List Nat) (x1 x2 : Nat) (x3 x4 x5 : Int) (x6 : Nat) (x7 : List Int) (x8 : Nat) (x9 : List Int), keep g11an 17 s = ⟨[(0, (tS x0)), (3, (sL 3000 none x1 1)), (4, (sL 4000 none x2 1)), (5, (i6 x3)), (9, (i6 x4)), (10, (i6 x5))], [(3000, ⟨[.ints .i64 x6 x7], 3, 2⟩), (4000, ⟨[.ints .i64 x8 x9], 3, 2⟩)]⟩ → g11V A n (pth 325935) m1 (blockK 4 (blockK 1 (g11Q A n (pth 1839) (g11W A n (pth 303) m0 (blockK 0 (g11Q A n (pth 63) (g11T kk))))))) s = lg11L17 x0 x1 x2 x3 x4 x5 x6 x7 x8 x9) (s : St) (x0 : List Nat) (x1 x2 : Nat) (x3 x4 x5 : Int) (x6 : Nat) (x7 : List Int) (x8 : Nat) (x9 : List Int) (h : keep g11an 19 s = ⟨[(0, (tS x0)), (3, (sL 3000 none x1 1)), (4, (sL 4000 none x2 1)), (5, (i6 x3)), (9, (i6 x4)), (10, (i6 x5))], [(3000, ⟨[.ints .i64 x6 x7], 3, 2⟩), (4000, ⟨[.ints .i64 x8 x9], 3, 2⟩)]⟩) :
    g11D A n (pth 850223) (g11W A n (pth 325935) m1 (blockK 4 (blockK 1 (g11Q A n (pth 1839) (g11W A n (pth 303) m0 (blockK 0 (g11Q A n (pth 63) (g11T kk)))))))) s = g11J19 A n kk lg11L17 x0 x1 x2 x3 x4 x5 x6 x7 x8 x9 := by
  have h1 := (g11Wn A n _ _ _ _).trans (hg11L17 (g11R18s0 A x0 x1 x2 x3 (A.ib .sub .i64 1 (A.ib .quo .i64 (A.ib .add .i64 (A.ib .sub .i64 (A.ib .sub .i64 (x9.getD (A.toN x5) 0) (x7.getD (A.toN x5) 0)) x4) 256) 256)) x5 x6 x7 x8 (x9.set (A.toN x5) (A.ib .rem .i64 (A.ib .add .i64 (A.ib .sub .i64 (A.ib .sub .i64 (x9.getD (A.toN x5) 0) (x7.getD (A.toN x5) 0)) x4) 256) 256))) x0 x1 x2 x3 (A.ib .sub .i64 1 (A.ib .quo .i64 (A.ib .add .i64 (A.ib .sub .i64 (A.ib .sub .i64 (x9.getD (A.toN x5) 0) (x7.getD (A.toN x5) 0)) x4) 256) 256)) (A.ib .add .i64 x5 1) x6 x7 x8 (x9.set (A.toN x5) (A.ib .rem .i64 (A.ib .add .i64 (A.ib .sub .i64 (A.ib .sub .i64 (x9.getD (A.toN x5) 0) (x7.getD (A.toN x5) 0)) x4) 256) 256)) (by kernel_rfl))
  have h2 := (g11F A n _ 18 _ (g11R21s0 A x0 x1 x2 x3 x5 (A.ib .add .i64 (A.ib .sub .i64 (A.ib .sub .i64 (x9.getD (A.toN x5) 0) (x7.getD (A.toN x5) 0)) x4) 256) x6 x7 x8 (x9.set (A.toN x5) (A.ib .rem .i64 (A.ib .add .i64 (A.ib .sub .i64 (A.ib .sub .i64 (x9.getD (A.toN x5) 0) (x7.getD (A.toN x5) 0)) x4) 256) 256))) _ (by kernel_rfl) (by kernel_rfl)).trans (g11R18 A n (g11W A n (pth 325935) m1 (blockK 4 (blockK 1 (g11Q A n (pth 1839) (g11W A n (pth 303) m0 (blockK 0 (g11Q A n (pth 63) (g11T kk)))))))) x0 x1 x2 x3 (A.ib .sub .i64 1 (A.ib .quo .i64 (A.ib .add .i64 (A.ib .sub .i64 (A.ib .sub .i64 (x9.getD (A.toN x5) 0) (x7.getD (A.toN x5) 0)) x4) 256) 256)) x5 x6 x7 x8 (x9.set (A.toN x5) (A.ib .rem .i64 (A.ib .add .i64 (A.ib .sub .i64 (A.ib .sub .i64 (x9.getD (A.toN x5) 0) (x7.getD (A.toN x5) 0)) x4) 256) 256)))
  rw [h1] at h2
  have h3 := (g11Qn A n _ _ _).trans h2
  have h4 := (blockK_n 5 _ _).trans h3
  have h5 := (g11F A n _ 21 _ (g11R20s0 A x0 x1 x2 x3 x5 (A.ib .add .i64 (A.ib .sub .i64 (A.ib .sub .i64 (x9.getD (A.toN x5) 0) (x7.getD (A.toN x5) 0)) x4) 256) x6 x7 x8 x9) _ (by kernel_rfl) (by kernel_rfl)).trans (g11R21 A n (blockK 5 (g11Q A n (pth 1898799) (g11W A n (pth 325935) m1 (blockK 4 (blockK 1 (g11Q A n (pth 1839) (g11W A n (pth 303) m0 (blockK 0 (g11Q A n (pth 63) (g11T kk)))))))))) x0 x1 x2 x3 x5 (A.ib .add .i64 (A.ib .sub .i64 (A.ib .sub .i64 (x9.getD (A.toN x5) 0) (x7.getD (A.toN x5) 0)) x4) 256) x6 x7 x8 (x9.set (A.toN x5) (A.ib .rem .i64 (A.ib .add .i64 (A.ib .sub .i64 (A.ib .sub .i64 (x9.getD (A.toN x5) 0) (x7.getD (A.toN x5) 0)) x4) 256) 256)))
  rw [h4] at h5
  have h6 := (g11Qn A n _ _ _).trans h5
  have h7 := (g11F A n _ 20 _ (g11R19s0 A x0 x1 x2 x3 x4 x5 x6 x7 x8 x9) _ (by kernel_rfl) (by kernel_rfl)).trans (g11R20 A n (g11Q A n (pth 15005999) (blockK 5 (g11Q A n (pth 1898799) (g11W A n (pth 325935) m1 (blockK 4 (blockK 1 (g11Q A n (pth 1839) (g11W A n (pth 303) m0 (blockK 0 (g11Q A n (pth 63) (g11T kk))))))))))) x0 x1 x2 x3 x5 (A.ib .add .i64 (A.ib .sub .i64 (A.ib .sub .i64 (x9.getD (A.toN x5) 0) (x7.getD (A.toN x5) 0)) x4) 256) x6 x7 x8 x9)
  rw [h6] at h7
  have h8 := (g11p6617391 A n _ _).trans h7
  have h9 := (g11Qn A n _ _ _).trans h8
  have h10 := (g11F A n _ 19 _ ⟨[(0, (tS x0)), (3, (sL 3000 none x1 1)), (4, (sL 4000 none x2 1)), (5, (i6 x3)), (9, (i6 x4)), (10, (i6 x5))], [(3000, ⟨[.ints .i64 x6 x7], 3, 2⟩), (4000, ⟨[.ints .i64 x8 x9], 3, 2⟩)]⟩ _ (by kernel_rfl) (by kernel_rfl)).trans (g11R19 A n (g11Q A n (pth 6617391) (blockK 5 (g11Q A n (pth 1898799) (g11W A n (pth 325935) m1 (blockK 4 (blockK 1 (g11Q A n (pth 1839) (g11W A n (pth 303) m0 (blockK 0 (g11Q A n (pth 63) (g11T kk))))))))))) x0 x1 x2 x3 x4 x5 x6 x7 x8 x9)
  rw [h9] at h10
  have h11 := (g11p2423087 A n _ _).trans h10
  have h12 := (g11p1374511 A n _ _).trans h11
  have h13 := (g11p850223 A n _ _).trans h12
  exact (g11F A n _ 19 _ _ ⟨[(0, (tS x0)), (3, (sL 3000 none x1 1)), (4, (sL 4000 none x2 1)), (5, (i6 x3)), (9, (i6 x4)), (10, (i6 x5))], [(3000, ⟨[.ints .i64 x6 x7], 3, 2⟩), (4000, ⟨[.ints .i64 x8 x9], 3, 2⟩)]⟩ (by kernel_rfl) (h.trans (by kernel_rfl))).trans (h13.trans (by kernel_rfl))
def g11L17 {R : Type} (A : Ar) (n : Nat) (kk : AV → Heap → Option R) (lg11L5 : List Nat → Nat → Nat → Int → Nat → List Int → Nat → List Int → Option R) : Nat → List Nat → Nat → Nat → Int → Int → Int → Nat → List Int → Nat → List Int → Option R
  | 0, _, _, _, _, _, _, _, _, _, _ => none
  | m + 1, x0, x1, x2, x3, x4, x5, x6, x7, x8, x9 => match (generalizing := false) A.ic .lss x5 33 with
  | true => g11J19 A n kk (g11L17 A n kk lg11L5 m) x0 x1 x2 x3 x4 x5 x6 x7 x8 x9
  | false => lg11L5 x0 x1 x2 (A.ib .sub .i64 x3 1) x6 x7 x8 x9
set_option maxRecDepth 100000 in
theorem g11L17_eq {R : Type} (A : Ar) (n : Nat) (kk : AV → Heap → Option R) (m0 : Nat) (lg11L5 : List Nat → Nat → Nat → Int → Nat → List Int → Nat → List Int → Option R) 
    (hg11L5 : ∀ (s : St) (x0 : List Nat) (x1 x2 : Nat) (x3 : Int) (x4 : Nat) (x5 : List Int) (x6 : Nat) (x7 : List Int), keep g11an 5 s = ⟨[(0, (tS x0)), (3, (sL 3000 none x1 1)), (4, (sL 4000 none x2 1)), (5, (i6 x3))], [(3000, ⟨[.ints .i64 x4 x5], 3, 2⟩), (4000, ⟨[.ints .i64 x6 x7], 3, 2⟩)]⟩ → g11V A n (pth 303) m0 (blockK 0 (g11Q A n (pth 63) (g11T kk))) s = lg11L5 x0 x1 x2 x3 x4 x5 x6 x7) (m : Nat) (s : St) (x0 : List Nat) (x1 x2 : Nat) (x3 x4 x5 : Int) (x6 : Nat) (x7 : List Int) (x8 : Nat) (x9 : List Int) (h : keep g11an 17 s = ⟨[(0, (tS x0)), (3, (sL 3000 none x1 1)), (4, (sL 4000 none x2 1)), (5, (i6 x3)), (9, (i6 x4)), (10, (i6 x5))], [(3000, ⟨[.ints .i64 x6 x7], 3, 2⟩), (4000, ⟨[.ints .i64 x8 x9], 3, 2⟩)]⟩) :
    g11V A n (pth 325935) m (blockK 4 (blockK 1 (g11Q A n (pth 1839) (g11W A n (pth 303) m0 (blockK 0 (g11Q A n (pth 63) (g11T kk))))))) s = g11L17 A n kk lg11L5 m x0 x1 x2 x3 x4 x5 x6 x7 x8 x9 := by
  induction m generalizing s x0 x1 x2 x3 x4 x5 x6 x7 x8 x9 with
  | zero => rfl
  | succ m ih =>
    have h1 := (g11Qn A n _ _ _).trans (g11J19_eq A n kk m0 m (g11L17 A n kk lg11L5 m) ih  (g11R17s0 A x0 x1 x2 x3 x4 x5 x6 x7 x8 x9) x0 x1 x2 x3 x4 x5 x6 x7 x8 x9 (by kernel_rfl))
    have h2 := (g11p2685231 A n _ _).trans h1
    have h3 := (g11Wn A n _ _ _ _).trans (hg11L5 (g11R6s0 A x0 x1 x2 x3 x6 x7 x8 x9) x0 x1 x2 (A.ib .sub .i64 x3 1) x6 x7 x8 x9 (by kernel_rfl))
    have h4 := (g11F A n _ 6 _ (g11R17s0 A x0 x1 x2 x3 x4 x5 x6 x7 x8 x9) _ (by kernel_rfl) (by kernel_rfl)).trans (g11R6 A n (g11W A n (pth 303) m0 (blockK 0 (g11Q A n (pth 63) (g11T kk)))) x0 x1 x2 x3 x6 x7 x8 x9)
    rw [h3] at h4
    have h5 := (g11Qn A n _ _ _).trans h4
    have h6 := (blockK_n 1 _ _).trans h5
    have h7 := (blockK_hit 4 _ _).trans h6
    have h8 := (g11We A n (pth 325935) m _ _ _).trans h7
    have h9 := (g11Qe A n (pth 850223) _ _ _).trans h8
    have h10 := (g11p3733807 A n _ _).trans h9
    have h11 := g11p1636655 A n (g11Q A n (pth 850223) (g11W A n (pth 325935) m (blockK 4 (blockK 1 (g11Q A n (pth 1839) (g11W A n (pth 303) m0 (blockK 0 (g11Q A n (pth 63) (g11T kk))))))))) (g11R17s0 A x0 x1 x2 x3 x4 x5 x6 x7 x8 x9) (A.ic .lss x5 33) (by kernel_rfl)
    rw [h2, h10] at h11
    have h12 := (g11Qn A n _ _ _).trans h11
    have h13 := (g11F A n _ 17 _ ⟨[(0, (tS x0)), (3, (sL 3000 none x1 1)), (4, (sL 4000 none x2 1)), (5, (i6 x3)), (9, (i6 x4)), (10, (i6 x5))], [(3000, ⟨[.ints .i64 x6 x7], 3, 2⟩), (4000, ⟨[.ints .i64 x8 x9], 3, 2⟩)]⟩ _ (by kernel_rfl) (by kernel_rfl)).trans (g11R17 A n (g11Q A n (pth 1636655) (g11Q A n (pth 850223) (g11W A n (pth 325935) m (blockK 4 (blockK 1 (g11Q A n (pth 1839) (g11W A n (pth 303) m0 (blockK 0 (g11Q A n (pth 63) (g11T kk)))))))))) x0 x1 x2 x3 x4 x5 x6 x7 x8 x9)
    rw [h12] at h13
    have h14 := (g11p588079 A n _ _).trans h13
    have h15 := (g11p325935 A n _ _).trans h14
    exact (loopD_first (s' := ⟨[(0, (tS x0)), (3, (sL 3000 none x1 1)), (4, (sL 4000 none x2 1)), (5, (i6 x3)), (9, (i6 x4)), (10, (i6 x5))], [(3000, ⟨[.ints .i64 x6 x7], 3, 2⟩), (4000, ⟨[.ints .i64 x8 x9], 3, 2⟩)]⟩) (id := 17) (by kernel_rfl) (h.trans (by kernel_rfl)) _).trans ((g11Vs A n _ m _ _).trans (h15.trans (by kernel_rfl)))
def g11J15 {R : Type} (A : Ar) (n : Nat) (kk : AV → Heap → Option R) (lg11L5 : List Nat → Nat → Nat → Int → Nat → List Int → Nat → List Int → Option R) (x0 : List Nat) (x1 x2 : Nat) (x3 : Int) (x4 : Nat) (x5 : List Int) (x6 : Nat) (x7 : List Int) : Option R :=
  g11L17 A n kk lg11L5 n x0 x1 x2 x3 0 0 x4 x5 x6 x7
set_option maxRecDepth 100000 in
theorem g11J15_eq {R : Type} (A : Ar) (n : Nat) (kk : AV → Heap → Option R) (m0 : Nat) (lg11L5 : List Nat → Nat → Nat → Int → Nat → List Int → Nat → List Int → Option R) 
    (hg11L5 : ∀ (s : St) (x0 : List Nat) (x1 x2 : Nat) (x3 : Int) (x4 : Nat) (x5 : List Int) (x6 : Nat) (x7 : List Int), keep g11an 5 s = ⟨[(0, (tS x0)), (3, (sL 3000 none x1 1)), (4, (sL 4000 none x2 1)), (5, (i6 x3))], [(3000, ⟨[.ints .i64 x4 x5], 3, 2⟩), (4000, ⟨[.ints .i64 x6 x7], 3, 2⟩)]⟩ → g11V A n (pth 303) m0 (blockK 0 (g11Q A n (pth 63) (g11T kk))) s = lg11L5 x0 x1 x2 x3 x4 x5 x6 x7) (s : St) (x0 : List Nat) (x1 x2 : Nat) (x3 : Int) (x4 : Nat) (x5 : List Int) (x6 : Nat) (x7 : List Int) (h : keep g11an 15 s = ⟨[(0, (tS x0)), (3, (sL 3000 none x1 1)), (4, (sL 4000 none x2 1)), (5, (i6 x3))], [(3000, ⟨[.ints .i64 x4 x5], 3, 2⟩), (4000, ⟨[.ints .i64 x6 x7], 3, 2⟩)]⟩) :
    g11D A n (pth 31023) (blockK 1 (g11Q A n (pth 1839) (g11W A n (pth 303) m0 (blockK 0 (g11Q A n (pth 63) (g11T kk)))))) s = g11J15 A n kk lg11L5 x0 x1 x2 x3 x4 x5 x6 x7 := by
  have h1 := (g11p194863 A n _ _).trans (g11L17_eq A n kk m0 lg11L5 hg11L5 n (g11R16s0 A x0 x1 x2 x3 0 x4 x5 x6 x7) x0 x1 x2 x3 0 0 x4 x5 x6 x7 (by kernel_rfl))
  have h2 := (g11p129327 A n _ _).trans h1
  have h3 := (g11Qn A n _ _ _).trans h2
  have h4 := (g11F A n _ 16 _ (g11R15s0 A x0 x1 x2 x3 x4 x5 x6 x7) _ (by kernel_rfl) (by kernel_rfl)).trans (g11R16 A n (g11Q A n (pth 129327) (blockK 1 (g11Q A n (pth 1839) (g11W A n (pth 303) m0 (blockK 0 (g11Q A n (pth 63) (g11T kk))))))) x0 x1 x2 x3 0 x4 x5 x6 x7)
  rw [h3] at h4
  have h5 := (g11p63791 A n _ _).trans h4
  have h6 := (g11Qn A n _ _ _).trans h5
  have h7 := (g11F A n _ 15 _ ⟨[(0, (tS x0)), (3, (sL 3000 none x1 1)), (4, (sL 4000 none x2 1)), (5, (i6 x3))], [(3000, ⟨[.ints .i64 x4 x5], 3, 2⟩), (4000, ⟨[.ints .i64 x6 x7], 3, 2⟩)]⟩ _ (by kernel_rfl) (by kernel_rfl)).trans (g11R15 A n (g11Q A n (pth 63791) (blockK 1 (g11Q A n (pth 1839) (g11W A n (pth 303) m0 (blockK 0 (g11Q A n (pth 63) (g11T kk))))))) x0 x1 x2 x3 x4 x5 x6 x7)
  rw [h6] at h7
  have h8 := (g11p31023 A n _ _).trans h7
  exact (g11F A n _ 15 _ _ ⟨[(0, (tS x0)), (3, (sL 3000 none x1 1)), (4, (sL 4000 none x2 1)), (5, (i6 x3))], [(3000, ⟨[.ints .i64 x4 x5], 3, 2⟩), (4000, ⟨[.ints .i64 x6 x7], 3, 2⟩)]⟩ (by kernel_rfl) (h.trans (by kernel_rfl))).trans (h8.trans (by kernel_rfl))
def g11J14 {R : Type} (A : Ar) (n : Nat) (kk : AV → Heap → Option R) (lg11L5 : List Nat → Nat → Nat → Int → Nat → List Int → Nat → List Int → Option R) (x0 : List Nat) (x1 x2 : Nat) (x3 : Int) (x4 : Nat) (x5 : List Int) (x6 : Nat) (x7 : List Int) : Option R :=
  match (generalizing := false) g25ok A x2 x6 x7 with
  | true => match (generalizing := false) g25r0 A x2 x6 x7 with
    | true => lg11L5 x0 x1 x2 (A.ib .sub .i64 x3 1) x4 x5 (g25r1 A x2 x6 x7) (g25r2 A x2 x6 x7)
    | false => g11J15 A n kk lg11L5 x0 x1 x2 x3 x4 x5 (g25r1 A x2 x6 x7) (g25r2 A x2 x6 x7)
  | false => none
set_option maxRecDepth 100000 in
theorem g11J14_eq {R : Type} (A : Ar) (n : Nat) (kk : AV → Heap → Option R) (m0 : Nat) (lg11L5 : List Nat → Nat → Nat → Int → Nat → List Int → Nat → List Int → Option R) 
    (hg11L5 : ∀ (s : St) (x0 : List Nat) (x1 x2 : Nat) (x3 : Int) (x4 : Nat) (x5 : List Int) (x6 : Nat) (x7 : List Int), keep g11an 5 s = ⟨[(0, (tS x0)), (3, (sL 3000 none x1 1)), (4, (sL 4000 none x2 1)), (5, (i6 x3))], [(3000, ⟨[.ints .i64 x4 x5], 3, 2⟩), (4000, ⟨[.ints .i64 x6 x7], 3, 2⟩)]⟩ → g11V A n (pth 303) m0 (blockK 0 (g11Q A n (pth 63) (g11T kk))) s = lg11L5 x0 x1 x2 x3 x4 x5 x6 x7) (s : St) (x0 : List Nat) (x1 x2 : Nat) (x3 : Int) (x4 : Nat) (x5 : List Int) (x6 : Nat) (x7 : List Int) (h : keep g11an 14 s = ⟨[(0, (tS x0)), (3, (sL 3000 none x1 1)), (4, (sL 4000 none x2 1)), (5, (i6 x3))], [(3000, ⟨[.ints .i64 x4 x5], 3, 2⟩), (4000, ⟨[.ints .i64 x6 x7], 3, 2⟩)]⟩) :
    g11D A n (pth 14639) (blockK 1 (g11Q A n (pth 1839) (g11W A n (pth 303) m0 (blockK 0 (g11Q A n (pth 63) (g11T kk)))))) s = g11J14 A n kk lg11L5 x0 x1 x2 x3 x4 x5 x6 x7 := by
  have h1 := (g11Wn A n _ _ _ _).trans (hg11L5 (g11R6s0 A x0 x1 x2 x3 x4 x5 (g25r1 A x2 x6 x7) (g25r2 A x2 x6 x7)) x0 x1 x2 (A.ib .sub .i64 x3 1) x4 x5 (g25r1 A x2 x6 x7) (g25r2 A x2 x6 x7) (by kernel_rfl))
  have h2 := (g11F A n _ 6 _ (g11R14s0 A x0 x1 x2 x3 x4 x5 x6 x7) _ (by kernel_rfl) (by kernel_rfl)).trans (g11R6 A n (g11W A n (pth 303) m0 (blockK 0 (g11Q A n (pth 63) (g11T kk)))) x0 x1 x2 x3 x4 x5 (g25r1 A x2 x6 x7) (g25r2 A x2 x6 x7))
  rw [h1] at h2
  have h3 := (g11Qn A n _ _ _).trans h2
  have h4 := (blockK_hit 1 _ _).trans h3
  have h5 := (g11Qe A n (pth 31023) _ _ _).trans h4
  have h6 := (g11p88367 A n _ _).trans h5
  have h7 := (g11Qn A n _ _ _).trans (g11J15_eq A n kk m0 lg11L5 hg11L5  (g11R14s0 A x0 x1 x2 x3 x4 x5 x6 x7) x0 x1 x2 x3 x4 x5 (g25r1 A x2 x6 x7) (g25r2 A x2 x6 x7) (by kernel_rfl))
  have h8 := (g11p121135 A n _ _).trans h7
  have h9 := g11p55599 A n (g11Q A n (pth 31023) (blockK 1 (g11Q A n (pth 1839) (g11W A n (pth 303) m0 (blockK 0 (g11Q A n (pth 63) (g11T kk))))))) (g11R14s0 A x0 x1 x2 x3 x4 x5 x6 x7) (g25r0 A x2 x6 x7) (by kernel_rfl)
  rw [h6, h8] at h9
  have h10 := (g11Qn A n _ _ _).trans h9
  have h11 := (g11F A n _ 14 _ ⟨[(0, (tS x0)), (3, (sL 3000 none x1 1)), (4, (sL 4000 none x2 1)), (5, (i6 x3))], [(3000, ⟨[.ints .i64 x4 x5], 3, 2⟩), (4000, ⟨[.ints .i64 x6 x7], 3, 2⟩)]⟩ _ (by kernel_rfl) (by kernel_rfl)).trans (g11R14 A n (g11Q A n (pth 55599) (g11Q A n (pth 31023) (blockK 1 (g11Q A n (pth 1839) (g11W A n (pth 303) m0 (blockK 0 (g11Q A n (pth 63) (g11T kk)))))))) x0 x1 x2 x3 x4 x5 x6 x7)
  rw [h10] at h11
  have h12 := (g11p22831 A n _ _).trans h11
  have h13 := (g11p14639 A n _ _).trans h12
  exact (g11F A n _ 14 _ _ ⟨[(0, (tS x0)), (3, (sL 3000 none x1 1)), (4, (sL 4000 none x2 1)), (5, (i6 x3))], [(3000, ⟨[.ints .i64 x4 x5], 3, 2⟩), (4000, ⟨[.ints .i64 x6 x7], 3, 2⟩)]⟩ (by kernel_rfl) (h.trans (by kernel_rfl))).trans (h13.trans (by kernel_rfl))
def g11L9 {R : Type} (A : Ar) (n : Nat) (kk : AV → Heap → Option R) (lg11L5 : List Nat → Nat → Nat → Int → Nat → List Int → Nat → List Int → Option R) : Nat → List Nat → Nat → Nat → Int → Int → Int → Nat → List Int → Nat → List Int → Option R
  | 0, _, _, _, _, _, _, _, _, _, _ => none
  | m + 1, x0, x1, x2, x3, x4, x5, x6, x7, x8, x9 => match (generalizing := false) A.ic .lss x5 33 with
  | true => g11J11 A n kk (g11L9 A n kk lg11L5 m) x0 x1 x2 x3 x4 x5 x6 x7 x8 x9
  | false => g11J14 A n kk lg11L5 x0 x1 x2 x3 x6 x7 x8 x9
set_option maxRecDepth 100000 in
theorem g11L9_eq {R : Type} (A : Ar) (n : Nat) (kk : AV → Heap → Option R) (m0 : Nat) (lg11L5 : List Nat → Nat → Nat → Int → Nat → List Int → Nat → List Int → Option R) 
    (hg11L5 : ∀ (s : St) (x0 : List Nat) (x1 x2 : Nat) (x3 : Int) (x4 : Nat) (x5 : List Int) (x6 : Nat) (x7 : List Int), keep g11an 5 s = ⟨[(0, (tS x0)), (3, (sL 3000 none x1 1)), (4, (sL 4000 none x2 1)), (5, (i6 x3))], [(3000, ⟨[.ints .i64 x4 x5], 3, 2⟩), (4000, ⟨[.ints .i64 x6 x7], 3, 2⟩)]⟩ → g11V A n (pth 303) m0 (blockK 0 (g11Q A n (pth 63) (g11T kk))) s = lg11L5 x0 x1 x2 x3 x4 x5 x6 x7) (m : Nat) (s : St) (x0 : List Nat) (x1 x2 : Nat) (x3 x4 x5 : Int) (x6 : Nat) (x7 : List Int) (x8 : Nat) (x9 : List Int) (h : keep g11an 9 s = ⟨[(0, (tS x0)), (3, (sL 3000 none x1 1)), (4, (sL 4000 none x2 1)), (5, (i6 x3)), (6, (i6 x4)), (7, (i6 x5))], [(3000, ⟨[.ints .i64 x6 x7], 3, 2⟩), (4000, ⟨[.ints .i64 x8 x9], 3, 2⟩)]⟩) :
    g11V A n (pth 76079) m (blockK 2 (g11Q A n (pth 14639) (blockK 1 (g11Q A n (pth 1839) (g11W A n (pth 303) m0 (blockK 0 (g11Q A n (pth 63) (g11T kk)))))))) s = g11L9 A n kk lg11L5 m x0 x1 x2 x3 x4 x5 x6 x7 x8 x9 := by
  induction m generalizing s x0 x1 x2 x3 x4 x5 x6 x7 x8 x9 with
  | zero => rfl
  | succ m ih =>
    have h1 := (g11Qn A n _ _ _).trans (g11J11_eq A n kk m0 m (g11L9 A n kk lg11L5 m) ih  (g11R9s0 A x0 x1 x2 x3 x4 x5 x6 x7 x8 x9) x0 x1 x2 x3 x4 x5 x6 x7 x8 x9 (by kernel_rfl))
    have h2 := (g11p665903 A n _ _).trans h1
    have h3 := (g11Qn A n _ _ _).trans (g11J14_eq A n kk m0 lg11L5 hg11L5  (g11R9s0 A x0 x1 x2 x3 x4 x5 x6 x7 x8 x9) x0 x1 x2 x3 x6 x7 x8 x9 (by kernel_rfl))
    have h4 := (blockK_hit 2 _ _).trans h3
    have h5 := (g11We A n (pth 76079) m _ _ _).trans h4
    have h6 := (g11Qe A n (pth 207151) _ _ _).trans h5
    have h7 := (g11p928047 A n _ _).trans h6
    have h8 := g11p403759 A n (g11Q A n (pth 207151) (g11W A n (pth 76079) m (blockK 2 (g11Q A n (pth 14639) (blockK 1 (g11Q A n (pth 1839) (g11W A n (pth 303) m0 (blockK 0 (g11Q A n (pth 63) (g11T kk)))))))))) (g11R9s0 A x0 x1 x2 x3 x4 x5 x6 x7 x8 x9) (A.ic .lss x5 33) (by kernel_rfl)
    rw [h2, h7] at h8
    have h9 := (g11Qn A n _ _ _).trans h8
    have h10 := (g11F A n _ 9 _ ⟨[(0, (tS x0)), (3, (sL 3000 none x1 1)), (4, (sL 4000 none x2 1)), (5, (i6 x3)), (6, (i6 x4)), (7, (i6 x5))], [(3000, ⟨[.ints .i64 x6 x7], 3, 2⟩), (4000, ⟨[.ints .i64 x8 x9], 3, 2⟩)]⟩ _ (by kernel_rfl) (by kernel_rfl)).trans (g11R9 A n (g11Q A n (pth 403759) (g11Q A n (pth 207151) (g11W A n (pth 76079) m (blockK 2 (g11Q A n (pth 14639) (blockK 1 (g11Q A n (pth 1839) (g11W A n (pth 303) m0 (blockK 0 (g11Q A n (pth 63) (g11T kk))))))))))) x0 x1 x2 x3 x4 x5 x6 x7 x8 x9)
    rw [h9] at h10
    have h11 := (g11p141615 A n _ _).trans h10
    have h12 := (g11p76079 A n _ _).trans h11
    exact (loopD_first (s' := ⟨[(0, (tS x0)), (3, (sL 3000 none x1 1)), (4, (sL 4000 none x2 1)), (5, (i6 x3)), (6, (i6 x4)), (7, (i6 x5))], [(3000, ⟨[.ints .i64 x6 x7], 3, 2⟩), (4000, ⟨[.ints .i64 x8 x9], 3, 2⟩)]⟩) (id := 9) (by kernel_rfl) (h.trans (by kernel_rfl)) _).trans ((g11Vs A n _ m _ _).trans (h12.trans (by kernel_rfl)))
def g11J7 {R : Type} (A : Ar) (n : Nat) (kk : AV → Heap → Option R) (lg11L5 : List Nat → Nat → Nat → Int → Nat → List Int → Nat → List Int → Option R) (x0 : List Nat) (x1 x2 : Nat) (x3 : Int) (x4 : Nat) (x5 : List Int) (x6 : Nat) (x7 : List Int) : Option R :=
  match (generalizing := false) g21ok A x0 x3 with
  | true => g11L9 A n kk lg11L5 n x0 x1 x2 x3 (g21r0 A x0 x3) 0 x4 x5 x6 x7
  | false => none
set_option maxRecDepth 100000 in
theorem g11J7_eq {R : Type} (A : Ar) (n : Nat) (kk : AV → Heap → Option R) (m0 : Nat) (lg11L5 : List Nat → Nat → Nat → Int → Nat → List Int → Nat → List Int → Option R) 
    (hg11L5 : ∀ (s : St) (x0 : List Nat) (x1 x2 : Nat) (x3 : Int) (x4 : Nat) (x5 : List Int) (x6 : Nat) (x7 : List Int), keep g11an 5 s = ⟨[(0, (tS x0)), (3, (sL 3000 none x1 1)), (4, (sL 4000 none x2 1)), (5, (i6 x3))], [(3000, ⟨[.ints .i64 x4 x5], 3, 2⟩), (4000, ⟨[.ints .i64 x6 x7], 3, 2⟩)]⟩ → g11V A n (pth 303) m0 (blockK 0 (g11Q A n (pth 63) (g11T kk))) s = lg11L5 x0 x1 x2 x3 x4 x5 x6 x7) (s : St) (x0 : List Nat) (x1 x2 : Nat) (x3 : Int) (x4 : Nat) (x5 : List Int) (x6 : Nat) (x7 : List Int) (h : keep g11an 7 s = ⟨[(0, (tS x0)), (3, (sL 3000 none x1 1)), (4, (sL 4000 none x2 1)), (5, (i6 x3))], [(3000, ⟨[.ints .i64 x4 x5], 3, 2⟩), (4000, ⟨[.ints .i64 x6 x7], 3, 2⟩)]⟩) :
    g11D A n (pth 815) (g11W A n (pth 303) m0 (blockK 0 (g11Q A n (pth 63) (g11T kk)))) s = g11J7 A n kk lg11L5 x0 x1 x2 x3 x4 x5 x6 x7 := by
  have h1 := (g11p43311 A n _ _).trans (g11L9_eq A n kk m0 lg11L5 hg11L5 n (g11R8s0 A x0 x1 x2 x3 (g21r0 A x0 x3) x4 x5 x6 x7) x0 x1 x2 x3 (g21r0 A x0 x3) 0 x4 x5 x6 x7 (by kernel_rfl))
  have h2 := (g11p26927 A n _ _).trans h1
  have h3 := (g11Qn A n _ _ _).trans h2
  have h4 := (g11F A n _ 8 _ (g11R7s0 A x0 x1 x2 x3 x4 x5 x6 x7) _ (by kernel_rfl) (by kernel_rfl)).trans (g11R8 A n (g11Q A n (pth 26927) (g11Q A n (pth 14639) (blockK 1 (g11Q A n (pth 1839) (g11W A n (pth 303) m0 (blockK 0 (g11Q A n (pth 63) (g11T kk)))))))) x0 x1 x2 x3 (g21r0 A x0 x3) x4 x5 x6 x7)
  rw [h3] at h4
  have h5 := (g11p10543 A n _ _).trans h4
  have h6 := (g11p6447 A n _ _).trans h5
  have h7 := (g11Qn A n _ _ _).trans h6
  have h8 := (g11F A n _ 7 _ ⟨[(0, (tS x0)), (3, (sL 3000 none x1 1)), (4, (sL 4000 none x2 1)), (5, (i6 x3))], [(3000, ⟨[.ints .i64 x4 x5], 3, 2⟩), (4000, ⟨[.ints .i64 x6 x7], 3, 2⟩)]⟩ _ (by kernel_rfl) (by kernel_rfl)).trans (g11R7 A n (g11Q A n (pth 6447) (blockK 1 (g11Q A n (pth 1839) (g11W A n (pth 303) m0 (blockK 0 (g11Q A n (pth 63) (g11T kk))))))) x0 x1 x2 x3 x4 x5 x6 x7)
  rw [h7] at h8
  have h9 := (g11p2351 A n _ _).trans h8
  have h10 := (g11p1327 A n _ _).trans h9
  have h11 := (g11p815 A n _ _).trans h10
  exact (g11F A n _ 7 _ _ ⟨[(0, (tS x0)), (3, (sL 3000 none x1 1)), (4, (sL 4000 none x2 1)), (5, (i6 x3))], [(3000, ⟨[.ints .i64 x4 x5], 3, 2⟩), (4000, ⟨[.ints .i64 x6 x7], 3, 2⟩)]⟩ (by kernel_rfl) (h.trans (by kernel_rfl))).trans (h11.trans (by kernel_rfl))
def g11J26 {R : Type} (A : Ar) (n : Nat) (kk : AV → Heap → Option R) (lg11L24 : Nat → Nat → Int → Nat → List Int → Nat → List Nat → Option R) (x0 x1 : Nat) (x2 : Int) (x3 : Nat) (x4 : List Int) (x5 : Nat) (x6 : List Nat) : Option R :=
  match (generalizing := false) A.neg x2 with
  | true => none
  | false => match (generalizing := false) A.lt (A.toN x2) x0 with
    | true => match (generalizing := false) A.neg x2 with
      | true => none
      | false => match (generalizing := false) A.lt (A.toN x2) x1 with
        | true => lg11L24 x0 x1 (A.ib .add .i64 x2 1) x3 x4 x5 (x6.set (A.toN x2) (A.i2n .u8 (x4.getD (A.toN x2) 0)))
        | false => none
    | false => none
set_option maxRecDepth 100000 in
theorem g11J26_eq {R : Type} (A : Ar) (n : Nat) (kk : AV → Heap → Option R) (m0 : Nat) (lg11L24 : Nat → Nat → Int → Nat → List Int → Nat → List Nat → Option R) 
    (hg11L24 : ∀ (s : St) (x0 x1 : Nat) (x2 : Int) (x3 : Nat) (x4 : List Int) (x5 : Nat) (x6 : List Nat), keep g11an 24 s = ⟨[(4, (sL 4000 none x0 1)), (12, (sL 23000 none x1 1)), (13, (i6 x2))], [(4000, ⟨[.ints .i64 x3 x4], 3, 2⟩), (23000, ⟨[.nums .u8 x5 x6], 5, 2⟩)]⟩ → g11V A n (pth 1215) m0 (blockK 6 (g11Q A n (pth 255) (g11T kk))) s = lg11L24 x0 x1 x2 x3 x4 x5 x6) (s : St) (x0 x1 : Nat) (x2 : Int) (x3 : Nat) (x4 : List Int) (x5 : Nat) (x6 : List Nat) (h : keep g11an 26 s = ⟨[(4, (sL 4000 none x0 1)), (12, (sL 23000 none x1 1)), (13, (i6 x2))], [(4000, ⟨[.ints .i64 x3 x4], 3, 2⟩), (23000, ⟨[.nums .u8 x5 x6], 5, 2⟩)]⟩) :
    g11D A n (pth 3263) (g11W A n (pth 1215) m0 (blockK 6 (g11Q A n (pth 255) (g11T kk)))) s = g11J26 A n kk lg11L24 x0 x1 x2 x3 x4 x5 x6 := by
  have h1 := (g11Wn A n _ _ _ _).trans (hg11L24 (g11R25s0 A x0 x1 x2 x3 x4 x5 (x6.set (A.toN x2) (A.i2n .u8 (x4.getD (A.toN x2) 0)))) x0 x1 (A.ib .add .i64 x2 1) x3 x4 x5 (x6.set (A.toN x2) (A.i2n .u8 (x4.getD (A.toN x2) 0))) (by kernel_rfl))
  have h2 := (g11F A n _ 25 _ (g11R26s0 A x0 x1 x2 x3 x4 x5 x6) _ (by kernel_rfl) (by kernel_rfl)).trans (g11R25 A n (g11W A n (pth 1215) m0 (blockK 6 (g11Q A n (pth 255) (g11T kk)))) x0 x1 x2 x3 x4 x5 (x6.set (A.toN x2) (A.i2n .u8 (x4.getD (A.toN x2) 0))))
  rw [h1] at h2
  have h3 := (g11Qn A n _ _ _).trans h2
  have h4 := (blockK_n 7 _ _).trans h3
  have h5 := (g11F A n _ 26 _ ⟨[(4, (sL 4000 none x0 1)), (12, (sL 23000 none x1 1)), (13, (i6 x2))], [(4000, ⟨[.ints .i64 x3 x4], 3, 2⟩), (23000, ⟨[.nums .u8 x5 x6], 5, 2⟩)]⟩ _ (by kernel_rfl) (by kernel_rfl)).trans (g11R26 A n (blockK 7 (g11Q A n (pth 7359) (g11W A n (pth 1215) m0 (blockK 6 (g11Q A n (pth 255) (g11T kk)))))) x0 x1 x2 x3 x4 x5 x6)
  rw [h4] at h5
  have h6 := (g11p5311 A n _ _).trans h5
  have h7 := (g11p3263 A n _ _).trans h6
  exact (g11F A n _ 26 _ _ ⟨[(4, (sL 4000 none x0 1)), (12, (sL 23000 none x1 1)), (13, (i6 x2))], [(4000, ⟨[.ints .i64 x3 x4], 3, 2⟩), (23000, ⟨[.nums .u8 x5 x6], 5, 2⟩)]⟩ (by kernel_rfl) (h.trans (by kernel_rfl))).trans (h7.trans (by kernel_rfl))
def g11L24 {R : Type} (A : Ar) (n : Nat) (kk : AV → Heap → Option R)  : Nat → Nat → Nat → Int → Nat → List Int → Nat → List Nat → Option R
  | 0, _, _, _, _, _, _, _ => none
  | m + 1, x0, x1, x2, x3, x4, x5, x6 => match (generalizing := false) A.ic .lss x2 32 with
  | true => g11J26 A n kk (g11L24 A n kk  m) x0 x1 x2 x3 x4 x5 x6
  | false => kk (tS (x6.take x1)) [(23000, ⟨[.nums .u8 x5 x6], 5, 2⟩)]
set_option maxRecDepth 100000 in
theorem g11L24_eq {R : Type} (A : Ar) (n : Nat) (kk : AV → Heap → Option R)    (m : Nat) (s : St) (x0 x1 : Nat) (x2 : Int) (x3 : Nat) (x4 : List Int) (x5 : Nat) (x6 : List Nat) (h : keep g11an 24 s = ⟨[(4, (sL 4000 none x0 1)), (12, (sL 23000 none x1 1)), (13, (i6 x2))], [(4000, ⟨[.ints .i64 x3 x4], 3, 2⟩), (23000, ⟨[.nums .u8 x5 x6], 5, 2⟩)]⟩) :
    g11V A n (pth 1215) m (blockK 6 (g11Q A n (pth 255) (g11T kk))) s = g11L24 A n kk  m x0 x1 x2 x3 x4 x5 x6 := by
  induction m generalizing s x0 x1 x2 x3 x4 x5 x6 with
  | zero => rfl
  | succ m ih =>
    have h1 := (g11Qn A n _ _ _).trans (g11J26_eq A n kk m (g11L24 A n kk  m) ih  (g11R24s0 A x0 x1 x2 x3 x4 x5 x6) x0 x1 x2 x3 x4 x5 x6 (by kernel_rfl))
    have h2 := (g11p10431 A n _ _).trans h1
    have h3 : (g11T kk) .ret (g11R27s0 A x1 x5 x6) = kk (tS (x6.take x1)) [(23000, ⟨[.nums .u8 x5 x6], 5, 2⟩)] := by kernel_rfl
    have h4 := (g11p511 A n _ _).trans h3
    have h5 := (g11Qn A n _ _ _).trans h4
    have h6 := (g11F A n _ 27 _ (g11R24s0 A x0 x1 x2 x3 x4 x5 x6) _ (by kernel_rfl) (by kernel_rfl)).trans (g11R27 A n (g11Q A n (pth 511) (g11T kk)) x1 x5 x6)
    rw [h5] at h6
    have h7 := (g11p255 A n _ _).trans h6
    have h8 := (g11Qn A n _ _ _).trans h7
    have h9 := (blockK_hit 6 _ _).trans h8
    have h10 := (g11We A n (pth 1215) m _ _ _).trans h9
    have h11 := (g11Qe A n (pth 3263) _ _ _).trans h10
    have h12 := (g11p14527 A n _ _).trans h11
    have h13 := g11p6335 A n (g11Q A n (pth 3263) (g11W A n (pth 1215) m (blockK 6 (g11Q A n (pth 255) (g11T kk))))) (g11R24s0 A x0 x1 x2 x3 x4 x5 x6) (A.ic .lss x2 32) (by kernel_rfl)
    rw [h2, h12] at h13
    have h14 := (g11Qn A n _ _ _).trans h13
    have h15 := (g11F A n _ 24 _ ⟨[(4, (sL 4000 none x0 1)), (12, (sL 23000 none x1 1)), (13, (i6 x2))], [(4000, ⟨[.ints .i64 x3 x4], 3, 2⟩), (23000, ⟨[.nums .u8 x5 x6], 5, 2⟩)]⟩ _ (by kernel_rfl) (by kernel_rfl)).trans (g11R24 A n (g11Q A n (pth 6335) (g11Q A n (pth 3263) (g11W A n (pth 1215) m (blockK 6 (g11Q A n (pth 255) (g11T kk)))))) x0 x1 x2 x3 x4 x5 x6)
    rw [h14] at h15
    have h16 := (g11p2239 A n _ _).trans h15
    have h17 := (g11p1215 A n _ _).trans h16
    exact (loopD_first (s' := ⟨[(4, (sL 4000 none x0 1)), (12, (sL 23000 none x1 1)), (13, (i6 x2))], [(4000, ⟨[.ints .i64 x3 x4], 3, 2⟩), (23000, ⟨[.nums .u8 x5 x6], 5, 2⟩)]⟩) (id := 24) (by kernel_rfl) (h.trans (by kernel_rfl)) _).trans ((g11Vs A n _ m _ _).trans (h17.trans (by kernel_rfl)))
def g11J22 {R : Type} (A : Ar) (n : Nat) (kk : AV → Heap → Option R)  (x0 x1 : Nat) (x2 : List Int) : Option R :=
  match (generalizing := false) A.le 32 32 with
  | true => match (generalizing := false) A.le 32 140737488355328 with
    | true => g11L24 A n kk  n x0 32 0 x1 x2 32 (List.replicate 32 0)
    | false => none
  | false => none
set_option maxRecDepth 100000 in
theorem g11J22_eq {R : Type} (A : Ar) (n : Nat) (kk : AV → Heap → Option R)    (s : St) (x0 x1 : Nat) (x2 : List Int) (h : keep g11an 22 s = ⟨[(4, (sL 4000 none x0 1))], [(4000, ⟨[.ints .i64 x1 x2], 3, 2⟩)]⟩) :
    g11D A n (pth 63) (g11T kk) s = g11J22 A n kk  x0 x1 x2 := by
  have h1 := (g11p703 A n _ _).trans (g11L24_eq A n kk    n (g11R23s0 A x0 32 x1 x2 32 (List.replicate 32 0)) x0 32 0 x1 x2 32 (List.replicate 32 0) (by kernel_rfl))
  have h2 := (g11p447 A n _ _).trans h1
  have h3 := (g11Qn A n _ _ _).trans h2
  have h4 := (g11F A n _ 23 _ (g11R22s0 A x0 x1 x2) _ (by kernel_rfl) (by kernel_rfl)).trans (g11R23 A n (g11Q A n (pth 447) (g11Q A n (pth 255) (g11T kk))) x0 32 x1 x2 32 (List.replicate 32 0))
  rw [h3] at h4
  have h5 := (g11p191 A n _ _).trans h4
  have h6 := (g11p127 A n _ _).trans h5
  have h7 := (g11Qn A n _ _ _).trans h6
  have h8 := (g11F A n _ 22 _ ⟨[(4, (sL 4000 none x0 1))], [(4000, ⟨[.ints .i64 x1 x2], 3, 2⟩)]⟩ _ (by kernel_rfl) (by kernel_rfl)).trans (g11R22 A n (g11Q A n (pth 127) (g11T kk)) x0 x1 x2)
  rw [h7] at h8
  have h9 := (g11p63 A n _ _).trans h8
  exact (g11F A n _ 22 _ _ ⟨[(4, (sL 4000 none x0 1))], [(4000, ⟨[.ints .i64 x1 x2], 3, 2⟩)]⟩ (by kernel_rfl) (h.trans (by kernel_rfl))).trans (h9.trans (by kernel_rfl))
def g11L5 {R : Type} (A : Ar) (n : Nat) (kk : AV → Heap → Option R)  : Nat → List Nat → Nat → Nat → Int → Nat → List Int → Nat → List Int → Option R
  | 0, _, _, _, _, _, _, _, _ => none
  | m + 1, x0, x1, x2, x3, x4, x5, x6, x7 => match (generalizing := false) A.ic .geq x3 0 with
  | true => g11J7 A n kk (g11L5 A n kk  m) x0 x1 x2 x3 x4 x5 x6 x7
  | false => g11J22 A n kk  x2 x6 x7
set_option maxRecDepth 100000 in
theorem g11L5_eq {R : Type} (A : Ar) (n : Nat) (kk : AV → Heap → Option R)    (m : Nat) (s : St) (x0 : List Nat) (x1 x2 : Nat) (x3 : Int) (x4 : Nat) (x5 : List Int) (x6 : Nat) (x7 : List Int) (h : keep g11an 5 s = ⟨[(0, (tS x0)), (3, (sL 3000 none x1 1)), (4, (sL 4000 none x2 1)), (5, (i6 x3))], [(3000, ⟨[.ints .i64 x4 x5], 3, 2⟩), (4000, ⟨[.ints .i64 x6 x7], 3, 2⟩)]⟩) :
    g11V A n (pth 303) m (blockK 0 (g11Q A n (pth 63) (g11T kk))) s = g11L5 A n kk  m x0 x1 x2 x3 x4 x5 x6 x7 := by
  induction m generalizing s x0 x1 x2 x3 x4 x5 x6 x7 with
  | zero => rfl
  | succ m ih =>
    have h1 := (g11Qn A n _ _ _).trans (g11J7_eq A n kk m (g11L5 A n kk  m) ih  (g11R5s0 A x0 x1 x2 x3 x4 x5 x6 x7) x0 x1 x2 x3 x4 x5 x6 x7 (by kernel_rfl))
    have h2 := (g11p2607 A n _ _).trans h1
    have h3 := (g11Qn A n _ _ _).trans (g11J22_eq A n kk     (g11R5s0 A x0 x1 x2 x3 x4 x5 x6 x7) x2 x6 x7 (by kernel_rfl))
    have h4 := (blockK_hit 0 _ _).trans h3
    have h5 := (g11We A n (pth 303) m _ _ _).trans h4
    have h6 := (g11Qe A n (pth 815) _ _ _).trans h5
    have h7 := (g11p3631 A n _ _).trans h6
    have h8 := g11p1583 A n (g11Q A n (pth 815) (g11W A n (pth 303) m (blockK 0 (g11Q A n (pth 63) (g11T kk))))) (g11R5s0 A x0 x1 x2 x3 x4 x5 x6 x7) (A.ic .geq x3 0) (by kernel_rfl)
    rw [h2, h7] at h8
    have h9 := (g11Qn A n _ _ _).trans h8
    have h10 := (g11F A n _ 5 _ ⟨[(0, (tS x0)), (3, (sL 3000 none x1 1)), (4, (sL 4000 none x2 1)), (5, (i6 x3))], [(3000, ⟨[.ints .i64 x4 x5], 3, 2⟩), (4000, ⟨[.ints .i64 x6 x7], 3, 2⟩)]⟩ _ (by kernel_rfl) (by kernel_rfl)).trans (g11R5 A n (g11Q A n (pth 1583) (g11Q A n (pth 815) (g11W A n (pth 303) m (blockK 0 (g11Q A n (pth 63) (g11T kk)))))) x0 x1 x2 x3 x4 x5 x6 x7)
    rw [h9] at h10
    have h11 := (g11p559 A n _ _).trans h10
    have h12 := (g11p303 A n _ _).trans h11
    exact (loopD_first (s' := ⟨[(0, (tS x0)), (3, (sL 3000 none x1 1)), (4, (sL 4000 none x2 1)), (5, (i6 x3))], [(3000, ⟨[.ints .i64 x4 x5], 3, 2⟩), (4000, ⟨[.ints .i64 x6 x7], 3, 2⟩)]⟩) (id := 5) (by kernel_rfl) (h.trans (by kernel_rfl)) _).trans ((g11Vs A n _ m _ _).trans (h12.trans (by kernel_rfl)))
def g11 {R : Type} (A : Ar) (n : Nat) (kk : AV → Heap → Option R) (a : List Nat) : Option R :=
  match (generalizing := false) A.neg (A.mn (A.ofN a.length) 64) with
  | true => none
  | false => match (generalizing := false) A.le (A.toN (A.mn (A.ofN a.length) 64)) a.length with
    | true => match (generalizing := false) g24ok A with
      | true => match (generalizing := false) A.eq (g24r0 A) ((g24r1 A) + 0) with
        | true => match (generalizing := false) A.le ((((g24r2 A) ++ ([0].take 1)).length) * 8) 140737488355328 with
          | true => match (generalizing := false) A.le 33 33 with
            | true => match (generalizing := false) A.le 264 140737488355328 with
              | true => g11L5 A n kk  n ((a.take (A.toN (A.mn (A.ofN a.length) 64))).drop 0) (((g24r2 A) ++ ([0].take 1)).length) 33 (A.ib .sub .i64 (A.ib .mul .i64 8 (A.ofN (((a.take (A.toN (A.mn (A.ofN a.length) 64))).drop 0).length))) 1) (((g24r2 A) ++ ([0].take 1)).length) ((g24r2 A) ++ ([0].take 1)) 33 (List.replicate 33 0)
              | false => none
            | false => none
          | false => none
        | false => none
      | false => none
    | false => none
set_option maxRecDepth 100000 in
theorem g11_eq {R : Type} (A : Ar) (n : Nat) (kk : AV → Heap → Option R) (a : List Nat) :
    funD A gtys (g11O A) g11an n (bodyOf Try.f11) g11res [(tS a)] [] kk = g11 A n kk a := by
  have h1 := (g11p175 A n _ _).trans (g11L5_eq A n kk    n (g11R4s0 A ((a.take (A.toN (A.mn (A.ofN a.length) 64))).drop 0) (((g24r2 A) ++ ([0].take 1)).length) 33 (((g24r2 A) ++ ([0].take 1)).length) ((g24r2 A) ++ ([0].take 1)) 33 (List.replicate 33 0)) ((a.take (A.toN (A.mn (A.ofN a.length) 64))).drop 0) (((g24r2 A) ++ ([0].take 1)).length) 33 (A.ib .sub .i64 (A.ib .mul .i64 8 (A.ofN (((a.take (A.toN (A.mn (A.ofN a.length) 64))).drop 0).length))) 1) (((g24r2 A) ++ ([0].take 1)).length) ((g24r2 A) ++ ([0].take 1)) 33 (List.replicate 33 0) (by kernel_rfl))
  have h2 := (g11p111 A n _ _).trans h1
  have h3 := (g11Qn A n _ _ _).trans h2
  have h4 := (g11F A n _ 4 _ (g11R3s0 A ((a.take (A.toN (A.mn (A.ofN a.length) 64))).drop 0) (((g24r2 A) ++ ([0].take 1)).length) (((g24r2 A) ++ ([0].take 1)).length) ((g24r2 A) ++ ([0].take 1))) _ (by kernel_rfl) (by kernel_rfl)).trans (g11R4 A n (g11Q A n (pth 111) (g11Q A n (pth 63) (g11T kk))) ((a.take (A.toN (A.mn (A.ofN a.length) 64))).drop 0) (((g24r2 A) ++ ([0].take 1)).length) 33 (((g24r2 A) ++ ([0].take 1)).length) ((g24r2 A) ++ ([0].take 1)) 33 (List.replicate 33 0))
  rw [h3] at h4
  have h5 := (g11p47 A n _ _).trans h4
  have h6 := (g11p31 A n _ _).trans h5
  have h7 := (g11Qn A n _ _ _).trans h6
  have h8 := (g11F A n _ 3 _ (g11R2s0 A ((a.take (A.toN (A.mn (A.ofN a.length) 64))).drop 0)) _ (by kernel_rfl) (by kernel_rfl)).trans (g11R3 A n (g11Q A n (pth 31) (g11T kk)) ((a.take (A.toN (A.mn (A.ofN a.length) 64))).drop 0) (((g24r2 A) ++ ([0].take 1)).length) (((g24r2 A) ++ ([0].take 1)).length) ((g24r2 A) ++ ([0].take 1)))
  rw [h7] at h8
  have h9 := (g11p15 A n _ _).trans h8
  have h10 := (g11Qn A n _ _ _).trans h9
  have h11 := (g11F A n _ 2 _ (g11R1s0 A a) _ (by kernel_rfl) (by kernel_rfl)).trans (g11R2 A n (g11Q A n (pth 15) (g11T kk)) ((a.take (A.toN (A.mn (A.ofN a.length) 64))).drop 0))
  rw [h10] at h11
  have h12 := (g11p7 A n _ _).trans h11
  have h13 := (g11Qn A n _ _ _).trans h12
  have h14 := (g11F A n _ 1 _ (g11R0s0 A a) _ (by kernel_rfl) (by kernel_rfl)).trans (g11R1 A n (g11Q A n (pth 7) (g11T kk)) a)
  rw [h13] at h14
  have h15 := (g11p3 A n _ _).trans h14
  have h16 := (g11Qn A n _ _ _).trans h15
  have h17 := (g11F A n _ 0 _ ⟨[(0, (tS a))], []⟩ _ (by kernel_rfl) (by kernel_rfl)).trans (g11R0 A n (g11Q A n (pth 3) (g11T kk)) a)
  rw [h16] at h17
  have h18 := (g11p1 A n _ _).trans h17
  exact (show funD A gtys (g11O A) g11an n (bodyOf Try.f11) g11res [(tS a)] [] kk = g11D A n (pth 1) (g11T kk) ⟨[(0, (tS a))], []⟩ from by kernel_rfl).trans (h18.trans (by kernel_rfl))
def g11is (o : Option AV) : Bool := match o with
  | some (.v (.cell (.str _))) => true
  | _ => false
def g11g0 (o : Option AV) : List Nat := match o with
  | some (.v (.cell (.str x))) => x
  | _ => []
theorem g11is_spec {o : Option AV} (h : g11is o = true) : o = some (.v (.cell (.str (g11g0 o)))) := by
  unfold g11is at h
  split at h
  · rfl
  · cases h
def g11v (A : Ar) (a : List Nat) : Option AV := g11 A (100000) (fun v _ => some v) a
def g11ok (A : Ar) (a : List Nat) : Bool := g11is (g11v A a)
def g11r0 (A : Ar) (a : List Nat) : List Nat := g11g0 (g11v A a)
theorem g11ok_spec {A : Ar} {a} (h : g11ok A a = true) : g11v A a = some (.v (.cell (.str (g11r0 A a)))) := g11is_spec h
def g11o (A : Ar) (args : List AV) : Option (Bool × AV) := match args with
  | [.v (.cell (.str a))] => some (g11ok A a, .v (.cell (.str (g11r0 A a))))
  | _ => none
theorem g11o_sound : ∀ args v, g11o realA args = some (true, v) → Fn1 Try.prog 11 args v := by
  intro args v h
  unfold g11o at h
  split at h
  · rename_i a
    simp only [Option.some.injEq, Prod.mk.injEq] at h
    obtain ⟨hc, h⟩ := h
    subst h
    · skip
      exact fn1_of mixed gtysOK g11O_sound g11O_det (an := g11an) (n := 100000) Try.func11 (c := bodyOf Try.f11) rfl (by kernel_rfl) Try.call11 (Nat.le_of_ble_eq_true rfl) (fun b => rfl) (fun _ => (g11_eq realA (100000) (fun v _ => some v) a).trans (show g11v realA a = _ from g11ok_spec hc))
  · cases h
def g13O (A : Ar) : Orc := orcOf [(11, g11o A)]
theorem g13O_sound : OSound Try.prog (g13O realA) := orc_sound fun f g hm args v hv => by
  simp only [List.mem_cons, List.not_mem_nil, or_false, Prod.mk.injEq] at hm
  rcases hm with ⟨rfl, rfl⟩
  · exact g11o_sound _ _ hv
theorem g13O_det : ODet (g13O realA) := orc_det _
def g13an : Ann := [(0, ([0], [])), (1, ([0], []))]
def g13res : List ResultVar := [.tmp 2]
noncomputable def g13D {R : Type} (A : Ar) (n : Nat) (p : List Bool) (K : Ex → St → Option R) (s : St) : Option R := codeD A gtys (g13O A) g13an n (sub (bodyOf Try.f13) p) K s
noncomputable def g13Q {R : Type} (A : Ar) (n : Nat) (p : List Bool) (K : Ex → St → Option R) : Ex → St → Option R := seqC (g13D A n p K) K
noncomputable def g13T {R : Type} (kk : AV → Heap → Option R) : Ex → St → Option R := finD gtys g13res kk
theorem g13Qn {R : Type} (A : Ar) (n : Nat) (p : List Bool) (K : Ex → St → Option R) (s : St) : g13Q A n p K .normal s = g13D A n p K s := rfl
theorem g13F {R : Type} (A : Ar) (n : Nat) (p : List Bool) (i : Nat) (K : Ex → St → Option R) (s s' : St) (hf : firstReg (sub (bodyOf Try.f13) p) = some i) (h : keep g13an i s = keep g13an i s') : g13D A n p K s = g13D A n p K s' := codeD_first hf h K
section
variable {R : Type} (A : Ar) (n : Nat) (K : Ex → St → Option R) (s : St)
theorem g13p1 : g13D A n (pth 1) K s = g13D A n (pth 2) (g13Q A n (pth 3) K) s := by kernel_rfl
theorem g13p3 : g13D A n (pth 3) K s = g13D A n (pth 5) (g13Q A n (pth 7) K) s := by kernel_rfl
theorem g13p7 : g13D A n (pth 7) K s = K .ret s := by kernel_rfl
def g13R0s0 (A : Ar) (x0 : List Nat) : St := ⟨[(2, (bO false)), (0, (tS x0))], []⟩
theorem g13R0 (x0 : List Nat) : g13D A n (pth 2) K ⟨[(0, (tS x0))], []⟩ = K .normal (g13R0s0 A x0) := by kernel_rfl
def g13R1s0 (A : Ar) (x0 : List Nat) : St := ⟨[(2, (bO (A.sc .eql (g11r0 A x0) x0))), (11, (bO (A.sc .eql (g11r0 A x0) x0))), (10, (bO (A.sc .eql (g11r0 A x0) x0))), (9, (tS x0)), (8, (tS (g11r0 A x0))), (7, (tS x0)), (6, (bO true)), (5, (bO (A.ic .eql (A.ofN x0.length) 32))), (4, (i6 (A.ofN x0.length))), (3, (tS x0)), (0, (tS x0))], []⟩
def g13R1s1 (A : Ar) (x0 : List Nat) : St := ⟨[(2, (bO false)), (11, (bO false)), (10, uN), (9, uN), (8, uN), (7, uN), (6, (bO false)), (5, (bO (A.ic .eql (A.ofN x0.length) 32))), (4, (i6 (A.ofN x0.length))), (3, (tS x0)), (0, (tS x0))], []⟩
theorem g13R1 (x0 : List Nat) : g13D A n (pth 5) K ⟨[(0, (tS x0))], []⟩ = match (generalizing := false) A.ic .eql (A.ofN x0.length) 32 with
    | true => match (generalizing := false) g11ok A x0 with
      | true => K .normal (g13R1s0 A x0)
      | false => none
    | false => K .normal (g13R1s1 A x0) := by kernel_rfl
end
def g13 {R : Type} (A : Ar) (n : Nat) (kk : AV → Heap → Option R) (a : List Nat) : Option R :=
  match (generalizing := false) A.ic .eql (A.ofN a.length) 32 with
  | true => match (generalizing := false) g11ok A a with
    | true => kk (bO (A.sc .eql (g11r0 A a) a)) []
    | false => none
  | false => kk (bO false) []
set_option maxRecDepth 100000 in
theorem g13_eq {R : Type} (A : Ar) (n : Nat) (kk : AV → Heap → Option R) (a : List Nat) :
    funD A gtys (g13O A) g13an n (bodyOf Try.f13) g13res [(tS a)] [] kk = g13 A n kk a := by
  have h1 : (g13T kk) .ret (g13R1s0 A a) = kk (bO (A.sc .eql (g11r0 A a) a)) [] := by kernel_rfl
  have h2 := (g13p7 A n _ _).trans h1
  have h3 := (g13Qn A n _ _ _).trans h2
  have h4 : (g13T kk) .ret (g13R1s1 A a) = kk (bO false) [] := by kernel_rfl
  have h5 := (g13p7 A n _ _).trans h4
  have h6 := (g13Qn A n _ _ _).trans h5
  have h7 := (g13F A n _ 1 _ (g13R0s0 A a) _ (by kernel_rfl) (by kernel_rfl)).trans (g13R1 A n (g13Q A n (pth 7) (g13T kk)) a)
  rw [h3, h6] at h7
  have h8 := (g13p3 A n _ _).trans h7
  have h9 := (g13Qn A n _ _ _).trans h8
  have h10 := (g13F A n _ 0 _ ⟨[(0, (tS a))], []⟩ _ (by kernel_rfl) (by kernel_rfl)).trans (g13R0 A n (g13Q A n (pth 3) (g13T kk)) a)
  rw [h9] at h10
  have h11 := (g13p1 A n _ _).trans h10
  exact (show funD A gtys (g13O A) g13an n (bodyOf Try.f13) g13res [(tS a)] [] kk = g13D A n (pth 1) (g13T kk) ⟨[(0, (tS a))], []⟩ from by kernel_rfl).trans (h11.trans (by kernel_rfl))
def g13is (o : Option AV) : Bool := match o with
  | some (.v (.cell (.bool _))) => true
  | _ => false
def g13g0 (o : Option AV) : Bool := match o with
  | some (.v (.cell (.bool x))) => x
  | _ => false
theorem g13is_spec {o : Option AV} (h : g13is o = true) : o = some (.v (.cell (.bool (g13g0 o)))) := by
  unfold g13is at h
  split at h
  · rfl
  · cases h
def g13v (A : Ar) (a : List Nat) : Option AV := g13 A (100000) (fun v _ => some v) a
def g13ok (A : Ar) (a : List Nat) : Bool := g13is (g13v A a)
def g13r0 (A : Ar) (a : List Nat) : Bool := g13g0 (g13v A a)
theorem g13ok_spec {A : Ar} {a} (h : g13ok A a = true) : g13v A a = some (.v (.cell (.bool (g13r0 A a)))) := g13is_spec h
def g13o (A : Ar) (args : List AV) : Option (Bool × AV) := match args with
  | [.v (.cell (.str a))] => some (g13ok A a, .v (.cell (.bool (g13r0 A a))))
  | _ => none
theorem g13o_sound : ∀ args v, g13o realA args = some (true, v) → Fn1 Try.prog 13 args v := by
  intro args v h
  unfold g13o at h
  split at h
  · rename_i a
    simp only [Option.some.injEq, Prod.mk.injEq] at h
    obtain ⟨hc, h⟩ := h
    subst h
    · skip
      exact fn1_of mixed gtysOK g13O_sound g13O_det (an := g13an) (n := 100000) Try.func13 (c := bodyOf Try.f13) rfl (by kernel_rfl) Try.call13 (Nat.le_of_ble_eq_true rfl) (fun b => rfl) (fun _ => (g13_eq realA (100000) (fun v _ => some v) a).trans (show g13v realA a = _ from g13ok_spec hc))
  · cases h
def g15O (A : Ar) : Orc := orcOf [(11, g11o A)]
theorem g15O_sound : OSound Try.prog (g15O realA) := orc_sound fun f g hm args v hv => by
  simp only [List.mem_cons, List.not_mem_nil, or_false, Prod.mk.injEq] at hm
  rcases hm with ⟨rfl, rfl⟩
  · exact g11o_sound _ _ hv
theorem g15O_det : ODet (g15O realA) := orc_det _
def g15an : Ann := [(0, ([0, 1, 2], [])), (1, ([0, 1, 2], [])), (2, ([0, 1, 2], [])), (3, ([0, 1, 2], [])), (4, ([0, 1, 2], [])), (5, ([0, 1, 2, 7], [5000])), (6, ([0, 1, 2, 7, 8], [5000])), (7, ([0, 1, 2, 7, 8], [5000])), (8, ([0, 1, 2, 7, 8], [5000])), (9, ([0, 1, 2, 7, 8, 9], [5000])), (10, ([0, 1, 2, 7, 8, 9], [5000])), (11, ([0, 1, 2, 7, 8, 9], [5000])), (12, ([2, 7], [5000])), (13, ([2, 7, 10], [5000])), (14, ([2, 7, 10], [5000])), (15, ([2, 7, 10], [5000])), (16, ([7], [5000])), (17, ([7, 11], [5000])), (18, ([7, 11, 12], [5000, 18000])), (19, ([7, 11, 12, 13], [5000, 18000])), (20, ([7, 11, 12, 13], [5000, 18000])), (21, ([7, 11, 12, 13], [5000, 18000])), (22, ([7, 12, 13, 14], [5000, 18000])), (23, ([7, 12, 13, 14], [5000, 18000])), (24, ([12], [18000]))]
def g15res : List ResultVar := [.tmp 6]
noncomputable def g15D {R : Type} (A : Ar) (n : Nat) (p : List Bool) (K : Ex → St → Option R) (s : St) : Option R := codeD A gtys (g15O A) g15an n (sub (bodyOf Try.f15) p) K s
noncomputable def g15V {R : Type} (A : Ar) (n : Nat) (p : List Bool) (m : Nat) (K : Ex → St → Option R) (s : St) : Option R := loopD (fun K' s'' => codeD A gtys (g15O A) g15an n (sub (bodyOf Try.f15) p) K' s'') m K s
noncomputable def g15Q {R : Type} (A : Ar) (n : Nat) (p : List Bool) (K : Ex → St → Option R) : Ex → St → Option R := seqC (g15D A n p K) K
noncomputable def g15W {R : Type} (A : Ar) (n : Nat) (p : List Bool) (m : Nat) (K : Ex → St → Option R) : Ex → St → Option R := seqC (g15V A n p m K) K
noncomputable def g15T {R : Type} (kk : AV → Heap → Option R) : Ex → St → Option R := finD gtys g15res kk
theorem g15Qn {R : Type} (A : Ar) (n : Nat) (p : List Bool) (K : Ex → St → Option R) (s : St) : g15Q A n p K .normal s = g15D A n p K s := rfl
theorem g15Qe {R : Type} (A : Ar) (n : Nat) (p : List Bool) (K : Ex → St → Option R) (i : Nat) (s : St) : g15Q A n p K (.exit i) s = K (.exit i) s := rfl
theorem g15Wn {R : Type} (A : Ar) (n : Nat) (p : List Bool) (m : Nat) (K : Ex → St → Option R) (s : St) : g15W A n p m K .normal s = g15V A n p m K s := rfl
theorem g15We {R : Type} (A : Ar) (n : Nat) (p : List Bool) (m : Nat) (K : Ex → St → Option R) (i : Nat) (s : St) : g15W A n p m K (.exit i) s = K (.exit i) s := rfl
theorem g15Vs {R : Type} (A : Ar) (n : Nat) (p : List Bool) (m : Nat) (K : Ex → St → Option R) (s : St) : g15V A n p (m + 1) K s = g15D A n p (g15W A n p m K) s := rfl
theorem g15F {R : Type} (A : Ar) (n : Nat) (p : List Bool) (i : Nat) (K : Ex → St → Option R) (s s' : St) (hf : firstReg (sub (bodyOf Try.f15) p) = some i) (h : keep g15an i s = keep g15an i s') : g15D A n p K s = g15D A n p K s' := codeD_first hf h K
section
variable {R : Type} (A : Ar) (n : Nat) (K : Ex → St → Option R) (s : St)
theorem g15p1 : g15D A n (pth 1) K s = g15D A n (pth 2) (g15Q A n (pth 3) K) s := by kernel_rfl
theorem g15p3 : g15D A n (pth 3) K s = g15D A n (pth 5) (g15Q A n (pth 7) K) s := by kernel_rfl
theorem g15p7 : g15D A n (pth 7) K s = g15D A n (pth 11) (g15Q A n (pth 15) K) s := by kernel_rfl
theorem g15p15 : g15D A n (pth 15) K s = g15D A n (pth 23) (g15Q A n (pth 31) K) s := by kernel_rfl
theorem g15p31 : g15D A n (pth 31) K s = g15D A n (pth 47) (g15Q A n (pth 63) K) s := by kernel_rfl
theorem g15p63 : g15D A n (pth 63) K s = g15D A n (pth 95) (g15Q A n (pth 127) K) s := by kernel_rfl
theorem g15p95 : g15D A n (pth 95) K s = g15D A n (pth 159) (g15Q A n (pth 223) K) s := by kernel_rfl
theorem g15p223 : g15D A n (pth 223) K s = g15D A n (pth 351) (blockK 0 K) s := by kernel_rfl
theorem g15p351 : g15D A n (pth 351) K s = g15V A n (pth 607) n K s := by kernel_rfl
theorem g15p607 : g15D A n (pth 607) K s = g15D A n (pth 1119) (g15Q A n (pth 1631) K) s := by kernel_rfl
theorem g15p1119 : g15D A n (pth 1119) K s = g15D A n (pth 2143) (g15Q A n (pth 3167) K) s := by kernel_rfl
theorem g15p3167 (t : Bool) : ev s (.tmp 34) = some (.v (.cell (.bool t))) → g15D A n (pth 3167) K s = (match t with
    | true => g15D A n (pth 5215) K s
    | false => g15D A n (pth 7263) K s) := codeD_cond t
theorem g15p5215 : g15D A n (pth 5215) K s = K .normal s := by kernel_rfl
theorem g15p7263 : g15D A n (pth 7263) K s = K (.exit 0) s := by kernel_rfl
theorem g15p1631 : g15D A n (pth 1631) K s = g15D A n (pth 2655) (g15Q A n (pth 3679) K) s := by kernel_rfl
theorem g15p2655 : g15D A n (pth 2655) K s = g15D A n (pth 4703) (blockK 1 K) s := by kernel_rfl
theorem g15p4703 : g15D A n (pth 4703) K s = g15D A n (pth 8799) (g15Q A n (pth 12895) K) s := by kernel_rfl
theorem g15p12895 : g15D A n (pth 12895) K s = g15D A n (pth 21087) (blockK 2 K) s := by kernel_rfl
theorem g15p21087 : g15D A n (pth 21087) K s = g15V A n (pth 37471) n K s := by kernel_rfl
theorem g15p37471 : g15D A n (pth 37471) K s = g15D A n (pth 70239) (g15Q A n (pth 103007) K) s := by kernel_rfl
theorem g15p70239 : g15D A n (pth 70239) K s = g15D A n (pth 135775) (g15Q A n (pth 201311) K) s := by kernel_rfl
theorem g15p201311 (t : Bool) : ev s (.tmp 40) = some (.v (.cell (.bool t))) → g15D A n (pth 201311) K s = (match t with
    | true => g15D A n (pth 332383) K s
    | false => g15D A n (pth 463455) K s) := codeD_cond t
theorem g15p332383 : g15D A n (pth 332383) K s = K .normal s := by kernel_rfl
theorem g15p463455 : g15D A n (pth 463455) K s = K (.exit 2) s := by kernel_rfl
theorem g15p103007 : g15D A n (pth 103007) K s = g15D A n (pth 168543) (g15Q A n (pth 234079) K) s := by kernel_rfl
theorem g15p168543 : g15D A n (pth 168543) K s = g15D A n (pth 299615) (blockK 3 K) s := by kernel_rfl
theorem g15p127 : g15D A n (pth 127) K s = g15D A n (pth 191) (g15Q A n (pth 255) K) s := by kernel_rfl
theorem g15p191 : g15D A n (pth 191) K s = g15D A n (pth 319) (g15Q A n (pth 447) K) s := by kernel_rfl
theorem g15p447 : g15D A n (pth 447) K s = g15D A n (pth 703) (blockK 4 K) s := by kernel_rfl
theorem g15p703 : g15D A n (pth 703) K s = g15V A n (pth 1215) n K s := by kernel_rfl
theorem g15p1215 : g15D A n (pth 1215) K s = g15D A n (pth 2239) (g15Q A n (pth 3263) K) s := by kernel_rfl
theorem g15p2239 : g15D A n (pth 2239) K s = g15D A n (pth 4287) (g15Q A n (pth 6335) K) s := by kernel_rfl
theorem g15p6335 (t : Bool) : ev s (.tmp 67) = some (.v (.cell (.bool t))) → g15D A n (pth 6335) K s = (match t with
    | true => g15D A n (pth 10431) K s
    | false => g15D A n (pth 14527) K s) := codeD_cond t
theorem g15p10431 : g15D A n (pth 10431) K s = K .normal s := by kernel_rfl
theorem g15p14527 : g15D A n (pth 14527) K s = K (.exit 4) s := by kernel_rfl
theorem g15p3263 : g15D A n (pth 3263) K s = g15D A n (pth 5311) (g15Q A n (pth 7359) K) s := by kernel_rfl
theorem g15p5311 : g15D A n (pth 5311) K s = g15D A n (pth 9407) (blockK 5 K) s := by kernel_rfl
theorem g15p255 : g15D A n (pth 255) K s = g15D A n (pth 383) (g15Q A n (pth 511) K) s := by kernel_rfl
theorem g15p511 : g15D A n (pth 511) K s = g15D A n (pth 767) (g15Q A n (pth 1023) K) s := by kernel_rfl
theorem g15p1023 : g15D A n (pth 1023) K s = g15D A n (pth 1535) (g15Q A n (pth 2047) K) s := by kernel_rfl
theorem g15p1535 : g15D A n (pth 1535) K s = g15D A n (pth 2559) (g15Q A n (pth 3583) K) s := by kernel_rfl
theorem g15p3583 : g15D A n (pth 3583) K s = g15D A n (pth 5631) (blockK 6 K) s := by kernel_rfl
theorem g15p5631 : g15D A n (pth 5631) K s = g15V A n (pth 9727) n K s := by kernel_rfl
theorem g15p9727 : g15D A n (pth 9727) K s = g15D A n (pth 17919) (g15Q A n (pth 26111) K) s := by kernel_rfl
theorem g15p17919 : g15D A n (pth 17919) K s = g15D A n (pth 34303) (g15Q A n (pth 50687) K) s := by kernel_rfl
theorem g15p50687 (t : Bool) : ev s (.tmp 84) = some (.v (.cell (.bool t))) → g15D A n (pth 50687) K s = (match t with
    | true => g15D A n (pth 83455) K s
    | false => g15D A n (pth 116223) K s) := codeD_cond t
theorem g15p83455 : g15D A n (pth 83455) K s = K .normal s := by kernel_rfl
theorem g15p116223 : g15D A n (pth 116223) K s = K (.exit 6) s := by kernel_rfl
theorem g15p26111 : g15D A n (pth 26111) K s = g15D A n (pth 42495) (g15Q A n (pth 58879) K) s := by kernel_rfl
theorem g15p42495 : g15D A n (pth 42495) K s = g15D A n (pth 75263) (blockK 7 K) s := by kernel_rfl
theorem g15p75263 : g15D A n (pth 75263) K s = g15D A n (pth 140799) (g15Q A n (pth 206335) K) s := by kernel_rfl
theorem g15p206335 : g15D A n (pth 206335) K s = g15D A n (pth 337407) (g15Q A n (pth 468479) K) s := by kernel_rfl
theorem g15p2047 : g15D A n (pth 2047) K s = g15D A n (pth 3071) (g15Q A n (pth 4095) K) s := by kernel_rfl
theorem g15p4095 : g15D A n (pth 4095) K s = K .ret s := by kernel_rfl
def g15R11s0 (A : Ar) (x0 x1 x2 : List Nat) (x3 : Nat) (x4 x5 : Int) (x6 : Nat) (x7 : List Int) : St := ⟨[(63, (.v (.cell (.ptr 5000 0 (some ⟨A.toN (A.ib .add .i64 x4 x5), 1, x3, A.toN (A.ib .add .i64 x4 x5), 0, 1⟩))))), (62, (i6 (A.ib .add .i64 (x7.getD (A.toN (A.ib .add .i64 x4 x5)) 0) (A.ib .mul .i64 (A.ofN (x0.getD (A.toN x4) 0)) (A.ofN (x1.getD (A.toN x5) 0)))))), (61, (i6 (A.ib .mul .i64 (A.ofN (x0.getD (A.toN x4) 0)) (A.ofN (x1.getD (A.toN x5) 0))))), (60, (i6 (A.ofN (x1.getD (A.toN x5) 0)))), (59, (u8v (x1.getD (A.toN x5) 0))), (58, (i6 x5)), (57, (tS x1)), (56, (i6 (A.ofN (x0.getD (A.toN x4) 0)))), (55, (u8v (x0.getD (A.toN x4) 0))), (54, (i6 x4)), (53, (tS x0)), (52, (i6 (x7.getD (A.toN (A.ib .add .i64 x4 x5)) 0))), (51, (.v (.cell (.ptr 5000 0 (some ⟨A.toN (A.ib .add .i64 x4 x5), 1, x3, A.toN (A.ib .add .i64 x4 x5), 0, 1⟩))))), (50, (i6 (A.ib .add .i64 x4 x5))), (49, (i6 x5)), (48, (i6 x4)), (47, (sL 5000 none x3 1)), (46, (i6 (A.ib .add .i64 x4 x5))), (45, (i6 x5)), (44, (i6 x4)), (43, (sL 5000 none x3 1)), (0, (tS x0)), (1, (tS x1)), (2, (tS x2)), (7, (sL 5000 none x3 1)), (8, (i6 x4)), (9, (i6 x5))], [(5000, ⟨[.ints .i64 x6 (x7.set (A.toN (A.ib .add .i64 x4 x5)) (A.ib .add .i64 (x7.getD (A.toN (A.ib .add .i64 x4 x5)) 0) (A.ib .mul .i64 (A.ofN (x0.getD (A.toN x4) 0)) (A.ofN (x1.getD (A.toN x5) 0)))))], 3, 2⟩)]⟩
theorem g15R11 (x0 x1 x2 : List Nat) (x3 : Nat) (x4 x5 : Int) (x6 : Nat) (x7 : List Int) : g15D A n (pth 299615) K ⟨[(0, (tS x0)), (1, (tS x1)), (2, (tS x2)), (7, (sL 5000 none x3 1)), (8, (i6 x4)), (9, (i6 x5))], [(5000, ⟨[.ints .i64 x6 x7], 3, 2⟩)]⟩ = match (generalizing := false) A.neg (A.ib .add .i64 x4 x5) with
    | true => none
    | false => match (generalizing := false) A.lt (A.toN (A.ib .add .i64 x4 x5)) x3 with
      | true => match (generalizing := false) A.neg x4 with
        | true => none
        | false => match (generalizing := false) A.lt (A.toN x4) x0.length with
          | true => match (generalizing := false) A.neg x5 with
            | true => none
            | false => match (generalizing := false) A.lt (A.toN x5) x1.length with
              | true => match (generalizing := false) A.neg (A.ib .add .i64 x4 x5) with
                | true => none
                | false => match (generalizing := false) A.lt (A.toN (A.ib .add .i64 x4 x5)) x3 with
                  | true => K .normal (g15R11s0 A x0 x1 x2 x3 x4 x5 x6 x7)
                  | false => none
              | false => none
          | false => none
      | false => none := by kernel_rfl
def g15R10s0 (A : Ar) (x0 x1 x2 : List Nat) (x3 : Nat) (x4 x5 : Int) (x6 : Nat) (x7 : List Int) : St := ⟨[(9, (i6 (A.ib .add .i64 x5 1))), (42, (i6 (A.ib .add .i64 x5 1))), (41, (i6 x5)), (0, (tS x0)), (1, (tS x1)), (2, (tS x2)), (7, (sL 5000 none x3 1)), (8, (i6 x4)), (9, (i6 x5))], [(5000, ⟨[.ints .i64 x6 x7], 3, 2⟩)]⟩
theorem g15R10 (x0 x1 x2 : List Nat) (x3 : Nat) (x4 x5 : Int) (x6 : Nat) (x7 : List Int) : g15D A n (pth 234079) K ⟨[(0, (tS x0)), (1, (tS x1)), (2, (tS x2)), (7, (sL 5000 none x3 1)), (8, (i6 x4)), (9, (i6 x5))], [(5000, ⟨[.ints .i64 x6 x7], 3, 2⟩)]⟩ = K .normal (g15R10s0 A x0 x1 x2 x3 x4 x5 x6 x7) := by kernel_rfl
def g15R9s0 (A : Ar) (x0 x1 x2 : List Nat) (x3 : Nat) (x4 x5 : Int) (x6 : Nat) (x7 : List Int) : St := ⟨[(40, (bO (A.ic .lss x5 (A.ofN x1.length)))), (39, (i6 (A.ofN x1.length))), (38, (tS x1)), (37, (i6 x5)), (0, (tS x0)), (1, (tS x1)), (2, (tS x2)), (7, (sL 5000 none x3 1)), (8, (i6 x4)), (9, (i6 x5))], [(5000, ⟨[.ints .i64 x6 x7], 3, 2⟩)]⟩
theorem g15R9 (x0 x1 x2 : List Nat) (x3 : Nat) (x4 x5 : Int) (x6 : Nat) (x7 : List Int) : g15D A n (pth 135775) K ⟨[(0, (tS x0)), (1, (tS x1)), (2, (tS x2)), (7, (sL 5000 none x3 1)), (8, (i6 x4)), (9, (i6 x5))], [(5000, ⟨[.ints .i64 x6 x7], 3, 2⟩)]⟩ = K .normal (g15R9s0 A x0 x1 x2 x3 x4 x5 x6 x7) := by kernel_rfl
def g15R7s0 (A : Ar) (x0 x1 x2 : List Nat) (x3 : Nat) (x4 : Int) (x5 : Nat) (x6 : List Int) : St := ⟨[(8, (i6 (A.ib .add .i64 x4 1))), (36, (i6 (A.ib .add .i64 x4 1))), (35, (i6 x4)), (0, (tS x0)), (1, (tS x1)), (2, (tS x2)), (7, (sL 5000 none x3 1)), (8, (i6 x4))], [(5000, ⟨[.ints .i64 x5 x6], 3, 2⟩)]⟩
theorem g15R7 (x0 x1 x2 : List Nat) (x3 : Nat) (x4 : Int) (x5 : Nat) (x6 : List Int) : g15D A n (pth 3679) K ⟨[(0, (tS x0)), (1, (tS x1)), (2, (tS x2)), (7, (sL 5000 none x3 1)), (8, (i6 x4))], [(5000, ⟨[.ints .i64 x5 x6], 3, 2⟩)]⟩ = K .normal (g15R7s0 A x0 x1 x2 x3 x4 x5 x6) := by kernel_rfl
def g15R8s0 (A : Ar) (x0 x1 x2 : List Nat) (x3 : Nat) (x4 : Int) (x5 : Nat) (x6 : List Int) : St := ⟨[(9, (i6 0)), (0, (tS x0)), (1, (tS x1)), (2, (tS x2)), (7, (sL 5000 none x3 1)), (8, (i6 x4))], [(5000, ⟨[.ints .i64 x5 x6], 3, 2⟩)]⟩
theorem g15R8 (x0 x1 x2 : List Nat) (x3 : Nat) (x4 : Int) (x5 : Nat) (x6 : List Int) : g15D A n (pth 8799) K ⟨[(0, (tS x0)), (1, (tS x1)), (2, (tS x2)), (7, (sL 5000 none x3 1)), (8, (i6 x4))], [(5000, ⟨[.ints .i64 x5 x6], 3, 2⟩)]⟩ = K .normal (g15R8s0 A x0 x1 x2 x3 x4 x5 x6) := by kernel_rfl
def g15R15s0 (A : Ar) (x0 : List Nat) (x1 : Nat) (x2 : Int) (x3 : Nat) (x4 : List Int) : St := ⟨[(81, (.v (.cell (.ptr 5000 0 (some ⟨A.toN x2, 1, x1, A.toN x2, 0, 1⟩))))), (80, (i6 (A.ib .add .i64 (x4.getD (A.toN x2) 0) (A.ofN (x0.getD (A.toN x2) 0))))), (79, (i6 (A.ofN (x0.getD (A.toN x2) 0)))), (78, (u8v (x0.getD (A.toN x2) 0))), (77, (i6 x2)), (76, (tS x0)), (75, (i6 (x4.getD (A.toN x2) 0))), (74, (.v (.cell (.ptr 5000 0 (some ⟨A.toN x2, 1, x1, A.toN x2, 0, 1⟩))))), (73, (i6 x2)), (72, (sL 5000 none x1 1)), (71, (i6 x2)), (70, (sL 5000 none x1 1)), (2, (tS x0)), (7, (sL 5000 none x1 1)), (10, (i6 x2))], [(5000, ⟨[.ints .i64 x3 (x4.set (A.toN x2) (A.ib .add .i64 (x4.getD (A.toN x2) 0) (A.ofN (x0.getD (A.toN x2) 0))))], 3, 2⟩)]⟩
theorem g15R15 (x0 : List Nat) (x1 : Nat) (x2 : Int) (x3 : Nat) (x4 : List Int) : g15D A n (pth 9407) K ⟨[(2, (tS x0)), (7, (sL 5000 none x1 1)), (10, (i6 x2))], [(5000, ⟨[.ints .i64 x3 x4], 3, 2⟩)]⟩ = match (generalizing := false) A.neg x2 with
    | true => none
    | false => match (generalizing := false) A.lt (A.toN x2) x1 with
      | true => match (generalizing := false) A.neg x2 with
        | true => none
        | false => match (generalizing := false) A.lt (A.toN x2) x0.length with
          | true => match (generalizing := false) A.neg x2 with
            | true => none
            | false => match (generalizing := false) A.lt (A.toN x2) x1 with
              | true => K .normal (g15R15s0 A x0 x1 x2 x3 x4)
              | false => none
          | false => none
      | false => none := by kernel_rfl
def g15R14s0 (A : Ar) (x0 : List Nat) (x1 : Nat) (x2 : Int) (x3 : Nat) (x4 : List Int) : St := ⟨[(10, (i6 (A.ib .add .i64 x2 1))), (69, (i6 (A.ib .add .i64 x2 1))), (68, (i6 x2)), (2, (tS x0)), (7, (sL 5000 none x1 1)), (10, (i6 x2))], [(5000, ⟨[.ints .i64 x3 x4], 3, 2⟩)]⟩
theorem g15R14 (x0 : List Nat) (x1 : Nat) (x2 : Int) (x3 : Nat) (x4 : List Int) : g15D A n (pth 7359) K ⟨[(2, (tS x0)), (7, (sL 5000 none x1 1)), (10, (i6 x2))], [(5000, ⟨[.ints .i64 x3 x4], 3, 2⟩)]⟩ = K .normal (g15R14s0 A x0 x1 x2 x3 x4) := by kernel_rfl
def g15R21s0 (A : Ar) (x0 : Nat) (x1 : Int) (x2 : Nat) (x3 : Int) (x4 : Nat) (x5 : List Int) (x6 : Nat) (x7 : List Nat) : St := ⟨[(14, (i6 (A.ib .add .i64 (x5.getD (A.toN x3) 0) x1))), (92, (i6 (A.ib .add .i64 (x5.getD (A.toN x3) 0) x1))), (91, (i6 x1)), (90, (i6 (x5.getD (A.toN x3) 0))), (89, (.v (.cell (.ptr 5000 0 (some ⟨A.toN x3, 1, x0, A.toN x3, 0, 1⟩))))), (88, (i6 x3)), (87, (sL 5000 none x0 1)), (7, (sL 5000 none x0 1)), (11, (i6 x1)), (12, (sL 18000 none x2 1)), (13, (i6 x3))], [(5000, ⟨[.ints .i64 x4 x5], 3, 2⟩), (18000, ⟨[.nums .u8 x6 x7], 5, 2⟩)]⟩
theorem g15R21 (x0 : Nat) (x1 : Int) (x2 : Nat) (x3 : Int) (x4 : Nat) (x5 : List Int) (x6 : Nat) (x7 : List Nat) : g15D A n (pth 140799) K ⟨[(7, (sL 5000 none x0 1)), (11, (i6 x1)), (12, (sL 18000 none x2 1)), (13, (i6 x3))], [(5000, ⟨[.ints .i64 x4 x5], 3, 2⟩), (18000, ⟨[.nums .u8 x6 x7], 5, 2⟩)]⟩ = match (generalizing := false) A.neg x3 with
    | true => none
    | false => match (generalizing := false) A.lt (A.toN x3) x0 with
      | true => K .normal (g15R21s0 A x0 x1 x2 x3 x4 x5 x6 x7)
      | false => none := by kernel_rfl
def g15R22s0 (A : Ar) (x0 x1 : Nat) (x2 x3 : Int) (x4 : Nat) (x5 : List Int) (x6 : Nat) (x7 : List Nat) : St := ⟨[(97, (.v (.cell (.ptr 18000 0 (some ⟨A.toN x2, 1, x1, A.toN x2, 0, 1⟩))))), (96, (u8v (A.i2n .u8 x3))), (95, (i6 x3)), (94, (i6 x2)), (93, (sL 18000 none x1 1)), (7, (sL 5000 none x0 1)), (12, (sL 18000 none x1 1)), (13, (i6 x2)), (14, (i6 x3))], [(5000, ⟨[.ints .i64 x4 x5], 3, 2⟩), (18000, ⟨[.nums .u8 x6 (x7.set (A.toN x2) (A.i2n .u8 x3))], 5, 2⟩)]⟩
theorem g15R22 (x0 x1 : Nat) (x2 x3 : Int) (x4 : Nat) (x5 : List Int) (x6 : Nat) (x7 : List Nat) : g15D A n (pth 337407) K ⟨[(7, (sL 5000 none x0 1)), (12, (sL 18000 none x1 1)), (13, (i6 x2)), (14, (i6 x3))], [(5000, ⟨[.ints .i64 x4 x5], 3, 2⟩), (18000, ⟨[.nums .u8 x6 x7], 5, 2⟩)]⟩ = match (generalizing := false) A.neg x2 with
    | true => none
    | false => match (generalizing := false) A.lt (A.toN x2) x1 with
      | true => K .normal (g15R22s0 A x0 x1 x2 x3 x4 x5 x6 x7)
      | false => none := by kernel_rfl
def g15R23s0 (A : Ar) (x0 x1 : Nat) (x2 x3 : Int) (x4 : Nat) (x5 : List Int) (x6 : Nat) (x7 : List Nat) : St := ⟨[(11, (i6 (A.ib .quo .i64 x3 256))), (99, (i6 (A.ib .quo .i64 x3 256))), (98, (i6 x3)), (7, (sL 5000 none x0 1)), (12, (sL 18000 none x1 1)), (13, (i6 x2)), (14, (i6 x3))], [(5000, ⟨[.ints .i64 x4 x5], 3, 2⟩), (18000, ⟨[.nums .u8 x6 x7], 5, 2⟩)]⟩
theorem g15R23 (x0 x1 : Nat) (x2 x3 : Int) (x4 : Nat) (x5 : List Int) (x6 : Nat) (x7 : List Nat) : g15D A n (pth 468479) K ⟨[(7, (sL 5000 none x0 1)), (12, (sL 18000 none x1 1)), (13, (i6 x2)), (14, (i6 x3))], [(5000, ⟨[.ints .i64 x4 x5], 3, 2⟩), (18000, ⟨[.nums .u8 x6 x7], 5, 2⟩)]⟩ = K .normal (g15R23s0 A x0 x1 x2 x3 x4 x5 x6 x7) := by kernel_rfl
def g15R20s0 (A : Ar) (x0 : Nat) (x1 : Int) (x2 : Nat) (x3 : Int) (x4 : Nat) (x5 : List Int) (x6 : Nat) (x7 : List Nat) : St := ⟨[(13, (i6 (A.ib .add .i64 x3 1))), (86, (i6 (A.ib .add .i64 x3 1))), (85, (i6 x3)), (7, (sL 5000 none x0 1)), (11, (i6 x1)), (12, (sL 18000 none x2 1)), (13, (i6 x3))], [(5000, ⟨[.ints .i64 x4 x5], 3, 2⟩), (18000, ⟨[.nums .u8 x6 x7], 5, 2⟩)]⟩
theorem g15R20 (x0 : Nat) (x1 : Int) (x2 : Nat) (x3 : Int) (x4 : Nat) (x5 : List Int) (x6 : Nat) (x7 : List Nat) : g15D A n (pth 58879) K ⟨[(7, (sL 5000 none x0 1)), (11, (i6 x1)), (12, (sL 18000 none x2 1)), (13, (i6 x3))], [(5000, ⟨[.ints .i64 x4 x5], 3, 2⟩), (18000, ⟨[.nums .u8 x6 x7], 5, 2⟩)]⟩ = K .normal (g15R20s0 A x0 x1 x2 x3 x4 x5 x6 x7) := by kernel_rfl
def g15R19s0 (A : Ar) (x0 : Nat) (x1 : Int) (x2 : Nat) (x3 : Int) (x4 : Nat) (x5 : List Int) (x6 : Nat) (x7 : List Nat) : St := ⟨[(84, (bO (A.ic .lss x3 64))), (83, (i6 x3)), (7, (sL 5000 none x0 1)), (11, (i6 x1)), (12, (sL 18000 none x2 1)), (13, (i6 x3))], [(5000, ⟨[.ints .i64 x4 x5], 3, 2⟩), (18000, ⟨[.nums .u8 x6 x7], 5, 2⟩)]⟩
theorem g15R19 (x0 : Nat) (x1 : Int) (x2 : Nat) (x3 : Int) (x4 : Nat) (x5 : List Int) (x6 : Nat) (x7 : List Nat) : g15D A n (pth 34303) K ⟨[(7, (sL 5000 none x0 1)), (11, (i6 x1)), (12, (sL 18000 none x2 1)), (13, (i6 x3))], [(5000, ⟨[.ints .i64 x4 x5], 3, 2⟩), (18000, ⟨[.nums .u8 x6 x7], 5, 2⟩)]⟩ = K .normal (g15R19s0 A x0 x1 x2 x3 x4 x5 x6 x7) := by kernel_rfl
def g15R24s0 (A : Ar) (x0 x1 : Nat) (x2 : List Nat) : St := ⟨[(6, (tS (g11r0 A (x2.take x0)))), (102, (tS (g11r0 A (x2.take x0)))), (101, (tS (x2.take x0))), (100, (sL 18000 none x0 1)), (12, (sL 18000 none x0 1))], [(18000, ⟨[.nums .u8 x1 x2], 5, 2⟩)]⟩
theorem g15R24 (x0 x1 : Nat) (x2 : List Nat) : g15D A n (pth 3071) K ⟨[(12, (sL 18000 none x0 1))], [(18000, ⟨[.nums .u8 x1 x2], 5, 2⟩)]⟩ = match (generalizing := false) g11ok A (x2.take x0) with
    | true => K .normal (g15R24s0 A x0 x1 x2)
    | false => none := by kernel_rfl
def g15R16s0 (A : Ar) (x0 x1 : Nat) (x2 : List Int) : St := ⟨[(11, (i6 0)), (7, (sL 5000 none x0 1))], [(5000, ⟨[.ints .i64 x1 x2], 3, 2⟩)]⟩
theorem g15R16 (x0 x1 : Nat) (x2 : List Int) : g15D A n (pth 383) K ⟨[(7, (sL 5000 none x0 1))], [(5000, ⟨[.ints .i64 x1 x2], 3, 2⟩)]⟩ = K .normal (g15R16s0 A x0 x1 x2) := by kernel_rfl
def g15R17s0 (A : Ar) (x0 : Nat) (x1 : Int) (x2 : Nat) (x3 : List Int) : St := ⟨[(12, (sL 18000 none 64 1)), (82, (sL 18000 none 64 1)), (7, (sL 5000 none x0 1)), (11, (i6 x1))], [(18000, ⟨[.nums .u8 64 (List.replicate 64 0)], 5, 2⟩), (5000, ⟨[.ints .i64 x2 x3], 3, 2⟩)]⟩
theorem g15R17 (x0 : Nat) (x1 : Int) (x2 : Nat) (x3 : List Int) : g15D A n (pth 767) K ⟨[(7, (sL 5000 none x0 1)), (11, (i6 x1))], [(5000, ⟨[.ints .i64 x2 x3], 3, 2⟩)]⟩ = match (generalizing := false) A.le 64 64 with
    | true => match (generalizing := false) A.le 64 140737488355328 with
      | true => K .normal (g15R17s0 A x0 x1 x2 x3)
      | false => none
    | false => none := by kernel_rfl
def g15R18s0 (A : Ar) (x0 : Nat) (x1 : Int) (x2 x3 : Nat) (x4 : List Int) (x5 : Nat) (x6 : List Nat) : St := ⟨[(13, (i6 0)), (7, (sL 5000 none x0 1)), (11, (i6 x1)), (12, (sL 18000 none x2 1))], [(5000, ⟨[.ints .i64 x3 x4], 3, 2⟩), (18000, ⟨[.nums .u8 x5 x6], 5, 2⟩)]⟩
theorem g15R18 (x0 : Nat) (x1 : Int) (x2 x3 : Nat) (x4 : List Int) (x5 : Nat) (x6 : List Nat) : g15D A n (pth 2559) K ⟨[(7, (sL 5000 none x0 1)), (11, (i6 x1)), (12, (sL 18000 none x2 1))], [(5000, ⟨[.ints .i64 x3 x4], 3, 2⟩), (18000, ⟨[.nums .u8 x5 x6], 5, 2⟩)]⟩ = K .normal (g15R18s0 A x0 x1 x2 x3 x4 x5 x6) := by kernel_rfl
def g15R13s0 (A : Ar) (x0 : List Nat) (x1 : Nat) (x2 : Int) (x3 : Nat) (x4 : List Int) : St := ⟨[(67, (bO (A.ic .lss x2 (A.ofN x0.length)))), (66, (i6 (A.ofN x0.length))), (65, (tS x0)), (64, (i6 x2)), (2, (tS x0)), (7, (sL 5000 none x1 1)), (10, (i6 x2))], [(5000, ⟨[.ints .i64 x3 x4], 3, 2⟩)]⟩
theorem g15R13 (x0 : List Nat) (x1 : Nat) (x2 : Int) (x3 : Nat) (x4 : List Int) : g15D A n (pth 4287) K ⟨[(2, (tS x0)), (7, (sL 5000 none x1 1)), (10, (i6 x2))], [(5000, ⟨[.ints .i64 x3 x4], 3, 2⟩)]⟩ = K .normal (g15R13s0 A x0 x1 x2 x3 x4) := by kernel_rfl
def g15R12s0 (A : Ar) (x0 : List Nat) (x1 x2 : Nat) (x3 : List Int) : St := ⟨[(10, (i6 0)), (2, (tS x0)), (7, (sL 5000 none x1 1))], [(5000, ⟨[.ints .i64 x2 x3], 3, 2⟩)]⟩
theorem g15R12 (x0 : List Nat) (x1 x2 : Nat) (x3 : List Int) : g15D A n (pth 319) K ⟨[(2, (tS x0)), (7, (sL 5000 none x1 1))], [(5000, ⟨[.ints .i64 x2 x3], 3, 2⟩)]⟩ = K .normal (g15R12s0 A x0 x1 x2 x3) := by kernel_rfl
def g15R6s0 (A : Ar) (x0 x1 x2 : List Nat) (x3 : Nat) (x4 : Int) (x5 : Nat) (x6 : List Int) : St := ⟨[(34, (bO (A.ic .lss x4 (A.ofN x0.length)))), (33, (i6 (A.ofN x0.length))), (32, (tS x0)), (31, (i6 x4)), (0, (tS x0)), (1, (tS x1)), (2, (tS x2)), (7, (sL 5000 none x3 1)), (8, (i6 x4))], [(5000, ⟨[.ints .i64 x5 x6], 3, 2⟩)]⟩
theorem g15R6 (x0 x1 x2 : List Nat) (x3 : Nat) (x4 : Int) (x5 : Nat) (x6 : List Int) : g15D A n (pth 2143) K ⟨[(0, (tS x0)), (1, (tS x1)), (2, (tS x2)), (7, (sL 5000 none x3 1)), (8, (i6 x4))], [(5000, ⟨[.ints .i64 x5 x6], 3, 2⟩)]⟩ = K .normal (g15R6s0 A x0 x1 x2 x3 x4 x5 x6) := by kernel_rfl
def g15R0s0 (A : Ar) (x0 x1 x2 : List Nat) : St := ⟨[(6, (tS [])), (0, (tS x0)), (1, (tS x1)), (2, (tS x2))], []⟩
theorem g15R0 (x0 x1 x2 : List Nat) : g15D A n (pth 2) K ⟨[(0, (tS x0)), (1, (tS x1)), (2, (tS x2))], []⟩ = K .normal (g15R0s0 A x0 x1 x2) := by kernel_rfl
def g15R1s0 (A : Ar) (x0 x1 x2 : List Nat) : St := ⟨[(0, (tS ((x0.take (A.toN (A.mn (A.ofN x0.length) 32))).drop 0))), (19, (tS ((x0.take (A.toN (A.mn (A.ofN x0.length) 32))).drop 0))), (18, (i6 (A.mn (A.ofN x0.length) 32))), (17, (i6 (A.ofN x0.length))), (16, (tS x0)), (15, (tS x0)), (0, (tS x0)), (1, (tS x1)), (2, (tS x2))], []⟩
theorem g15R1 (x0 x1 x2 : List Nat) : g15D A n (pth 5) K ⟨[(0, (tS x0)), (1, (tS x1)), (2, (tS x2))], []⟩ = match (generalizing := false) A.neg (A.mn (A.ofN x0.length) 32) with
    | true => none
    | false => match (generalizing := false) A.le (A.toN (A.mn (A.ofN x0.length) 32)) x0.length with
      | true => K .normal (g15R1s0 A x0 x1 x2)
      | false => none := by kernel_rfl
def g15R2s0 (A : Ar) (x0 x1 x2 : List Nat) : St := ⟨[(1, (tS ((x1.take (A.toN (A.mn (A.ofN x1.length) 32))).drop 0))), (24, (tS ((x1.take (A.toN (A.mn (A.ofN x1.length) 32))).drop 0))), (23, (i6 (A.mn (A.ofN x1.length) 32))), (22, (i6 (A.ofN x1.length))), (21, (tS x1)), (20, (tS x1)), (0, (tS x0)), (1, (tS x1)), (2, (tS x2))], []⟩
theorem g15R2 (x0 x1 x2 : List Nat) : g15D A n (pth 11) K ⟨[(0, (tS x0)), (1, (tS x1)), (2, (tS x2))], []⟩ = match (generalizing := false) A.neg (A.mn (A.ofN x1.length) 32) with
    | true => none
    | false => match (generalizing := false) A.le (A.toN (A.mn (A.ofN x1.length) 32)) x1.length with
      | true => K .normal (g15R2s0 A x0 x1 x2)
      | false => none := by kernel_rfl
def g15R3s0 (A : Ar) (x0 x1 x2 : List Nat) : St := ⟨[(2, (tS ((x2.take (A.toN (A.mn (A.ofN x2.length) 32))).drop 0))), (29, (tS ((x2.take (A.toN (A.mn (A.ofN x2.length) 32))).drop 0))), (28, (i6 (A.mn (A.ofN x2.length) 32))), (27, (i6 (A.ofN x2.length))), (26, (tS x2)), (25, (tS x2)), (0, (tS x0)), (1, (tS x1)), (2, (tS x2))], []⟩
theorem g15R3 (x0 x1 x2 : List Nat) : g15D A n (pth 23) K ⟨[(0, (tS x0)), (1, (tS x1)), (2, (tS x2))], []⟩ = match (generalizing := false) A.neg (A.mn (A.ofN x2.length) 32) with
    | true => none
    | false => match (generalizing := false) A.le (A.toN (A.mn (A.ofN x2.length) 32)) x2.length with
      | true => K .normal (g15R3s0 A x0 x1 x2)
      | false => none := by kernel_rfl
def g15R4s0 (A : Ar) (x0 x1 x2 : List Nat) : St := ⟨[(7, (sL 5000 none 64 1)), (30, (sL 5000 none 64 1)), (0, (tS x0)), (1, (tS x1)), (2, (tS x2))], [(5000, ⟨[.ints .i64 64 (List.replicate 64 0)], 3, 2⟩)]⟩
theorem g15R4 (x0 x1 x2 : List Nat) : g15D A n (pth 47) K ⟨[(0, (tS x0)), (1, (tS x1)), (2, (tS x2))], []⟩ = match (generalizing := false) A.le 64 64 with
    | true => match (generalizing := false) A.le 512 140737488355328 with
      | true => K .normal (g15R4s0 A x0 x1 x2)
      | false => none
    | false => none := by kernel_rfl
def g15R5s0 (A : Ar) (x0 x1 x2 : List Nat) (x3 x4 : Nat) (x5 : List Int) : St := ⟨[(8, (i6 0)), (0, (tS x0)), (1, (tS x1)), (2, (tS x2)), (7, (sL 5000 none x3 1))], [(5000, ⟨[.ints .i64 x4 x5], 3, 2⟩)]⟩
theorem g15R5 (x0 x1 x2 : List Nat) (x3 x4 : Nat) (x5 : List Int) : g15D A n (pth 159) K ⟨[(0, (tS x0)), (1, (tS x1)), (2, (tS x2)), (7, (sL 5000 none x3 1))], [(5000, ⟨[.ints .i64 x4 x5], 3, 2⟩)]⟩ = K .normal (g15R5s0 A x0 x1 x2 x3 x4 x5) := by kernel_rfl
end
def g15J11 {R : Type} (A : Ar) (n : Nat) (kk : AV → Heap → Option R) (lg15L9 : List Nat → List Nat → List Nat → Nat → Int → Int → Nat → List Int → Option R) (x0 x1 x2 : List Nat) (x3 : Nat) (x4 x5 : Int) (x6 : Nat) (x7 : List Int) : Option R :=
  match (generalizing := false) A.neg (A.ib .add .i64 x4 x5) with
  | true => none
  | false => match (generalizing := false) A.lt (A.toN (A.ib .add .i64 x4 x5)) x3 with
    | true => match (generalizing := false) A.neg x4 with
      | true => none
      | false => match (generalizing := false) A.lt (A.toN x4) x0.length with
        | true => match (generalizing := false) A.neg x5 with
          | true => none
          | false => match (generalizing := false) A.lt (A.toN x5) x1.length with
            | true => match (generalizing := false) A.neg (A.ib .add .i64 x4 x5) with
              | true => none
              | false => match (generalizing := false) A.lt (A.toN (A.ib .add .i64 x4 x5)) x3 with
                | true => lg15L9 x0 x1 x2 x3 x4 (A.ib .add .i64 x5 1) x6 (x7.set (A.toN (A.ib .add .i64 x4 x5)) (A.ib .add .i64 (x7.getD (A.toN (A.ib .add .i64 x4 x5)) 0) (A.ib .mul .i64 (A.ofN (x0.getD (A.toN x4) 0)) (A.ofN (x1.getD (A.toN x5) 0)))))
                | false => none
            | false => none
        | false => none
    | false => none
set_option maxRecDepth 100000 in
theorem g15J11_eq {R : Type} (A : Ar) (n : Nat) (kk : AV → Heap → Option R) (m0 m1 : Nat) (lg15L9 : List Nat → List Nat → List Nat → Nat → Int → Int → Nat → List Int → Option R) 
    (hg15L9 : ∀ (s : St) (x0 x1 x2 : List Nat) (x3 : Nat) (x4 x5 : Int) (x6 : Nat) (x7 : List Int), keep g15an 9 s = ⟨[(0, (tS x0)), (1, (tS x1)), (2, (tS x2)), (7, (sL 5000 none x3 1)), (8, (i6 x4)), (9, (i6 x5))], [(5000, ⟨[.ints .i64 x6 x7], 3, 2⟩)]⟩ → g15V A n (pth 37471) m1 (blockK 2 (blockK 1 (g15Q A n (pth 3679) (g15W A n (pth 607) m0 (blockK 0 (g15Q A n (pth 127) (g15T kk))))))) s = lg15L9 x0 x1 x2 x3 x4 x5 x6 x7) (s : St) (x0 x1 x2 : List Nat) (x3 : Nat) (x4 x5 : Int) (x6 : Nat) (x7 : List Int) (h : keep g15an 11 s = ⟨[(0, (tS x0)), (1, (tS x1)), (2, (tS x2)), (7, (sL 5000 none x3 1)), (8, (i6 x4)), (9, (i6 x5))], [(5000, ⟨[.ints .i64 x6 x7], 3, 2⟩)]⟩) :
    g15D A n (pth 103007) (g15W A n (pth 37471) m1 (blockK 2 (blockK 1 (g15Q A n (pth 3679) (g15W A n (pth 607) m0 (blockK 0 (g15Q A n (pth 127) (g15T kk)))))))) s = g15J11 A n kk lg15L9 x0 x1 x2 x3 x4 x5 x6 x7 := by
  have h1 := (g15Wn A n _ _ _ _).trans (hg15L9 (g15R10s0 A x0 x1 x2 x3 x4 x5 x6 (x7.set (A.toN (A.ib .add .i64 x4 x5)) (A.ib .add .i64 (x7.getD (A.toN (A.ib .add .i64 x4 x5)) 0) (A.ib .mul .i64 (A.ofN (x0.getD (A.toN x4) 0)) (A.ofN (x1.getD (A.toN x5) 0)))))) x0 x1 x2 x3 x4 (A.ib .add .i64 x5 1) x6 (x7.set (A.toN (A.ib .add .i64 x4 x5)) (A.ib .add .i64 (x7.getD (A.toN (A.ib .add .i64 x4 x5)) 0) (A.ib .mul .i64 (A.ofN (x0.getD (A.toN x4) 0)) (A.ofN (x1.getD (A.toN x5) 0))))) (by kernel_rfl))
  have h2 := (g15F A n _ 10 _ (g15R11s0 A x0 x1 x2 x3 x4 x5 x6 x7) _ (by kernel_rfl) (by kernel_rfl)).trans (g15R10 A n (g15W A n (pth 37471) m1 (blockK 2 (blockK 1 (g15Q A n (pth 3679) (g15W A n (pth 607) m0 (blockK 0 (g15Q A n (pth 127) (g15T kk)))))))) x0 x1 x2 x3 x4 x5 x6 (x7.set (A.toN (A.ib .add .i64 x4 x5)) (A.ib .add .i64 (x7.getD (A.toN (A.ib .add .i64 x4 x5)) 0) (A.ib .mul .i64 (A.ofN (x0.getD (A.toN x4) 0)) (A.ofN (x1.getD (A.toN x5) 0))))))
  rw [h1] at h2
  have h3 := (g15Qn A n _ _ _).trans h2
  have h4 := (blockK_n 3 _ _).trans h3
  have h5 := (g15F A n _ 11 _ ⟨[(0, (tS x0)), (1, (tS x1)), (2, (tS x2)), (7, (sL 5000 none x3 1)), (8, (i6 x4)), (9, (i6 x5))], [(5000, ⟨[.ints .i64 x6 x7], 3, 2⟩)]⟩ _ (by kernel_rfl) (by kernel_rfl)).trans (g15R11 A n (blockK 3 (g15Q A n (pth 234079) (g15W A n (pth 37471) m1 (blockK 2 (blockK 1 (g15Q A n (pth 3679) (g15W A n (pth 607) m0 (blockK 0 (g15Q A n (pth 127) (g15T kk)))))))))) x0 x1 x2 x3 x4 x5 x6 x7)
  rw [h4] at h5
  have h6 := (g15p168543 A n _ _).trans h5
  have h7 := (g15p103007 A n _ _).trans h6
  exact (g15F A n _ 11 _ _ ⟨[(0, (tS x0)), (1, (tS x1)), (2, (tS x2)), (7, (sL 5000 none x3 1)), (8, (i6 x4)), (9, (i6 x5))], [(5000, ⟨[.ints .i64 x6 x7], 3, 2⟩)]⟩ (by kernel_rfl) (h.trans (by kernel_rfl))).trans (h7.trans (by kernel_rfl))
def g15L9 {R : Type} (A : Ar) (n : Nat) (kk : AV → Heap → Option R) (lg15L6 : List Nat → List Nat → List Nat → Nat → Int → Nat → List Int → Option R) : Nat → List Nat → List Nat → List Nat → Nat → Int → Int → Nat → List Int → Option R
  | 0, _, _, _, _, _, _, _, _ => none
  | m + 1, x0, x1, x2, x3, x4, x5, x6, x7 => match (generalizing := false) A.ic .lss x5 (A.ofN x1.length) with
  | true => g15J11 A n kk (g15L9 A n kk lg15L6 m) x0 x1 x2 x3 x4 x5 x6 x7
  | false => lg15L6 x0 x1 x2 x3 (A.ib .add .i64 x4 1) x6 x7
set_option maxRecDepth 100000 in
theorem g15L9_eq {R : Type} (A : Ar) (n : Nat) (kk : AV → Heap → Option R) (m0 : Nat) (lg15L6 : List Nat → List Nat → List Nat → Nat → Int → Nat → List Int → Option R) 
    (hg15L6 : ∀ (s : St) (x0 x1 x2 : List Nat) (x3 : Nat) (x4 : Int) (x5 : Nat) (x6 : List Int), keep g15an 6 s = ⟨[(0, (tS x0)), (1, (tS x1)), (2, (tS x2)), (7, (sL 5000 none x3 1)), (8, (i6 x4))], [(5000, ⟨[.ints .i64 x5 x6], 3, 2⟩)]⟩ → g15V A n (pth 607) m0 (blockK 0 (g15Q A n (pth 127) (g15T kk))) s = lg15L6 x0 x1 x2 x3 x4 x5 x6) (m : Nat) (s : St) (x0 x1 x2 : List Nat) (x3 : Nat) (x4 x5 : Int) (x6 : Nat) (x7 : List Int) (h : keep g15an 9 s = ⟨[(0, (tS x0)), (1, (tS x1)), (2, (tS x2)), (7, (sL 5000 none x3 1)), (8, (i6 x4)), (9, (i6 x5))], [(5000, ⟨[.ints .i64 x6 x7], 3, 2⟩)]⟩) :
    g15V A n (pth 37471) m (blockK 2 (blockK 1 (g15Q A n (pth 3679) (g15W A n (pth 607) m0 (blockK 0 (g15Q A n (pth 127) (g15T kk))))))) s = g15L9 A n kk lg15L6 m x0 x1 x2 x3 x4 x5 x6 x7 := by
  induction m generalizing s x0 x1 x2 x3 x4 x5 x6 x7 with
  | zero => rfl
  | succ m ih =>
    have h1 := (g15Qn A n _ _ _).trans (g15J11_eq A n kk m0 m (g15L9 A n kk lg15L6 m) ih  (g15R9s0 A x0 x1 x2 x3 x4 x5 x6 x7) x0 x1 x2 x3 x4 x5 x6 x7 (by kernel_rfl))
    have h2 := (g15p332383 A n _ _).trans h1
    have h3 := (g15Wn A n _ _ _ _).trans (hg15L6 (g15R7s0 A x0 x1 x2 x3 x4 x6 x7) x0 x1 x2 x3 (A.ib .add .i64 x4 1) x6 x7 (by kernel_rfl))
    have h4 := (g15F A n _ 7 _ (g15R9s0 A x0 x1 x2 x3 x4 x5 x6 x7) _ (by kernel_rfl) (by kernel_rfl)).trans (g15R7 A n (g15W A n (pth 607) m0 (blockK 0 (g15Q A n (pth 127) (g15T kk)))) x0 x1 x2 x3 x4 x6 x7)
    rw [h3] at h4
    have h5 := (g15Qn A n _ _ _).trans h4
    have h6 := (blockK_n 1 _ _).trans h5
    have h7 := (blockK_hit 2 _ _).trans h6
    have h8 := (g15We A n (pth 37471) m _ _ _).trans h7
    have h9 := (g15Qe A n (pth 103007) _ _ _).trans h8
    have h10 := (g15p463455 A n _ _).trans h9
    have h11 := g15p201311 A n (g15Q A n (pth 103007) (g15W A n (pth 37471) m (blockK 2 (blockK 1 (g15Q A n (pth 3679) (g15W A n (pth 607) m0 (blockK 0 (g15Q A n (pth 127) (g15T kk))))))))) (g15R9s0 A x0 x1 x2 x3 x4 x5 x6 x7) (A.ic .lss x5 (A.ofN x1.length)) (by kernel_rfl)
    rw [h2, h10] at h11
    have h12 := (g15Qn A n _ _ _).trans h11
    have h13 := (g15F A n _ 9 _ ⟨[(0, (tS x0)), (1, (tS x1)), (2, (tS x2)), (7, (sL 5000 none x3 1)), (8, (i6 x4)), (9, (i6 x5))], [(5000, ⟨[.ints .i64 x6 x7], 3, 2⟩)]⟩ _ (by kernel_rfl) (by kernel_rfl)).trans (g15R9 A n (g15Q A n (pth 201311) (g15Q A n (pth 103007) (g15W A n (pth 37471) m (blockK 2 (blockK 1 (g15Q A n (pth 3679) (g15W A n (pth 607) m0 (blockK 0 (g15Q A n (pth 127) (g15T kk)))))))))) x0 x1 x2 x3 x4 x5 x6 x7)
    rw [h12] at h13
    have h14 := (g15p70239 A n _ _).trans h13
    have h15 := (g15p37471 A n _ _).trans h14
    exact (loopD_first (s' := ⟨[(0, (tS x0)), (1, (tS x1)), (2, (tS x2)), (7, (sL 5000 none x3 1)), (8, (i6 x4)), (9, (i6 x5))], [(5000, ⟨[.ints .i64 x6 x7], 3, 2⟩)]⟩) (id := 9) (by kernel_rfl) (h.trans (by kernel_rfl)) _).trans ((g15Vs A n _ m _ _).trans (h15.trans (by kernel_rfl)))
def g15J8 {R : Type} (A : Ar) (n : Nat) (kk : AV → Heap → Option R) (lg15L6 : List Nat → List Nat → List Nat → Nat → Int → Nat → List Int → Option R) (x0 x1 x2 : List Nat) (x3 : Nat) (x4 : Int) (x5 : Nat) (x6 : List Int) : Option R :=
  g15L9 A n kk lg15L6 n x0 x1 x2 x3 x4 0 x5 x6
set_option maxRecDepth 100000 in
theorem g15J8_eq {R : Type} (A : Ar) (n : Nat) (kk : AV → Heap → Option R) (m0 : Nat) (lg15L6 : List Nat → List Nat → List Nat → Nat → Int → Nat → List Int → Option R) 
    (hg15L6 : ∀ (s : St) (x0 x1 x2 : List Nat) (x3 : Nat) (x4 : Int) (x5 : Nat) (x6 : List Int), keep g15an 6 s = ⟨[(0, (tS x0)), (1, (tS x1)), (2, (tS x2)), (7, (sL 5000 none x3 1)), (8, (i6 x4))], [(5000, ⟨[.ints .i64 x5 x6], 3, 2⟩)]⟩ → g15V A n (pth 607) m0 (blockK 0 (g15Q A n (pth 127) (g15T kk))) s = lg15L6 x0 x1 x2 x3 x4 x5 x6) (s : St) (x0 x1 x2 : List Nat) (x3 : Nat) (x4 : Int) (x5 : Nat) (x6 : List Int) (h : keep g15an 8 s = ⟨[(0, (tS x0)), (1, (tS x1)), (2, (tS x2)), (7, (sL 5000 none x3 1)), (8, (i6 x4))], [(5000, ⟨[.ints .i64 x5 x6], 3, 2⟩)]⟩) :
    g15D A n (pth 1631) (g15W A n (pth 607) m0 (blockK 0 (g15Q A n (pth 127) (g15T kk)))) s = g15J8 A n kk lg15L6 x0 x1 x2 x3 x4 x5 x6 := by
  have h1 := (g15p21087 A n _ _).trans (g15L9_eq A n kk m0 lg15L6 hg15L6 n (g15R8s0 A x0 x1 x2 x3 x4 x5 x6) x0 x1 x2 x3 x4 0 x5 x6 (by kernel_rfl))
  have h2 := (g15p12895 A n _ _).trans h1
  have h3 := (g15Qn A n _ _ _).trans h2
  have h4 := (g15F A n _ 8 _ ⟨[(0, (tS x0)), (1, (tS x1)), (2, (tS x2)), (7, (sL 5000 none x3 1)), (8, (i6 x4))], [(5000, ⟨[.ints .i64 x5 x6], 3, 2⟩)]⟩ _ (by kernel_rfl) (by kernel_rfl)).trans (g15R8 A n (g15Q A n (pth 12895) (blockK 1 (g15Q A n (pth 3679) (g15W A n (pth 607) m0 (blockK 0 (g15Q A n (pth 127) (g15T kk))))))) x0 x1 x2 x3 x4 x5 x6)
  rw [h3] at h4
  have h5 := (g15p4703 A n _ _).trans h4
  have h6 := (g15p2655 A n _ _).trans h5
  have h7 := (g15p1631 A n _ _).trans h6
  exact (g15F A n _ 8 _ _ ⟨[(0, (tS x0)), (1, (tS x1)), (2, (tS x2)), (7, (sL 5000 none x3 1)), (8, (i6 x4))], [(5000, ⟨[.ints .i64 x5 x6], 3, 2⟩)]⟩ (by kernel_rfl) (h.trans (by kernel_rfl))).trans (h7.trans (by kernel_rfl))
def g15J15 {R : Type} (A : Ar) (n : Nat) (kk : AV → Heap → Option R) (lg15L13 : List Nat → Nat → Int → Nat → List Int → Option R) (x0 : List Nat) (x1 : Nat) (x2 : Int) (x3 : Nat) (x4 : List Int) : Option R :=
  match (generalizing := false) A.neg x2 with
  | true => none
  | false => match (generalizing := false) A.lt (A.toN x2) x1 with
    | true => match (generalizing := false) A.neg x2 with
      | true => none
      | false => match (generalizing := false) A.lt (A.toN x2) x0.length with
        | true => match (generalizing := false) A.neg x2 with
          | true => none
          | false => match (generalizing := false) A.lt (A.toN x2) x1 with
            | true => lg15L13 x0 x1 (A.ib .add .i64 x2 1) x3 (x4.set (A.toN x2) (A.ib .add .i64 (x4.getD (A.toN x2) 0) (A.ofN (x0.getD (A.toN x2) 0))))
            | false => none
        | false => none
    | false => none
set_option maxRecDepth 100000 in
theorem g15J15_eq {R : Type} (A : Ar) (n : Nat) (kk : AV → Heap → Option R) (m0 : Nat) (lg15L13 : List Nat → Nat → Int → Nat → List Int → Option R) 
    (hg15L13 : ∀ (s : St) (x0 : List Nat) (x1 : Nat) (x2 : Int) (x3 : Nat) (x4 : List Int), keep g15an 13 s = ⟨[(2, (tS x0)), (7, (sL 5000 none x1 1)), (10, (i6 x2))], [(5000, ⟨[.ints .i64 x3 x4], 3, 2⟩)]⟩ → g15V A n (pth 1215) m0 (blockK 4 (g15Q A n (pth 255) (g15T kk))) s = lg15L13 x0 x1 x2 x3 x4) (s : St) (x0 : List Nat) (x1 : Nat) (x2 : Int) (x3 : Nat) (x4 : List Int) (h : keep g15an 15 s = ⟨[(2, (tS x0)), (7, (sL 5000 none x1 1)), (10, (i6 x2))], [(5000, ⟨[.ints .i64 x3 x4], 3, 2⟩)]⟩) :
    g15D A n (pth 3263) (g15W A n (pth 1215) m0 (blockK 4 (g15Q A n (pth 255) (g15T kk)))) s = g15J15 A n kk lg15L13 x0 x1 x2 x3 x4 := by
  have h1 := (g15Wn A n _ _ _ _).trans (hg15L13 (g15R14s0 A x0 x1 x2 x3 (x4.set (A.toN x2) (A.ib .add .i64 (x4.getD (A.toN x2) 0) (A.ofN (x0.getD (A.toN x2) 0))))) x0 x1 (A.ib .add .i64 x2 1) x3 (x4.set (A.toN x2) (A.ib .add .i64 (x4.getD (A.toN x2) 0) (A.ofN (x0.getD (A.toN x2) 0)))) (by kernel_rfl))
  have h2 := (g15F A n _ 14 _ (g15R15s0 A x0 x1 x2 x3 x4) _ (by kernel_rfl) (by kernel_rfl)).trans (g15R14 A n (g15W A n (pth 1215) m0 (blockK 4 (g15Q A n (pth 255) (g15T kk)))) x0 x1 x2 x3 (x4.set (A.toN x2) (A.ib .add .i64 (x4.getD (A.toN x2) 0) (A.ofN (x0.getD (A.toN x2) 0)))))
  rw [h1] at h2
  have h3 := (g15Qn A n _ _ _).trans h2
  have h4 := (blockK_n 5 _ _).trans h3
  have h5 := (g15F A n _ 15 _ ⟨[(2, (tS x0)), (7, (sL 5000 none x1 1)), (10, (i6 x2))], [(5000, ⟨[.ints .i64 x3 x4], 3, 2⟩)]⟩ _ (by kernel_rfl) (by kernel_rfl)).trans (g15R15 A n (blockK 5 (g15Q A n (pth 7359) (g15W A n (pth 1215) m0 (blockK 4 (g15Q A n (pth 255) (g15T kk)))))) x0 x1 x2 x3 x4)
  rw [h4] at h5
  have h6 := (g15p5311 A n _ _).trans h5
  have h7 := (g15p3263 A n _ _).trans h6
  exact (g15F A n _ 15 _ _ ⟨[(2, (tS x0)), (7, (sL 5000 none x1 1)), (10, (i6 x2))], [(5000, ⟨[.ints .i64 x3 x4], 3, 2⟩)]⟩ (by kernel_rfl) (h.trans (by kernel_rfl))).trans (h7.trans (by kernel_rfl))
def g15J21 {R : Type} (A : Ar) (n : Nat) (kk : AV → Heap → Option R) (lg15L19 : Nat → Int → Nat → Int → Nat → List Int → Nat → List Nat → Option R) (x0 : Nat) (x1 : Int) (x2 : Nat) (x3 : Int) (x4 : Nat) (x5 : List Int) (x6 : Nat) (x7 : List Nat) : Option R :=
  match (generalizing := false) A.neg x3 with
  | true => none
  | false => match (generalizing := false) A.lt (A.toN x3) x0 with
    | true => match (generalizing := false) A.neg x3 with
      | true => none
      | false => match (generalizing := false) A.lt (A.toN x3) x2 with
        | true => lg15L19 x0 (A.ib .quo .i64 (A.ib .add .i64 (x5.getD (A.toN x3) 0) x1) 256) x2 (A.ib .add .i64 x3 1) x4 x5 x6 (x7.set (A.toN x3) (A.i2n .u8 (A.ib .add .i64 (x5.getD (A.toN x3) 0) x1)))
        | false => none
    | false => none
set_option maxRecDepth 100000 in
theorem g15J21_eq {R : Type} (A : Ar) (n : Nat) (kk : AV → Heap → Option R) (m0 : Nat) (lg15L19 : Nat → Int → Nat → Int → Nat → List Int → Nat → List Nat → Option R) 
    (hg15L19 : ∀ (s : St) (x0 : Nat) (x1 : Int) (x2 : Nat) (x3 : Int) (x4 : Nat) (x5 : List Int) (x6 : Nat) (x7 : List Nat), keep g15an 19 s = ⟨[(7, (sL 5000 none x0 1)), (11, (i6 x1)), (12, (sL 18000 none x2 1)), (13, (i6 x3))], [(5000, ⟨[.ints .i64 x4 x5], 3, 2⟩), (18000, ⟨[.nums .u8 x6 x7], 5, 2⟩)]⟩ → g15V A n (pth 9727) m0 (blockK 6 (g15Q A n (pth 2047) (g15T kk))) s = lg15L19 x0 x1 x2 x3 x4 x5 x6 x7) (s : St) (x0 : Nat) (x1 : Int) (x2 : Nat) (x3 : Int) (x4 : Nat) (x5 : List Int) (x6 : Nat) (x7 : List Nat) (h : keep g15an 21 s = ⟨[(7, (sL 5000 none x0 1)), (11, (i6 x1)), (12, (sL 18000 none x2 1)), (13, (i6 x3))], [(5000, ⟨[.ints .i64 x4 x5], 3, 2⟩), (18000, ⟨[.nums .u8 x6 x7], 5, 2⟩)]⟩) :
    g15D A n (pth 26111) (g15W A n (pth 9727) m0 (blockK 6 (g15Q A n (pth 2047) (g15T kk)))) s = g15J21 A n kk lg15L19 x0 x1 x2 x3 x4 x5 x6 x7 := by
  have h1 := (g15Wn A n _ _ _ _).trans (hg15L19 (g15R20s0 A x0 (A.ib .quo .i64 (A.ib .add .i64 (x5.getD (A.toN x3) 0) x1) 256) x2 x3 x4 x5 x6 (x7.set (A.toN x3) (A.i2n .u8 (A.ib .add .i64 (x5.getD (A.toN x3) 0) x1)))) x0 (A.ib .quo .i64 (A.ib .add .i64 (x5.getD (A.toN x3) 0) x1) 256) x2 (A.ib .add .i64 x3 1) x4 x5 x6 (x7.set (A.toN x3) (A.i2n .u8 (A.ib .add .i64 (x5.getD (A.toN x3) 0) x1))) (by kernel_rfl))
  have h2 := (g15F A n _ 20 _ (g15R23s0 A x0 x2 x3 (A.ib .add .i64 (x5.getD (A.toN x3) 0) x1) x4 x5 x6 (x7.set (A.toN x3) (A.i2n .u8 (A.ib .add .i64 (x5.getD (A.toN x3) 0) x1)))) _ (by kernel_rfl) (by kernel_rfl)).trans (g15R20 A n (g15W A n (pth 9727) m0 (blockK 6 (g15Q A n (pth 2047) (g15T kk)))) x0 (A.ib .quo .i64 (A.ib .add .i64 (x5.getD (A.toN x3) 0) x1) 256) x2 x3 x4 x5 x6 (x7.set (A.toN x3) (A.i2n .u8 (A.ib .add .i64 (x5.getD (A.toN x3) 0) x1))))
  rw [h1] at h2
  have h3 := (g15Qn A n _ _ _).trans h2
  have h4 := (blockK_n 7 _ _).trans h3
  have h5 := (g15F A n _ 23 _ (g15R22s0 A x0 x2 x3 (A.ib .add .i64 (x5.getD (A.toN x3) 0) x1) x4 x5 x6 x7) _ (by kernel_rfl) (by kernel_rfl)).trans (g15R23 A n (blockK 7 (g15Q A n (pth 58879) (g15W A n (pth 9727) m0 (blockK 6 (g15Q A n (pth 2047) (g15T kk)))))) x0 x2 x3 (A.ib .add .i64 (x5.getD (A.toN x3) 0) x1) x4 x5 x6 (x7.set (A.toN x3) (A.i2n .u8 (A.ib .add .i64 (x5.getD (A.toN x3) 0) x1))))
  rw [h4] at h5
  have h6 := (g15Qn A n _ _ _).trans h5
  have h7 := (g15F A n _ 22 _ (g15R21s0 A x0 x1 x2 x3 x4 x5 x6 x7) _ (by kernel_rfl) (by kernel_rfl)).trans (g15R22 A n (g15Q A n (pth 468479) (blockK 7 (g15Q A n (pth 58879) (g15W A n (pth 9727) m0 (blockK 6 (g15Q A n (pth 2047) (g15T kk))))))) x0 x2 x3 (A.ib .add .i64 (x5.getD (A.toN x3) 0) x1) x4 x5 x6 x7)
  rw [h6] at h7
  have h8 := (g15p206335 A n _ _).trans h7
  have h9 := (g15Qn A n _ _ _).trans h8
  have h10 := (g15F A n _ 21 _ ⟨[(7, (sL 5000 none x0 1)), (11, (i6 x1)), (12, (sL 18000 none x2 1)), (13, (i6 x3))], [(5000, ⟨[.ints .i64 x4 x5], 3, 2⟩), (18000, ⟨[.nums .u8 x6 x7], 5, 2⟩)]⟩ _ (by kernel_rfl) (by kernel_rfl)).trans (g15R21 A n (g15Q A n (pth 206335) (blockK 7 (g15Q A n (pth 58879) (g15W A n (pth 9727) m0 (blockK 6 (g15Q A n (pth 2047) (g15T kk))))))) x0 x1 x2 x3 x4 x5 x6 x7)
  rw [h9] at h10
  have h11 := (g15p75263 A n _ _).trans h10
  have h12 := (g15p42495 A n _ _).trans h11
  have h13 := (g15p26111 A n _ _).trans h12
  exact (g15F A n _ 21 _ _ ⟨[(7, (sL 5000 none x0 1)), (11, (i6 x1)), (12, (sL 18000 none x2 1)), (13, (i6 x3))], [(5000, ⟨[.ints .i64 x4 x5], 3, 2⟩), (18000, ⟨[.nums .u8 x6 x7], 5, 2⟩)]⟩ (by kernel_rfl) (h.trans (by kernel_rfl))).trans (h13.trans (by kernel_rfl))
def g15L19 {R : Type} (A : Ar) (n : Nat) (kk : AV → Heap → Option R)  : Nat → Nat → Int → Nat → Int → Nat → List Int → Nat → List Nat → Option R
  | 0, _, _, _, _, _, _, _, _ => none
  | m + 1, x0, x1, x2, x3, x4, x5, x6, x7 => match (generalizing := false) A.ic .lss x3 64 with
  | true => g15J21 A n kk (g15L19 A n kk  m) x0 x1 x2 x3 x4 x5 x6 x7
  | false => match (generalizing := false) g11ok A (x7.take x2) with
    | true => kk (tS (g11r0 A (x7.take x2))) [(18000, ⟨[.nums .u8 x6 x7], 5, 2⟩)]
    | false => none
set_option maxRecDepth 100000 in
theorem g15L19_eq {R : Type} (A : Ar) (n : Nat) (kk : AV → Heap → Option R)    (m : Nat) (s : St) (x0 : Nat) (x1 : Int) (x2 : Nat) (x3 : Int) (x4 : Nat) (x5 : List Int) (x6 : Nat) (x7 : List Nat) (h : keep g15an 19 s = ⟨[(7, (sL 5000 none x0 1)), (11, (i6 x1)), (12, (sL 18000 none x2 1)), (13, (i6 x3))], [(5000, ⟨[.ints .i64 x4 x5], 3, 2⟩), (18000, ⟨[.nums .u8 x6 x7], 5, 2⟩)]⟩) :
    g15V A n (pth 9727) m (blockK 6 (g15Q A n (pth 2047) (g15T kk))) s = g15L19 A n kk  m x0 x1 x2 x3 x4 x5 x6 x7 := by
  induction m generalizing s x0 x1 x2 x3 x4 x5 x6 x7 with
  | zero => rfl
  | succ m ih =>
    have h1 := (g15Qn A n _ _ _).trans (g15J21_eq A n kk m (g15L19 A n kk  m) ih  (g15R19s0 A x0 x1 x2 x3 x4 x5 x6 x7) x0 x1 x2 x3 x4 x5 x6 x7 (by kernel_rfl))
    have h2 := (g15p83455 A n _ _).trans h1
    have h3 : (g15T kk) .ret (g15R24s0 A x2 x6 x7) = kk (tS (g11r0 A (x7.take x2))) [(18000, ⟨[.nums .u8 x6 x7], 5, 2⟩)] := by kernel_rfl
    have h4 := (g15p4095 A n _ _).trans h3
    have h5 := (g15Qn A n _ _ _).trans h4
    have h6 := (g15F A n _ 24 _ (g15R19s0 A x0 x1 x2 x3 x4 x5 x6 x7) _ (by kernel_rfl) (by kernel_rfl)).trans (g15R24 A n (g15Q A n (pth 4095) (g15T kk)) x2 x6 x7)
    rw [h5] at h6
    have h7 := (g15p2047 A n _ _).trans h6
    have h8 := (g15Qn A n _ _ _).trans h7
    have h9 := (blockK_hit 6 _ _).trans h8
    have h10 := (g15We A n (pth 9727) m _ _ _).trans h9
    have h11 := (g15Qe A n (pth 26111) _ _ _).trans h10
    have h12 := (g15p116223 A n _ _).trans h11
    have h13 := g15p50687 A n (g15Q A n (pth 26111) (g15W A n (pth 9727) m (blockK 6 (g15Q A n (pth 2047) (g15T kk))))) (g15R19s0 A x0 x1 x2 x3 x4 x5 x6 x7) (A.ic .lss x3 64) (by kernel_rfl)
    rw [h2, h12] at h13
    have h14 := (g15Qn A n _ _ _).trans h13
    have h15 := (g15F A n _ 19 _ ⟨[(7, (sL 5000 none x0 1)), (11, (i6 x1)), (12, (sL 18000 none x2 1)), (13, (i6 x3))], [(5000, ⟨[.ints .i64 x4 x5], 3, 2⟩), (18000, ⟨[.nums .u8 x6 x7], 5, 2⟩)]⟩ _ (by kernel_rfl) (by kernel_rfl)).trans (g15R19 A n (g15Q A n (pth 50687) (g15Q A n (pth 26111) (g15W A n (pth 9727) m (blockK 6 (g15Q A n (pth 2047) (g15T kk)))))) x0 x1 x2 x3 x4 x5 x6 x7)
    rw [h14] at h15
    have h16 := (g15p17919 A n _ _).trans h15
    have h17 := (g15p9727 A n _ _).trans h16
    exact (loopD_first (s' := ⟨[(7, (sL 5000 none x0 1)), (11, (i6 x1)), (12, (sL 18000 none x2 1)), (13, (i6 x3))], [(5000, ⟨[.ints .i64 x4 x5], 3, 2⟩), (18000, ⟨[.nums .u8 x6 x7], 5, 2⟩)]⟩) (id := 19) (by kernel_rfl) (h.trans (by kernel_rfl)) _).trans ((g15Vs A n _ m _ _).trans (h17.trans (by kernel_rfl)))
def g15J16 {R : Type} (A : Ar) (n : Nat) (kk : AV → Heap → Option R)  (x0 x1 : Nat) (x2 : List Int) : Option R :=
  match (generalizing := false) A.le 64 64 with
  | true => match (generalizing := false) A.le 64 140737488355328 with
    | true => g15L19 A n kk  n x0 0 64 0 x1 x2 64 (List.replicate 64 0)
    | false => none
  | false => none
set_option maxRecDepth 100000 in
theorem g15J16_eq {R : Type} (A : Ar) (n : Nat) (kk : AV → Heap → Option R)    (s : St) (x0 x1 : Nat) (x2 : List Int) (h : keep g15an 16 s = ⟨[(7, (sL 5000 none x0 1))], [(5000, ⟨[.ints .i64 x1 x2], 3, 2⟩)]⟩) :
    g15D A n (pth 255) (g15T kk) s = g15J16 A n kk  x0 x1 x2 := by
  have h1 := (g15p5631 A n _ _).trans (g15L19_eq A n kk    n (g15R18s0 A x0 0 64 x1 x2 64 (List.replicate 64 0)) x0 0 64 0 x1 x2 64 (List.replicate 64 0) (by kernel_rfl))
  have h2 := (g15p3583 A n _ _).trans h1
  have h3 := (g15Qn A n _ _ _).trans h2
  have h4 := (g15F A n _ 18 _ (g15R17s0 A x0 0 x1 x2) _ (by kernel_rfl) (by kernel_rfl)).trans (g15R18 A n (g15Q A n (pth 3583) (g15Q A n (pth 2047) (g15T kk))) x0 0 64 x1 x2 64 (List.replicate 64 0))
  rw [h3] at h4
  have h5 := (g15p1535 A n _ _).trans h4
  have h6 := (g15p1023 A n _ _).trans h5
  have h7 := (g15Qn A n _ _ _).trans h6
  have h8 := (g15F A n _ 17 _ (g15R16s0 A x0 x1 x2) _ (by kernel_rfl) (by kernel_rfl)).trans (g15R17 A n (g15Q A n (pth 1023) (g15T kk)) x0 0 x1 x2)
  rw [h7] at h8
  have h9 := (g15p511 A n _ _).trans h8
  have h10 := (g15Qn A n _ _ _).trans h9
  have h11 := (g15F A n _ 16 _ ⟨[(7, (sL 5000 none x0 1))], [(5000, ⟨[.ints .i64 x1 x2], 3, 2⟩)]⟩ _ (by kernel_rfl) (by kernel_rfl)).trans (g15R16 A n (g15Q A n (pth 511) (g15T kk)) x0 x1 x2)
  rw [h10] at h11
  have h12 := (g15p255 A n _ _).trans h11
  exact (g15F A n _ 16 _ _ ⟨[(7, (sL 5000 none x0 1))], [(5000, ⟨[.ints .i64 x1 x2], 3, 2⟩)]⟩ (by kernel_rfl) (h.trans (by kernel_rfl))).trans (h12.trans (by kernel_rfl))
def g15L13 {R : Type} (A : Ar) (n : Nat) (kk : AV → Heap → Option R)  : Nat → List Nat → Nat → Int → Nat → List Int → Option R
  | 0, _, _, _, _, _ => none
  | m + 1, x0, x1, x2, x3, x4 => match (generalizing := false) A.ic .lss x2 (A.ofN x0.length) with
  | true => g15J15 A n kk (g15L13 A n kk  m) x0 x1 x2 x3 x4
  | false => g15J16 A n kk  x1 x3 x4
set_option maxRecDepth 100000 in
theorem g15L13_eq {R : Type} (A : Ar) (n : Nat) (kk : AV → Heap → Option R)    (m : Nat) (s : St) (x0 : List Nat) (x1 : Nat) (x2 : Int) (x3 : Nat) (x4 : List Int) (h : keep g15an 13 s = ⟨[(2, (tS x0)), (7, (sL 5000 none x1 1)), (10, (i6 x2))], [(5000, ⟨[.ints .i64 x3 x4], 3, 2⟩)]⟩) :
    g15V A n (pth 1215) m (blockK 4 (g15Q A n (pth 255) (g15T kk))) s = g15L13 A n kk  m x0 x1 x2 x3 x4 := by
  induction m generalizing s x0 x1 x2 x3 x4 with
  | zero => rfl
  | succ m ih =>
    have h1 := (g15Qn A n _ _ _).trans (g15J15_eq A n kk m (g15L13 A n kk  m) ih  (g15R13s0 A x0 x1 x2 x3 x4) x0 x1 x2 x3 x4 (by kernel_rfl))
    have h2 := (g15p10431 A n _ _).trans h1
    have h3 := (g15Qn A n _ _ _).trans (g15J16_eq A n kk     (g15R13s0 A x0 x1 x2 x3 x4) x1 x3 x4 (by kernel_rfl))
    have h4 := (blockK_hit 4 _ _).trans h3
    have h5 := (g15We A n (pth 1215) m _ _ _).trans h4
    have h6 := (g15Qe A n (pth 3263) _ _ _).trans h5
    have h7 := (g15p14527 A n _ _).trans h6
    have h8 := g15p6335 A n (g15Q A n (pth 3263) (g15W A n (pth 1215) m (blockK 4 (g15Q A n (pth 255) (g15T kk))))) (g15R13s0 A x0 x1 x2 x3 x4) (A.ic .lss x2 (A.ofN x0.length)) (by kernel_rfl)
    rw [h2, h7] at h8
    have h9 := (g15Qn A n _ _ _).trans h8
    have h10 := (g15F A n _ 13 _ ⟨[(2, (tS x0)), (7, (sL 5000 none x1 1)), (10, (i6 x2))], [(5000, ⟨[.ints .i64 x3 x4], 3, 2⟩)]⟩ _ (by kernel_rfl) (by kernel_rfl)).trans (g15R13 A n (g15Q A n (pth 6335) (g15Q A n (pth 3263) (g15W A n (pth 1215) m (blockK 4 (g15Q A n (pth 255) (g15T kk)))))) x0 x1 x2 x3 x4)
    rw [h9] at h10
    have h11 := (g15p2239 A n _ _).trans h10
    have h12 := (g15p1215 A n _ _).trans h11
    exact (loopD_first (s' := ⟨[(2, (tS x0)), (7, (sL 5000 none x1 1)), (10, (i6 x2))], [(5000, ⟨[.ints .i64 x3 x4], 3, 2⟩)]⟩) (id := 13) (by kernel_rfl) (h.trans (by kernel_rfl)) _).trans ((g15Vs A n _ m _ _).trans (h12.trans (by kernel_rfl)))
def g15J12 {R : Type} (A : Ar) (n : Nat) (kk : AV → Heap → Option R)  (x0 : List Nat) (x1 x2 : Nat) (x3 : List Int) : Option R :=
  g15L13 A n kk  n x0 x1 0 x2 x3
set_option maxRecDepth 100000 in
theorem g15J12_eq {R : Type} (A : Ar) (n : Nat) (kk : AV → Heap → Option R)    (s : St) (x0 : List Nat) (x1 x2 : Nat) (x3 : List Int) (h : keep g15an 12 s = ⟨[(2, (tS x0)), (7, (sL 5000 none x1 1))], [(5000, ⟨[.ints .i64 x2 x3], 3, 2⟩)]⟩) :
    g15D A n (pth 127) (g15T kk) s = g15J12 A n kk  x0 x1 x2 x3 := by
  have h1 := (g15p703 A n _ _).trans (g15L13_eq A n kk    n (g15R12s0 A x0 x1 x2 x3) x0 x1 0 x2 x3 (by kernel_rfl))
  have h2 := (g15p447 A n _ _).trans h1
  have h3 := (g15Qn A n _ _ _).trans h2
  have h4 := (g15F A n _ 12 _ ⟨[(2, (tS x0)), (7, (sL 5000 none x1 1))], [(5000, ⟨[.ints .i64 x2 x3], 3, 2⟩)]⟩ _ (by kernel_rfl) (by kernel_rfl)).trans (g15R12 A n (g15Q A n (pth 447) (g15Q A n (pth 255) (g15T kk))) x0 x1 x2 x3)
  rw [h3] at h4
  have h5 := (g15p191 A n _ _).trans h4
  have h6 := (g15p127 A n _ _).trans h5
  exact (g15F A n _ 12 _ _ ⟨[(2, (tS x0)), (7, (sL 5000 none x1 1))], [(5000, ⟨[.ints .i64 x2 x3], 3, 2⟩)]⟩ (by kernel_rfl) (h.trans (by kernel_rfl))).trans (h6.trans (by kernel_rfl))
def g15L6 {R : Type} (A : Ar) (n : Nat) (kk : AV → Heap → Option R)  : Nat → List Nat → List Nat → List Nat → Nat → Int → Nat → List Int → Option R
  | 0, _, _, _, _, _, _, _ => none
  | m + 1, x0, x1, x2, x3, x4, x5, x6 => match (generalizing := false) A.ic .lss x4 (A.ofN x0.length) with
  | true => g15J8 A n kk (g15L6 A n kk  m) x0 x1 x2 x3 x4 x5 x6
  | false => g15J12 A n kk  x2 x3 x5 x6
set_option maxRecDepth 100000 in
theorem g15L6_eq {R : Type} (A : Ar) (n : Nat) (kk : AV → Heap → Option R)    (m : Nat) (s : St) (x0 x1 x2 : List Nat) (x3 : Nat) (x4 : Int) (x5 : Nat) (x6 : List Int) (h : keep g15an 6 s = ⟨[(0, (tS x0)), (1, (tS x1)), (2, (tS x2)), (7, (sL 5000 none x3 1)), (8, (i6 x4))], [(5000, ⟨[.ints .i64 x5 x6], 3, 2⟩)]⟩) :
    g15V A n (pth 607) m (blockK 0 (g15Q A n (pth 127) (g15T kk))) s = g15L6 A n kk  m x0 x1 x2 x3 x4 x5 x6 := by
  induction m generalizing s x0 x1 x2 x3 x4 x5 x6 with
  | zero => rfl
  | succ m ih =>
    have h1 := (g15Qn A n _ _ _).trans (g15J8_eq A n kk m (g15L6 A n kk  m) ih  (g15R6s0 A x0 x1 x2 x3 x4 x5 x6) x0 x1 x2 x3 x4 x5 x6 (by kernel_rfl))
    have h2 := (g15p5215 A n _ _).trans h1
    have h3 := (g15Qn A n _ _ _).trans (g15J12_eq A n kk     (g15R6s0 A x0 x1 x2 x3 x4 x5 x6) x2 x3 x5 x6 (by kernel_rfl))
    have h4 := (blockK_hit 0 _ _).trans h3
    have h5 := (g15We A n (pth 607) m _ _ _).trans h4
    have h6 := (g15Qe A n (pth 1631) _ _ _).trans h5
    have h7 := (g15p7263 A n _ _).trans h6
    have h8 := g15p3167 A n (g15Q A n (pth 1631) (g15W A n (pth 607) m (blockK 0 (g15Q A n (pth 127) (g15T kk))))) (g15R6s0 A x0 x1 x2 x3 x4 x5 x6) (A.ic .lss x4 (A.ofN x0.length)) (by kernel_rfl)
    rw [h2, h7] at h8
    have h9 := (g15Qn A n _ _ _).trans h8
    have h10 := (g15F A n _ 6 _ ⟨[(0, (tS x0)), (1, (tS x1)), (2, (tS x2)), (7, (sL 5000 none x3 1)), (8, (i6 x4))], [(5000, ⟨[.ints .i64 x5 x6], 3, 2⟩)]⟩ _ (by kernel_rfl) (by kernel_rfl)).trans (g15R6 A n (g15Q A n (pth 3167) (g15Q A n (pth 1631) (g15W A n (pth 607) m (blockK 0 (g15Q A n (pth 127) (g15T kk)))))) x0 x1 x2 x3 x4 x5 x6)
    rw [h9] at h10
    have h11 := (g15p1119 A n _ _).trans h10
    have h12 := (g15p607 A n _ _).trans h11
    exact (loopD_first (s' := ⟨[(0, (tS x0)), (1, (tS x1)), (2, (tS x2)), (7, (sL 5000 none x3 1)), (8, (i6 x4))], [(5000, ⟨[.ints .i64 x5 x6], 3, 2⟩)]⟩) (id := 6) (by kernel_rfl) (h.trans (by kernel_rfl)) _).trans ((g15Vs A n _ m _ _).trans (h12.trans (by kernel_rfl)))
def g15 {R : Type} (A : Ar) (n : Nat) (kk : AV → Heap → Option R) (a b c : List Nat) : Option R :=
  match (generalizing := false) A.neg (A.mn (A.ofN a.length) 32) with
  | true => none
  | false => match (generalizing := false) A.le (A.toN (A.mn (A.ofN a.length) 32)) a.length with
    | true => match (generalizing := false) A.neg (A.mn (A.ofN b.length) 32) with
      | true => none
      | false => match (generalizing := false) A.le (A.toN (A.mn (A.ofN b.length) 32)) b.length with
        | true => match (generalizing := false) A.neg (A.mn (A.ofN c.length) 32) with
          | true => none
          | false => match (generalizing := false) A.le (A.toN (A.mn (A.ofN c.length) 32)) c.length with
            | true => match (generalizing := false) A.le 64 64 with
              | true => match (generalizing := false) A.le 512 140737488355328 with
                | true => g15L6 A n kk  n ((a.take (A.toN (A.mn (A.ofN a.length) 32))).drop 0) ((b.take (A.toN (A.mn (A.ofN b.length) 32))).drop 0) ((c.take (A.toN (A.mn (A.ofN c.length) 32))).drop 0) 64 0 64 (List.replicate 64 0)
                | false => none
              | false => none
            | false => none
        | false => none
    | false => none
set_option maxRecDepth 100000 in
theorem g15_eq {R : Type} (A : Ar) (n : Nat) (kk : AV → Heap → Option R) (a b c : List Nat) :
    funD A gtys (g15O A) g15an n (bodyOf Try.f15) g15res [(tS a), (tS b), (tS c)] [] kk = g15 A n kk a b c := by
  have h1 := (g15p351 A n _ _).trans (g15L6_eq A n kk    n (g15R5s0 A ((a.take (A.toN (A.mn (A.ofN a.length) 32))).drop 0) ((b.take (A.toN (A.mn (A.ofN b.length) 32))).drop 0) ((c.take (A.toN (A.mn (A.ofN c.length) 32))).drop 0) 64 64 (List.replicate 64 0)) ((a.take (A.toN (A.mn (A.ofN a.length) 32))).drop 0) ((b.take (A.toN (A.mn (A.ofN b.length) 32))).drop 0) ((c.take (A.toN (A.mn (A.ofN c.length) 32))).drop 0) 64 0 64 (List.replicate 64 0) (by kernel_rfl))
  have h2 := (g15p223 A n _ _).trans h1
  have h3 := (g15Qn A n _ _ _).trans h2
  have h4 := (g15F A n _ 5 _ (g15R4s0 A ((a.take (A.toN (A.mn (A.ofN a.length) 32))).drop 0) ((b.take (A.toN (A.mn (A.ofN b.length) 32))).drop 0) ((c.take (A.toN (A.mn (A.ofN c.length) 32))).drop 0)) _ (by kernel_rfl) (by kernel_rfl)).trans (g15R5 A n (g15Q A n (pth 223) (g15Q A n (pth 127) (g15T kk))) ((a.take (A.toN (A.mn (A.ofN a.length) 32))).drop 0) ((b.take (A.toN (A.mn (A.ofN b.length) 32))).drop 0) ((c.take (A.toN (A.mn (A.ofN c.length) 32))).drop 0) 64 64 (List.replicate 64 0))
  rw [h3] at h4
  have h5 := (g15p95 A n _ _).trans h4
  have h6 := (g15p63 A n _ _).trans h5
  have h7 := (g15Qn A n _ _ _).trans h6
  have h8 := (g15F A n _ 4 _ (g15R3s0 A ((a.take (A.toN (A.mn (A.ofN a.length) 32))).drop 0) ((b.take (A.toN (A.mn (A.ofN b.length) 32))).drop 0) c) _ (by kernel_rfl) (by kernel_rfl)).trans (g15R4 A n (g15Q A n (pth 63) (g15T kk)) ((a.take (A.toN (A.mn (A.ofN a.length) 32))).drop 0) ((b.take (A.toN (A.mn (A.ofN b.length) 32))).drop 0) ((c.take (A.toN (A.mn (A.ofN c.length) 32))).drop 0))
  rw [h7] at h8
  have h9 := (g15p31 A n _ _).trans h8
  have h10 := (g15Qn A n _ _ _).trans h9
  have h11 := (g15F A n _ 3 _ (g15R2s0 A ((a.take (A.toN (A.mn (A.ofN a.length) 32))).drop 0) b c) _ (by kernel_rfl) (by kernel_rfl)).trans (g15R3 A n (g15Q A n (pth 31) (g15T kk)) ((a.take (A.toN (A.mn (A.ofN a.length) 32))).drop 0) ((b.take (A.toN (A.mn (A.ofN b.length) 32))).drop 0) c)
  rw [h10] at h11
  have h12 := (g15p15 A n _ _).trans h11
  have h13 := (g15Qn A n _ _ _).trans h12
  have h14 := (g15F A n _ 2 _ (g15R1s0 A a b c) _ (by kernel_rfl) (by kernel_rfl)).trans (g15R2 A n (g15Q A n (pth 15) (g15T kk)) ((a.take (A.toN (A.mn (A.ofN a.length) 32))).drop 0) b c)
  rw [h13] at h14
  have h15 := (g15p7 A n _ _).trans h14
  have h16 := (g15Qn A n _ _ _).trans h15
  have h17 := (g15F A n _ 1 _ (g15R0s0 A a b c) _ (by kernel_rfl) (by kernel_rfl)).trans (g15R1 A n (g15Q A n (pth 7) (g15T kk)) a b c)
  rw [h16] at h17
  have h18 := (g15p3 A n _ _).trans h17
  have h19 := (g15Qn A n _ _ _).trans h18
  have h20 := (g15F A n _ 0 _ ⟨[(0, (tS a)), (1, (tS b)), (2, (tS c))], []⟩ _ (by kernel_rfl) (by kernel_rfl)).trans (g15R0 A n (g15Q A n (pth 3) (g15T kk)) a b c)
  rw [h19] at h20
  have h21 := (g15p1 A n _ _).trans h20
  exact (show funD A gtys (g15O A) g15an n (bodyOf Try.f15) g15res [(tS a), (tS b), (tS c)] [] kk = g15D A n (pth 1) (g15T kk) ⟨[(0, (tS a)), (1, (tS b)), (2, (tS c))], []⟩ from by kernel_rfl).trans (h21.trans (by kernel_rfl))
def g15is (o : Option AV) : Bool := match o with
  | some (.v (.cell (.str _))) => true
  | _ => false
def g15g0 (o : Option AV) : List Nat := match o with
  | some (.v (.cell (.str x))) => x
  | _ => []
theorem g15is_spec {o : Option AV} (h : g15is o = true) : o = some (.v (.cell (.str (g15g0 o)))) := by
  unfold g15is at h
  split at h
  · rfl
  · cases h
def g15v (A : Ar) (a b c : List Nat) : Option AV := g15 A (100000) (fun v _ => some v) a b c
def g15ok (A : Ar) (a b c : List Nat) : Bool := g15is (g15v A a b c)
def g15r0 (A : Ar) (a b c : List Nat) : List Nat := g15g0 (g15v A a b c)
theorem g15ok_spec {A : Ar} {a b c} (h : g15ok A a b c = true) : g15v A a b c = some (.v (.cell (.str (g15r0 A a b c)))) := g15is_spec h
def g15o (A : Ar) (args : List AV) : Option (Bool × AV) := match args with
  | [.v (.cell (.str a)), .v (.cell (.str b)), .v (.cell (.str c))] => some (g15ok A a b c, .v (.cell (.str (g15r0 A a b c))))
  | _ => none
theorem g15o_sound : ∀ args v, g15o realA args = some (true, v) → Fn1 Try.prog 15 args v := by
  intro args v h
  unfold g15o at h
  split at h
  · rename_i a b c
    simp only [Option.some.injEq, Prod.mk.injEq] at h
    obtain ⟨hc, h⟩ := h
    subst h
    · skip
      exact fn1_of mixed gtysOK g15O_sound g15O_det (an := g15an) (n := 100000) Try.func15 (c := bodyOf Try.f15) rfl (by kernel_rfl) Try.call15 (Nat.le_of_ble_eq_true rfl) (fun b => rfl) (fun _ => (g15_eq realA (100000) (fun v _ => some v) a b c).trans (show g15v realA a b c = _ from g15ok_spec hc))
  · cases h
def g3O (A : Ar) : Orc := orcOf [(9, g9o A), (10, g10o A), (11, g11o A), (12, g12o A), (13, g13o A), (14, g14o A), (15, g15o A)]
theorem g3O_sound : OSound Try.prog (g3O realA) := orc_sound fun f g hm args v hv => by
  simp only [List.mem_cons, List.not_mem_nil, or_false, Prod.mk.injEq] at hm
  rcases hm with ⟨rfl, rfl⟩ | ⟨rfl, rfl⟩ | ⟨rfl, rfl⟩ | ⟨rfl, rfl⟩ | ⟨rfl, rfl⟩ | ⟨rfl, rfl⟩ | ⟨rfl, rfl⟩
  · exact g9o_sound _ _ hv
  · exact g10o_sound _ _ hv
  · exact g11o_sound _ _ hv
  · exact g12o_sound _ _ hv
  · exact g13o_sound _ _ hv
  · exact g14o_sound _ _ hv
  · exact g15o_sound _ _ hv
theorem g3O_det : ODet (g3O realA) := orc_det _
def g3an : Ann := [(0, ([0, 1, 2], [])), (1, ([0, 1, 2], [])), (2, ([0, 1, 2, 7], [])), (3, ([], [])), (4, ([0, 1, 2, 7], [])), (5, ([0, 1, 2, 7], [])), (6, ([0, 1, 2, 7], [])), (7, ([0, 1, 2, 7], []))]
def g3res : List ResultVar := [.tmp 6]
abbrev g3t0 (A : Ar) (x0 x1 x2 : List Nat) : List Nat := g14r0 A ((x0.take (A.toN (A.mn (A.ofN x0.length) 80))).drop 0) ((x1.take (A.toN (A.mn (A.ofN x1.length) 80))).drop 0) ((x2.take (A.toN (A.mn (A.ofN x2.length) 80))).drop 0)
abbrev g3t1 (A : Ar) (x0 x1 x2 : List Nat) : List Nat := g15r0 A ((x0.take (A.toN (A.mn (A.ofN x0.length) 80))).drop 0) ((x1.take (A.toN (A.mn (A.ofN x1.length) 80))).drop 0) ((x2.take (A.toN (A.mn (A.ofN x2.length) 80))).drop 0)
noncomputable def g3D {R : Type} (A : Ar) (n : Nat) (p : List Bool) (K : Ex → St → Option R) (s : St) : Option R := codeD A gtys (g3O A) g3an n (sub (bodyOf Try.f3) p) K s
noncomputable def g3Q {R : Type} (A : Ar) (n : Nat) (p : List Bool) (K : Ex → St → Option R) : Ex → St → Option R := seqC (g3D A n p K) K
noncomputable def g3T {R : Type} (kk : AV → Heap → Option R) : Ex → St → Option R := finD gtys g3res kk
theorem g3Qn {R : Type} (A : Ar) (n : Nat) (p : List Bool) (K : Ex → St → Option R) (s : St) : g3Q A n p K .normal s = g3D A n p K s := rfl
theorem g3Qr {R : Type} (A : Ar) (n : Nat) (p : List Bool) (K : Ex → St → Option R) (s : St) : g3Q A n p K .ret s = K .ret s := rfl
theorem g3F {R : Type} (A : Ar) (n : Nat) (p : List Bool) (i : Nat) (K : Ex → St → Option R) (s s' : St) (hf : firstReg (sub (bodyOf Try.f3) p) = some i) (h : keep g3an i s = keep g3an i s') : g3D A n p K s = g3D A n p K s' := codeD_first hf h K
section
variable {R : Type} (A : Ar) (n : Nat) (K : Ex → St → Option R) (s : St)
theorem g3p1 : g3D A n (pth 1) K s = g3D A n (pth 2) (g3Q A n (pth 3) K) s := by kernel_rfl
theorem g3p3 : g3D A n (pth 3) K s = g3D A n (pth 5) (g3Q A n (pth 7) K) s := by kernel_rfl
theorem g3p7 : g3D A n (pth 7) K s = g3D A n (pth 11) (g3Q A n (pth 15) K) s := by kernel_rfl
theorem g3p11 : g3D A n (pth 11) K s = g3D A n (pth 19) (g3Q A n (pth 27) K) s := by kernel_rfl
theorem g3p27 (t : Bool) : ev s (.tmp 10) = some (.v (.cell (.bool t))) → g3D A n (pth 27) K s = (match t with
    | true => g3D A n (pth 43) K s
    | false => g3D A n (pth 59) K s) := codeD_cond t
theorem g3p43 : g3D A n (pth 43) K s = g3D A n (pth 75) (g3Q A n (pth 107) K) s := by kernel_rfl
theorem g3p107 : g3D A n (pth 107) K s = K .ret s := by kernel_rfl
theorem g3p59 : g3D A n (pth 59) K s = K .normal s := by kernel_rfl
theorem g3p15 : g3D A n (pth 15) K s = g3D A n (pth 23) (g3Q A n (pth 31) K) s := by kernel_rfl
theorem g3p31 : g3D A n (pth 31) K s = g3D A n (pth 47) (g3Q A n (pth 63) K) s := by kernel_rfl
theorem g3p63 : g3D A n (pth 63) K s = g3D A n (pth 95) (g3Q A n (pth 127) K) s := by kernel_rfl
theorem g3p127 : g3D A n (pth 127) K s = g3D A n (pth 191) (g3Q A n (pth 255) K) s := by kernel_rfl
theorem g3p255 : g3D A n (pth 255) K s = K .ret s := by kernel_rfl
def g3R4s0 (A : Ar) (x0 x1 x2 : List Nat) (x3 : Bool) : St := ⟨[(0, (tS ((x0.take (A.toN (A.mn (A.ofN x0.length) 80))).drop 0))), (15, (tS ((x0.take (A.toN (A.mn (A.ofN x0.length) 80))).drop 0))), (14, (i6 (A.mn (A.ofN x0.length) 80))), (13, (i6 (A.ofN x0.length))), (12, (tS x0)), (11, (tS x0)), (0, (tS x0)), (1, (tS x1)), (2, (tS x2)), (7, (bO x3))], []⟩
theorem g3R4 (x0 x1 x2 : List Nat) (x3 : Bool) : g3D A n (pth 23) K ⟨[(0, (tS x0)), (1, (tS x1)), (2, (tS x2)), (7, (bO x3))], []⟩ = match (generalizing := false) A.neg (A.mn (A.ofN x0.length) 80) with
    | true => none
    | false => match (generalizing := false) A.le (A.toN (A.mn (A.ofN x0.length) 80)) x0.length with
      | true => K .normal (g3R4s0 A x0 x1 x2 x3)
      | false => none := by kernel_rfl
def g3R5s0 (A : Ar) (x0 x1 x2 : List Nat) (x3 : Bool) : St := ⟨[(1, (tS ((x1.take (A.toN (A.mn (A.ofN x1.length) 80))).drop 0))), (20, (tS ((x1.take (A.toN (A.mn (A.ofN x1.length) 80))).drop 0))), (19, (i6 (A.mn (A.ofN x1.length) 80))), (18, (i6 (A.ofN x1.length))), (17, (tS x1)), (16, (tS x1)), (0, (tS x0)), (1, (tS x1)), (2, (tS x2)), (7, (bO x3))], []⟩
theorem g3R5 (x0 x1 x2 : List Nat) (x3 : Bool) : g3D A n (pth 47) K ⟨[(0, (tS x0)), (1, (tS x1)), (2, (tS x2)), (7, (bO x3))], []⟩ = match (generalizing := false) A.neg (A.mn (A.ofN x1.length) 80) with
    | true => none
    | false => match (generalizing := false) A.le (A.toN (A.mn (A.ofN x1.length) 80)) x1.length with
      | true => K .normal (g3R5s0 A x0 x1 x2 x3)
      | false => none := by kernel_rfl
def g3R6s0 (A : Ar) (x0 x1 x2 : List Nat) (x3 : Bool) : St := ⟨[(2, (tS ((x2.take (A.toN (A.mn (A.ofN x2.length) 80))).drop 0))), (25, (tS ((x2.take (A.toN (A.mn (A.ofN x2.length) 80))).drop 0))), (24, (i6 (A.mn (A.ofN x2.length) 80))), (23, (i6 (A.ofN x2.length))), (22, (tS x2)), (21, (tS x2)), (0, (tS x0)), (1, (tS x1)), (2, (tS x2)), (7, (bO x3))], []⟩
theorem g3R6 (x0 x1 x2 : List Nat) (x3 : Bool) : g3D A n (pth 95) K ⟨[(0, (tS x0)), (1, (tS x1)), (2, (tS x2)), (7, (bO x3))], []⟩ = match (generalizing := false) A.neg (A.mn (A.ofN x2.length) 80) with
    | true => none
    | false => match (generalizing := false) A.le (A.toN (A.mn (A.ofN x2.length) 80)) x2.length with
      | true => K .normal (g3R6s0 A x0 x1 x2 x3)
      | false => none := by kernel_rfl
def g3R7s0 (A : Ar) (x0 x1 x2 : List Nat) (x3 : Bool) : St := ⟨[(6, (bO (A.sc .eql (g14r0 A x0 x1 x2) (g15r0 A x0 x1 x2)))), (51, (bO (A.sc .eql (g14r0 A x0 x1 x2) (g15r0 A x0 x1 x2)))), (50, (bO (A.sc .eql (g14r0 A x0 x1 x2) (g15r0 A x0 x1 x2)))), (49, (tS (g15r0 A x0 x1 x2))), (48, (tS x2)), (47, (tS x1)), (46, (tS x0)), (45, (tS (g14r0 A x0 x1 x2))), (44, (tS x2)), (43, (tS x1)), (42, (tS x0)), (41, (bO true)), (40, (bO ((g12r0 A x0) == (g13r0 A x0)))), (39, (bO ((g12r0 A x0) == (g13r0 A x0)))), (38, (bO (g13r0 A x0))), (37, (tS x0)), (36, (bO (g12r0 A x0))), (35, (tS x0)), (34, (bO true)), (33, (bO (A.sc .eql (g10r0 A x0) (g11r0 A x0)))), (32, (bO (A.sc .eql (g10r0 A x0) (g11r0 A x0)))), (31, (tS (g11r0 A x0))), (30, (tS x0)), (29, (tS (g10r0 A x0))), (28, (tS x0)), (27, (bO true)), (26, (bO x3)), (0, (tS x0)), (1, (tS x1)), (2, (tS x2)), (7, (bO x3))], []⟩
def g3R7s1 (A : Ar) (x0 x1 x2 : List Nat) (x3 : Bool) : St := ⟨[(6, (bO false)), (51, (bO false)), (50, uN), (49, uN), (48, uN), (47, uN), (46, uN), (45, uN), (44, uN), (43, uN), (42, uN), (41, (bO false)), (40, (bO ((g12r0 A x0) == (g13r0 A x0)))), (39, (bO ((g12r0 A x0) == (g13r0 A x0)))), (38, (bO (g13r0 A x0))), (37, (tS x0)), (36, (bO (g12r0 A x0))), (35, (tS x0)), (34, (bO true)), (33, (bO (A.sc .eql (g10r0 A x0) (g11r0 A x0)))), (32, (bO (A.sc .eql (g10r0 A x0) (g11r0 A x0)))), (31, (tS (g11r0 A x0))), (30, (tS x0)), (29, (tS (g10r0 A x0))), (28, (tS x0)), (27, (bO true)), (26, (bO x3)), (0, (tS x0)), (1, (tS x1)), (2, (tS x2)), (7, (bO x3))], []⟩
def g3R7s2 (A : Ar) (x0 x1 x2 : List Nat) (x3 : Bool) : St := ⟨[(6, (bO false)), (51, (bO false)), (50, uN), (49, uN), (48, uN), (47, uN), (46, uN), (45, uN), (44, uN), (43, uN), (42, uN), (41, (bO false)), (40, (bO false)), (39, uN), (38, uN), (37, uN), (36, uN), (35, uN), (34, (bO false)), (33, (bO (A.sc .eql (g10r0 A x0) (g11r0 A x0)))), (32, (bO (A.sc .eql (g10r0 A x0) (g11r0 A x0)))), (31, (tS (g11r0 A x0))), (30, (tS x0)), (29, (tS (g10r0 A x0))), (28, (tS x0)), (27, (bO true)), (26, (bO x3)), (0, (tS x0)), (1, (tS x1)), (2, (tS x2)), (7, (bO x3))], []⟩
def g3R7s3 (A : Ar) (x0 x1 x2 : List Nat) (x3 : Bool) : St := ⟨[(6, (bO false)), (51, (bO false)), (50, uN), (49, uN), (48, uN), (47, uN), (46, uN), (45, uN), (44, uN), (43, uN), (42, uN), (41, (bO false)), (40, (bO false)), (39, uN), (38, uN), (37, uN), (36, uN), (35, uN), (34, (bO false)), (33, (bO false)), (32, uN), (31, uN), (30, uN), (29, uN), (28, uN), (27, (bO false)), (26, (bO x3)), (0, (tS x0)), (1, (tS x1)), (2, (tS x2)), (7, (bO x3))], []⟩
theorem g3R7 (x0 x1 x2 : List Nat) (x3 : Bool) : g3D A n (pth 191) K ⟨[(0, (tS x0)), (1, (tS x1)), (2, (tS x2)), (7, (bO x3))], []⟩ = match (generalizing := false) x3 with
    | true => match (generalizing := false) g10ok A x0 with
      | true => match (generalizing := false) g11ok A x0 with
        | true => match (generalizing := false) A.sc .eql (g10r0 A x0) (g11r0 A x0) with
          | true => match (generalizing := false) g12ok A x0 with
            | true => match (generalizing := false) g13ok A x0 with
              | true => match (generalizing := false) (g12r0 A x0) == (g13r0 A x0) with
                | true => match (generalizing := false) g14ok A x0 x1 x2 with
                  | true => match (generalizing := false) g15ok A x0 x1 x2 with
                    | true => K .normal (g3R7s0 A x0 x1 x2 x3)
                    | false => none
                  | false => none
                | false => K .normal (g3R7s1 A x0 x1 x2 x3)
              | false => none
            | false => none
          | false => K .normal (g3R7s2 A x0 x1 x2 x3)
        | false => none
      | false => none
    | false => K .normal (g3R7s3 A x0 x1 x2 x3) := by kernel_rfl
def g3R0s0 (A : Ar) (x0 x1 x2 : List Nat) : St := ⟨[(6, (bO false)), (0, (tS x0)), (1, (tS x1)), (2, (tS x2))], []⟩
theorem g3R0 (x0 x1 x2 : List Nat) : g3D A n (pth 2) K ⟨[(0, (tS x0)), (1, (tS x1)), (2, (tS x2))], []⟩ = K .normal (g3R0s0 A x0 x1 x2) := by kernel_rfl
def g3R1s0 (A : Ar) (x0 x1 x2 : List Nat) : St := ⟨[(7, (bO (g9r0 A))), (8, (bO (g9r0 A))), (0, (tS x0)), (1, (tS x1)), (2, (tS x2))], []⟩
theorem g3R1 (x0 x1 x2 : List Nat) : g3D A n (pth 5) K ⟨[(0, (tS x0)), (1, (tS x1)), (2, (tS x2))], []⟩ = match (generalizing := false) g9ok A with
    | true => K .normal (g3R1s0 A x0 x1 x2)
    | false => none := by kernel_rfl
def g3R2s0 (A : Ar) (x0 x1 x2 : List Nat) (x3 : Bool) : St := ⟨[(10, (bO (!x3))), (9, (bO x3)), (0, (tS x0)), (1, (tS x1)), (2, (tS x2)), (7, (bO x3))], []⟩
theorem g3R2 (x0 x1 x2 : List Nat) (x3 : Bool) : g3D A n (pth 19) K ⟨[(0, (tS x0)), (1, (tS x1)), (2, (tS x2)), (7, (bO x3))], []⟩ = K .normal (g3R2s0 A x0 x1 x2 x3) := by kernel_rfl
def g3R3s0 (A : Ar)  : St := ⟨[(6, (bO false))], []⟩
theorem g3R3 : g3D A n (pth 75) K ⟨[], []⟩ = K .normal (g3R3s0 A) := by kernel_rfl
end
def g3J4 {R : Type} (A : Ar) (n : Nat) (kk : AV → Heap → Option R)  (x0 x1 x2 : List Nat) (x3 : Bool) : Option R :=
  match (generalizing := false) A.neg (A.mn (A.ofN x0.length) 80) with
  | true => none
  | false => match (generalizing := false) A.le (A.toN (A.mn (A.ofN x0.length) 80)) x0.length with
    | true => match (generalizing := false) A.neg (A.mn (A.ofN x1.length) 80) with
      | true => none
      | false => match (generalizing := false) A.le (A.toN (A.mn (A.ofN x1.length) 80)) x1.length with
        | true => match (generalizing := false) A.neg (A.mn (A.ofN x2.length) 80) with
          | true => none
          | false => match (generalizing := false) A.le (A.toN (A.mn (A.ofN x2.length) 80)) x2.length with
            | true => match (generalizing := false) x3 with
              | true => match (generalizing := false) g10ok A ((x0.take (A.toN (A.mn (A.ofN x0.length) 80))).drop 0) with
                | true => match (generalizing := false) g11ok A ((x0.take (A.toN (A.mn (A.ofN x0.length) 80))).drop 0) with
                  | true => match (generalizing := false) A.sc .eql (g10r0 A ((x0.take (A.toN (A.mn (A.ofN x0.length) 80))).drop 0)) (g11r0 A ((x0.take (A.toN (A.mn (A.ofN x0.length) 80))).drop 0)) with
                    | true => match (generalizing := false) g12ok A ((x0.take (A.toN (A.mn (A.ofN x0.length) 80))).drop 0) with
                      | true => match (generalizing := false) g13ok A ((x0.take (A.toN (A.mn (A.ofN x0.length) 80))).drop 0) with
                        | true => match (generalizing := false) (g12r0 A ((x0.take (A.toN (A.mn (A.ofN x0.length) 80))).drop 0)) == (g13r0 A ((x0.take (A.toN (A.mn (A.ofN x0.length) 80))).drop 0)) with
                          | true => match (generalizing := false) g14ok A ((x0.take (A.toN (A.mn (A.ofN x0.length) 80))).drop 0) ((x1.take (A.toN (A.mn (A.ofN x1.length) 80))).drop 0) ((x2.take (A.toN (A.mn (A.ofN x2.length) 80))).drop 0) with
                            | true => match (generalizing := false) g15ok A ((x0.take (A.toN (A.mn (A.ofN x0.length) 80))).drop 0) ((x1.take (A.toN (A.mn (A.ofN x1.length) 80))).drop 0) ((x2.take (A.toN (A.mn (A.ofN x2.length) 80))).drop 0) with
                              | true => kk (bO (A.sc .eql (g3t0 A x0 x1 x2) (g3t1 A x0 x1 x2))) []
                              | false => none
                            | false => none
                          | false => kk (bO false) []
                        | false => none
                      | false => none
                    | false => kk (bO false) []
                  | false => none
                | false => none
              | false => kk (bO false) []
            | false => none
        | false => none
    | false => none
set_option maxRecDepth 100000 in
theorem g3J4_eq {R : Type} (A : Ar) (n : Nat) (kk : AV → Heap → Option R)    (s : St) (x0 x1 x2 : List Nat) (x3 : Bool) (h : keep g3an 4 s = ⟨[(0, (tS x0)), (1, (tS x1)), (2, (tS x2)), (7, (bO x3))], []⟩) :
    g3D A n (pth 15) (g3T kk) s = g3J4 A n kk  x0 x1 x2 x3 := by
  have h1 : (g3T kk) .ret (g3R7s0 A ((x0.take (A.toN (A.mn (A.ofN x0.length) 80))).drop 0) ((x1.take (A.toN (A.mn (A.ofN x1.length) 80))).drop 0) ((x2.take (A.toN (A.mn (A.ofN x2.length) 80))).drop 0) x3) = kk (bO (A.sc .eql (g3t0 A x0 x1 x2) (g3t1 A x0 x1 x2))) [] := by kernel_rfl
  have h2 := (g3p255 A n _ _).trans h1
  have h3 := (g3Qn A n _ _ _).trans h2
  have h4 : (g3T kk) .ret (g3R7s1 A ((x0.take (A.toN (A.mn (A.ofN x0.length) 80))).drop 0) ((x1.take (A.toN (A.mn (A.ofN x1.length) 80))).drop 0) ((x2.take (A.toN (A.mn (A.ofN x2.length) 80))).drop 0) x3) = kk (bO false) [] := by kernel_rfl
  have h5 := (g3p255 A n _ _).trans h4
  have h6 := (g3Qn A n _ _ _).trans h5
  have h7 : (g3T kk) .ret (g3R7s2 A ((x0.take (A.toN (A.mn (A.ofN x0.length) 80))).drop 0) ((x1.take (A.toN (A.mn (A.ofN x1.length) 80))).drop 0) ((x2.take (A.toN (A.mn (A.ofN x2.length) 80))).drop 0) x3) = kk (bO false) [] := by kernel_rfl
  have h8 := (g3p255 A n _ _).trans h7
  have h9 := (g3Qn A n _ _ _).trans h8
  have h10 : (g3T kk) .ret (g3R7s3 A ((x0.take (A.toN (A.mn (A.ofN x0.length) 80))).drop 0) ((x1.take (A.toN (A.mn (A.ofN x1.length) 80))).drop 0) ((x2.take (A.toN (A.mn (A.ofN x2.length) 80))).drop 0) x3) = kk (bO false) [] := by kernel_rfl
  have h11 := (g3p255 A n _ _).trans h10
  have h12 := (g3Qn A n _ _ _).trans h11
  have h13 := (g3F A n _ 7 _ (g3R6s0 A ((x0.take (A.toN (A.mn (A.ofN x0.length) 80))).drop 0) ((x1.take (A.toN (A.mn (A.ofN x1.length) 80))).drop 0) x2 x3) _ (by kernel_rfl) (by kernel_rfl)).trans (g3R7 A n (g3Q A n (pth 255) (g3T kk)) ((x0.take (A.toN (A.mn (A.ofN x0.length) 80))).drop 0) ((x1.take (A.toN (A.mn (A.ofN x1.length) 80))).drop 0) ((x2.take (A.toN (A.mn (A.ofN x2.length) 80))).drop 0) x3)
  rw [h3, h6, h9, h12] at h13
  have h14 := (g3p127 A n _ _).trans h13
  have h15 := (g3Qn A n _ _ _).trans h14
  have h16 := (g3F A n _ 6 _ (g3R5s0 A ((x0.take (A.toN (A.mn (A.ofN x0.length) 80))).drop 0) x1 x2 x3) _ (by kernel_rfl) (by kernel_rfl)).trans (g3R6 A n (g3Q A n (pth 127) (g3T kk)) ((x0.take (A.toN (A.mn (A.ofN x0.length) 80))).drop 0) ((x1.take (A.toN (A.mn (A.ofN x1.length) 80))).drop 0) x2 x3)
  rw [h15] at h16
  have h17 := (g3p63 A n _ _).trans h16
  have h18 := (g3Qn A n _ _ _).trans h17
  have h19 := (g3F A n _ 5 _ (g3R4s0 A x0 x1 x2 x3) _ (by kernel_rfl) (by kernel_rfl)).trans (g3R5 A n (g3Q A n (pth 63) (g3T kk)) ((x0.take (A.toN (A.mn (A.ofN x0.length) 80))).drop 0) x1 x2 x3)
  rw [h18] at h19
  have h20 := (g3p31 A n _ _).trans h19
  have h21 := (g3Qn A n _ _ _).trans h20
  have h22 := (g3F A n _ 4 _ ⟨[(0, (tS x0)), (1, (tS x1)), (2, (tS x2)), (7, (bO x3))], []⟩ _ (by kernel_rfl) (by kernel_rfl)).trans (g3R4 A n (g3Q A n (pth 31) (g3T kk)) x0 x1 x2 x3)
  rw [h21] at h22
  have h23 := (g3p15 A n _ _).trans h22
  exact (g3F A n _ 4 _ _ ⟨[(0, (tS x0)), (1, (tS x1)), (2, (tS x2)), (7, (bO x3))], []⟩ (by kernel_rfl) (h.trans (by kernel_rfl))).trans (h23.trans (by kernel_rfl))
def g3 {R : Type} (A : Ar) (n : Nat) (kk : AV → Heap → Option R) (a b c : List Nat) : Option R :=
  match (generalizing := false) g9ok A with
  | true => match (generalizing := false) !(g9r0 A) with
    | true => kk (bO false) []
    | false => g3J4 A n kk  a b c (g9r0 A)
  | false => none
set_option maxRecDepth 100000 in
theorem g3_eq {R : Type} (A : Ar) (n : Nat) (kk : AV → Heap → Option R) (a b c : List Nat) :
    funD A gtys (g3O A) g3an n (bodyOf Try.f3) g3res [(tS a), (tS b), (tS c)] [] kk = g3 A n kk a b c := by
  have h1 : (g3T kk) .ret (g3R3s0 A) = kk (bO false) [] := by kernel_rfl
  have h2 := (g3Qr A n (pth 15) _ _).trans h1
  have h3 := (g3p107 A n _ _).trans h2
  have h4 := (g3Qn A n _ _ _).trans h3
  have h5 := (g3F A n _ 3 _ (g3R2s0 A a b c (g9r0 A)) _ (by kernel_rfl) (by kernel_rfl)).trans (g3R3 A n (g3Q A n (pth 107) (g3Q A n (pth 15) (g3T kk))) )
  rw [h4] at h5
  have h6 := (g3p43 A n _ _).trans h5
  have h7 := (g3Qn A n _ _ _).trans (g3J4_eq A n kk     (g3R2s0 A a b c (g9r0 A)) a b c (g9r0 A) (by kernel_rfl))
  have h8 := (g3p59 A n _ _).trans h7
  have h9 := g3p27 A n (g3Q A n (pth 15) (g3T kk)) (g3R2s0 A a b c (g9r0 A)) (!(g9r0 A)) (by kernel_rfl)
  rw [h6, h8] at h9
  have h10 := (g3Qn A n _ _ _).trans h9
  have h11 := (g3F A n _ 2 _ (g3R1s0 A a b c) _ (by kernel_rfl) (by kernel_rfl)).trans (g3R2 A n (g3Q A n (pth 27) (g3Q A n (pth 15) (g3T kk))) a b c (g9r0 A))
  rw [h10] at h11
  have h12 := (g3p11 A n _ _).trans h11
  have h13 := (g3p7 A n _ _).trans h12
  have h14 := (g3Qn A n _ _ _).trans h13
  have h15 := (g3F A n _ 1 _ (g3R0s0 A a b c) _ (by kernel_rfl) (by kernel_rfl)).trans (g3R1 A n (g3Q A n (pth 7) (g3T kk)) a b c)
  rw [h14] at h15
  have h16 := (g3p3 A n _ _).trans h15
  have h17 := (g3Qn A n _ _ _).trans h16
  have h18 := (g3F A n _ 0 _ ⟨[(0, (tS a)), (1, (tS b)), (2, (tS c))], []⟩ _ (by kernel_rfl) (by kernel_rfl)).trans (g3R0 A n (g3Q A n (pth 3) (g3T kk)) a b c)
  rw [h17] at h18
  have h19 := (g3p1 A n _ _).trans h18
  exact (show funD A gtys (g3O A) g3an n (bodyOf Try.f3) g3res [(tS a), (tS b), (tS c)] [] kk = g3D A n (pth 1) (g3T kk) ⟨[(0, (tS a)), (1, (tS b)), (2, (tS c))], []⟩ from by kernel_rfl).trans (h19.trans (by kernel_rfl))
def g3is (o : Option AV) : Bool := match o with
  | some (.v (.cell (.bool _))) => true
  | _ => false
def g3g0 (o : Option AV) : Bool := match o with
  | some (.v (.cell (.bool x))) => x
  | _ => false
theorem g3is_spec {o : Option AV} (h : g3is o = true) : o = some (.v (.cell (.bool (g3g0 o)))) := by
  unfold g3is at h
  split at h
  · rfl
  · cases h
def g3v (A : Ar) (a b c : List Nat) : Option AV := g3 A (100000) (fun v _ => some v) a b c
def g3ok (A : Ar) (a b c : List Nat) : Bool := g3is (g3v A a b c)
def g3r0 (A : Ar) (a b c : List Nat) : Bool := g3g0 (g3v A a b c)
theorem g3ok_spec {A : Ar} {a b c} (h : g3ok A a b c = true) : g3v A a b c = some (.v (.cell (.bool (g3r0 A a b c)))) := g3is_spec h
def g3o (A : Ar) (args : List AV) : Option (Bool × AV) := match args with
  | [.v (.cell (.str a)), .v (.cell (.str b)), .v (.cell (.str c))] => some (g3ok A a b c, .v (.cell (.bool (g3r0 A a b c))))
  | _ => none
theorem g3o_sound : ∀ args v, g3o realA args = some (true, v) → Fn1 Try.prog 3 args v := by
  intro args v h
  unfold g3o at h
  split at h
  · rename_i a b c
    simp only [Option.some.injEq, Prod.mk.injEq] at h
    obtain ⟨hc, h⟩ := h
    subst h
    · skip
      exact fn1_of mixed gtysOK g3O_sound g3O_det (an := g3an) (n := 100000) Try.func3 (c := bodyOf Try.f3) rfl (by kernel_rfl) Try.call3 (Nat.le_of_ble_eq_true rfl) (fun b => rfl) (fun _ => (g3_eq realA (100000) (fun v _ => some v) a b c).trans (show g3v realA a b c = _ from g3ok_spec hc))
  · cases h
end Go.Sx
