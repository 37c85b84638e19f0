import Derived.Test.YtaiehobmadflkaaSxR02c
namespace Go.Sx
open Go.Proofs
set_option linter.unusedVariables false
set_option maxRecDepth 100000
theorem SxR02dmt {α : Type} {c : Bool} (h : c = true) (a b : α) : (match (generalizing := false) c with | true => a | false => b) = a := by subst h; rfl
def g24O (A : Ar) : Orc := orcOf [(22, g22o A)]
theorem g24O_sound : OSound Try.prog (g24O realA) := orc_sound fun f g hm args v hv => by
  simp only [List.mem_cons, List.not_mem_nil, or_false, Prod.mk.injEq] at hm
  rcases hm with ⟨rfl, rfl⟩
  · exact g22o_sound _ _ hv
theorem g24O_det : ODet (g24O realA) := orc_det _
def g24an : Ann := [(0, ([0, 1, 2], [])), (1, ([1, 2, 3, 6], [1000, 1001])), (2, ([3, 6, 7], [1000, 1001])), (3, ([3, 6, 7, 8], [1000, 1001]))]
def g24res : List ResultVar := [.cell 6 40]
noncomputable def g24D {R : Type} (A : Ar) (n : Nat) (p : List Bool) (K : Ex → St → Option R) (s : St) : Option R := codeD A gtys (g24O A) g24an n (sub (bodyOf Try.f24) p) K s
noncomputable def g24Q {R : Type} (A : Ar) (n : Nat) (p : List Bool) (K : Ex → St → Option R) : Ex → St → Option R := seqC (g24D A n p K) K
noncomputable def g24T {R : Type} (kk : KK R) : Ex → St → Option R := finD gtys g24res kk
theorem g24Qn {R : Type} (A : Ar) (n : Nat) (p : List Bool) (K : Ex → St → Option R) (s : St) : g24Q A n p K .normal s = g24D A n p K s := rfl
theorem g24F {R : Type} (A : Ar) (n : Nat) (p : List Bool) (i : Nat) (K : Ex → St → Option R) (s s' : St) (hf : firstReg (sub (bodyOf Try.f24) p) = some i) (h : keep g24an i s = keep g24an i s') : g24D A n p K s = g24D A n p K s' := codeD_first hf h K
section
variable {R : Type} (A : Ar) (n : Nat) (K : Ex → St → Option R) (s : St)
theorem g24p1 : g24D A n (pth 1) K s = g24D A n (pth 2) (g24Q A n (pth 3) K) s := by kernel_rfl
theorem g24p3 : g24D A n (pth 3) K s = g24D A n (pth 5) (g24Q A n (pth 7) K) s := by kernel_rfl
theorem g24p7 : g24D A n (pth 7) K s = g24D A n (pth 11) (g24Q A n (pth 15) K) s := by kernel_rfl
theorem g24p15 : g24D A n (pth 15) K s = g24D A n (pth 23) (g24Q A n (pth 31) K) s := by kernel_rfl
theorem g24p31 : g24D A n (pth 31) K s = K .ret s := by kernel_rfl
def g24R0s0 (A : Ar) (x0 : LN) (x1 x2 : Nat) : St := ⟨[(6, pT 1001 0), (3, pT 1000 0), (0, aN .u64 8 x0), (1, u64v x1), (2, u64v x2)], [(1001, bU 8 [0, 0, 0, 0, 0, 0, 0, 0] 40), (1000, bU 8 x0 40)]⟩
theorem g24R0 (x0 : LN) (x1 x2 : Nat) : g24D A n (pth 2) K ⟨[(0, aN .u64 8 x0), (1, u64v x1), (2, u64v x2)], []⟩ = K .normal (g24R0s0 A x0 x1 x2) := by kernel_rfl
def g24R1s0 (A : Ar) (x0 x1 : Nat) (x2 x3 : LN) : St := ⟨[(7, u64v (A.nb .add .u64 (A.nb .add .u64 (A.nb .add .u64 (A.nb .add .u64 (x2.getD 7 0) (A.nb .xor .u64 (A.nb .xor .u64 (g22r0 A (x2.getD 4 0) 14) (g22r0 A (x2.getD 4 0) 18)) (g22r0 A (x2.getD 4 0) 41))) (A.nb .xor .u64 (A.nb .and .u64 (x2.getD 4 0) (x2.getD 5 0)) (A.nb .and .u64 (A.nb .xor .u64 18446744073709551615 (x2.getD 4 0)) (x2.getD 6 0)))) x0) x1)), (39, u64v (A.nb .add .u64 (A.nb .add .u64 (A.nb .add .u64 (A.nb .add .u64 (x2.getD 7 0) (A.nb .xor .u64 (A.nb .xor .u64 (g22r0 A (x2.getD 4 0) 14) (g22r0 A (x2.getD 4 0) 18)) (g22r0 A (x2.getD 4 0) 41))) (A.nb .xor .u64 (A.nb .and .u64 (x2.getD 4 0) (x2.getD 5 0)) (A.nb .and .u64 (A.nb .xor .u64 18446744073709551615 (x2.getD 4 0)) (x2.getD 6 0)))) x0) x1)), (38, u64v x1), (37, u64v (A.nb .add .u64 (A.nb .add .u64 (A.nb .add .u64 (x2.getD 7 0) (A.nb .xor .u64 (A.nb .xor .u64 (g22r0 A (x2.getD 4 0) 14) (g22r0 A (x2.getD 4 0) 18)) (g22r0 A (x2.getD 4 0) 41))) (A.nb .xor .u64 (A.nb .and .u64 (x2.getD 4 0) (x2.getD 5 0)) (A.nb .and .u64 (A.nb .xor .u64 18446744073709551615 (x2.getD 4 0)) (x2.getD 6 0)))) x0)), (36, u64v x0), (35, u64v (A.nb .add .u64 (A.nb .add .u64 (x2.getD 7 0) (A.nb .xor .u64 (A.nb .xor .u64 (g22r0 A (x2.getD 4 0) 14) (g22r0 A (x2.getD 4 0) 18)) (g22r0 A (x2.getD 4 0) 41))) (A.nb .xor .u64 (A.nb .and .u64 (x2.getD 4 0) (x2.getD 5 0)) (A.nb .and .u64 (A.nb .xor .u64 18446744073709551615 (x2.getD 4 0)) (x2.getD 6 0))))), (34, u64v (A.nb .xor .u64 (A.nb .and .u64 (x2.getD 4 0) (x2.getD 5 0)) (A.nb .and .u64 (A.nb .xor .u64 18446744073709551615 (x2.getD 4 0)) (x2.getD 6 0)))), (33, u64v (A.nb .and .u64 (A.nb .xor .u64 18446744073709551615 (x2.getD 4 0)) (x2.getD 6 0))), (32, u64v (x2.getD 6 0)), (31, pT 1000 6), (30, u64v (A.nb .xor .u64 18446744073709551615 (x2.getD 4 0))), (29, u64v (x2.getD 4 0)), (28, pT 1000 4), (27, u64v (A.nb .and .u64 (x2.getD 4 0) (x2.getD 5 0))), (26, u64v (x2.getD 5 0)), (25, pT 1000 5), (24, u64v (x2.getD 4 0)), (23, pT 1000 4), (22, u64v (A.nb .add .u64 (x2.getD 7 0) (A.nb .xor .u64 (A.nb .xor .u64 (g22r0 A (x2.getD 4 0) 14) (g22r0 A (x2.getD 4 0) 18)) (g22r0 A (x2.getD 4 0) 41)))), (21, u64v (A.nb .xor .u64 (A.nb .xor .u64 (g22r0 A (x2.getD 4 0) 14) (g22r0 A (x2.getD 4 0) 18)) (g22r0 A (x2.getD 4 0) 41))), (20, u64v (g22r0 A (x2.getD 4 0) 41)), (19, u64v (x2.getD 4 0)), (18, pT 1000 4), (17, u64v (A.nb .xor .u64 (g22r0 A (x2.getD 4 0) 14) (g22r0 A (x2.getD 4 0) 18))), (16, u64v (g22r0 A (x2.getD 4 0) 18)), (15, u64v (x2.getD 4 0)), (14, pT 1000 4), (13, u64v (g22r0 A (x2.getD 4 0) 14)), (12, u64v (x2.getD 4 0)), (11, pT 1000 4), (10, u64v (x2.getD 7 0)), (9, pT 1000 7), (1, u64v x0), (2, u64v x1), (3, pT 1000 0), (6, pT 1001 0)], [(1000, bU 8 x2 40), (1001, bU 8 x3 40)]⟩
theorem g24R1 (x0 x1 : Nat) (x2 x3 : LN) : g24D A n (pth 5) K ⟨[(1, u64v x0), (2, u64v x1), (3, pT 1000 0), (6, pT 1001 0)], [(1000, bU 8 x2 40), (1001, bU 8 x3 40)]⟩ = match g22ok A (x2.getD 4 0) 14 with
    | true => match g22ok A (x2.getD 4 0) 18 with
      | true => match g22ok A (x2.getD 4 0) 41 with
        | true => K .normal (g24R1s0 A x0 x1 x2 x3)
        | false => none
      | false => none
    | false => none := by kernel_rfl
def g24R2s0 (A : Ar) (x0 : Nat) (x1 x2 : LN) : St := ⟨[(8, u64v (A.nb .add .u64 (A.nb .xor .u64 (A.nb .xor .u64 (g22r0 A (x1.getD 0 0) 28) (g22r0 A (x1.getD 0 0) 34)) (g22r0 A (x1.getD 0 0) 39)) (A.nb .xor .u64 (A.nb .xor .u64 (A.nb .and .u64 (x1.getD 0 0) (x1.getD 1 0)) (A.nb .and .u64 (x1.getD 0 0) (x1.getD 2 0))) (A.nb .and .u64 (x1.getD 1 0) (x1.getD 2 0))))), (68, u64v (A.nb .add .u64 (A.nb .xor .u64 (A.nb .xor .u64 (g22r0 A (x1.getD 0 0) 28) (g22r0 A (x1.getD 0 0) 34)) (g22r0 A (x1.getD 0 0) 39)) (A.nb .xor .u64 (A.nb .xor .u64 (A.nb .and .u64 (x1.getD 0 0) (x1.getD 1 0)) (A.nb .and .u64 (x1.getD 0 0) (x1.getD 2 0))) (A.nb .and .u64 (x1.getD 1 0) (x1.getD 2 0))))), (67, u64v (A.nb .xor .u64 (A.nb .xor .u64 (A.nb .and .u64 (x1.getD 0 0) (x1.getD 1 0)) (A.nb .and .u64 (x1.getD 0 0) (x1.getD 2 0))) (A.nb .and .u64 (x1.getD 1 0) (x1.getD 2 0)))), (66, u64v (A.nb .and .u64 (x1.getD 1 0) (x1.getD 2 0))), (65, u64v (x1.getD 2 0)), (64, pT 1000 2), (63, u64v (x1.getD 1 0)), (62, pT 1000 1), (61, u64v (A.nb .xor .u64 (A.nb .and .u64 (x1.getD 0 0) (x1.getD 1 0)) (A.nb .and .u64 (x1.getD 0 0) (x1.getD 2 0)))), (60, u64v (A.nb .and .u64 (x1.getD 0 0) (x1.getD 2 0))), (59, u64v (x1.getD 2 0)), (58, pT 1000 2), (57, u64v (x1.getD 0 0)), (56, pT 1000 0), (55, u64v (A.nb .and .u64 (x1.getD 0 0) (x1.getD 1 0))), (54, u64v (x1.getD 1 0)), (53, pT 1000 1), (52, u64v (x1.getD 0 0)), (51, pT 1000 0), (50, u64v (A.nb .xor .u64 (A.nb .xor .u64 (g22r0 A (x1.getD 0 0) 28) (g22r0 A (x1.getD 0 0) 34)) (g22r0 A (x1.getD 0 0) 39))), (49, u64v (g22r0 A (x1.getD 0 0) 39)), (48, u64v (x1.getD 0 0)), (47, pT 1000 0), (46, u64v (A.nb .xor .u64 (g22r0 A (x1.getD 0 0) 28) (g22r0 A (x1.getD 0 0) 34))), (45, u64v (g22r0 A (x1.getD 0 0) 34)), (44, u64v (x1.getD 0 0)), (43, pT 1000 0), (42, u64v (g22r0 A (x1.getD 0 0) 28)), (41, u64v (x1.getD 0 0)), (40, pT 1000 0), (3, pT 1000 0), (6, pT 1001 0), (7, u64v x0)], [(1000, bU 8 x1 40), (1001, bU 8 x2 40)]⟩
theorem g24R2 (x0 : Nat) (x1 x2 : LN) : g24D A n (pth 11) K ⟨[(3, pT 1000 0), (6, pT 1001 0), (7, u64v x0)], [(1000, bU 8 x1 40), (1001, bU 8 x2 40)]⟩ = match g22ok A (x1.getD 0 0) 28 with
    | true => match g22ok A (x1.getD 0 0) 34 with
      | true => match g22ok A (x1.getD 0 0) 39 with
        | true => K .normal (g24R2s0 A x0 x1 x2)
        | false => none
      | false => none
    | false => none := by kernel_rfl
def g24R3s0 (A : Ar) (x0 x1 : Nat) (x2 x3 : LN) : St := ⟨[(88, aN .u64 8 (((((((([0, 0, 0, 0, 0, 0, 0, 0].set 0 (A.nb .add .u64 x0 x1)).set 1 (x2.getD 0 0)).set 2 (x2.getD 1 0)).set 3 (x2.getD 2 0)).set 4 (A.nb .add .u64 (x2.getD 3 0) x0)).set 5 (x2.getD 4 0)).set 6 (x2.getD 5 0)).set 7 (x2.getD 6 0))), (87, u64v (x2.getD 6 0)), (86, pT 1000 6), (85, u64v (x2.getD 5 0)), (84, pT 1000 5), (83, u64v (x2.getD 4 0)), (82, pT 1000 4), (81, u64v (A.nb .add .u64 (x2.getD 3 0) x0)), (80, u64v x0), (79, u64v (x2.getD 3 0)), (78, pT 1000 3), (77, u64v (x2.getD 2 0)), (76, pT 1000 2), (75, u64v (x2.getD 1 0)), (74, pT 1000 1), (73, u64v (x2.getD 0 0)), (72, pT 1000 0), (71, u64v (A.nb .add .u64 x0 x1)), (70, u64v x1), (69, u64v x0), (3, pT 1000 0), (6, pT 1001 0), (7, u64v x0), (8, u64v x1)], [(1000, bU 8 x2 40), (1001, bU 8 (((((((([0, 0, 0, 0, 0, 0, 0, 0].set 0 (A.nb .add .u64 x0 x1)).set 1 (x2.getD 0 0)).set 2 (x2.getD 1 0)).set 3 (x2.getD 2 0)).set 4 (A.nb .add .u64 (x2.getD 3 0) x0)).set 5 (x2.getD 4 0)).set 6 (x2.getD 5 0)).set 7 (x2.getD 6 0)) 40)]⟩
theorem g24R3 (x0 x1 : Nat) (x2 x3 : LN) : g24D A n (pth 23) K ⟨[(3, pT 1000 0), (6, pT 1001 0), (7, u64v x0), (8, u64v x1)], [(1000, bU 8 x2 40), (1001, bU 8 x3 40)]⟩ = K .normal (g24R3s0 A x0 x1 x2 x3) := by kernel_rfl
end
def g24 {R : Type} (A : Ar) (n : Nat) (kk : KK R) (a : LN) (b c : Nat) : Option R :=
  match g22ok A (a.getD 4 0) 14 with
  | true => match g22ok A (a.getD 4 0) 18 with
    | true => match g22ok A (a.getD 4 0) 41 with
      | true => match g22ok A (a.getD 0 0) 28 with
        | true => match g22ok A (a.getD 0 0) 34 with
          | true => match g22ok A (a.getD 0 0) 39 with
            | true => kk (aN .u64 8 (((((((([0, 0, 0, 0, 0, 0, 0, 0].set 0 (A.nb .add .u64 (A.nb .add .u64 (A.nb .add .u64 (A.nb .add .u64 (A.nb .add .u64 (a.getD 7 0) (A.nb .xor .u64 (A.nb .xor .u64 (g22r0 A (a.getD 4 0) 14) (g22r0 A (a.getD 4 0) 18)) (g22r0 A (a.getD 4 0) 41))) (A.nb .xor .u64 (A.nb .and .u64 (a.getD 4 0) (a.getD 5 0)) (A.nb .and .u64 (A.nb .xor .u64 18446744073709551615 (a.getD 4 0)) (a.getD 6 0)))) b) c) (A.nb .add .u64 (A.nb .xor .u64 (A.nb .xor .u64 (g22r0 A (a.getD 0 0) 28) (g22r0 A (a.getD 0 0) 34)) (g22r0 A (a.getD 0 0) 39)) (A.nb .xor .u64 (A.nb .xor .u64 (A.nb .and .u64 (a.getD 0 0) (a.getD 1 0)) (A.nb .and .u64 (a.getD 0 0) (a.getD 2 0))) (A.nb .and .u64 (a.getD 1 0) (a.getD 2 0)))))).set 1 (a.getD 0 0)).set 2 (a.getD 1 0)).set 3 (a.getD 2 0)).set 4 (A.nb .add .u64 (a.getD 3 0) (A.nb .add .u64 (A.nb .add .u64 (A.nb .add .u64 (A.nb .add .u64 (a.getD 7 0) (A.nb .xor .u64 (A.nb .xor .u64 (g22r0 A (a.getD 4 0) 14) (g22r0 A (a.getD 4 0) 18)) (g22r0 A (a.getD 4 0) 41))) (A.nb .xor .u64 (A.nb .and .u64 (a.getD 4 0) (a.getD 5 0)) (A.nb .and .u64 (A.nb .xor .u64 18446744073709551615 (a.getD 4 0)) (a.getD 6 0)))) b) c))).set 5 (a.getD 4 0)).set 6 (a.getD 5 0)).set 7 (a.getD 6 0))) [(1000, bU 8 a 40), (1001, bU 8 (((((((([0, 0, 0, 0, 0, 0, 0, 0].set 0 (A.nb .add .u64 (A.nb .add .u64 (A.nb .add .u64 (A.nb .add .u64 (A.nb .add .u64 (a.getD 7 0) (A.nb .xor .u64 (A.nb .xor .u64 (g22r0 A (a.getD 4 0) 14) (g22r0 A (a.getD 4 0) 18)) (g22r0 A (a.getD 4 0) 41))) (A.nb .xor .u64 (A.nb .and .u64 (a.getD 4 0) (a.getD 5 0)) (A.nb .and .u64 (A.nb .xor .u64 18446744073709551615 (a.getD 4 0)) (a.getD 6 0)))) b) c) (A.nb .add .u64 (A.nb .xor .u64 (A.nb .xor .u64 (g22r0 A (a.getD 0 0) 28) (g22r0 A (a.getD 0 0) 34)) (g22r0 A (a.getD 0 0) 39)) (A.nb .xor .u64 (A.nb .xor .u64 (A.nb .and .u64 (a.getD 0 0) (a.getD 1 0)) (A.nb .and .u64 (a.getD 0 0) (a.getD 2 0))) (A.nb .and .u64 (a.getD 1 0) (a.getD 2 0)))))).set 1 (a.getD 0 0)).set 2 (a.getD 1 0)).set 3 (a.getD 2 0)).set 4 (A.nb .add .u64 (a.getD 3 0) (A.nb .add .u64 (A.nb .add .u64 (A.nb .add .u64 (A.nb .add .u64 (a.getD 7 0) (A.nb .xor .u64 (A.nb .xor .u64 (g22r0 A (a.getD 4 0) 14) (g22r0 A (a.getD 4 0) 18)) (g22r0 A (a.getD 4 0) 41))) (A.nb .xor .u64 (A.nb .and .u64 (a.getD 4 0) (a.getD 5 0)) (A.nb .and .u64 (A.nb .xor .u64 18446744073709551615 (a.getD 4 0)) (a.getD 6 0)))) b) c))).set 5 (a.getD 4 0)).set 6 (a.getD 5 0)).set 7 (a.getD 6 0)) 40)]
            | false => none
          | false => none
        | false => none
      | false => none
    | false => none
  | false => none
abbrev u51 (A : Ar) (a : LN) (b : Nat) (c : Nat) := A.nb .add .u64 (A.nb .add .u64 (A.nb .add .u64 (A.nb .add .u64 (a.getD 7 0) (A.nb .xor .u64 (A.nb .xor .u64 (g22r0 A (a.getD 4 0) 14) (g22r0 A (a.getD 4 0) 18)) (g22r0 A (a.getD 4 0) 41))) (A.nb .xor .u64 (A.nb .and .u64 (a.getD 4 0) (a.getD 5 0)) (A.nb .and .u64 (A.nb .xor .u64 18446744073709551615 (a.getD 4 0)) (a.getD 6 0)))) b) c
abbrev u52 (A : Ar) (a : LN) := A.nb .add .u64 (A.nb .xor .u64 (A.nb .xor .u64 (g22r0 A (a.getD 0 0) 28) (g22r0 A (a.getD 0 0) 34)) (g22r0 A (a.getD 0 0) 39)) (A.nb .xor .u64 (A.nb .xor .u64 (A.nb .and .u64 (a.getD 0 0) (a.getD 1 0)) (A.nb .and .u64 (a.getD 0 0) (a.getD 2 0))) (A.nb .and .u64 (a.getD 1 0) (a.getD 2 0)))
abbrev u53 (A : Ar) (a : LN) (b : Nat) (c : Nat) := ((((((([0, 0, 0, 0, 0, 0, 0, 0].set 0 (A.nb .add .u64 (u51 A a b c) (u52 A a))).set 1 (a.getD 0 0)).set 2 (a.getD 1 0)).set 3 (a.getD 2 0)).set 4 (A.nb .add .u64 (a.getD 3 0) (u51 A a b c))).set 5 (a.getD 4 0)).set 6 (a.getD 5 0)).set 7 (a.getD 6 0)
theorem g24_eq {R : Type} (A : Ar) (n : Nat) (kk : KK R) (a : LN) (b c : Nat) :
    funD A gtys (g24O A) g24an n (bodyOf Try.f24) g24res [(aN .u64 8 a), (u64v b), (u64v c)] [] kk = g24 A n kk a b c := by
  have h1 : (g24T kk) .ret (g24R3s0 A (u51 A a b c) (u52 A a) a [0, 0, 0, 0, 0, 0, 0, 0]) = kk (aN .u64 8 (u53 A a b c)) [(1000, bU 8 a 40), (1001, bU 8 (u53 A a b c) 40)] := by kernel_rfl
  have h2 := (g24p31 A n _ _).trans h1
  have h3 := (g24Qn A n _ _ _).trans h2
  have h4 := (g24F A n _ 3 _ (g24R2s0 A (u51 A a b c) a [0, 0, 0, 0, 0, 0, 0, 0]) _ (by kernel_rfl) (by kernel_rfl)).trans (g24R3 A n (g24Q A n (pth 31) (g24T kk)) (u51 A a b c) (u52 A a) a [0, 0, 0, 0, 0, 0, 0, 0])
  rw [h3] at h4
  have h5 := (g24p15 A n _ _).trans h4
  have h6 := (g24Qn A n _ _ _).trans h5
  have h7 := (g24F A n _ 2 _ (g24R1s0 A b c a [0, 0, 0, 0, 0, 0, 0, 0]) _ (by kernel_rfl) (by kernel_rfl)).trans (g24R2 A n (g24Q A n (pth 15) (g24T kk)) (u51 A a b c) a [0, 0, 0, 0, 0, 0, 0, 0])
  rw [h6] at h7
  have h8 := (g24p7 A n _ _).trans h7
  have h9 := (g24Qn A n _ _ _).trans h8
  have h10 := (g24F A n _ 1 _ (g24R0s0 A a b c) _ (by kernel_rfl) (by kernel_rfl)).trans (g24R1 A n (g24Q A n (pth 7) (g24T kk)) b c a [0, 0, 0, 0, 0, 0, 0, 0])
  rw [h9] at h10
  have h11 := (g24p3 A n _ _).trans h10
  have h12 := (g24Qn A n _ _ _).trans h11
  have h13 := (g24F A n _ 0 _ ⟨[(0, aN .u64 8 a), (1, u64v b), (2, u64v c)], []⟩ _ (by kernel_rfl) (by kernel_rfl)).trans (g24R0 A n (g24Q A n (pth 3) (g24T kk)) a b c)
  rw [h12] at h13
  have h14 := (g24p1 A n _ _).trans h13
  exact (show funD A gtys (g24O A) g24an n (bodyOf Try.f24) g24res [(aN .u64 8 a), (u64v b), (u64v c)] [] kk = g24D A n (pth 1) (g24T kk) ⟨[(0, aN .u64 8 a), (1, u64v b), (2, u64v c)], []⟩ from by kernel_rfl).trans (h14.trans (by kernel_rfl))
def g24is (o : Option AV) : Bool := match o with
  | some (aN .u64 8 _) => true
  | _ => false
def g24g0 (o : Option AV) : LN := match o with
  | some (aN .u64 8 x) => x
  | _ => []
theorem g24is_spec {o : Option AV} (h : g24is o = true) : o = some (aN .u64 8 (g24g0 o)) := by
  unfold g24is at h
  split at h
  · rfl
  · cases h
def g24v (A : Ar) (a : LN) (b c : Nat) : Option AV := g24 A (100000) (fun v _ => some v) a b c
def g24ok (A : Ar) (a : LN) (b c : Nat) : Bool := g24is (g24v A a b c)
def g24r0 (A : Ar) (a : LN) (b c : Nat) : LN := g24g0 (g24v A a b c)
theorem g24ok_spec {A : Ar} {a b c} (h : g24ok A a b c = true) : g24v A a b c = some (aN .u64 8 (g24r0 A a b c)) := g24is_spec h
def g24o (A : Ar) (args : List AV) : Option (Bool × AV) := match args with
  | [.v (.agg [.nums .u64 n0 a]), .v (.cell (.nat .u64 b)), .v (.cell (.nat .u64 c))] => some (Nat.beq n0 8 && (g24ok A a b c), .v (.agg [.nums .u64 8 (g24r0 A a b c)]))
  | _ => none
theorem g24o_sound : ∀ args v, g24o realA args = some (true, v) → Fn1 Try.prog 24 args v := by
  intro args v h
  unfold g24o at h
  split at h
  · rename_i n0 a b c
    simp only [Option.some.injEq, Prod.mk.injEq] at h
    obtain ⟨hc, h⟩ := h
    subst h
    · skip
      simp only [Bool.and_eq_true] at hc
      have en0 := beq_true hc.1
      subst en0
      replace hc := hc.2
      exact fn1_of mixed gtysOK g24O_sound g24O_det (an := g24an) (n := 100000) Try.func24 (c := bodyOf Try.f24) rfl (by kernel_rfl) Try.call24 (Nat.le_of_ble_eq_true rfl) (fun b => rfl) (fun _ => (g24_eq realA (100000) (fun v _ => some v) a b c).trans (show g24v realA a b c = _ from g24ok_spec hc))
  · cases h
def g23O (A : Ar) : Orc := orcOf []
theorem g23O_sound : OSound Try.prog (g23O realA) := orc_sound fun f g hm args v hv => by
  cases hm
theorem g23O_det : ODet (g23O realA) := orc_det _
def g23an : Ann := [(0, ([], [])), (1, ([], []))]
def g23res : List ResultVar := [.tmp 0]
noncomputable def g23D {R : Type} (A : Ar) (n : Nat) (p : List Bool) (K : Ex → St → Option R) (s : St) : Option R := codeD A gtys (g23O A) g23an n (sub (bodyOf Try.f23) p) K s
noncomputable def g23Q {R : Type} (A : Ar) (n : Nat) (p : List Bool) (K : Ex → St → Option R) : Ex → St → Option R := seqC (g23D A n p K) K
noncomputable def g23T {R : Type} (kk : KK R) : Ex → St → Option R := finD gtys g23res kk
theorem g23Qn {R : Type} (A : Ar) (n : Nat) (p : List Bool) (K : Ex → St → Option R) (s : St) : g23Q A n p K .normal s = g23D A n p K s := rfl
theorem g23F {R : Type} (A : Ar) (n : Nat) (p : List Bool) (i : Nat) (K : Ex → St → Option R) (s s' : St) (hf : firstReg (sub (bodyOf Try.f23) p) = some i) (h : keep g23an i s = keep g23an i s') : g23D A n p K s = g23D A n p K s' := codeD_first hf h K
section
variable {R : Type} (A : Ar) (n : Nat) (K : Ex → St → Option R) (s : St)
theorem g23p1 : g23D A n (pth 1) K s = g23D A n (pth 2) (g23Q A n (pth 3) K) s := by kernel_rfl
theorem g23p3 : g23D A n (pth 3) K s = g23D A n (pth 5) (g23Q A n (pth 7) K) s := by kernel_rfl
theorem g23p7 : g23D A n (pth 7) K s = K .ret s := by kernel_rfl
def g23R0s0 (A : Ar) : St := ⟨[(0, sL 1000 none 0 1)], [(1000, ⟨[.nums .u64 0 []], 36, 2⟩)]⟩
theorem g23R0 : g23D A n (pth 2) K ⟨[], []⟩ = K .normal (g23R0s0 A) := by kernel_rfl
def g23R1s0 (A : Ar) : St := ⟨[(0, sL 2000 none 80 1), (1, sL 2000 none 80 1)], [(2000, ⟨[.nums .u64 80 [4794697086780616226, 8158064640168781261, 13096744586834688815, 16840607885511220156, 4131703408338449720, 6480981068601479193, 10538285296894168987, 12329834152419229976, 15566598209576043074, 1334009975649890238, 2608012711638119052, 6128411473006802146, 8268148722764581231, 9286055187155687089, 11230858885718282805, 13951009754708518548, 16472876342353939154, 17275323862435702243, 1135362057144423861, 2597628984639134821, 3308224258029322869, 5365058923640841347, 6679025012923562964, 8573033837759648693, 10970295158949994411, 12119686244451234320, 12683024718118986047, 13788192230050041572, 14330467153632333762, 15395433587784984357, 489312712824947311, 1452737877330783856, 2861767655752347644, 3322285676063803686, 5560940570517711597, 5996557281743188959, 7280758554555802590, 8532644243296465576, 9350256976987008742, 10552545826968843579, 11727347734174303076, 12113106623233404929, 14000437183269869457, 14369950271660146224, 15101387698204529176, 15463397548674623760, 17586052441742319658, 1182934255886127544, 1847814050463011016, 2177327727835720531, 2830643537854262169, 3796741975233480872, 4115178125766777443, 5681478168544905931, 6601373596472566643, 7507060721942968483, 8399075790359081724, 8693463985226723168, 9568029438360202098, 10144078919501101548, 10430055236837252648, 11840083180663258601, 13761210420658862357, 14299343276471374635, 14566680578165727644, 15097957966210449927, 16922976911328602910, 17689382322260857208, 500013540394364858, 748580250866718886, 1242879168328830382, 1977374033974150939, 2944078676154940804, 3659926193048069267, 4368137639120453308, 4836135668995329356, 5532061633213252278, 6448918945643986474, 6902733635092675308, 7801388544844847127]], 36, 2⟩)]⟩
theorem g23R1 : g23D A n (pth 5) K ⟨[], []⟩ = K .normal (g23R1s0 A) := by kernel_rfl
end
def g23 {R : Type} (A : Ar) (n : Nat) (kk : KK R) : Option R :=
  kk (sL 2000 none 80 1) [(2000, ⟨[.nums .u64 80 [4794697086780616226, 8158064640168781261, 13096744586834688815, 16840607885511220156, 4131703408338449720, 6480981068601479193, 10538285296894168987, 12329834152419229976, 15566598209576043074, 1334009975649890238, 2608012711638119052, 6128411473006802146, 8268148722764581231, 9286055187155687089, 11230858885718282805, 13951009754708518548, 16472876342353939154, 17275323862435702243, 1135362057144423861, 2597628984639134821, 3308224258029322869, 5365058923640841347, 6679025012923562964, 8573033837759648693, 10970295158949994411, 12119686244451234320, 12683024718118986047, 13788192230050041572, 14330467153632333762, 15395433587784984357, 489312712824947311, 1452737877330783856, 2861767655752347644, 3322285676063803686, 5560940570517711597, 5996557281743188959, 7280758554555802590, 8532644243296465576, 9350256976987008742, 10552545826968843579, 11727347734174303076, 12113106623233404929, 14000437183269869457, 14369950271660146224, 15101387698204529176, 15463397548674623760, 17586052441742319658, 1182934255886127544, 1847814050463011016, 2177327727835720531, 2830643537854262169, 3796741975233480872, 4115178125766777443, 5681478168544905931, 6601373596472566643, 7507060721942968483, 8399075790359081724, 8693463985226723168, 9568029438360202098, 10144078919501101548, 10430055236837252648, 11840083180663258601, 13761210420658862357, 14299343276471374635, 14566680578165727644, 15097957966210449927, 16922976911328602910, 17689382322260857208, 500013540394364858, 748580250866718886, 1242879168328830382, 1977374033974150939, 2944078676154940804, 3659926193048069267, 4368137639120453308, 4836135668995329356, 5532061633213252278, 6448918945643986474, 6902733635092675308, 7801388544844847127]], 36, 2⟩)]
theorem g23_eq {R : Type} (A : Ar) (n : Nat) (kk : KK R) :
    funD A gtys (g23O A) g23an n (bodyOf Try.f23) g23res [] [] kk = g23 A n kk := by
  have h1 : (g23T kk) .ret (g23R1s0 A) = kk (sL 2000 none 80 1) [(2000, ⟨[.nums .u64 80 [4794697086780616226, 8158064640168781261, 13096744586834688815, 16840607885511220156, 4131703408338449720, 6480981068601479193, 10538285296894168987, 12329834152419229976, 15566598209576043074, 1334009975649890238, 2608012711638119052, 6128411473006802146, 8268148722764581231, 9286055187155687089, 11230858885718282805, 13951009754708518548, 16472876342353939154, 17275323862435702243, 1135362057144423861, 2597628984639134821, 3308224258029322869, 5365058923640841347, 6679025012923562964, 8573033837759648693, 10970295158949994411, 12119686244451234320, 12683024718118986047, 13788192230050041572, 14330467153632333762, 15395433587784984357, 489312712824947311, 1452737877330783856, 2861767655752347644, 3322285676063803686, 5560940570517711597, 5996557281743188959, 7280758554555802590, 8532644243296465576, 9350256976987008742, 10552545826968843579, 11727347734174303076, 12113106623233404929, 14000437183269869457, 14369950271660146224, 15101387698204529176, 15463397548674623760, 17586052441742319658, 1182934255886127544, 1847814050463011016, 2177327727835720531, 2830643537854262169, 3796741975233480872, 4115178125766777443, 5681478168544905931, 6601373596472566643, 7507060721942968483, 8399075790359081724, 8693463985226723168, 9568029438360202098, 10144078919501101548, 10430055236837252648, 11840083180663258601, 13761210420658862357, 14299343276471374635, 14566680578165727644, 15097957966210449927, 16922976911328602910, 17689382322260857208, 500013540394364858, 748580250866718886, 1242879168328830382, 1977374033974150939, 2944078676154940804, 3659926193048069267, 4368137639120453308, 4836135668995329356, 5532061633213252278, 6448918945643986474, 6902733635092675308, 7801388544844847127]], 36, 2⟩)] := by kernel_rfl
  have h2 := (g23p7 A n _ _).trans h1
  have h3 := (g23Qn A n _ _ _).trans h2
  have h4 := (g23F A n _ 1 _ (g23R0s0 A) _ (by kernel_rfl) (by kernel_rfl)).trans (g23R1 A n (g23Q A n (pth 7) (g23T kk)) )
  rw [h3] at h4
  have h5 := (g23p3 A n _ _).trans h4
  have h6 := (g23Qn A n _ _ _).trans h5
  have h7 := (g23F A n _ 0 _ ⟨[], []⟩ _ (by kernel_rfl) (by kernel_rfl)).trans (g23R0 A n (g23Q A n (pth 3) (g23T kk)) )
  rw [h6] at h7
  have h8 := (g23p1 A n _ _).trans h7
  exact (show funD A gtys (g23O A) g23an n (bodyOf Try.f23) g23res [] [] kk = g23D A n (pth 1) (g23T kk) ⟨[], []⟩ from by kernel_rfl).trans (h8.trans (by kernel_rfl))
def g23is (o : Option (AV × Heap)) : Bool := match o with
  | some (.v (.cell (.sl n0 none _ n1)), [(n2, ⟨[.nums .u64 _ _], n3, n4⟩)]) => Nat.beq n0 700 && (Nat.beq n1 1 && (Nat.beq n2 700 && (Nat.beq n3 36 && (Nat.beq n4 2))))
  | _ => false
def g23g0 (o : Option (AV × Heap)) : Nat := match o with
  | some (.v (.cell (.sl _ none x _)), [(_, ⟨[.nums .u64 _ _], _, _⟩)]) => x
  | _ => 0
def g23g1 (o : Option (AV × Heap)) : Nat := match o with
  | some (.v (.cell (.sl _ none _ _)), [(_, ⟨[.nums .u64 x _], _, _⟩)]) => x
  | _ => 0
def g23g2 (o : Option (AV × Heap)) : LN := match o with
  | some (.v (.cell (.sl _ none _ _)), [(_, ⟨[.nums .u64 _ x], _, _⟩)]) => x
  | _ => []
theorem g23is_spec {o : Option (AV × Heap)} (h : g23is o = true) : o = some ((sL 700 none (g23g0 o) 1), [(700, ⟨[.nums .u64 (g23g1 o) (g23g2 o)], 36, 2⟩)]) := by
  unfold g23is at h
  split at h
  · rename_i n0 z1 n1 n2 z4 z5 n3 n4
    simp only [Bool.and_eq_true] at h
    have en0 := beq_true h.1
    subst en0
    replace h := h.2
    have en1 := beq_true h.1
    subst en1
    replace h := h.2
    have en2 := beq_true h.1
    subst en2
    replace h := h.2
    have en3 := beq_true h.1
    subst en3
    replace h := h.2
    have en4 := beq_true h
    subst en4
    rfl
  · cases h
def g23v (A : Ar) : Option (AV × Heap) := g23 A (100000) (outH [] none)
def g23ok (A : Ar) : Bool := g23is (g23v A)
def g23r0 (A : Ar) : Nat := g23g0 (g23v A)
def g23r1 (A : Ar) : Nat := g23g1 (g23v A)
def g23r2 (A : Ar) : LN := g23g2 (g23v A)
theorem g23ok_spec {A : Ar} (h : g23ok A = true) : g23v A = some ((sL 700 none (g23r0 A) 1), [(700, ⟨[.nums .u64 (g23r1 A) (g23r2 A)], 36, 2⟩)]) := g23is_spec h
def g23o (A : Ar) (args : List AV) (h : Heap) : Option (Bool × AV × Heap) := match args, h with
  | [], [] => some (g23ok A, (sL 700 none (g23r0 A) 1), [(700, ⟨[.nums .u64 (g23r1 A) (g23r2 A)], 36, 2⟩)])
  | _, _ => none
theorem g23o_sound : ∀ args h v h', g23o realA args h = some (true, v, h') → FnH Try.prog 23 args h v h' := by
  intro args h v h' hh
  unfold g23o at hh
  split at hh
  · simp only [Option.some.injEq, Prod.mk.injEq] at hh
    obtain ⟨hc, hv, hh⟩ := hh
    subst hv
    subst hh
    exact fnh_of mixed gtysOK g23O_sound g23O_det (an := g23an) (n := 100000) Try.func23 (c := bodyOf Try.f23) rfl (by kernel_rfl) Try.call23 (Nat.le_of_ble_eq_true rfl) (pins := []) (nilr := none) (fun _ => (g23_eq realA (100000) (outH [] none) ).trans (show g23v realA = _ from g23ok_spec hc))
  · cases hh
def g17O (A : Ar) : Orc := orcH [(22, g22o A), (24, g24o A)] [(23, ⟨[], none, (g23o A)⟩)]
theorem g17O_sound : OSound Try.prog (g17O realA) := orcH_sound (fun f g hm args v hv => by
    simp only [List.mem_cons, List.not_mem_nil, or_false, Prod.mk.injEq] at hm
    rcases hm with ⟨rfl, rfl⟩ | ⟨rfl, rfl⟩
    · exact g22o_sound _ _ hv
    · exact g24o_sound _ _ hv) (fun f e hm args h v h' hv => by
    simp only [List.mem_cons, List.not_mem_nil, or_false, Prod.mk.injEq] at hm
    rcases hm with ⟨rfl, rfl⟩
    · exact g23o_sound _ _ _ _ hv)
theorem g17O_det : ODet (g17O realA) := orcH_det _ _
def g17an : Ann := [(0, ([0, 1], [])), (1, ([1, 2, 4], [1000, 1001])), (2, ([1, 2, 4, 5], [1000, 1001, 2000])), (3, ([1, 2, 4, 5, 6], [1000, 1001, 2000])), (4, ([1, 2, 4, 5, 6], [1000, 1001, 2000])), (5, ([1, 2, 4, 5, 6], [1000, 1001, 2000])), (6, ([1, 2, 4, 5, 6, 7], [1000, 1001, 2000])), (7, ([1, 2, 4, 5, 6, 7, 8], [1000, 1001, 2000])), (8, ([1, 2, 4, 5, 6, 7, 8], [1000, 1001, 2000])), (9, ([1, 2, 4, 5, 6, 7, 8], [1000, 1001, 2000])), (10, ([1, 2, 4, 5, 6, 7], [1000, 1001, 2000])), (11, ([2, 4, 5], [1000, 1001, 2000])), (12, ([2, 4, 5, 9], [1000, 1001, 2000])), (13, ([2, 4, 5, 9], [1000, 1001, 2000])), (14, ([2, 4, 5, 9], [1000, 1001, 2000])), (15, ([2, 4, 5, 9, 10], [1000, 1001, 2000])), (16, ([2, 4, 5, 9, 10, 11], [1000, 1001, 2000])), (17, ([2, 4, 5], [1000, 1001, 2000])), (18, ([2, 4, 5, 12], [1000, 1001, 2000, 18000])), (19, ([2, 4, 5, 12, 13], [1000, 1001, 2000, 18000, 19001])), (20, ([2, 4, 5, 12, 13, 14], [1000, 1001, 2000, 18000, 19001])), (21, ([2, 4, 5, 12, 13, 14], [1000, 1001, 2000, 18000, 19001])), (22, ([2, 4, 5, 12, 13, 14], [1000, 1001, 2000, 18000, 19001])), (23, ([2, 4, 13], [1000, 1001, 19001]))]
def g17res : List ResultVar := [.cell 4 40]
noncomputable def g17D {R : Type} (A : Ar) (n : Nat) (p : List Bool) (K : Ex → St → Option R) (s : St) : Option R := codeD A gtys (g17O A) g17an n (sub (bodyOf Try.f17) p) K s
noncomputable def g17V {R : Type} (A : Ar) (n : Nat) (p : List Bool) (m : Nat) (K : Ex → St → Option R) (s : St) : Option R := loopD (fun K' s'' => codeD A gtys (g17O A) g17an n (sub (bodyOf Try.f17) p) K' s'') m K s
noncomputable def g17Q {R : Type} (A : Ar) (n : Nat) (p : List Bool) (K : Ex → St → Option R) : Ex → St → Option R := seqC (g17D A n p K) K
noncomputable def g17W {R : Type} (A : Ar) (n : Nat) (p : List Bool) (m : Nat) (K : Ex → St → Option R) : Ex → St → Option R := seqC (g17V A n p m K) K
noncomputable def g17T {R : Type} (kk : KK R) : Ex → St → Option R := finD gtys g17res kk
theorem g17Qn {R : Type} (A : Ar) (n : Nat) (p : List Bool) (K : Ex → St → Option R) (s : St) : g17Q A n p K .normal s = g17D A n p K s := rfl
theorem g17Qe {R : Type} (A : Ar) (n : Nat) (p : List Bool) (K : Ex → St → Option R) (i : Nat) (s : St) : g17Q A n p K (.exit i) s = K (.exit i) s := rfl
theorem g17Wn {R : Type} (A : Ar) (n : Nat) (p : List Bool) (m : Nat) (K : Ex → St → Option R) (s : St) : g17W A n p m K .normal s = g17V A n p m K s := rfl
theorem g17We {R : Type} (A : Ar) (n : Nat) (p : List Bool) (m : Nat) (K : Ex → St → Option R) (i : Nat) (s : St) : g17W A n p m K (.exit i) s = K (.exit i) s := rfl
theorem g17Vs {R : Type} (A : Ar) (n : Nat) (p : List Bool) (m : Nat) (K : Ex → St → Option R) (s : St) : g17V A n p (m + 1) K s = g17D A n p (g17W A n p m K) s := rfl
theorem g17F {R : Type} (A : Ar) (n : Nat) (p : List Bool) (i : Nat) (K : Ex → St → Option R) (s s' : St) (hf : firstReg (sub (bodyOf Try.f17) p) = some i) (h : keep g17an i s = keep g17an i s') : g17D A n p K s = g17D A n p K s' := codeD_first hf h K
section
variable {R : Type} (A : Ar) (n : Nat) (K : Ex → St → Option R) (s : St)
theorem g17p1 : g17D A n (pth 1) K s = g17D A n (pth 2) (g17Q A n (pth 3) K) s := by kernel_rfl
theorem g17p3 : g17D A n (pth 3) K s = g17D A n (pth 5) (g17Q A n (pth 7) K) s := by kernel_rfl
theorem g17p7 : g17D A n (pth 7) K s = g17D A n (pth 11) (g17Q A n (pth 15) K) s := by kernel_rfl
theorem g17p11 : g17D A n (pth 11) K s = g17D A n (pth 19) (g17Q A n (pth 27) K) s := by kernel_rfl
theorem g17p27 : g17D A n (pth 27) K s = g17D A n (pth 43) (blockK 0 K) s := by kernel_rfl
theorem g17p43 : g17D A n (pth 43) K s = g17V A n (pth 75) n K s := by kernel_rfl
theorem g17p75 : g17D A n (pth 75) K s = g17D A n (pth 139) (g17Q A n (pth 203) K) s := by kernel_rfl
theorem g17p139 : g17D A n (pth 139) K s = g17D A n (pth 267) (g17Q A n (pth 395) K) s := by kernel_rfl
theorem g17p395 (t : Bool) : ev s (.tmp 16) = some (.v (.cell (.bool t))) → g17D A n (pth 395) K s = (match t with
    | true => g17D A n (pth 651) K s
    | false => g17D A n (pth 907) K s) := codeD_cond t
theorem g17p651 : g17D A n (pth 651) K s = K .normal s := by kernel_rfl
theorem g17p907 : g17D A n (pth 907) K s = K (.exit 0) s := by kernel_rfl
theorem g17p203 : g17D A n (pth 203) K s = g17D A n (pth 331) (g17Q A n (pth 459) K) s := by kernel_rfl
theorem g17p331 : g17D A n (pth 331) K s = g17D A n (pth 587) (blockK 1 K) s := by kernel_rfl
theorem g17p587 : g17D A n (pth 587) K s = g17D A n (pth 1099) (g17Q A n (pth 1611) K) s := by kernel_rfl
theorem g17p1611 : g17D A n (pth 1611) K s = g17D A n (pth 2635) (g17Q A n (pth 3659) K) s := by kernel_rfl
theorem g17p2635 : g17D A n (pth 2635) K s = g17D A n (pth 4683) (g17Q A n (pth 6731) K) s := by kernel_rfl
theorem g17p6731 : g17D A n (pth 6731) K s = g17D A n (pth 10827) (blockK 2 K) s := by kernel_rfl
theorem g17p10827 : g17D A n (pth 10827) K s = g17V A n (pth 19019) n K s := by kernel_rfl
theorem g17p19019 : g17D A n (pth 19019) K s = g17D A n (pth 35403) (g17Q A n (pth 51787) K) s := by kernel_rfl
theorem g17p35403 : g17D A n (pth 35403) K s = g17D A n (pth 68171) (g17Q A n (pth 100939) K) s := by kernel_rfl
theorem g17p100939 (t : Bool) : ev s (.tmp 20) = some (.v (.cell (.bool t))) → g17D A n (pth 100939) K s = (match t with
    | true => g17D A n (pth 166475) K s
    | false => g17D A n (pth 232011) K s) := codeD_cond t
theorem g17p166475 : g17D A n (pth 166475) K s = K .normal s := by kernel_rfl
theorem g17p232011 : g17D A n (pth 232011) K s = K (.exit 2) s := by kernel_rfl
theorem g17p51787 : g17D A n (pth 51787) K s = g17D A n (pth 84555) (g17Q A n (pth 117323) K) s := by kernel_rfl
theorem g17p84555 : g17D A n (pth 84555) K s = g17D A n (pth 150091) (blockK 3 K) s := by kernel_rfl
theorem g17p15 : g17D A n (pth 15) K s = g17D A n (pth 23) (g17Q A n (pth 31) K) s := by kernel_rfl
theorem g17p23 : g17D A n (pth 23) K s = g17D A n (pth 39) (g17Q A n (pth 55) K) s := by kernel_rfl
theorem g17p55 : g17D A n (pth 55) K s = g17D A n (pth 87) (blockK 4 K) s := by kernel_rfl
theorem g17p87 : g17D A n (pth 87) K s = g17V A n (pth 151) n K s := by kernel_rfl
theorem g17p151 : g17D A n (pth 151) K s = g17D A n (pth 279) (g17Q A n (pth 407) K) s := by kernel_rfl
theorem g17p279 : g17D A n (pth 279) K s = g17D A n (pth 535) (g17Q A n (pth 791) K) s := by kernel_rfl
theorem g17p791 (t : Bool) : ev s (.tmp 38) = some (.v (.cell (.bool t))) → g17D A n (pth 791) K s = (match t with
    | true => g17D A n (pth 1303) K s
    | false => g17D A n (pth 1815) K s) := codeD_cond t
theorem g17p1303 : g17D A n (pth 1303) K s = K .normal s := by kernel_rfl
theorem g17p1815 : g17D A n (pth 1815) K s = K (.exit 4) s := by kernel_rfl
theorem g17p407 : g17D A n (pth 407) K s = g17D A n (pth 663) (g17Q A n (pth 919) K) s := by kernel_rfl
theorem g17p663 : g17D A n (pth 663) K s = g17D A n (pth 1175) (blockK 5 K) s := by kernel_rfl
theorem g17p1175 : g17D A n (pth 1175) K s = g17D A n (pth 2199) (g17Q A n (pth 3223) K) s := by kernel_rfl
theorem g17p3223 : g17D A n (pth 3223) K s = g17D A n (pth 5271) (g17Q A n (pth 7319) K) s := by kernel_rfl
theorem g17p31 : g17D A n (pth 31) K s = g17D A n (pth 47) (g17Q A n (pth 63) K) s := by kernel_rfl
theorem g17p63 : g17D A n (pth 63) K s = g17D A n (pth 95) (g17Q A n (pth 127) K) s := by kernel_rfl
theorem g17p127 : g17D A n (pth 127) K s = g17D A n (pth 191) (g17Q A n (pth 255) K) s := by kernel_rfl
theorem g17p191 : g17D A n (pth 191) K s = g17D A n (pth 319) (g17Q A n (pth 447) K) s := by kernel_rfl
theorem g17p447 : g17D A n (pth 447) K s = g17D A n (pth 703) (blockK 6 K) s := by kernel_rfl
theorem g17p703 : g17D A n (pth 703) K s = g17V A n (pth 1215) n K s := by kernel_rfl
theorem g17p1215 : g17D A n (pth 1215) K s = g17D A n (pth 2239) (g17Q A n (pth 3263) K) s := by kernel_rfl
theorem g17p2239 : g17D A n (pth 2239) K s = g17D A n (pth 4287) (g17Q A n (pth 6335) K) s := by kernel_rfl
theorem g17p6335 (t : Bool) : ev s (.tmp 102) = some (.v (.cell (.bool t))) → g17D A n (pth 6335) K s = (match t with
    | true => g17D A n (pth 10431) K s
    | false => g17D A n (pth 14527) K s) := codeD_cond t
theorem g17p10431 : g17D A n (pth 10431) K s = K .normal s := by kernel_rfl
theorem g17p14527 : g17D A n (pth 14527) K s = K (.exit 6) s := by kernel_rfl
theorem g17p3263 : g17D A n (pth 3263) K s = g17D A n (pth 5311) (g17Q A n (pth 7359) K) s := by kernel_rfl
theorem g17p5311 : g17D A n (pth 5311) K s = g17D A n (pth 9407) (blockK 7 K) s := by kernel_rfl
theorem g17p255 : g17D A n (pth 255) K s = g17D A n (pth 383) (g17Q A n (pth 511) K) s := by kernel_rfl
theorem g17p511 : g17D A n (pth 511) K s = K .ret s := by kernel_rfl
def g17R9s0 (A : Ar) (x0 : LN) (x1 : Nat) (x2 : Int) (x3 : Nat) (x4 : Int) (x5 x6 : LN) (x7 : Nat) (x8 : LN) : St := ⟨[(7, u64v (A.nb .or .u64 (A.nsh .shl .u64 x3 8) (x0.getD (A.toN (A.ib .add .i64 (A.ib .mul .i64 8 x2) x4)) 0))), (32, u64v (A.nb .or .u64 (A.nsh .shl .u64 x3 8) (x0.getD (A.toN (A.ib .add .i64 (A.ib .mul .i64 8 x2) x4)) 0))), (31, u64v (x0.getD (A.toN (A.ib .add .i64 (A.ib .mul .i64 8 x2) x4)) 0)), (30, u8v (x0.getD (A.toN (A.ib .add .i64 (A.ib .mul .i64 8 x2) x4)) 0)), (29, i6 (A.ib .add .i64 (A.ib .mul .i64 8 x2) x4)), (28, i6 x4), (27, i6 (A.ib .mul .i64 8 x2)), (26, i6 x2), (25, tS x0), (24, u64v (A.nsh .shl .u64 x3 8)), (23, u64v x3), (1, tS x0), (2, pT 1000 0), (4, pT 1001 0), (5, sL 2000 none x1 1), (6, i6 x2), (7, u64v x3), (8, i6 x4)], [(1000, bU 8 x5 40), (1001, bU 8 x6 40), (2000, ⟨[.nums .u64 x7 x8], 36, 2⟩)]⟩
theorem g17R9 (x0 : LN) (x1 : Nat) (x2 : Int) (x3 : Nat) (x4 : Int) (x5 x6 : LN) (x7 : Nat) (x8 : LN) : g17D A n (pth 150091) K ⟨[(1, tS x0), (2, pT 1000 0), (4, pT 1001 0), (5, sL 2000 none x1 1), (6, i6 x2), (7, u64v x3), (8, i6 x4)], [(1000, bU 8 x5 40), (1001, bU 8 x6 40), (2000, ⟨[.nums .u64 x7 x8], 36, 2⟩)]⟩ = match A.neg (A.ib .add .i64 (A.ib .mul .i64 8 x2) x4) with
    | true => none
    | false => match A.lt (A.toN (A.ib .add .i64 (A.ib .mul .i64 8 x2) x4)) x0.length with
      | true => K .normal (g17R9s0 A x0 x1 x2 x3 x4 x5 x6 x7 x8)
      | false => none := by kernel_rfl
def g17R8s0 (A : Ar) (x0 : LN) (x1 : Nat) (x2 : Int) (x3 : Nat) (x4 : Int) (x5 x6 : LN) (x7 : Nat) (x8 : LN) : St := ⟨[(8, i6 (A.ib .add .i64 x4 1)), (22, i6 (A.ib .add .i64 x4 1)), (21, i6 x4), (1, tS x0), (2, pT 1000 0), (4, pT 1001 0), (5, sL 2000 none x1 1), (6, i6 x2), (7, u64v x3), (8, i6 x4)], [(1000, bU 8 x5 40), (1001, bU 8 x6 40), (2000, ⟨[.nums .u64 x7 x8], 36, 2⟩)]⟩
theorem g17R8 (x0 : LN) (x1 : Nat) (x2 : Int) (x3 : Nat) (x4 : Int) (x5 x6 : LN) (x7 : Nat) (x8 : LN) : g17D A n (pth 117323) K ⟨[(1, tS x0), (2, pT 1000 0), (4, pT 1001 0), (5, sL 2000 none x1 1), (6, i6 x2), (7, u64v x3), (8, i6 x4)], [(1000, bU 8 x5 40), (1001, bU 8 x6 40), (2000, ⟨[.nums .u64 x7 x8], 36, 2⟩)]⟩ = K .normal (g17R8s0 A x0 x1 x2 x3 x4 x5 x6 x7 x8) := by kernel_rfl
def g17R10s0 (A : Ar) (x0 : LN) (x1 : Nat) (x2 : Int) (x3 : Nat) (x4 x5 : LN) (x6 : Nat) (x7 : LN) : St := ⟨[(5, sL 2000 none ((x7 ++ ([x3].take 1)).length) 1), (36, sL 2000 none ((x7 ++ ([x3].take 1)).length) 1), (35, sL 11002 none 1 1), (34, u64v x3), (33, (.v (.cell .top))), (1, tS x0), (2, pT 1000 0), (4, pT 1001 0), (5, (.v (.cell .top))), (6, i6 x2), (7, u64v x3)], [(2000, ⟨[.nums .u64 ((x7 ++ ([x3].take 1)).length) (x7 ++ ([x3].take 1))], 36, 2⟩), (11002, ⟨[.nums .u64 1 [x3]], 36, 2⟩), (1000, bU 8 x4 40), (1001, bU 8 x5 40)]⟩
theorem g17R10 (x0 : LN) (x1 : Nat) (x2 : Int) (x3 : Nat) (x4 x5 : LN) (x6 : Nat) (x7 : LN) : g17D A n (pth 3659) K ⟨[(1, tS x0), (2, pT 1000 0), (4, pT 1001 0), (5, sL 2000 none x1 1), (6, i6 x2), (7, u64v x3)], [(1000, bU 8 x4 40), (1001, bU 8 x5 40), (2000, ⟨[.nums .u64 x6 x7], 36, 2⟩)]⟩ = match A.eq x1 (x6 + 0) with
    | true => match A.le (((x7 ++ ([x3].take 1)).length) * 8) 140737488355328 with
      | true => K .normal (g17R10s0 A x0 x1 x2 x3 x4 x5 x6 x7)
      | false => none
    | false => none := by kernel_rfl
def g17R4s0 (A : Ar) (x0 : LN) (x1 : Nat) (x2 : Int) (x3 x4 : LN) (x5 : Nat) (x6 : LN) : St := ⟨[(6, i6 (A.ib .add .i64 x2 1)), (18, i6 (A.ib .add .i64 x2 1)), (17, i6 x2), (1, tS x0), (2, pT 1000 0), (4, pT 1001 0), (5, sL 2000 none x1 1), (6, i6 x2)], [(1000, bU 8 x3 40), (1001, bU 8 x4 40), (2000, ⟨[.nums .u64 x5 x6], 36, 2⟩)]⟩
theorem g17R4 (x0 : LN) (x1 : Nat) (x2 : Int) (x3 x4 : LN) (x5 : Nat) (x6 : LN) : g17D A n (pth 459) K ⟨[(1, tS x0), (2, pT 1000 0), (4, pT 1001 0), (5, sL 2000 none x1 1), (6, i6 x2)], [(1000, bU 8 x3 40), (1001, bU 8 x4 40), (2000, ⟨[.nums .u64 x5 x6], 36, 2⟩)]⟩ = K .normal (g17R4s0 A x0 x1 x2 x3 x4 x5 x6) := by kernel_rfl
def g17R7s0 (A : Ar) (x0 : LN) (x1 : Nat) (x2 : Int) (x3 : Nat) (x4 : Int) (x5 x6 : LN) (x7 : Nat) (x8 : LN) : St := ⟨[(20, bO (A.ic .lss x4 8)), (19, i6 x4), (1, tS x0), (2, pT 1000 0), (4, pT 1001 0), (5, sL 2000 none x1 1), (6, i6 x2), (7, u64v x3), (8, i6 x4)], [(1000, bU 8 x5 40), (1001, bU 8 x6 40), (2000, ⟨[.nums .u64 x7 x8], 36, 2⟩)]⟩
theorem g17R7 (x0 : LN) (x1 : Nat) (x2 : Int) (x3 : Nat) (x4 : Int) (x5 x6 : LN) (x7 : Nat) (x8 : LN) : g17D A n (pth 68171) K ⟨[(1, tS x0), (2, pT 1000 0), (4, pT 1001 0), (5, sL 2000 none x1 1), (6, i6 x2), (7, u64v x3), (8, i6 x4)], [(1000, bU 8 x5 40), (1001, bU 8 x6 40), (2000, ⟨[.nums .u64 x7 x8], 36, 2⟩)]⟩ = K .normal (g17R7s0 A x0 x1 x2 x3 x4 x5 x6 x7 x8) := by kernel_rfl
def g17R5s0 (A : Ar) (x0 : LN) (x1 : Nat) (x2 : Int) (x3 x4 : LN) (x5 : Nat) (x6 : LN) : St := ⟨[(7, u64v 0), (1, tS x0), (2, pT 1000 0), (4, pT 1001 0), (5, sL 2000 none x1 1), (6, i6 x2)], [(1000, bU 8 x3 40), (1001, bU 8 x4 40), (2000, ⟨[.nums .u64 x5 x6], 36, 2⟩)]⟩
theorem g17R5 (x0 : LN) (x1 : Nat) (x2 : Int) (x3 x4 : LN) (x5 : Nat) (x6 : LN) : g17D A n (pth 1099) K ⟨[(1, tS x0), (2, pT 1000 0), (4, pT 1001 0), (5, sL 2000 none x1 1), (6, i6 x2)], [(1000, bU 8 x3 40), (1001, bU 8 x4 40), (2000, ⟨[.nums .u64 x5 x6], 36, 2⟩)]⟩ = K .normal (g17R5s0 A x0 x1 x2 x3 x4 x5 x6) := by kernel_rfl
def g17R6s0 (A : Ar) (x0 : LN) (x1 : Nat) (x2 : Int) (x3 : Nat) (x4 x5 : LN) (x6 : Nat) (x7 : LN) : St := ⟨[(8, i6 0), (1, tS x0), (2, pT 1000 0), (4, pT 1001 0), (5, sL 2000 none x1 1), (6, i6 x2), (7, u64v x3)], [(1000, bU 8 x4 40), (1001, bU 8 x5 40), (2000, ⟨[.nums .u64 x6 x7], 36, 2⟩)]⟩
theorem g17R6 (x0 : LN) (x1 : Nat) (x2 : Int) (x3 : Nat) (x4 x5 : LN) (x6 : Nat) (x7 : LN) : g17D A n (pth 4683) K ⟨[(1, tS x0), (2, pT 1000 0), (4, pT 1001 0), (5, sL 2000 none x1 1), (6, i6 x2), (7, u64v x3)], [(1000, bU 8 x4 40), (1001, bU 8 x5 40), (2000, ⟨[.nums .u64 x6 x7], 36, 2⟩)]⟩ = K .normal (g17R6s0 A x0 x1 x2 x3 x4 x5 x6 x7) := by kernel_rfl
def g17R14s0 (A : Ar) (x0 : Nat) (x1 : Int) (x2 x3 : LN) (x4 : Nat) (x5 : LN) : St := ⟨[(10, u64v (A.nb .xor .u64 (A.nb .xor .u64 (g22r0 A (x5.getD (A.toN (A.ib .sub .i64 x1 2)) 0) 19) (g22r0 A (x5.getD (A.toN (A.ib .sub .i64 x1 2)) 0) 61)) (A.nsh .shr .u64 (x5.getD (A.toN (A.ib .sub .i64 x1 2)) 0) 6))), (60, u64v (A.nb .xor .u64 (A.nb .xor .u64 (g22r0 A (x5.getD (A.toN (A.ib .sub .i64 x1 2)) 0) 19) (g22r0 A (x5.getD (A.toN (A.ib .sub .i64 x1 2)) 0) 61)) (A.nsh .shr .u64 (x5.getD (A.toN (A.ib .sub .i64 x1 2)) 0) 6))), (59, u64v (A.nsh .shr .u64 (x5.getD (A.toN (A.ib .sub .i64 x1 2)) 0) 6)), (58, u64v (x5.getD (A.toN (A.ib .sub .i64 x1 2)) 0)), (57, (.v (.cell (.ptr 2000 0 (some ⟨A.toN (A.ib .sub .i64 x1 2), 1, x0, A.toN (A.ib .sub .i64 x1 2), 0, 1⟩))))), (56, i6 (A.ib .sub .i64 x1 2)), (55, i6 x1), (54, sL 2000 none x0 1), (53, u64v (A.nb .xor .u64 (g22r0 A (x5.getD (A.toN (A.ib .sub .i64 x1 2)) 0) 19) (g22r0 A (x5.getD (A.toN (A.ib .sub .i64 x1 2)) 0) 61))), (52, u64v (g22r0 A (x5.getD (A.toN (A.ib .sub .i64 x1 2)) 0) 61)), (51, u64v (x5.getD (A.toN (A.ib .sub .i64 x1 2)) 0)), (50, (.v (.cell (.ptr 2000 0 (some ⟨A.toN (A.ib .sub .i64 x1 2), 1, x0, A.toN (A.ib .sub .i64 x1 2), 0, 1⟩))))), (49, i6 (A.ib .sub .i64 x1 2)), (48, i6 x1), (47, sL 2000 none x0 1), (46, u64v (g22r0 A (x5.getD (A.toN (A.ib .sub .i64 x1 2)) 0) 19)), (45, u64v (x5.getD (A.toN (A.ib .sub .i64 x1 2)) 0)), (44, (.v (.cell (.ptr 2000 0 (some ⟨A.toN (A.ib .sub .i64 x1 2), 1, x0, A.toN (A.ib .sub .i64 x1 2), 0, 1⟩))))), (43, i6 (A.ib .sub .i64 x1 2)), (42, i6 x1), (41, sL 2000 none x0 1), (2, pT 1000 0), (4, pT 1001 0), (5, sL 2000 none x0 1), (9, i6 x1)], [(1000, bU 8 x2 40), (1001, bU 8 x3 40), (2000, ⟨[.nums .u64 x4 x5], 36, 2⟩)]⟩
abbrev u54 (A : Ar) (x1 : Int) := A.ib .sub .i64 x1 2
theorem g17R14 (x0 : Nat) (x1 : Int) (x2 x3 : LN) (x4 : Nat) (x5 : LN) : g17D A n (pth 2199) K ⟨[(2, pT 1000 0), (4, pT 1001 0), (5, sL 2000 none x0 1), (9, i6 x1)], [(1000, bU 8 x2 40), (1001, bU 8 x3 40), (2000, ⟨[.nums .u64 x4 x5], 36, 2⟩)]⟩ = match A.neg (u54 A x1) with
    | true => none
    | false => match A.lt (A.toN (u54 A x1)) x0 with
      | true => match g22ok A (x5.getD (A.toN (u54 A x1)) 0) 19 with
        | true => match A.neg (u54 A x1) with
          | true => none
          | false => match A.lt (A.toN (u54 A x1)) x0 with
            | true => match g22ok A (x5.getD (A.toN (u54 A x1)) 0) 61 with
              | true => match A.neg (u54 A x1) with
                | true => none
                | false => match A.lt (A.toN (u54 A x1)) x0 with
                  | true => K .normal (g17R14s0 A x0 x1 x2 x3 x4 x5)
                  | false => none
              | false => none
            | false => none
        | false => none
      | false => none := by kernel_rfl
def g17R15s0 (A : Ar) (x0 : Nat) (x1 : Int) (x2 : Nat) (x3 x4 : LN) (x5 : Nat) (x6 : LN) : St := ⟨[(11, u64v (A.nb .xor .u64 (A.nb .xor .u64 (g22r0 A (x6.getD (A.toN (A.ib .sub .i64 x1 15)) 0) 1) (g22r0 A (x6.getD (A.toN (A.ib .sub .i64 x1 15)) 0) 8)) (A.nsh .shr .u64 (x6.getD (A.toN (A.ib .sub .i64 x1 15)) 0) 7))), (80, u64v (A.nb .xor .u64 (A.nb .xor .u64 (g22r0 A (x6.getD (A.toN (A.ib .sub .i64 x1 15)) 0) 1) (g22r0 A (x6.getD (A.toN (A.ib .sub .i64 x1 15)) 0) 8)) (A.nsh .shr .u64 (x6.getD (A.toN (A.ib .sub .i64 x1 15)) 0) 7))), (79, u64v (A.nsh .shr .u64 (x6.getD (A.toN (A.ib .sub .i64 x1 15)) 0) 7)), (78, u64v (x6.getD (A.toN (A.ib .sub .i64 x1 15)) 0)), (77, (.v (.cell (.ptr 2000 0 (some ⟨A.toN (A.ib .sub .i64 x1 15), 1, x0, A.toN (A.ib .sub .i64 x1 15), 0, 1⟩))))), (76, i6 (A.ib .sub .i64 x1 15)), (75, i6 x1), (74, sL 2000 none x0 1), (73, u64v (A.nb .xor .u64 (g22r0 A (x6.getD (A.toN (A.ib .sub .i64 x1 15)) 0) 1) (g22r0 A (x6.getD (A.toN (A.ib .sub .i64 x1 15)) 0) 8))), (72, u64v (g22r0 A (x6.getD (A.toN (A.ib .sub .i64 x1 15)) 0) 8)), (71, u64v (x6.getD (A.toN (A.ib .sub .i64 x1 15)) 0)), (70, (.v (.cell (.ptr 2000 0 (some ⟨A.toN (A.ib .sub .i64 x1 15), 1, x0, A.toN (A.ib .sub .i64 x1 15), 0, 1⟩))))), (69, i6 (A.ib .sub .i64 x1 15)), (68, i6 x1), (67, sL 2000 none x0 1), (66, u64v (g22r0 A (x6.getD (A.toN (A.ib .sub .i64 x1 15)) 0) 1)), (65, u64v (x6.getD (A.toN (A.ib .sub .i64 x1 15)) 0)), (64, (.v (.cell (.ptr 2000 0 (some ⟨A.toN (A.ib .sub .i64 x1 15), 1, x0, A.toN (A.ib .sub .i64 x1 15), 0, 1⟩))))), (63, i6 (A.ib .sub .i64 x1 15)), (62, i6 x1), (61, sL 2000 none x0 1), (2, pT 1000 0), (4, pT 1001 0), (5, sL 2000 none x0 1), (9, i6 x1), (10, u64v x2)], [(1000, bU 8 x3 40), (1001, bU 8 x4 40), (2000, ⟨[.nums .u64 x5 x6], 36, 2⟩)]⟩
abbrev u55 (A : Ar) (x1 : Int) := A.ib .sub .i64 x1 15
theorem g17R15 (x0 : Nat) (x1 : Int) (x2 : Nat) (x3 x4 : LN) (x5 : Nat) (x6 : LN) : g17D A n (pth 5271) K ⟨[(2, pT 1000 0), (4, pT 1001 0), (5, sL 2000 none x0 1), (9, i6 x1), (10, u64v x2)], [(1000, bU 8 x3 40), (1001, bU 8 x4 40), (2000, ⟨[.nums .u64 x5 x6], 36, 2⟩)]⟩ = match A.neg (u55 A x1) with
    | true => none
    | false => match A.lt (A.toN (u55 A x1)) x0 with
      | true => match g22ok A (x6.getD (A.toN (u55 A x1)) 0) 1 with
        | true => match A.neg (u55 A x1) with
          | true => none
          | false => match A.lt (A.toN (u55 A x1)) x0 with
            | true => match g22ok A (x6.getD (A.toN (u55 A x1)) 0) 8 with
              | true => match A.neg (u55 A x1) with
                | true => none
                | false => match A.lt (A.toN (u55 A x1)) x0 with
                  | true => K .normal (g17R15s0 A x0 x1 x2 x3 x4 x5 x6)
                  | false => none
              | false => none
            | false => none
        | false => none
      | false => none := by kernel_rfl
def g17R16s0 (A : Ar) (x0 : Nat) (x1 : Int) (x2 x3 : Nat) (x4 x5 : LN) (x6 : Nat) (x7 : LN) : St := ⟨[(5, sL 2000 none ((x7 ++ ([A.nb .add .u64 (A.nb .add .u64 (A.nb .add .u64 x2 (x7.getD (A.toN (A.ib .sub .i64 x1 7)) 0)) x3) (x7.getD (A.toN (A.ib .sub .i64 x1 16)) 0)].take 1)).length) 1), (98, sL 2000 none ((x7 ++ ([A.nb .add .u64 (A.nb .add .u64 (A.nb .add .u64 x2 (x7.getD (A.toN (A.ib .sub .i64 x1 7)) 0)) x3) (x7.getD (A.toN (A.ib .sub .i64 x1 16)) 0)].take 1)).length) 1), (97, sL 17016 none 1 1), (96, u64v (A.nb .add .u64 (A.nb .add .u64 (A.nb .add .u64 x2 (x7.getD (A.toN (A.ib .sub .i64 x1 7)) 0)) x3) (x7.getD (A.toN (A.ib .sub .i64 x1 16)) 0))), (95, u64v (x7.getD (A.toN (A.ib .sub .i64 x1 16)) 0)), (94, (.v (.cell .top))), (93, i6 (A.ib .sub .i64 x1 16)), (92, i6 x1), (91, (.v (.cell .top))), (90, u64v (A.nb .add .u64 (A.nb .add .u64 x2 (x7.getD (A.toN (A.ib .sub .i64 x1 7)) 0)) x3)), (89, u64v x3), (88, u64v (A.nb .add .u64 x2 (x7.getD (A.toN (A.ib .sub .i64 x1 7)) 0))), (87, u64v (x7.getD (A.toN (A.ib .sub .i64 x1 7)) 0)), (86, (.v (.cell .top))), (85, i6 (A.ib .sub .i64 x1 7)), (84, i6 x1), (83, (.v (.cell .top))), (82, u64v x2), (81, (.v (.cell .top))), (2, pT 1000 0), (4, pT 1001 0), (5, (.v (.cell .top))), (9, i6 x1), (10, u64v x2), (11, u64v x3)], [(2000, ⟨[.nums .u64 ((x7 ++ ([A.nb .add .u64 (A.nb .add .u64 (A.nb .add .u64 x2 (x7.getD (A.toN (A.ib .sub .i64 x1 7)) 0)) x3) (x7.getD (A.toN (A.ib .sub .i64 x1 16)) 0)].take 1)).length) (x7 ++ ([A.nb .add .u64 (A.nb .add .u64 (A.nb .add .u64 x2 (x7.getD (A.toN (A.ib .sub .i64 x1 7)) 0)) x3) (x7.getD (A.toN (A.ib .sub .i64 x1 16)) 0)].take 1))], 36, 2⟩), (17016, ⟨[.nums .u64 1 [A.nb .add .u64 (A.nb .add .u64 (A.nb .add .u64 x2 (x7.getD (A.toN (A.ib .sub .i64 x1 7)) 0)) x3) (x7.getD (A.toN (A.ib .sub .i64 x1 16)) 0)]], 36, 2⟩), (1000, bU 8 x4 40), (1001, bU 8 x5 40)]⟩
theorem g17R16 (x0 : Nat) (x1 : Int) (x2 x3 : Nat) (x4 x5 : LN) (x6 : Nat) (x7 : LN) : g17D A n (pth 7319) K ⟨[(2, pT 1000 0), (4, pT 1001 0), (5, sL 2000 none x0 1), (9, i6 x1), (10, u64v x2), (11, u64v x3)], [(1000, bU 8 x4 40), (1001, bU 8 x5 40), (2000, ⟨[.nums .u64 x6 x7], 36, 2⟩)]⟩ = match A.neg (A.ib .sub .i64 x1 7) with
    | true => none
    | false => match A.lt (A.toN (A.ib .sub .i64 x1 7)) x0 with
      | true => match A.neg (A.ib .sub .i64 x1 16) with
        | true => none
        | false => match A.lt (A.toN (A.ib .sub .i64 x1 16)) x0 with
          | true => match A.eq x0 (x6 + 0) with
            | true => match A.le (((x7 ++ ([A.nb .add .u64 (A.nb .add .u64 (A.nb .add .u64 x2 (x7.getD (A.toN (A.ib .sub .i64 x1 7)) 0)) x3) (x7.getD (A.toN (A.ib .sub .i64 x1 16)) 0)].take 1)).length) * 8) 140737488355328 with
              | true => K .normal (g17R16s0 A x0 x1 x2 x3 x4 x5 x6 x7)
              | false => none
            | false => none
          | false => none
      | false => none := by kernel_rfl
def g17R13s0 (A : Ar) (x0 : Nat) (x1 : Int) (x2 x3 : LN) (x4 : Nat) (x5 : LN) : St := ⟨[(9, i6 (A.ib .add .i64 x1 1)), (40, i6 (A.ib .add .i64 x1 1)), (39, i6 x1), (2, pT 1000 0), (4, pT 1001 0), (5, sL 2000 none x0 1), (9, i6 x1)], [(1000, bU 8 x2 40), (1001, bU 8 x3 40), (2000, ⟨[.nums .u64 x4 x5], 36, 2⟩)]⟩
theorem g17R13 (x0 : Nat) (x1 : Int) (x2 x3 : LN) (x4 : Nat) (x5 : LN) : g17D A n (pth 919) K ⟨[(2, pT 1000 0), (4, pT 1001 0), (5, sL 2000 none x0 1), (9, i6 x1)], [(1000, bU 8 x2 40), (1001, bU 8 x3 40), (2000, ⟨[.nums .u64 x4 x5], 36, 2⟩)]⟩ = K .normal (g17R13s0 A x0 x1 x2 x3 x4 x5) := by kernel_rfl
def g17R22s0 (A : Ar) (x0 x1 : Nat) (x2 : Int) (x3 x4 : LN) (x5 : Nat) (x6 : LN) (x7 : Nat) (x8 x9 : LN) : St := ⟨[(114, aN .u64 8 (g24r0 A x9 (x8.getD (A.toN x2) 0) (x6.getD (A.toN x2) 0))), (113, u64v (x6.getD (A.toN x2) 0)), (112, (.v (.cell (.ptr 2000 0 (some ⟨A.toN x2, 1, x0, A.toN x2, 0, 1⟩))))), (111, i6 x2), (110, sL 2000 none x0 1), (109, u64v (x8.getD (A.toN x2) 0)), (108, (.v (.cell (.ptr 18000 0 (some ⟨A.toN x2, 1, x1, A.toN x2, 0, 1⟩))))), (107, i6 x2), (106, sL 18000 none x1 1), (105, aN .u64 8 x9), (2, pT 1000 0), (4, pT 1001 0), (5, sL 2000 none x0 1), (12, sL 18000 none x1 1), (13, pT 19001 0), (14, i6 x2)], [(1000, bU 8 x3 40), (1001, bU 8 x4 40), (2000, ⟨[.nums .u64 x5 x6], 36, 2⟩), (18000, ⟨[.nums .u64 x7 x8], 36, 2⟩), (19001, bU 8 (g24r0 A x9 (x8.getD (A.toN x2) 0) (x6.getD (A.toN x2) 0)) 40)]⟩
theorem g17R22 (x0 x1 : Nat) (x2 : Int) (x3 x4 : LN) (x5 : Nat) (x6 : LN) (x7 : Nat) (x8 x9 : LN) : g17D A n (pth 9407) K ⟨[(2, pT 1000 0), (4, pT 1001 0), (5, sL 2000 none x0 1), (12, sL 18000 none x1 1), (13, pT 19001 0), (14, i6 x2)], [(1000, bU 8 x3 40), (1001, bU 8 x4 40), (2000, ⟨[.nums .u64 x5 x6], 36, 2⟩), (18000, ⟨[.nums .u64 x7 x8], 36, 2⟩), (19001, bU 8 x9 40)]⟩ = match A.neg x2 with
    | true => none
    | false => match A.lt (A.toN x2) x1 with
      | true => match A.neg x2 with
        | true => none
        | false => match A.lt (A.toN x2) x0 with
          | true => match g24ok A x9 (x8.getD (A.toN x2) 0) (x6.getD (A.toN x2) 0) with
            | true => K .normal (g17R22s0 A x0 x1 x2 x3 x4 x5 x6 x7 x8 x9)
            | false => none
          | false => none
      | false => none := by kernel_rfl
def g17R21s0 (A : Ar) (x0 x1 : Nat) (x2 : Int) (x3 x4 : LN) (x5 : Nat) (x6 : LN) (x7 : Nat) (x8 x9 : LN) : St := ⟨[(14, i6 (A.ib .add .i64 x2 1)), (104, i6 (A.ib .add .i64 x2 1)), (103, i6 x2), (2, pT 1000 0), (4, pT 1001 0), (5, sL 2000 none x0 1), (12, sL 18000 none x1 1), (13, pT 19001 0), (14, i6 x2)], [(1000, bU 8 x3 40), (1001, bU 8 x4 40), (2000, ⟨[.nums .u64 x5 x6], 36, 2⟩), (18000, ⟨[.nums .u64 x7 x8], 36, 2⟩), (19001, bU 8 x9 40)]⟩
theorem g17R21 (x0 x1 : Nat) (x2 : Int) (x3 x4 : LN) (x5 : Nat) (x6 : LN) (x7 : Nat) (x8 x9 : LN) : g17D A n (pth 7359) K ⟨[(2, pT 1000 0), (4, pT 1001 0), (5, sL 2000 none x0 1), (12, sL 18000 none x1 1), (13, pT 19001 0), (14, i6 x2)], [(1000, bU 8 x3 40), (1001, bU 8 x4 40), (2000, ⟨[.nums .u64 x5 x6], 36, 2⟩), (18000, ⟨[.nums .u64 x7 x8], 36, 2⟩), (19001, bU 8 x9 40)]⟩ = K .normal (g17R21s0 A x0 x1 x2 x3 x4 x5 x6 x7 x8 x9) := by kernel_rfl
def g17R23s0 (A : Ar) (x0 x1 x2 : LN) : St := ⟨[(155, aN .u64 8 (((((((([0, 0, 0, 0, 0, 0, 0, 0].set 0 (A.nb .add .u64 (x0.getD 0 0) (x2.getD 0 0))).set 1 (A.nb .add .u64 (x0.getD 1 0) (x2.getD 1 0))).set 2 (A.nb .add .u64 (x0.getD 2 0) (x2.getD 2 0))).set 3 (A.nb .add .u64 (x0.getD 3 0) (x2.getD 3 0))).set 4 (A.nb .add .u64 (x0.getD 4 0) (x2.getD 4 0))).set 5 (A.nb .add .u64 (x0.getD 5 0) (x2.getD 5 0))).set 6 (A.nb .add .u64 (x0.getD 6 0) (x2.getD 6 0))).set 7 (A.nb .add .u64 (x0.getD 7 0) (x2.getD 7 0)))), (154, u64v (A.nb .add .u64 (x0.getD 7 0) (x2.getD 7 0))), (153, u64v (x2.getD 7 0)), (152, pT 19001 7), (151, u64v (x0.getD 7 0)), (150, pT 1000 7), (149, u64v (A.nb .add .u64 (x0.getD 6 0) (x2.getD 6 0))), (148, u64v (x2.getD 6 0)), (147, pT 19001 6), (146, u64v (x0.getD 6 0)), (145, pT 1000 6), (144, u64v (A.nb .add .u64 (x0.getD 5 0) (x2.getD 5 0))), (143, u64v (x2.getD 5 0)), (142, pT 19001 5), (141, u64v (x0.getD 5 0)), (140, pT 1000 5), (139, u64v (A.nb .add .u64 (x0.getD 4 0) (x2.getD 4 0))), (138, u64v (x2.getD 4 0)), (137, pT 19001 4), (136, u64v (x0.getD 4 0)), (135, pT 1000 4), (134, u64v (A.nb .add .u64 (x0.getD 3 0) (x2.getD 3 0))), (133, u64v (x2.getD 3 0)), (132, pT 19001 3), (131, u64v (x0.getD 3 0)), (130, pT 1000 3), (129, u64v (A.nb .add .u64 (x0.getD 2 0) (x2.getD 2 0))), (128, u64v (x2.getD 2 0)), (127, pT 19001 2), (126, u64v (x0.getD 2 0)), (125, pT 1000 2), (124, u64v (A.nb .add .u64 (x0.getD 1 0) (x2.getD 1 0))), (123, u64v (x2.getD 1 0)), (122, pT 19001 1), (121, u64v (x0.getD 1 0)), (120, pT 1000 1), (119, u64v (A.nb .add .u64 (x0.getD 0 0) (x2.getD 0 0))), (118, u64v (x2.getD 0 0)), (117, pT 19001 0), (116, u64v (x0.getD 0 0)), (115, pT 1000 0), (2, pT 1000 0), (4, pT 1001 0), (13, pT 19001 0)], [(1000, bU 8 x0 40), (1001, bU 8 (((((((([0, 0, 0, 0, 0, 0, 0, 0].set 0 (A.nb .add .u64 (x0.getD 0 0) (x2.getD 0 0))).set 1 (A.nb .add .u64 (x0.getD 1 0) (x2.getD 1 0))).set 2 (A.nb .add .u64 (x0.getD 2 0) (x2.getD 2 0))).set 3 (A.nb .add .u64 (x0.getD 3 0) (x2.getD 3 0))).set 4 (A.nb .add .u64 (x0.getD 4 0) (x2.getD 4 0))).set 5 (A.nb .add .u64 (x0.getD 5 0) (x2.getD 5 0))).set 6 (A.nb .add .u64 (x0.getD 6 0) (x2.getD 6 0))).set 7 (A.nb .add .u64 (x0.getD 7 0) (x2.getD 7 0))) 40), (19001, bU 8 x2 40)]⟩
theorem g17R23 (x0 x1 x2 : LN) : g17D A n (pth 383) K ⟨[(2, pT 1000 0), (4, pT 1001 0), (13, pT 19001 0)], [(1000, bU 8 x0 40), (1001, bU 8 x1 40), (19001, bU 8 x2 40)]⟩ = K .normal (g17R23s0 A x0 x1 x2) := by kernel_rfl
def g17R20s0 (A : Ar) (x0 x1 : Nat) (x2 : Int) (x3 x4 : LN) (x5 : Nat) (x6 : LN) (x7 : Nat) (x8 x9 : LN) : St := ⟨[(102, bO (A.ic .lss x2 80)), (101, i6 x2), (2, pT 1000 0), (4, pT 1001 0), (5, sL 2000 none x0 1), (12, sL 18000 none x1 1), (13, pT 19001 0), (14, i6 x2)], [(1000, bU 8 x3 40), (1001, bU 8 x4 40), (2000, ⟨[.nums .u64 x5 x6], 36, 2⟩), (18000, ⟨[.nums .u64 x7 x8], 36, 2⟩), (19001, bU 8 x9 40)]⟩
theorem g17R20 (x0 x1 : Nat) (x2 : Int) (x3 x4 : LN) (x5 : Nat) (x6 : LN) (x7 : Nat) (x8 x9 : LN) : g17D A n (pth 4287) K ⟨[(2, pT 1000 0), (4, pT 1001 0), (5, sL 2000 none x0 1), (12, sL 18000 none x1 1), (13, pT 19001 0), (14, i6 x2)], [(1000, bU 8 x3 40), (1001, bU 8 x4 40), (2000, ⟨[.nums .u64 x5 x6], 36, 2⟩), (18000, ⟨[.nums .u64 x7 x8], 36, 2⟩), (19001, bU 8 x9 40)]⟩ = K .normal (g17R20s0 A x0 x1 x2 x3 x4 x5 x6 x7 x8 x9) := by kernel_rfl
def g17R17s0 (A : Ar) (x0 : Nat) (x1 x2 : LN) (x3 : Nat) (x4 : LN) : St := ⟨[(12, sL 18000 none (g23r0 A) 1), (99, sL 18000 none (g23r0 A) 1), (2, pT 1000 0), (4, pT 1001 0), (5, sL 2000 none x0 1)], [(18000, ⟨[.nums .u64 (g23r1 A) (g23r2 A)], 36, 2⟩), (1000, bU 8 x1 40), (1001, bU 8 x2 40), (2000, ⟨[.nums .u64 x3 x4], 36, 2⟩)]⟩
theorem g17R17 (x0 : Nat) (x1 x2 : LN) (x3 : Nat) (x4 : LN) : g17D A n (pth 47) K ⟨[(2, pT 1000 0), (4, pT 1001 0), (5, sL 2000 none x0 1)], [(1000, bU 8 x1 40), (1001, bU 8 x2 40), (2000, ⟨[.nums .u64 x3 x4], 36, 2⟩)]⟩ = match g23ok A with
    | true => K .normal (g17R17s0 A x0 x1 x2 x3 x4)
    | false => none := by kernel_rfl
def g17R18s0 (A : Ar) (x0 x1 : Nat) (x2 x3 : LN) (x4 : Nat) (x5 : LN) (x6 : Nat) (x7 : LN) : St := ⟨[(13, pT 19001 0), (100, aN .u64 8 x2), (2, pT 1000 0), (4, pT 1001 0), (5, sL 2000 none x0 1), (12, sL 18000 none x1 1)], [(19001, bU 8 x2 40), (1000, bU 8 x2 40), (1001, bU 8 x3 40), (2000, ⟨[.nums .u64 x4 x5], 36, 2⟩), (18000, ⟨[.nums .u64 x6 x7], 36, 2⟩)]⟩
theorem g17R18 (x0 x1 : Nat) (x2 x3 : LN) (x4 : Nat) (x5 : LN) (x6 : Nat) (x7 : LN) : g17D A n (pth 95) K ⟨[(2, pT 1000 0), (4, pT 1001 0), (5, sL 2000 none x0 1), (12, sL 18000 none x1 1)], [(1000, bU 8 x2 40), (1001, bU 8 x3 40), (2000, ⟨[.nums .u64 x4 x5], 36, 2⟩), (18000, ⟨[.nums .u64 x6 x7], 36, 2⟩)]⟩ = K .normal (g17R18s0 A x0 x1 x2 x3 x4 x5 x6 x7) := by kernel_rfl
def g17R19s0 (A : Ar) (x0 x1 : Nat) (x2 x3 : LN) (x4 : Nat) (x5 : LN) (x6 : Nat) (x7 x8 : LN) : St := ⟨[(14, i6 0), (2, pT 1000 0), (4, pT 1001 0), (5, sL 2000 none x0 1), (12, sL 18000 none x1 1), (13, pT 19001 0)], [(1000, bU 8 x2 40), (1001, bU 8 x3 40), (2000, ⟨[.nums .u64 x4 x5], 36, 2⟩), (18000, ⟨[.nums .u64 x6 x7], 36, 2⟩), (19001, bU 8 x8 40)]⟩
theorem g17R19 (x0 x1 : Nat) (x2 x3 : LN) (x4 : Nat) (x5 : LN) (x6 : Nat) (x7 x8 : LN) : g17D A n (pth 319) K ⟨[(2, pT 1000 0), (4, pT 1001 0), (5, sL 2000 none x0 1), (12, sL 18000 none x1 1), (13, pT 19001 0)], [(1000, bU 8 x2 40), (1001, bU 8 x3 40), (2000, ⟨[.nums .u64 x4 x5], 36, 2⟩), (18000, ⟨[.nums .u64 x6 x7], 36, 2⟩), (19001, bU 8 x8 40)]⟩ = K .normal (g17R19s0 A x0 x1 x2 x3 x4 x5 x6 x7 x8) := by kernel_rfl
def g17R12s0 (A : Ar) (x0 : Nat) (x1 : Int) (x2 x3 : LN) (x4 : Nat) (x5 : LN) : St := ⟨[(38, bO (A.ic .lss x1 80)), (37, i6 x1), (2, pT 1000 0), (4, pT 1001 0), (5, sL 2000 none x0 1), (9, i6 x1)], [(1000, bU 8 x2 40), (1001, bU 8 x3 40), (2000, ⟨[.nums .u64 x4 x5], 36, 2⟩)]⟩
theorem g17R12 (x0 : Nat) (x1 : Int) (x2 x3 : LN) (x4 : Nat) (x5 : LN) : g17D A n (pth 535) K ⟨[(2, pT 1000 0), (4, pT 1001 0), (5, sL 2000 none x0 1), (9, i6 x1)], [(1000, bU 8 x2 40), (1001, bU 8 x3 40), (2000, ⟨[.nums .u64 x4 x5], 36, 2⟩)]⟩ = K .normal (g17R12s0 A x0 x1 x2 x3 x4 x5) := by kernel_rfl
def g17R11s0 (A : Ar) (x0 : Nat) (x1 x2 : LN) (x3 : Nat) (x4 : LN) : St := ⟨[(9, i6 16), (2, pT 1000 0), (4, pT 1001 0), (5, sL 2000 none x0 1)], [(1000, bU 8 x1 40), (1001, bU 8 x2 40), (2000, ⟨[.nums .u64 x3 x4], 36, 2⟩)]⟩
theorem g17R11 (x0 : Nat) (x1 x2 : LN) (x3 : Nat) (x4 : LN) : g17D A n (pth 39) K ⟨[(2, pT 1000 0), (4, pT 1001 0), (5, sL 2000 none x0 1)], [(1000, bU 8 x1 40), (1001, bU 8 x2 40), (2000, ⟨[.nums .u64 x3 x4], 36, 2⟩)]⟩ = K .normal (g17R11s0 A x0 x1 x2 x3 x4) := by kernel_rfl
def g17R3s0 (A : Ar) (x0 : LN) (x1 : Nat) (x2 : Int) (x3 x4 : LN) (x5 : Nat) (x6 : LN) : St := ⟨[(16, bO (A.ic .lss x2 16)), (15, i6 x2), (1, tS x0), (2, pT 1000 0), (4, pT 1001 0), (5, sL 2000 none x1 1), (6, i6 x2)], [(1000, bU 8 x3 40), (1001, bU 8 x4 40), (2000, ⟨[.nums .u64 x5 x6], 36, 2⟩)]⟩
theorem g17R3 (x0 : LN) (x1 : Nat) (x2 : Int) (x3 x4 : LN) (x5 : Nat) (x6 : LN) : g17D A n (pth 267) K ⟨[(1, tS x0), (2, pT 1000 0), (4, pT 1001 0), (5, sL 2000 none x1 1), (6, i6 x2)], [(1000, bU 8 x3 40), (1001, bU 8 x4 40), (2000, ⟨[.nums .u64 x5 x6], 36, 2⟩)]⟩ = K .normal (g17R3s0 A x0 x1 x2 x3 x4 x5 x6) := by kernel_rfl
def g17R0s0 (A : Ar) (x0 x1 : LN) : St := ⟨[(4, pT 1001 0), (2, pT 1000 0), (0, aN .u64 8 x0), (1, tS x1)], [(1001, bU 8 [0, 0, 0, 0, 0, 0, 0, 0] 40), (1000, bU 8 x0 40)]⟩
theorem g17R0 (x0 x1 : LN) : g17D A n (pth 2) K ⟨[(0, aN .u64 8 x0), (1, tS x1)], []⟩ = K .normal (g17R0s0 A x0 x1) := by kernel_rfl
def g17R1s0 (A : Ar) (x0 x1 x2 : LN) : St := ⟨[(5, sL 2000 none 0 1), (1, tS x0), (2, pT 1000 0), (4, pT 1001 0)], [(2000, ⟨[.nums .u64 0 []], 36, 2⟩), (1000, bU 8 x1 40), (1001, bU 8 x2 40)]⟩
theorem g17R1 (x0 x1 x2 : LN) : g17D A n (pth 5) K ⟨[(1, tS x0), (2, pT 1000 0), (4, pT 1001 0)], [(1000, bU 8 x1 40), (1001, bU 8 x2 40)]⟩ = K .normal (g17R1s0 A x0 x1 x2) := by kernel_rfl
def g17R2s0 (A : Ar) (x0 : LN) (x1 : Nat) (x2 x3 : LN) (x4 : Nat) (x5 : LN) : St := ⟨[(6, i6 0), (1, tS x0), (2, pT 1000 0), (4, pT 1001 0), (5, sL 2000 none x1 1)], [(1000, bU 8 x2 40), (1001, bU 8 x3 40), (2000, ⟨[.nums .u64 x4 x5], 36, 2⟩)]⟩
theorem g17R2 (x0 : LN) (x1 : Nat) (x2 x3 : LN) (x4 : Nat) (x5 : LN) : g17D A n (pth 19) K ⟨[(1, tS x0), (2, pT 1000 0), (4, pT 1001 0), (5, sL 2000 none x1 1)], [(1000, bU 8 x2 40), (1001, bU 8 x3 40), (2000, ⟨[.nums .u64 x4 x5], 36, 2⟩)]⟩ = K .normal (g17R2s0 A x0 x1 x2 x3 x4 x5) := by kernel_rfl
end
def g17J9 {R : Type} (A : Ar) (n : Nat) (kk : KK R) (lg17L7 : LN → Nat → Int → Nat → Int → LN → LN → Nat → LN → Option R) (x0 : LN) (x1 : Nat) (x2 : Int) (x3 : Nat) (x4 : Int) (x5 x6 : LN) (x7 : Nat) (x8 : LN) : Option R :=
  match A.neg (A.ib .add .i64 (A.ib .mul .i64 8 x2) x4) with
  | true => none
  | false => match A.lt (A.toN (A.ib .add .i64 (A.ib .mul .i64 8 x2) x4)) x0.length with
    | true => lg17L7 x0 x1 x2 (A.nb .or .u64 (A.nsh .shl .u64 x3 8) (x0.getD (A.toN (A.ib .add .i64 (A.ib .mul .i64 8 x2) x4)) 0)) (A.ib .add .i64 x4 1) x5 x6 x7 x8
    | false => none
abbrev u56 (A : Ar) (x3 : Nat) (x0 : LN) (x2 : Int) (x4 : Int) := A.nb .or .u64 (A.nsh .shl .u64 x3 8) (x0.getD (A.toN (A.ib .add .i64 (A.ib .mul .i64 8 x2) x4)) 0)
theorem g17J9_eq {R : Type} (A : Ar) (n : Nat) (kk : KK R) (m0 m1 : Nat) (lg17L7 : LN → Nat → Int → Nat → Int → LN → LN → Nat → LN → Option R)
    (hg17L7 : ∀ (s : St) (x0 : LN) (x1 : Nat) (x2 : Int) (x3 : Nat) (x4 : Int) (x5 x6 : LN) (x7 : Nat) (x8 : LN), keep g17an 7 s = ⟨[(1, tS x0), (2, pT 1000 0), (4, pT 1001 0), (5, sL 2000 none x1 1), (6, i6 x2), (7, u64v x3), (8, i6 x4)], [(1000, bU 8 x5 40), (1001, bU 8 x6 40), (2000, ⟨[.nums .u64 x7 x8], 36, 2⟩)]⟩ → g17V A n (pth 19019) m1 (blockK 2 (g17Q A n (pth 3659) (blockK 1 (g17Q A n (pth 459) (g17W A n (pth 75) m0 (blockK 0 (g17Q A n (pth 15) (g17T kk)))))))) s = lg17L7 x0 x1 x2 x3 x4 x5 x6 x7 x8) (s : St) (x0 : LN) (x1 : Nat) (x2 : Int) (x3 : Nat) (x4 : Int) (x5 x6 : LN) (x7 : Nat) (x8 : LN) (h : keep g17an 9 s = ⟨[(1, tS x0), (2, pT 1000 0), (4, pT 1001 0), (5, sL 2000 none x1 1), (6, i6 x2), (7, u64v x3), (8, i6 x4)], [(1000, bU 8 x5 40), (1001, bU 8 x6 40), (2000, ⟨[.nums .u64 x7 x8], 36, 2⟩)]⟩) :
    g17D A n (pth 51787) (g17W A n (pth 19019) m1 (blockK 2 (g17Q A n (pth 3659) (blockK 1 (g17Q A n (pth 459) (g17W A n (pth 75) m0 (blockK 0 (g17Q A n (pth 15) (g17T kk))))))))) s = g17J9 A n kk lg17L7 x0 x1 x2 x3 x4 x5 x6 x7 x8 := by
  have h1 := (g17Wn A n _ _ _ _).trans (hg17L7 (g17R8s0 A x0 x1 x2 (u56 A x3 x0 x2 x4) x4 x5 x6 x7 x8) x0 x1 x2 (u56 A x3 x0 x2 x4) (A.ib .add .i64 x4 1) x5 x6 x7 x8 (by kernel_rfl))
  have h2 := (g17F A n _ 8 _ (g17R9s0 A x0 x1 x2 x3 x4 x5 x6 x7 x8) _ (by kernel_rfl) (by kernel_rfl)).trans (g17R8 A n (g17W A n (pth 19019) m1 (blockK 2 (g17Q A n (pth 3659) (blockK 1 (g17Q A n (pth 459) (g17W A n (pth 75) m0 (blockK 0 (g17Q A n (pth 15) (g17T kk))))))))) x0 x1 x2 (u56 A x3 x0 x2 x4) x4 x5 x6 x7 x8)
  rw [h1] at h2
  have h3 := (g17Qn A n _ _ _).trans h2
  have h4 := (blockK_n 3 _ _).trans h3
  have h5 := (g17F A n _ 9 _ ⟨[(1, tS x0), (2, pT 1000 0), (4, pT 1001 0), (5, sL 2000 none x1 1), (6, i6 x2), (7, u64v x3), (8, i6 x4)], [(1000, bU 8 x5 40), (1001, bU 8 x6 40), (2000, ⟨[.nums .u64 x7 x8], 36, 2⟩)]⟩ _ (by kernel_rfl) (by kernel_rfl)).trans (g17R9 A n (blockK 3 (g17Q A n (pth 117323) (g17W A n (pth 19019) m1 (blockK 2 (g17Q A n (pth 3659) (blockK 1 (g17Q A n (pth 459) (g17W A n (pth 75) m0 (blockK 0 (g17Q A n (pth 15) (g17T kk))))))))))) x0 x1 x2 x3 x4 x5 x6 x7 x8)
  rw [h4] at h5
  have h6 := (g17p84555 A n _ _).trans h5
  have h7 := (g17p51787 A n _ _).trans h6
  exact (g17F A n _ 9 _ _ ⟨[(1, tS x0), (2, pT 1000 0), (4, pT 1001 0), (5, sL 2000 none x1 1), (6, i6 x2), (7, u64v x3), (8, i6 x4)], [(1000, bU 8 x5 40), (1001, bU 8 x6 40), (2000, ⟨[.nums .u64 x7 x8], 36, 2⟩)]⟩ (by kernel_rfl) (h.trans (by kernel_rfl))).trans (h7.trans (by kernel_rfl))
def g17J10 {R : Type} (A : Ar) (n : Nat) (kk : KK R) (lg17L3 : LN → Nat → Int → LN → LN → Nat → LN → Option R) (x0 : LN) (x1 : Nat) (x2 : Int) (x3 : Nat) (x4 x5 : LN) (x6 : Nat) (x7 : LN) : Option R :=
  match A.eq x1 (x6 + 0) with
  | true => match A.le (((x7 ++ ([x3].take 1)).length) * 8) 140737488355328 with
    | true => lg17L3 x0 ((x7 ++ ([x3].take 1)).length) (A.ib .add .i64 x2 1) x4 x5 ((x7 ++ ([x3].take 1)).length) (x7 ++ ([x3].take 1))
    | false => none
  | false => none
abbrev u57 (x7 : LN) (x3 : Nat) := (x7 ++ ([x3].take 1)).length
theorem g17J10_eq {R : Type} (A : Ar) (n : Nat) (kk : KK R) (m0 : Nat) (lg17L3 : LN → Nat → Int → LN → LN → Nat → LN → Option R)
    (hg17L3 : ∀ (s : St) (x0 : LN) (x1 : Nat) (x2 : Int) (x3 x4 : LN) (x5 : Nat) (x6 : LN), keep g17an 3 s = ⟨[(1, tS x0), (2, pT 1000 0), (4, pT 1001 0), (5, sL 2000 none x1 1), (6, i6 x2)], [(1000, bU 8 x3 40), (1001, bU 8 x4 40), (2000, ⟨[.nums .u64 x5 x6], 36, 2⟩)]⟩ → g17V A n (pth 75) m0 (blockK 0 (g17Q A n (pth 15) (g17T kk))) s = lg17L3 x0 x1 x2 x3 x4 x5 x6) (s : St) (x0 : LN) (x1 : Nat) (x2 : Int) (x3 : Nat) (x4 x5 : LN) (x6 : Nat) (x7 : LN) (h : keep g17an 10 s = ⟨[(1, tS x0), (2, pT 1000 0), (4, pT 1001 0), (5, sL 2000 none x1 1), (6, i6 x2), (7, u64v x3)], [(1000, bU 8 x4 40), (1001, bU 8 x5 40), (2000, ⟨[.nums .u64 x6 x7], 36, 2⟩)]⟩) :
    g17D A n (pth 3659) (blockK 1 (g17Q A n (pth 459) (g17W A n (pth 75) m0 (blockK 0 (g17Q A n (pth 15) (g17T kk)))))) s = g17J10 A n kk lg17L3 x0 x1 x2 x3 x4 x5 x6 x7 := by
  have h1 := (g17Wn A n _ _ _ _).trans (hg17L3 (g17R4s0 A x0 (u57 x7 x3) x2 x4 x5 (u57 x7 x3) (x7 ++ ([x3].take 1))) x0 (u57 x7 x3) (A.ib .add .i64 x2 1) x4 x5 (u57 x7 x3) (x7 ++ ([x3].take 1)) (by kernel_rfl))
  have h2 := (g17F A n _ 4 _ (g17R10s0 A x0 x1 x2 x3 x4 x5 x6 x7) _ (by kernel_rfl) (by kernel_rfl)).trans (g17R4 A n (g17W A n (pth 75) m0 (blockK 0 (g17Q A n (pth 15) (g17T kk)))) x0 (u57 x7 x3) x2 x4 x5 (u57 x7 x3) (x7 ++ ([x3].take 1)))
  rw [h1] at h2
  have h3 := (g17Qn A n _ _ _).trans h2
  have h4 := (blockK_n 1 _ _).trans h3
  have h5 := (g17F A n _ 10 _ ⟨[(1, tS x0), (2, pT 1000 0), (4, pT 1001 0), (5, sL 2000 none x1 1), (6, i6 x2), (7, u64v x3)], [(1000, bU 8 x4 40), (1001, bU 8 x5 40), (2000, ⟨[.nums .u64 x6 x7], 36, 2⟩)]⟩ _ (by kernel_rfl) (by kernel_rfl)).trans (g17R10 A n (blockK 1 (g17Q A n (pth 459) (g17W A n (pth 75) m0 (blockK 0 (g17Q A n (pth 15) (g17T kk)))))) x0 x1 x2 x3 x4 x5 x6 x7)
  rw [h4] at h5
  exact (g17F A n _ 10 _ _ ⟨[(1, tS x0), (2, pT 1000 0), (4, pT 1001 0), (5, sL 2000 none x1 1), (6, i6 x2), (7, u64v x3)], [(1000, bU 8 x4 40), (1001, bU 8 x5 40), (2000, ⟨[.nums .u64 x6 x7], 36, 2⟩)]⟩ (by kernel_rfl) (h.trans (by kernel_rfl))).trans (h5.trans (by kernel_rfl))
def g17L7 {R : Type} (A : Ar) (n : Nat) (kk : KK R) (lg17L3 : LN → Nat → Int → LN → LN → Nat → LN → Option R) : Nat → LN → Nat → Int → Nat → Int → LN → LN → Nat → LN → Option R
  | 0, _, _, _, _, _, _, _, _, _ => none
  | m + 1, x0, x1, x2, x3, x4, x5, x6, x7, x8 => match A.ic .lss x4 8 with
  | true => g17J9 A n kk (g17L7 A n kk lg17L3 m) x0 x1 x2 x3 x4 x5 x6 x7 x8
  | false => g17J10 A n kk lg17L3 x0 x1 x2 x3 x5 x6 x7 x8
theorem g17L7_eq {R : Type} (A : Ar) (n : Nat) (kk : KK R) (m0 : Nat) (lg17L3 : LN → Nat → Int → LN → LN → Nat → LN → Option R)
    (hg17L3 : ∀ (s : St) (x0 : LN) (x1 : Nat) (x2 : Int) (x3 x4 : LN) (x5 : Nat) (x6 : LN), keep g17an 3 s = ⟨[(1, tS x0), (2, pT 1000 0), (4, pT 1001 0), (5, sL 2000 none x1 1), (6, i6 x2)], [(1000, bU 8 x3 40), (1001, bU 8 x4 40), (2000, ⟨[.nums .u64 x5 x6], 36, 2⟩)]⟩ → g17V A n (pth 75) m0 (blockK 0 (g17Q A n (pth 15) (g17T kk))) s = lg17L3 x0 x1 x2 x3 x4 x5 x6) (m : Nat) (s : St) (x0 : LN) (x1 : Nat) (x2 : Int) (x3 : Nat) (x4 : Int) (x5 x6 : LN) (x7 : Nat) (x8 : LN) (h : keep g17an 7 s = ⟨[(1, tS x0), (2, pT 1000 0), (4, pT 1001 0), (5, sL 2000 none x1 1), (6, i6 x2), (7, u64v x3), (8, i6 x4)], [(1000, bU 8 x5 40), (1001, bU 8 x6 40), (2000, ⟨[.nums .u64 x7 x8], 36, 2⟩)]⟩) :
    g17V A n (pth 19019) m (blockK 2 (g17Q A n (pth 3659) (blockK 1 (g17Q A n (pth 459) (g17W A n (pth 75) m0 (blockK 0 (g17Q A n (pth 15) (g17T kk)))))))) s = g17L7 A n kk lg17L3 m x0 x1 x2 x3 x4 x5 x6 x7 x8 := by
  induction m generalizing s x0 x1 x2 x3 x4 x5 x6 x7 x8 with
  | zero => rfl
  | succ m ih =>
    have h1 := (g17Qn A n _ _ _).trans (g17J9_eq A n kk m0 m (g17L7 A n kk lg17L3 m) ih (g17R7s0 A x0 x1 x2 x3 x4 x5 x6 x7 x8) x0 x1 x2 x3 x4 x5 x6 x7 x8 (by kernel_rfl))
    have h2 := (g17p166475 A n _ _).trans h1
    have h3 := (g17Qn A n _ _ _).trans (g17J10_eq A n kk m0 lg17L3 hg17L3 (g17R7s0 A x0 x1 x2 x3 x4 x5 x6 x7 x8) x0 x1 x2 x3 x5 x6 x7 x8 (by kernel_rfl))
    have h4 := (blockK_hit 2 _ _).trans h3
    have h5 := (g17We A n (pth 19019) m _ _ _).trans h4
    have h6 := (g17Qe A n (pth 51787) _ _ _).trans h5
    have h7 := (g17p232011 A n _ _).trans h6
    have h8 := g17p100939 A n (g17Q A n (pth 51787) (g17W A n (pth 19019) m (blockK 2 (g17Q A n (pth 3659) (blockK 1 (g17Q A n (pth 459) (g17W A n (pth 75) m0 (blockK 0 (g17Q A n (pth 15) (g17T kk)))))))))) (g17R7s0 A x0 x1 x2 x3 x4 x5 x6 x7 x8) (A.ic .lss x4 8) (by kernel_rfl)
    rw [h2, h7] at h8
    have h9 := (g17Qn A n _ _ _).trans h8
    have h10 := (g17F A n _ 7 _ ⟨[(1, tS x0), (2, pT 1000 0), (4, pT 1001 0), (5, sL 2000 none x1 1), (6, i6 x2), (7, u64v x3), (8, i6 x4)], [(1000, bU 8 x5 40), (1001, bU 8 x6 40), (2000, ⟨[.nums .u64 x7 x8], 36, 2⟩)]⟩ _ (by kernel_rfl) (by kernel_rfl)).trans (g17R7 A n (g17Q A n (pth 100939) (g17Q A n (pth 51787) (g17W A n (pth 19019) m (blockK 2 (g17Q A n (pth 3659) (blockK 1 (g17Q A n (pth 459) (g17W A n (pth 75) m0 (blockK 0 (g17Q A n (pth 15) (g17T kk))))))))))) x0 x1 x2 x3 x4 x5 x6 x7 x8)
    rw [h9] at h10
    have h11 := (g17p35403 A n _ _).trans h10
    have h12 := (g17p19019 A n _ _).trans h11
    exact (loopD_first (s' := ⟨[(1, tS x0), (2, pT 1000 0), (4, pT 1001 0), (5, sL 2000 none x1 1), (6, i6 x2), (7, u64v x3), (8, i6 x4)], [(1000, bU 8 x5 40), (1001, bU 8 x6 40), (2000, ⟨[.nums .u64 x7 x8], 36, 2⟩)]⟩) (id := 7) (by kernel_rfl) (h.trans (by kernel_rfl)) _).trans ((g17Vs A n _ m _ _).trans (h12.trans (by kernel_rfl)))
def g17J5 {R : Type} (A : Ar) (n : Nat) (kk : KK R) (lg17L3 : LN → Nat → Int → LN → LN → Nat → LN → Option R) (x0 : LN) (x1 : Nat) (x2 : Int) (x3 x4 : LN) (x5 : Nat) (x6 : LN) : Option R :=
  g17L7 A n kk lg17L3 n x0 x1 x2 0 0 x3 x4 x5 x6
theorem g17J5_eq {R : Type} (A : Ar) (n : Nat) (kk : KK R) (m0 : Nat) (lg17L3 : LN → Nat → Int → LN → LN → Nat → LN → Option R)
    (hg17L3 : ∀ (s : St) (x0 : LN) (x1 : Nat) (x2 : Int) (x3 x4 : LN) (x5 : Nat) (x6 : LN), keep g17an 3 s = ⟨[(1, tS x0), (2, pT 1000 0), (4, pT 1001 0), (5, sL 2000 none x1 1), (6, i6 x2)], [(1000, bU 8 x3 40), (1001, bU 8 x4 40), (2000, ⟨[.nums .u64 x5 x6], 36, 2⟩)]⟩ → g17V A n (pth 75) m0 (blockK 0 (g17Q A n (pth 15) (g17T kk))) s = lg17L3 x0 x1 x2 x3 x4 x5 x6) (s : St) (x0 : LN) (x1 : Nat) (x2 : Int) (x3 x4 : LN) (x5 : Nat) (x6 : LN) (h : keep g17an 5 s = ⟨[(1, tS x0), (2, pT 1000 0), (4, pT 1001 0), (5, sL 2000 none x1 1), (6, i6 x2)], [(1000, bU 8 x3 40), (1001, bU 8 x4 40), (2000, ⟨[.nums .u64 x5 x6], 36, 2⟩)]⟩) :
    g17D A n (pth 203) (g17W A n (pth 75) m0 (blockK 0 (g17Q A n (pth 15) (g17T kk)))) s = g17J5 A n kk lg17L3 x0 x1 x2 x3 x4 x5 x6 := by
  have h1 := (g17p10827 A n _ _).trans (g17L7_eq A n kk m0 lg17L3 hg17L3 n (g17R6s0 A x0 x1 x2 0 x3 x4 x5 x6) x0 x1 x2 0 0 x3 x4 x5 x6 (by kernel_rfl))
  have h2 := (g17p6731 A n _ _).trans h1
  have h3 := (g17Qn A n _ _ _).trans h2
  have h4 := (g17F A n _ 6 _ (g17R5s0 A x0 x1 x2 x3 x4 x5 x6) _ (by kernel_rfl) (by kernel_rfl)).trans (g17R6 A n (g17Q A n (pth 6731) (g17Q A n (pth 3659) (blockK 1 (g17Q A n (pth 459) (g17W A n (pth 75) m0 (blockK 0 (g17Q A n (pth 15) (g17T kk)))))))) x0 x1 x2 0 x3 x4 x5 x6)
  rw [h3] at h4
  have h5 := (g17p2635 A n _ _).trans h4
  have h6 := (g17p1611 A n _ _).trans h5
  have h7 := (g17Qn A n _ _ _).trans h6
  have h8 := (g17F A n _ 5 _ ⟨[(1, tS x0), (2, pT 1000 0), (4, pT 1001 0), (5, sL 2000 none x1 1), (6, i6 x2)], [(1000, bU 8 x3 40), (1001, bU 8 x4 40), (2000, ⟨[.nums .u64 x5 x6], 36, 2⟩)]⟩ _ (by kernel_rfl) (by kernel_rfl)).trans (g17R5 A n (g17Q A n (pth 1611) (blockK 1 (g17Q A n (pth 459) (g17W A n (pth 75) m0 (blockK 0 (g17Q A n (pth 15) (g17T kk))))))) x0 x1 x2 x3 x4 x5 x6)
  rw [h7] at h8
  have h9 := (g17p587 A n _ _).trans h8
  have h10 := (g17p331 A n _ _).trans h9
  have h11 := (g17p203 A n _ _).trans h10
  exact (g17F A n _ 5 _ _ ⟨[(1, tS x0), (2, pT 1000 0), (4, pT 1001 0), (5, sL 2000 none x1 1), (6, i6 x2)], [(1000, bU 8 x3 40), (1001, bU 8 x4 40), (2000, ⟨[.nums .u64 x5 x6], 36, 2⟩)]⟩ (by kernel_rfl) (h.trans (by kernel_rfl))).trans (h11.trans (by kernel_rfl))
def g17J14 {R : Type} (A : Ar) (n : Nat) (kk : KK R) (lg17L12 : Nat → Int → LN → LN → Nat → LN → Option R) (x0 : Nat) (x1 : Int) (x2 x3 : LN) (x4 : Nat) (x5 : LN) : Option R :=
  match A.neg (A.ib .sub .i64 x1 2) with
  | true => none
  | false => match A.lt (A.toN (A.ib .sub .i64 x1 2)) x0 with
    | true => match g22ok A (x5.getD (A.toN (A.ib .sub .i64 x1 2)) 0) 19 with
      | true => match A.neg (A.ib .sub .i64 x1 2) with
        | true => none
        | false => match A.lt (A.toN (A.ib .sub .i64 x1 2)) x0 with
          | true => match g22ok A (x5.getD (A.toN (A.ib .sub .i64 x1 2)) 0) 61 with
            | true => match A.neg (A.ib .sub .i64 x1 2) with
              | true => none
              | false => match A.lt (A.toN (A.ib .sub .i64 x1 2)) x0 with
                | true => match A.neg (A.ib .sub .i64 x1 15) with
                  | true => none
                  | false => match A.lt (A.toN (A.ib .sub .i64 x1 15)) x0 with
                    | true => match g22ok A (x5.getD (A.toN (A.ib .sub .i64 x1 15)) 0) 1 with
                      | true => match A.neg (A.ib .sub .i64 x1 15) with
                        | true => none
                        | false => match A.lt (A.toN (A.ib .sub .i64 x1 15)) x0 with
                          | true => match g22ok A (x5.getD (A.toN (A.ib .sub .i64 x1 15)) 0) 8 with
                            | true => match A.neg (A.ib .sub .i64 x1 15) with
                              | true => none
                              | false => match A.lt (A.toN (A.ib .sub .i64 x1 15)) x0 with
                                | true => match A.neg (A.ib .sub .i64 x1 7) with
                                  | true => none
                                  | false => match A.lt (A.toN (A.ib .sub .i64 x1 7)) x0 with
                                    | true => match A.neg (A.ib .sub .i64 x1 16) with
                                      | true => none
                                      | false => match A.lt (A.toN (A.ib .sub .i64 x1 16)) x0 with
                                        | true => match A.eq x0 (x4 + 0) with
                                          | true => match A.le (((x5 ++ ([A.nb .add .u64 (A.nb .add .u64 (A.nb .add .u64 (A.nb .xor .u64 (A.nb .xor .u64 (g22r0 A (x5.getD (A.toN (A.ib .sub .i64 x1 2)) 0) 19) (g22r0 A (x5.getD (A.toN (A.ib .sub .i64 x1 2)) 0) 61)) (A.nsh .shr .u64 (x5.getD (A.toN (A.ib .sub .i64 x1 2)) 0) 6)) (x5.getD (A.toN (A.ib .sub .i64 x1 7)) 0)) (A.nb .xor .u64 (A.nb .xor .u64 (g22r0 A (x5.getD (A.toN (A.ib .sub .i64 x1 15)) 0) 1) (g22r0 A (x5.getD (A.toN (A.ib .sub .i64 x1 15)) 0) 8)) (A.nsh .shr .u64 (x5.getD (A.toN (A.ib .sub .i64 x1 15)) 0) 7))) (x5.getD (A.toN (A.ib .sub .i64 x1 16)) 0)].take 1)).length) * 8) 140737488355328 with
                                            | true => lg17L12 ((x5 ++ ([A.nb .add .u64 (A.nb .add .u64 (A.nb .add .u64 (A.nb .xor .u64 (A.nb .xor .u64 (g22r0 A (x5.getD (A.toN (A.ib .sub .i64 x1 2)) 0) 19) (g22r0 A (x5.getD (A.toN (A.ib .sub .i64 x1 2)) 0) 61)) (A.nsh .shr .u64 (x5.getD (A.toN (A.ib .sub .i64 x1 2)) 0) 6)) (x5.getD (A.toN (A.ib .sub .i64 x1 7)) 0)) (A.nb .xor .u64 (A.nb .xor .u64 (g22r0 A (x5.getD (A.toN (A.ib .sub .i64 x1 15)) 0) 1) (g22r0 A (x5.getD (A.toN (A.ib .sub .i64 x1 15)) 0) 8)) (A.nsh .shr .u64 (x5.getD (A.toN (A.ib .sub .i64 x1 15)) 0) 7))) (x5.getD (A.toN (A.ib .sub .i64 x1 16)) 0)].take 1)).length) (A.ib .add .i64 x1 1) x2 x3 ((x5 ++ ([A.nb .add .u64 (A.nb .add .u64 (A.nb .add .u64 (A.nb .xor .u64 (A.nb .xor .u64 (g22r0 A (x5.getD (A.toN (A.ib .sub .i64 x1 2)) 0) 19) (g22r0 A (x5.getD (A.toN (A.ib .sub .i64 x1 2)) 0) 61)) (A.nsh .shr .u64 (x5.getD (A.toN (A.ib .sub .i64 x1 2)) 0) 6)) (x5.getD (A.toN (A.ib .sub .i64 x1 7)) 0)) (A.nb .xor .u64 (A.nb .xor .u64 (g22r0 A (x5.getD (A.toN (A.ib .sub .i64 x1 15)) 0) 1) (g22r0 A (x5.getD (A.toN (A.ib .sub .i64 x1 15)) 0) 8)) (A.nsh .shr .u64 (x5.getD (A.toN (A.ib .sub .i64 x1 15)) 0) 7))) (x5.getD (A.toN (A.ib .sub .i64 x1 16)) 0)].take 1)).length) (x5 ++ ([A.nb .add .u64 (A.nb .add .u64 (A.nb .add .u64 (A.nb .xor .u64 (A.nb .xor .u64 (g22r0 A (x5.getD (A.toN (A.ib .sub .i64 x1 2)) 0) 19) (g22r0 A (x5.getD (A.toN (A.ib .sub .i64 x1 2)) 0) 61)) (A.nsh .shr .u64 (x5.getD (A.toN (A.ib .sub .i64 x1 2)) 0) 6)) (x5.getD (A.toN (A.ib .sub .i64 x1 7)) 0)) (A.nb .xor .u64 (A.nb .xor .u64 (g22r0 A (x5.getD (A.toN (A.ib .sub .i64 x1 15)) 0) 1) (g22r0 A (x5.getD (A.toN (A.ib .sub .i64 x1 15)) 0) 8)) (A.nsh .shr .u64 (x5.getD (A.toN (A.ib .sub .i64 x1 15)) 0) 7))) (x5.getD (A.toN (A.ib .sub .i64 x1 16)) 0)].take 1))
                                            | false => none
                                          | false => none
                                        | false => none
                                    | false => none
                                | false => none
                            | false => none
                          | false => none
                      | false => none
                    | false => none
                | false => none
            | false => none
          | false => none
      | false => none
    | false => none
abbrev u58 (A : Ar) (x5 : LN) (x1 : Int) := x5 ++ ([A.nb .add .u64 (A.nb .add .u64 (A.nb .add .u64 (A.nb .xor .u64 (A.nb .xor .u64 (g22r0 A (x5.getD (A.toN (A.ib .sub .i64 x1 2)) 0) 19) (g22r0 A (x5.getD (A.toN (A.ib .sub .i64 x1 2)) 0) 61)) (A.nsh .shr .u64 (x5.getD (A.toN (A.ib .sub .i64 x1 2)) 0) 6)) (x5.getD (A.toN (A.ib .sub .i64 x1 7)) 0)) (A.nb .xor .u64 (A.nb .xor .u64 (g22r0 A (x5.getD (A.toN (A.ib .sub .i64 x1 15)) 0) 1) (g22r0 A (x5.getD (A.toN (A.ib .sub .i64 x1 15)) 0) 8)) (A.nsh .shr .u64 (x5.getD (A.toN (A.ib .sub .i64 x1 15)) 0) 7))) (x5.getD (A.toN (A.ib .sub .i64 x1 16)) 0)].take 1)
abbrev u59 (A : Ar) (x5 : LN) (x1 : Int) := A.nb .xor .u64 (A.nb .xor .u64 (g22r0 A (x5.getD (A.toN (A.ib .sub .i64 x1 2)) 0) 19) (g22r0 A (x5.getD (A.toN (A.ib .sub .i64 x1 2)) 0) 61)) (A.nsh .shr .u64 (x5.getD (A.toN (A.ib .sub .i64 x1 2)) 0) 6)
abbrev u60 (A : Ar) (x5 : LN) (x1 : Int) := A.nb .xor .u64 (A.nb .xor .u64 (g22r0 A (x5.getD (A.toN (A.ib .sub .i64 x1 15)) 0) 1) (g22r0 A (x5.getD (A.toN (A.ib .sub .i64 x1 15)) 0) 8)) (A.nsh .shr .u64 (x5.getD (A.toN (A.ib .sub .i64 x1 15)) 0) 7)
theorem g17J14_eq {R : Type} (A : Ar) (n : Nat) (kk : KK R) (m0 : Nat) (lg17L12 : Nat → Int → LN → LN → Nat → LN → Option R)
    (hg17L12 : ∀ (s : St) (x0 : Nat) (x1 : Int) (x2 x3 : LN) (x4 : Nat) (x5 : LN), keep g17an 12 s = ⟨[(2, pT 1000 0), (4, pT 1001 0), (5, sL 2000 none x0 1), (9, i6 x1)], [(1000, bU 8 x2 40), (1001, bU 8 x3 40), (2000, ⟨[.nums .u64 x4 x5], 36, 2⟩)]⟩ → g17V A n (pth 151) m0 (blockK 4 (g17Q A n (pth 31) (g17T kk))) s = lg17L12 x0 x1 x2 x3 x4 x5) (s : St) (x0 : Nat) (x1 : Int) (x2 x3 : LN) (x4 : Nat) (x5 : LN) (h : keep g17an 14 s = ⟨[(2, pT 1000 0), (4, pT 1001 0), (5, sL 2000 none x0 1), (9, i6 x1)], [(1000, bU 8 x2 40), (1001, bU 8 x3 40), (2000, ⟨[.nums .u64 x4 x5], 36, 2⟩)]⟩) :
    g17D A n (pth 407) (g17W A n (pth 151) m0 (blockK 4 (g17Q A n (pth 31) (g17T kk)))) s = g17J14 A n kk lg17L12 x0 x1 x2 x3 x4 x5 := by
  have h1 := (g17Wn A n _ _ _ _).trans (hg17L12 (g17R13s0 A ((u58 A x5 x1).length) x1 x2 x3 ((u58 A x5 x1).length) (u58 A x5 x1)) ((u58 A x5 x1).length) (A.ib .add .i64 x1 1) x2 x3 ((u58 A x5 x1).length) (u58 A x5 x1) (by kernel_rfl))
  have h2 := (g17F A n _ 13 _ (g17R16s0 A x0 x1 (u59 A x5 x1) (u60 A x5 x1) x2 x3 x4 x5) _ (by kernel_rfl) (by kernel_rfl)).trans (g17R13 A n (g17W A n (pth 151) m0 (blockK 4 (g17Q A n (pth 31) (g17T kk)))) ((u58 A x5 x1).length) x1 x2 x3 ((u58 A x5 x1).length) (u58 A x5 x1))
  rw [h1] at h2
  have h3 := (g17Qn A n _ _ _).trans h2
  have h4 := (blockK_n 5 _ _).trans h3
  have h5 := (g17F A n _ 16 _ (g17R15s0 A x0 x1 (u59 A x5 x1) x2 x3 x4 x5) _ (by kernel_rfl) (by kernel_rfl)).trans (g17R16 A n (blockK 5 (g17Q A n (pth 919) (g17W A n (pth 151) m0 (blockK 4 (g17Q A n (pth 31) (g17T kk)))))) x0 x1 (u59 A x5 x1) (u60 A x5 x1) x2 x3 x4 x5)
  rw [h4] at h5
  have h6 := (g17Qn A n _ _ _).trans h5
  have h7 := (g17F A n _ 15 _ (g17R14s0 A x0 x1 x2 x3 x4 x5) _ (by kernel_rfl) (by kernel_rfl)).trans (g17R15 A n (g17Q A n (pth 7319) (blockK 5 (g17Q A n (pth 919) (g17W A n (pth 151) m0 (blockK 4 (g17Q A n (pth 31) (g17T kk))))))) x0 x1 (u59 A x5 x1) x2 x3 x4 x5)
  rw [h6] at h7
  have h8 := (g17p3223 A n _ _).trans h7
  have h9 := (g17Qn A n _ _ _).trans h8
  have h10 := (g17F A n _ 14 _ ⟨[(2, pT 1000 0), (4, pT 1001 0), (5, sL 2000 none x0 1), (9, i6 x1)], [(1000, bU 8 x2 40), (1001, bU 8 x3 40), (2000, ⟨[.nums .u64 x4 x5], 36, 2⟩)]⟩ _ (by kernel_rfl) (by kernel_rfl)).trans (g17R14 A n (g17Q A n (pth 3223) (blockK 5 (g17Q A n (pth 919) (g17W A n (pth 151) m0 (blockK 4 (g17Q A n (pth 31) (g17T kk))))))) x0 x1 x2 x3 x4 x5)
  rw [h9] at h10
  have h11 := (g17p1175 A n _ _).trans h10
  have h12 := (g17p663 A n _ _).trans h11
  have h13 := (g17p407 A n _ _).trans h12
  exact (g17F A n _ 14 _ _ ⟨[(2, pT 1000 0), (4, pT 1001 0), (5, sL 2000 none x0 1), (9, i6 x1)], [(1000, bU 8 x2 40), (1001, bU 8 x3 40), (2000, ⟨[.nums .u64 x4 x5], 36, 2⟩)]⟩ (by kernel_rfl) (h.trans (by kernel_rfl))).trans (h13.trans (by kernel_rfl))
def g17J22 {R : Type} (A : Ar) (n : Nat) (kk : KK R) (lg17L20 : Nat → Nat → Int → LN → LN → Nat → LN → Nat → LN → LN → Option R) (x0 x1 : Nat) (x2 : Int) (x3 x4 : LN) (x5 : Nat) (x6 : LN) (x7 : Nat) (x8 x9 : LN) : Option R :=
  match A.neg x2 with
  | true => none
  | false => match A.lt (A.toN x2) x1 with
    | true => match A.neg x2 with
      | true => none
      | false => match A.lt (A.toN x2) x0 with
        | true => match g24ok A x9 (x8.getD (A.toN x2) 0) (x6.getD (A.toN x2) 0) with
          | true => lg17L20 x0 x1 (A.ib .add .i64 x2 1) x3 x4 x5 x6 x7 x8 (g24r0 A x9 (x8.getD (A.toN x2) 0) (x6.getD (A.toN x2) 0))
          | false => none
        | false => none
    | false => none
theorem g17J22_eq {R : Type} (A : Ar) (n : Nat) (kk : KK R) (m0 : Nat) (lg17L20 : Nat → Nat → Int → LN → LN → Nat → LN → Nat → LN → LN → Option R)
    (hg17L20 : ∀ (s : St) (x0 x1 : Nat) (x2 : Int) (x3 x4 : LN) (x5 : Nat) (x6 : LN) (x7 : Nat) (x8 x9 : LN), keep g17an 20 s = ⟨[(2, pT 1000 0), (4, pT 1001 0), (5, sL 2000 none x0 1), (12, sL 18000 none x1 1), (13, pT 19001 0), (14, i6 x2)], [(1000, bU 8 x3 40), (1001, bU 8 x4 40), (2000, ⟨[.nums .u64 x5 x6], 36, 2⟩), (18000, ⟨[.nums .u64 x7 x8], 36, 2⟩), (19001, bU 8 x9 40)]⟩ → g17V A n (pth 1215) m0 (blockK 6 (g17Q A n (pth 255) (g17T kk))) s = lg17L20 x0 x1 x2 x3 x4 x5 x6 x7 x8 x9) (s : St) (x0 x1 : Nat) (x2 : Int) (x3 x4 : LN) (x5 : Nat) (x6 : LN) (x7 : Nat) (x8 x9 : LN) (h : keep g17an 22 s = ⟨[(2, pT 1000 0), (4, pT 1001 0), (5, sL 2000 none x0 1), (12, sL 18000 none x1 1), (13, pT 19001 0), (14, i6 x2)], [(1000, bU 8 x3 40), (1001, bU 8 x4 40), (2000, ⟨[.nums .u64 x5 x6], 36, 2⟩), (18000, ⟨[.nums .u64 x7 x8], 36, 2⟩), (19001, bU 8 x9 40)]⟩) :
    g17D A n (pth 3263) (g17W A n (pth 1215) m0 (blockK 6 (g17Q A n (pth 255) (g17T kk)))) s = g17J22 A n kk lg17L20 x0 x1 x2 x3 x4 x5 x6 x7 x8 x9 := by
  have h1 := (g17Wn A n _ _ _ _).trans (hg17L20 (g17R21s0 A x0 x1 x2 x3 x4 x5 x6 x7 x8 (g24r0 A x9 (x8.getD (A.toN x2) 0) (x6.getD (A.toN x2) 0))) x0 x1 (A.ib .add .i64 x2 1) x3 x4 x5 x6 x7 x8 (g24r0 A x9 (x8.getD (A.toN x2) 0) (x6.getD (A.toN x2) 0)) (by kernel_rfl))
  have h2 := (g17F A n _ 21 _ (g17R22s0 A x0 x1 x2 x3 x4 x5 x6 x7 x8 x9) _ (by kernel_rfl) (by kernel_rfl)).trans (g17R21 A n (g17W A n (pth 1215) m0 (blockK 6 (g17Q A n (pth 255) (g17T kk)))) x0 x1 x2 x3 x4 x5 x6 x7 x8 (g24r0 A x9 (x8.getD (A.toN x2) 0) (x6.getD (A.toN x2) 0)))
  rw [h1] at h2
  have h3 := (g17Qn A n _ _ _).trans h2
  have h4 := (blockK_n 7 _ _).trans h3
  have h5 := (g17F A n _ 22 _ ⟨[(2, pT 1000 0), (4, pT 1001 0), (5, sL 2000 none x0 1), (12, sL 18000 none x1 1), (13, pT 19001 0), (14, i6 x2)], [(1000, bU 8 x3 40), (1001, bU 8 x4 40), (2000, ⟨[.nums .u64 x5 x6], 36, 2⟩), (18000, ⟨[.nums .u64 x7 x8], 36, 2⟩), (19001, bU 8 x9 40)]⟩ _ (by kernel_rfl) (by kernel_rfl)).trans (g17R22 A n (blockK 7 (g17Q A n (pth 7359) (g17W A n (pth 1215) m0 (blockK 6 (g17Q A n (pth 255) (g17T kk)))))) x0 x1 x2 x3 x4 x5 x6 x7 x8 x9)
  rw [h4] at h5
  have h6 := (g17p5311 A n _ _).trans h5
  have h7 := (g17p3263 A n _ _).trans h6
  exact (g17F A n _ 22 _ _ ⟨[(2, pT 1000 0), (4, pT 1001 0), (5, sL 2000 none x0 1), (12, sL 18000 none x1 1), (13, pT 19001 0), (14, i6 x2)], [(1000, bU 8 x3 40), (1001, bU 8 x4 40), (2000, ⟨[.nums .u64 x5 x6], 36, 2⟩), (18000, ⟨[.nums .u64 x7 x8], 36, 2⟩), (19001, bU 8 x9 40)]⟩ (by kernel_rfl) (h.trans (by kernel_rfl))).trans (h7.trans (by kernel_rfl))
def g17J23 {R : Type} (A : Ar) (n : Nat) (kk : KK R) (x0 x1 x2 : LN) : Option R :=
  kk (aN .u64 8 (((((((([0, 0, 0, 0, 0, 0, 0, 0].set 0 (A.nb .add .u64 (x0.getD 0 0) (x2.getD 0 0))).set 1 (A.nb .add .u64 (x0.getD 1 0) (x2.getD 1 0))).set 2 (A.nb .add .u64 (x0.getD 2 0) (x2.getD 2 0))).set 3 (A.nb .add .u64 (x0.getD 3 0) (x2.getD 3 0))).set 4 (A.nb .add .u64 (x0.getD 4 0) (x2.getD 4 0))).set 5 (A.nb .add .u64 (x0.getD 5 0) (x2.getD 5 0))).set 6 (A.nb .add .u64 (x0.getD 6 0) (x2.getD 6 0))).set 7 (A.nb .add .u64 (x0.getD 7 0) (x2.getD 7 0)))) [(1000, bU 8 x0 40), (1001, bU 8 (((((((([0, 0, 0, 0, 0, 0, 0, 0].set 0 (A.nb .add .u64 (x0.getD 0 0) (x2.getD 0 0))).set 1 (A.nb .add .u64 (x0.getD 1 0) (x2.getD 1 0))).set 2 (A.nb .add .u64 (x0.getD 2 0) (x2.getD 2 0))).set 3 (A.nb .add .u64 (x0.getD 3 0) (x2.getD 3 0))).set 4 (A.nb .add .u64 (x0.getD 4 0) (x2.getD 4 0))).set 5 (A.nb .add .u64 (x0.getD 5 0) (x2.getD 5 0))).set 6 (A.nb .add .u64 (x0.getD 6 0) (x2.getD 6 0))).set 7 (A.nb .add .u64 (x0.getD 7 0) (x2.getD 7 0))) 40), (19001, bU 8 x2 40)]
abbrev u61 (A : Ar) (x0 : LN) (x2 : LN) := ((((((([0, 0, 0, 0, 0, 0, 0, 0].set 0 (A.nb .add .u64 (x0.getD 0 0) (x2.getD 0 0))).set 1 (A.nb .add .u64 (x0.getD 1 0) (x2.getD 1 0))).set 2 (A.nb .add .u64 (x0.getD 2 0) (x2.getD 2 0))).set 3 (A.nb .add .u64 (x0.getD 3 0) (x2.getD 3 0))).set 4 (A.nb .add .u64 (x0.getD 4 0) (x2.getD 4 0))).set 5 (A.nb .add .u64 (x0.getD 5 0) (x2.getD 5 0))).set 6 (A.nb .add .u64 (x0.getD 6 0) (x2.getD 6 0))).set 7 (A.nb .add .u64 (x0.getD 7 0) (x2.getD 7 0))
theorem g17J23_eq {R : Type} (A : Ar) (n : Nat) (kk : KK R) (s : St) (x0 x1 x2 : LN) (h : keep g17an 23 s = ⟨[(2, pT 1000 0), (4, pT 1001 0), (13, pT 19001 0)], [(1000, bU 8 x0 40), (1001, bU 8 x1 40), (19001, bU 8 x2 40)]⟩) :
    g17D A n (pth 255) (g17T kk) s = g17J23 A n kk x0 x1 x2 := by
  have h1 : (g17T kk) .ret (g17R23s0 A x0 x1 x2) = kk (aN .u64 8 (u61 A x0 x2)) [(1000, bU 8 x0 40), (1001, bU 8 (u61 A x0 x2) 40), (19001, bU 8 x2 40)] := by kernel_rfl
  have h2 := (g17p511 A n _ _).trans h1
  have h3 := (g17Qn A n _ _ _).trans h2
  have h4 := (g17F A n _ 23 _ ⟨[(2, pT 1000 0), (4, pT 1001 0), (13, pT 19001 0)], [(1000, bU 8 x0 40), (1001, bU 8 x1 40), (19001, bU 8 x2 40)]⟩ _ (by kernel_rfl) (by kernel_rfl)).trans (g17R23 A n (g17Q A n (pth 511) (g17T kk)) x0 x1 x2)
  rw [h3] at h4
  have h5 := (g17p255 A n _ _).trans h4
  exact (g17F A n _ 23 _ _ ⟨[(2, pT 1000 0), (4, pT 1001 0), (13, pT 19001 0)], [(1000, bU 8 x0 40), (1001, bU 8 x1 40), (19001, bU 8 x2 40)]⟩ (by kernel_rfl) (h.trans (by kernel_rfl))).trans (h5.trans (by kernel_rfl))
def g17L20 {R : Type} (A : Ar) (n : Nat) (kk : KK R) : Nat → Nat → Nat → Int → LN → LN → Nat → LN → Nat → LN → LN → Option R
  | 0, _, _, _, _, _, _, _, _, _, _ => none
  | m + 1, x0, x1, x2, x3, x4, x5, x6, x7, x8, x9 => match A.ic .lss x2 80 with
  | true => g17J22 A n kk (g17L20 A n kk m) x0 x1 x2 x3 x4 x5 x6 x7 x8 x9
  | false => g17J23 A n kk x3 x4 x9
theorem g17L20_eq {R : Type} (A : Ar) (n : Nat) (kk : KK R) (m : Nat) (s : St) (x0 x1 : Nat) (x2 : Int) (x3 x4 : LN) (x5 : Nat) (x6 : LN) (x7 : Nat) (x8 x9 : LN) (h : keep g17an 20 s = ⟨[(2, pT 1000 0), (4, pT 1001 0), (5, sL 2000 none x0 1), (12, sL 18000 none x1 1), (13, pT 19001 0), (14, i6 x2)], [(1000, bU 8 x3 40), (1001, bU 8 x4 40), (2000, ⟨[.nums .u64 x5 x6], 36, 2⟩), (18000, ⟨[.nums .u64 x7 x8], 36, 2⟩), (19001, bU 8 x9 40)]⟩) :
    g17V A n (pth 1215) m (blockK 6 (g17Q A n (pth 255) (g17T kk))) s = g17L20 A n kk m x0 x1 x2 x3 x4 x5 x6 x7 x8 x9 := by
  induction m generalizing s x0 x1 x2 x3 x4 x5 x6 x7 x8 x9 with
  | zero => rfl
  | succ m ih =>
    have h1 := (g17Qn A n _ _ _).trans (g17J22_eq A n kk m (g17L20 A n kk m) ih (g17R20s0 A x0 x1 x2 x3 x4 x5 x6 x7 x8 x9) x0 x1 x2 x3 x4 x5 x6 x7 x8 x9 (by kernel_rfl))
    have h2 := (g17p10431 A n _ _).trans h1
    have h3 := (g17Qn A n _ _ _).trans (g17J23_eq A n kk (g17R20s0 A x0 x1 x2 x3 x4 x5 x6 x7 x8 x9) x3 x4 x9 (by kernel_rfl))
    have h4 := (blockK_hit 6 _ _).trans h3
    have h5 := (g17We A n (pth 1215) m _ _ _).trans h4
    have h6 := (g17Qe A n (pth 3263) _ _ _).trans h5
    have h7 := (g17p14527 A n _ _).trans h6
    have h8 := g17p6335 A n (g17Q A n (pth 3263) (g17W A n (pth 1215) m (blockK 6 (g17Q A n (pth 255) (g17T kk))))) (g17R20s0 A x0 x1 x2 x3 x4 x5 x6 x7 x8 x9) (A.ic .lss x2 80) (by kernel_rfl)
    rw [h2, h7] at h8
    have h9 := (g17Qn A n _ _ _).trans h8
    have h10 := (g17F A n _ 20 _ ⟨[(2, pT 1000 0), (4, pT 1001 0), (5, sL 2000 none x0 1), (12, sL 18000 none x1 1), (13, pT 19001 0), (14, i6 x2)], [(1000, bU 8 x3 40), (1001, bU 8 x4 40), (2000, ⟨[.nums .u64 x5 x6], 36, 2⟩), (18000, ⟨[.nums .u64 x7 x8], 36, 2⟩), (19001, bU 8 x9 40)]⟩ _ (by kernel_rfl) (by kernel_rfl)).trans (g17R20 A n (g17Q A n (pth 6335) (g17Q A n (pth 3263) (g17W A n (pth 1215) m (blockK 6 (g17Q A n (pth 255) (g17T kk)))))) x0 x1 x2 x3 x4 x5 x6 x7 x8 x9)
    rw [h9] at h10
    have h11 := (g17p2239 A n _ _).trans h10
    have h12 := (g17p1215 A n _ _).trans h11
    exact (loopD_first (s' := ⟨[(2, pT 1000 0), (4, pT 1001 0), (5, sL 2000 none x0 1), (12, sL 18000 none x1 1), (13, pT 19001 0), (14, i6 x2)], [(1000, bU 8 x3 40), (1001, bU 8 x4 40), (2000, ⟨[.nums .u64 x5 x6], 36, 2⟩), (18000, ⟨[.nums .u64 x7 x8], 36, 2⟩), (19001, bU 8 x9 40)]⟩) (id := 20) (by kernel_rfl) (h.trans (by kernel_rfl)) _).trans ((g17Vs A n _ m _ _).trans (h12.trans (by kernel_rfl)))
def g17J17 {R : Type} (A : Ar) (n : Nat) (kk : KK R) (x0 : Nat) (x1 x2 : LN) (x3 : Nat) (x4 : LN) : Option R :=
  match g23ok A with
  | true => g17L20 A n kk n x0 (g23r0 A) 0 x1 x2 x3 x4 (g23r1 A) (g23r2 A) x1
  | false => none
theorem g17J17_eq {R : Type} (A : Ar) (n : Nat) (kk : KK R) (s : St) (x0 : Nat) (x1 x2 : LN) (x3 : Nat) (x4 : LN) (h : keep g17an 17 s = ⟨[(2, pT 1000 0), (4, pT 1001 0), (5, sL 2000 none x0 1)], [(1000, bU 8 x1 40), (1001, bU 8 x2 40), (2000, ⟨[.nums .u64 x3 x4], 36, 2⟩)]⟩) :
    g17D A n (pth 31) (g17T kk) s = g17J17 A n kk x0 x1 x2 x3 x4 := by
  have h1 := (g17p703 A n _ _).trans (g17L20_eq A n kk n (g17R19s0 A x0 (g23r0 A) x1 x2 x3 x4 (g23r1 A) (g23r2 A) x1) x0 (g23r0 A) 0 x1 x2 x3 x4 (g23r1 A) (g23r2 A) x1 (by kernel_rfl))
  have h2 := (g17p447 A n _ _).trans h1
  have h3 := (g17Qn A n _ _ _).trans h2
  have h4 := (g17F A n _ 19 _ (g17R18s0 A x0 (g23r0 A) x1 x2 x3 x4 (g23r1 A) (g23r2 A)) _ (by kernel_rfl) (by kernel_rfl)).trans (g17R19 A n (g17Q A n (pth 447) (g17Q A n (pth 255) (g17T kk))) x0 (g23r0 A) x1 x2 x3 x4 (g23r1 A) (g23r2 A) x1)
  rw [h3] at h4
  have h5 := (g17p191 A n _ _).trans h4
  have h6 := (g17p127 A n _ _).trans h5
  have h7 := (g17Qn A n _ _ _).trans h6
  have h8 := (g17F A n _ 18 _ (g17R17s0 A x0 x1 x2 x3 x4) _ (by kernel_rfl) (by kernel_rfl)).trans (g17R18 A n (g17Q A n (pth 127) (g17T kk)) x0 (g23r0 A) x1 x2 x3 x4 (g23r1 A) (g23r2 A))
  rw [h7] at h8
  have h9 := (g17p63 A n _ _).trans h8
  have h10 := (g17Qn A n _ _ _).trans h9
  have h11 := (g17F A n _ 17 _ ⟨[(2, pT 1000 0), (4, pT 1001 0), (5, sL 2000 none x0 1)], [(1000, bU 8 x1 40), (1001, bU 8 x2 40), (2000, ⟨[.nums .u64 x3 x4], 36, 2⟩)]⟩ _ (by kernel_rfl) (by kernel_rfl)).trans (g17R17 A n (g17Q A n (pth 63) (g17T kk)) x0 x1 x2 x3 x4)
  rw [h10] at h11
  have h12 := (g17p31 A n _ _).trans h11
  exact (g17F A n _ 17 _ _ ⟨[(2, pT 1000 0), (4, pT 1001 0), (5, sL 2000 none x0 1)], [(1000, bU 8 x1 40), (1001, bU 8 x2 40), (2000, ⟨[.nums .u64 x3 x4], 36, 2⟩)]⟩ (by kernel_rfl) (h.trans (by kernel_rfl))).trans (h12.trans (by kernel_rfl))
def g17L12 {R : Type} (A : Ar) (n : Nat) (kk : KK R) : Nat → Nat → Int → LN → LN → Nat → LN → Option R
  | 0, _, _, _, _, _, _ => none
  | m + 1, x0, x1, x2, x3, x4, x5 => match A.ic .lss x1 80 with
  | true => g17J14 A n kk (g17L12 A n kk m) x0 x1 x2 x3 x4 x5
  | false => g17J17 A n kk x0 x2 x3 x4 x5
theorem g17L12_eq {R : Type} (A : Ar) (n : Nat) (kk : KK R) (m : Nat) (s : St) (x0 : Nat) (x1 : Int) (x2 x3 : LN) (x4 : Nat) (x5 : LN) (h : keep g17an 12 s = ⟨[(2, pT 1000 0), (4, pT 1001 0), (5, sL 2000 none x0 1), (9, i6 x1)], [(1000, bU 8 x2 40), (1001, bU 8 x3 40), (2000, ⟨[.nums .u64 x4 x5], 36, 2⟩)]⟩) :
    g17V A n (pth 151) m (blockK 4 (g17Q A n (pth 31) (g17T kk))) s = g17L12 A n kk m x0 x1 x2 x3 x4 x5 := by
  induction m generalizing s x0 x1 x2 x3 x4 x5 with
  | zero => rfl
  | succ m ih =>
    have h1 := (g17Qn A n _ _ _).trans (g17J14_eq A n kk m (g17L12 A n kk m) ih (g17R12s0 A x0 x1 x2 x3 x4 x5) x0 x1 x2 x3 x4 x5 (by kernel_rfl))
    have h2 := (g17p1303 A n _ _).trans h1
    have h3 := (g17Qn A n _ _ _).trans (g17J17_eq A n kk (g17R12s0 A x0 x1 x2 x3 x4 x5) x0 x2 x3 x4 x5 (by kernel_rfl))
    have h4 := (blockK_hit 4 _ _).trans h3
    have h5 := (g17We A n (pth 151) m _ _ _).trans h4
    have h6 := (g17Qe A n (pth 407) _ _ _).trans h5
    have h7 := (g17p1815 A n _ _).trans h6
    have h8 := g17p791 A n (g17Q A n (pth 407) (g17W A n (pth 151) m (blockK 4 (g17Q A n (pth 31) (g17T kk))))) (g17R12s0 A x0 x1 x2 x3 x4 x5) (A.ic .lss x1 80) (by kernel_rfl)
    rw [h2, h7] at h8
    have h9 := (g17Qn A n _ _ _).trans h8
    have h10 := (g17F A n _ 12 _ ⟨[(2, pT 1000 0), (4, pT 1001 0), (5, sL 2000 none x0 1), (9, i6 x1)], [(1000, bU 8 x2 40), (1001, bU 8 x3 40), (2000, ⟨[.nums .u64 x4 x5], 36, 2⟩)]⟩ _ (by kernel_rfl) (by kernel_rfl)).trans (g17R12 A n (g17Q A n (pth 791) (g17Q A n (pth 407) (g17W A n (pth 151) m (blockK 4 (g17Q A n (pth 31) (g17T kk)))))) x0 x1 x2 x3 x4 x5)
    rw [h9] at h10
    have h11 := (g17p279 A n _ _).trans h10
    have h12 := (g17p151 A n _ _).trans h11
    exact (loopD_first (s' := ⟨[(2, pT 1000 0), (4, pT 1001 0), (5, sL 2000 none x0 1), (9, i6 x1)], [(1000, bU 8 x2 40), (1001, bU 8 x3 40), (2000, ⟨[.nums .u64 x4 x5], 36, 2⟩)]⟩) (id := 12) (by kernel_rfl) (h.trans (by kernel_rfl)) _).trans ((g17Vs A n _ m _ _).trans (h12.trans (by kernel_rfl)))
def g17J11 {R : Type} (A : Ar) (n : Nat) (kk : KK R) (x0 : Nat) (x1 x2 : LN) (x3 : Nat) (x4 : LN) : Option R :=
  g17L12 A n kk n x0 16 x1 x2 x3 x4
theorem g17J11_eq {R : Type} (A : Ar) (n : Nat) (kk : KK R) (s : St) (x0 : Nat) (x1 x2 : LN) (x3 : Nat) (x4 : LN) (h : keep g17an 11 s = ⟨[(2, pT 1000 0), (4, pT 1001 0), (5, sL 2000 none x0 1)], [(1000, bU 8 x1 40), (1001, bU 8 x2 40), (2000, ⟨[.nums .u64 x3 x4], 36, 2⟩)]⟩) :
    g17D A n (pth 15) (g17T kk) s = g17J11 A n kk x0 x1 x2 x3 x4 := by
  have h1 := (g17p87 A n _ _).trans (g17L12_eq A n kk n (g17R11s0 A x0 x1 x2 x3 x4) x0 16 x1 x2 x3 x4 (by kernel_rfl))
  have h2 := (g17p55 A n _ _).trans h1
  have h3 := (g17Qn A n _ _ _).trans h2
  have h4 := (g17F A n _ 11 _ ⟨[(2, pT 1000 0), (4, pT 1001 0), (5, sL 2000 none x0 1)], [(1000, bU 8 x1 40), (1001, bU 8 x2 40), (2000, ⟨[.nums .u64 x3 x4], 36, 2⟩)]⟩ _ (by kernel_rfl) (by kernel_rfl)).trans (g17R11 A n (g17Q A n (pth 55) (g17Q A n (pth 31) (g17T kk))) x0 x1 x2 x3 x4)
  rw [h3] at h4
  have h5 := (g17p23 A n _ _).trans h4
  have h6 := (g17p15 A n _ _).trans h5
  exact (g17F A n _ 11 _ _ ⟨[(2, pT 1000 0), (4, pT 1001 0), (5, sL 2000 none x0 1)], [(1000, bU 8 x1 40), (1001, bU 8 x2 40), (2000, ⟨[.nums .u64 x3 x4], 36, 2⟩)]⟩ (by kernel_rfl) (h.trans (by kernel_rfl))).trans (h6.trans (by kernel_rfl))
def g17L3 {R : Type} (A : Ar) (n : Nat) (kk : KK R) : Nat → LN → Nat → Int → LN → LN → Nat → LN → Option R
  | 0, _, _, _, _, _, _, _ => none
  | m + 1, x0, x1, x2, x3, x4, x5, x6 => match A.ic .lss x2 16 with
  | true => g17J5 A n kk (g17L3 A n kk m) x0 x1 x2 x3 x4 x5 x6
  | false => g17J11 A n kk x1 x3 x4 x5 x6
theorem g17L3_eq {R : Type} (A : Ar) (n : Nat) (kk : KK R) (m : Nat) (s : St) (x0 : LN) (x1 : Nat) (x2 : Int) (x3 x4 : LN) (x5 : Nat) (x6 : LN) (h : keep g17an 3 s = ⟨[(1, tS x0), (2, pT 1000 0), (4, pT 1001 0), (5, sL 2000 none x1 1), (6, i6 x2)], [(1000, bU 8 x3 40), (1001, bU 8 x4 40), (2000, ⟨[.nums .u64 x5 x6], 36, 2⟩)]⟩) :
    g17V A n (pth 75) m (blockK 0 (g17Q A n (pth 15) (g17T kk))) s = g17L3 A n kk m x0 x1 x2 x3 x4 x5 x6 := by
  induction m generalizing s x0 x1 x2 x3 x4 x5 x6 with
  | zero => rfl
  | succ m ih =>
    have h1 := (g17Qn A n _ _ _).trans (g17J5_eq A n kk m (g17L3 A n kk m) ih (g17R3s0 A x0 x1 x2 x3 x4 x5 x6) x0 x1 x2 x3 x4 x5 x6 (by kernel_rfl))
    have h2 := (g17p651 A n _ _).trans h1
    have h3 := (g17Qn A n _ _ _).trans (g17J11_eq A n kk (g17R3s0 A x0 x1 x2 x3 x4 x5 x6) x1 x3 x4 x5 x6 (by kernel_rfl))
    have h4 := (blockK_hit 0 _ _).trans h3
    have h5 := (g17We A n (pth 75) m _ _ _).trans h4
    have h6 := (g17Qe A n (pth 203) _ _ _).trans h5
    have h7 := (g17p907 A n _ _).trans h6
    have h8 := g17p395 A n (g17Q A n (pth 203) (g17W A n (pth 75) m (blockK 0 (g17Q A n (pth 15) (g17T kk))))) (g17R3s0 A x0 x1 x2 x3 x4 x5 x6) (A.ic .lss x2 16) (by kernel_rfl)
    rw [h2, h7] at h8
    have h9 := (g17Qn A n _ _ _).trans h8
    have h10 := (g17F A n _ 3 _ ⟨[(1, tS x0), (2, pT 1000 0), (4, pT 1001 0), (5, sL 2000 none x1 1), (6, i6 x2)], [(1000, bU 8 x3 40), (1001, bU 8 x4 40), (2000, ⟨[.nums .u64 x5 x6], 36, 2⟩)]⟩ _ (by kernel_rfl) (by kernel_rfl)).trans (g17R3 A n (g17Q A n (pth 395) (g17Q A n (pth 203) (g17W A n (pth 75) m (blockK 0 (g17Q A n (pth 15) (g17T kk)))))) x0 x1 x2 x3 x4 x5 x6)
    rw [h9] at h10
    have h11 := (g17p139 A n _ _).trans h10
    have h12 := (g17p75 A n _ _).trans h11
    exact (loopD_first (s' := ⟨[(1, tS x0), (2, pT 1000 0), (4, pT 1001 0), (5, sL 2000 none x1 1), (6, i6 x2)], [(1000, bU 8 x3 40), (1001, bU 8 x4 40), (2000, ⟨[.nums .u64 x5 x6], 36, 2⟩)]⟩) (id := 3) (by kernel_rfl) (h.trans (by kernel_rfl)) _).trans ((g17Vs A n _ m _ _).trans (h12.trans (by kernel_rfl)))
def g17 {R : Type} (A : Ar) (n : Nat) (kk : KK R) (a b : LN) : Option R :=
  g17L3 A n kk n b 0 0 a [0, 0, 0, 0, 0, 0, 0, 0] 0 []
theorem g17_eq {R : Type} (A : Ar) (n : Nat) (kk : KK R) (a b : LN) :
    funD A gtys (g17O A) g17an n (bodyOf Try.f17) g17res [(aN .u64 8 a), (tS b)] [] kk = g17 A n kk a b := by
  have h1 := (g17p43 A n _ _).trans (g17L3_eq A n kk n (g17R2s0 A b 0 a [0, 0, 0, 0, 0, 0, 0, 0] 0 []) b 0 0 a [0, 0, 0, 0, 0, 0, 0, 0] 0 [] (by kernel_rfl))
  have h2 := (g17p27 A n _ _).trans h1
  have h3 := (g17Qn A n _ _ _).trans h2
  have h4 := (g17F A n _ 2 _ (g17R1s0 A b a [0, 0, 0, 0, 0, 0, 0, 0]) _ (by kernel_rfl) (by kernel_rfl)).trans (g17R2 A n (g17Q A n (pth 27) (g17Q A n (pth 15) (g17T kk))) b 0 a [0, 0, 0, 0, 0, 0, 0, 0] 0 [])
  rw [h3] at h4
  have h5 := (g17p11 A n _ _).trans h4
  have h6 := (g17p7 A n _ _).trans h5
  have h7 := (g17Qn A n _ _ _).trans h6
  have h8 := (g17F A n _ 1 _ (g17R0s0 A a b) _ (by kernel_rfl) (by kernel_rfl)).trans (g17R1 A n (g17Q A n (pth 7) (g17T kk)) b a [0, 0, 0, 0, 0, 0, 0, 0])
  rw [h7] at h8
  have h9 := (g17p3 A n _ _).trans h8
  have h10 := (g17Qn A n _ _ _).trans h9
  have h11 := (g17F A n _ 0 _ ⟨[(0, aN .u64 8 a), (1, tS b)], []⟩ _ (by kernel_rfl) (by kernel_rfl)).trans (g17R0 A n (g17Q A n (pth 3) (g17T kk)) a b)
  rw [h10] at h11
  have h12 := (g17p1 A n _ _).trans h11
  exact (show funD A gtys (g17O A) g17an n (bodyOf Try.f17) g17res [(aN .u64 8 a), (tS b)] [] kk = g17D A n (pth 1) (g17T kk) ⟨[(0, aN .u64 8 a), (1, tS b)], []⟩ from by kernel_rfl).trans (h12.trans (by kernel_rfl))
def g17is (o : Option AV) : Bool := match o with
  | some (aN .u64 8 _) => true
  | _ => false
def g17g0 (o : Option AV) : LN := match o with
  | some (aN .u64 8 x) => x
  | _ => []
theorem g17is_spec {o : Option AV} (h : g17is o = true) : o = some (aN .u64 8 (g17g0 o)) := by
  unfold g17is at h
  split at h
  · rfl
  · cases h
def g17v (A : Ar) (a b : LN) : Option AV := g17 A (100000) (fun v _ => some v) a b
def g17ok (A : Ar) (a b : LN) : Bool := g17is (g17v A a b)
def g17r0 (A : Ar) (a b : LN) : LN := g17g0 (g17v A a b)
theorem g17ok_spec {A : Ar} {a b} (h : g17ok A a b = true) : g17v A a b = some (aN .u64 8 (g17r0 A a b)) := g17is_spec h
def g17o (A : Ar) (args : List AV) : Option (Bool × AV) := match args with
  | [.v (.agg [.nums .u64 n0 a]), .v (.cell (.str b))] => some (Nat.beq n0 8 && (g17ok A a b), .v (.agg [.nums .u64 8 (g17r0 A a b)]))
  | _ => none
theorem g17o_sound : ∀ args v, g17o realA args = some (true, v) → Fn1 Try.prog 17 args v := by
  intro args v h
  unfold g17o at h
  split at h
  · rename_i n0 a b
    simp only [Option.some.injEq, Prod.mk.injEq] at h
    obtain ⟨hc, h⟩ := h
    subst h
    · skip
      simp only [Bool.and_eq_true] at hc
      have en0 := beq_true hc.1
      subst en0
      replace hc := hc.2
      exact fn1_of mixed gtysOK g17O_sound g17O_det (an := g17an) (n := 100000) Try.func17 (c := bodyOf Try.f17) rfl (by kernel_rfl) Try.call17 (Nat.le_of_ble_eq_true rfl) (fun b => rfl) (fun _ => (g17_eq realA (100000) (fun v _ => some v) a b).trans (show g17v realA a b = _ from g17ok_spec hc))
  · cases h
def g10O (A : Ar) : Orc := orcOf [(16, g16o A), (17, g17o A)]
theorem g10O_sound : OSound Try.prog (g10O realA) := orc_sound fun f g hm args v hv => by
  simp only [List.mem_cons, List.not_mem_nil, or_false, Prod.mk.injEq] at hm
  rcases hm with ⟨rfl, rfl⟩ | ⟨rfl, rfl⟩
  · exact g16o_sound _ _ hv
  · exact g17o_sound _ _ hv
theorem g10O_det : ODet (g10O realA) := orc_det _
def g10an : Ann := [(0, ([0], [])), (1, ([0], [])), (2, ([0, 3], [])), (3, ([0, 3], [])), (4, ([0, 3], [])), (5, ([0, 3], [])), (6, ([0], [])), (7, ([0, 4], [7001])), (8, ([0, 4, 5], [7001])), (9, ([0, 4, 5], [7001])), (10, ([0, 4, 5], [7001])), (11, ([4], [7001]))]
def g10res : List ResultVar := [.tmp 2]
noncomputable def g10D {R : Type} (A : Ar) (n : Nat) (p : List Bool) (K : Ex → St → Option R) (s : St) : Option R := codeD A gtys (g10O A) g10an n (sub (bodyOf Try.f10) p) K s
noncomputable def g10V {R : Type} (A : Ar) (n : Nat) (p : List Bool) (m : Nat) (K : Ex → St → Option R) (s : St) : Option R := loopD (fun K' s'' => codeD A gtys (g10O A) g10an n (sub (bodyOf Try.f10) p) K' s'') m K s
noncomputable def g10Q {R : Type} (A : Ar) (n : Nat) (p : List Bool) (K : Ex → St → Option R) : Ex → St → Option R := seqC (g10D A n p K) K
noncomputable def g10W {R : Type} (A : Ar) (n : Nat) (p : List Bool) (m : Nat) (K : Ex → St → Option R) : Ex → St → Option R := seqC (g10V A n p m K) K
noncomputable def g10T {R : Type} (kk : KK R) : Ex → St → Option R := finD gtys g10res kk
theorem g10Qn {R : Type} (A : Ar) (n : Nat) (p : List Bool) (K : Ex → St → Option R) (s : St) : g10Q A n p K .normal s = g10D A n p K s := rfl
theorem g10Qe {R : Type} (A : Ar) (n : Nat) (p : List Bool) (K : Ex → St → Option R) (i : Nat) (s : St) : g10Q A n p K (.exit i) s = K (.exit i) s := rfl
theorem g10Wn {R : Type} (A : Ar) (n : Nat) (p : List Bool) (m : Nat) (K : Ex → St → Option R) (s : St) : g10W A n p m K .normal s = g10V A n p m K s := rfl
theorem g10We {R : Type} (A : Ar) (n : Nat) (p : List Bool) (m : Nat) (K : Ex → St → Option R) (i : Nat) (s : St) : g10W A n p m K (.exit i) s = K (.exit i) s := rfl
theorem g10Vs {R : Type} (A : Ar) (n : Nat) (p : List Bool) (m : Nat) (K : Ex → St → Option R) (s : St) : g10V A n p (m + 1) K s = g10D A n p (g10W A n p m K) s := rfl
theorem g10F {R : Type} (A : Ar) (n : Nat) (p : List Bool) (i : Nat) (K : Ex → St → Option R) (s s' : St) (hf : firstReg (sub (bodyOf Try.f10) p) = some i) (h : keep g10an i s = keep g10an i s') : g10D A n p K s = g10D A n p K s' := codeD_first hf h K
section
variable {R : Type} (A : Ar) (n : Nat) (K : Ex → St → Option R) (s : St)
theorem g10p1 : g10D A n (pth 1) K s = g10D A n (pth 2) (g10Q A n (pth 3) K) s := by kernel_rfl
theorem g10p3 : g10D A n (pth 3) K s = g10D A n (pth 5) (g10Q A n (pth 7) K) s := by kernel_rfl
theorem g10p7 : g10D A n (pth 7) K s = g10D A n (pth 11) (g10Q A n (pth 15) K) s := by kernel_rfl
theorem g10p15 : g10D A n (pth 15) K s = g10D A n (pth 23) (g10Q A n (pth 31) K) s := by kernel_rfl
theorem g10p23 : g10D A n (pth 23) K s = g10D A n (pth 39) (blockK 0 K) s := by kernel_rfl
theorem g10p39 : g10D A n (pth 39) K s = g10V A n (pth 71) n K s := by kernel_rfl
theorem g10p71 : g10D A n (pth 71) K s = g10D A n (pth 135) (g10Q A n (pth 199) K) s := by kernel_rfl
theorem g10p135 : g10D A n (pth 135) K s = g10D A n (pth 263) (g10Q A n (pth 391) K) s := by kernel_rfl
theorem g10p391 (t : Bool) : ev s (.tmp 14) = some (.v (.cell (.bool t))) → g10D A n (pth 391) K s = (match t with
    | true => g10D A n (pth 647) K s
    | false => g10D A n (pth 903) K s) := codeD_cond t
theorem g10p647 : g10D A n (pth 647) K s = K .normal s := by kernel_rfl
theorem g10p903 : g10D A n (pth 903) K s = K (.exit 0) s := by kernel_rfl
theorem g10p199 : g10D A n (pth 199) K s = g10D A n (pth 327) (blockK 1 K) s := by kernel_rfl
theorem g10p31 : g10D A n (pth 31) K s = g10D A n (pth 47) (g10Q A n (pth 63) K) s := by kernel_rfl
theorem g10p63 : g10D A n (pth 63) K s = g10D A n (pth 95) (g10Q A n (pth 127) K) s := by kernel_rfl
theorem g10p127 : g10D A n (pth 127) K s = g10D A n (pth 191) (g10Q A n (pth 255) K) s := by kernel_rfl
theorem g10p191 : g10D A n (pth 191) K s = g10D A n (pth 319) (g10Q A n (pth 447) K) s := by kernel_rfl
theorem g10p447 : g10D A n (pth 447) K s = g10D A n (pth 703) (blockK 2 K) s := by kernel_rfl
theorem g10p703 : g10D A n (pth 703) K s = g10V A n (pth 1215) n K s := by kernel_rfl
theorem g10p1215 : g10D A n (pth 1215) K s = g10D A n (pth 2239) (g10Q A n (pth 3263) K) s := by kernel_rfl
theorem g10p2239 : g10D A n (pth 2239) K s = g10D A n (pth 4287) (g10Q A n (pth 6335) K) s := by kernel_rfl
theorem g10p6335 (t : Bool) : ev s (.tmp 30) = some (.v (.cell (.bool t))) → g10D A n (pth 6335) K s = (match t with
    | true => g10D A n (pth 10431) K s
    | false => g10D A n (pth 14527) K s) := codeD_cond t
theorem g10p10431 : g10D A n (pth 10431) K s = K .normal s := by kernel_rfl
theorem g10p14527 : g10D A n (pth 14527) K s = K (.exit 2) s := by kernel_rfl
theorem g10p3263 : g10D A n (pth 3263) K s = g10D A n (pth 5311) (g10Q A n (pth 7359) K) s := by kernel_rfl
theorem g10p5311 : g10D A n (pth 5311) K s = g10D A n (pth 9407) (blockK 3 K) s := by kernel_rfl
theorem g10p255 : g10D A n (pth 255) K s = g10D A n (pth 383) (g10Q A n (pth 511) K) s := by kernel_rfl
theorem g10p511 : g10D A n (pth 511) K s = K .ret s := by kernel_rfl
def g10R10s0 (A : Ar) (x0 : LN) (x1 : Int) (x2 : LN) : St := ⟨[(39, aN .u64 8 (g17r0 A x2 ((x0.take (A.toN (A.ib .add .i64 x1 128))).drop (A.toN x1)))), (38, tS ((x0.take (A.toN (A.ib .add .i64 x1 128))).drop (A.toN x1))), (37, i6 (A.ib .add .i64 x1 128)), (36, i6 x1), (35, i6 x1), (34, tS x0), (33, aN .u64 8 x2), (0, tS x0), (4, pT 7001 0), (5, i6 x1)], [(7001, bU 8 (g17r0 A x2 ((x0.take (A.toN (A.ib .add .i64 x1 128))).drop (A.toN x1))) 40)]⟩
theorem g10R10 (x0 : LN) (x1 : Int) (x2 : LN) : g10D A n (pth 9407) K ⟨[(0, tS x0), (4, pT 7001 0), (5, i6 x1)], [(7001, bU 8 x2 40)]⟩ = match A.neg (A.ib .add .i64 x1 128) with
    | true => none
    | false => match A.le (A.toN (A.ib .add .i64 x1 128)) x0.length with
      | true => match A.neg x1 with
        | true => none
        | false => match A.le (A.toN x1) (A.toN (A.ib .add .i64 x1 128)) with
          | true => match g17ok A x2 ((x0.take (A.toN (A.ib .add .i64 x1 128))).drop (A.toN x1)) with
            | true => K .normal (g10R10s0 A x0 x1 x2)
            | false => none
          | false => none
      | false => none := by kernel_rfl
def g10R9s0 (A : Ar) (x0 : LN) (x1 : Int) (x2 : LN) : St := ⟨[(5, i6 (A.ib .add .i64 x1 128)), (32, i6 (A.ib .add .i64 x1 128)), (31, i6 x1), (0, tS x0), (4, pT 7001 0), (5, i6 x1)], [(7001, bU 8 x2 40)]⟩
theorem g10R9 (x0 : LN) (x1 : Int) (x2 : LN) : g10D A n (pth 7359) K ⟨[(0, tS x0), (4, pT 7001 0), (5, i6 x1)], [(7001, bU 8 x2 40)]⟩ = K .normal (g10R9s0 A x0 x1 x2) := by kernel_rfl
def g10R11s0 (A : Ar) (x0 : LN) : St := ⟨[(2, tS ((((((((g16r0 A (x0.getD 0 0)) ++ (g16r0 A (x0.getD 1 0))) ++ (g16r0 A (x0.getD 2 0))) ++ (g16r0 A (x0.getD 3 0))) ++ (g16r0 A (x0.getD 4 0))) ++ (g16r0 A (x0.getD 5 0))) ++ (g16r0 A (x0.getD 6 0))) ++ (g16r0 A (x0.getD 7 0)))), (70, tS ((((((((g16r0 A (x0.getD 0 0)) ++ (g16r0 A (x0.getD 1 0))) ++ (g16r0 A (x0.getD 2 0))) ++ (g16r0 A (x0.getD 3 0))) ++ (g16r0 A (x0.getD 4 0))) ++ (g16r0 A (x0.getD 5 0))) ++ (g16r0 A (x0.getD 6 0))) ++ (g16r0 A (x0.getD 7 0)))), (69, tS (g16r0 A (x0.getD 7 0))), (68, u64v (x0.getD 7 0)), (67, pT 7001 7), (66, tS (((((((g16r0 A (x0.getD 0 0)) ++ (g16r0 A (x0.getD 1 0))) ++ (g16r0 A (x0.getD 2 0))) ++ (g16r0 A (x0.getD 3 0))) ++ (g16r0 A (x0.getD 4 0))) ++ (g16r0 A (x0.getD 5 0))) ++ (g16r0 A (x0.getD 6 0)))), (65, tS (g16r0 A (x0.getD 6 0))), (64, u64v (x0.getD 6 0)), (63, pT 7001 6), (62, tS ((((((g16r0 A (x0.getD 0 0)) ++ (g16r0 A (x0.getD 1 0))) ++ (g16r0 A (x0.getD 2 0))) ++ (g16r0 A (x0.getD 3 0))) ++ (g16r0 A (x0.getD 4 0))) ++ (g16r0 A (x0.getD 5 0)))), (61, tS (g16r0 A (x0.getD 5 0))), (60, u64v (x0.getD 5 0)), (59, pT 7001 5), (58, tS (((((g16r0 A (x0.getD 0 0)) ++ (g16r0 A (x0.getD 1 0))) ++ (g16r0 A (x0.getD 2 0))) ++ (g16r0 A (x0.getD 3 0))) ++ (g16r0 A (x0.getD 4 0)))), (57, tS (g16r0 A (x0.getD 4 0))), (56, u64v (x0.getD 4 0)), (55, pT 7001 4), (54, tS ((((g16r0 A (x0.getD 0 0)) ++ (g16r0 A (x0.getD 1 0))) ++ (g16r0 A (x0.getD 2 0))) ++ (g16r0 A (x0.getD 3 0)))), (53, tS (g16r0 A (x0.getD 3 0))), (52, u64v (x0.getD 3 0)), (51, pT 7001 3), (50, tS (((g16r0 A (x0.getD 0 0)) ++ (g16r0 A (x0.getD 1 0))) ++ (g16r0 A (x0.getD 2 0)))), (49, tS (g16r0 A (x0.getD 2 0))), (48, u64v (x0.getD 2 0)), (47, pT 7001 2), (46, tS ((g16r0 A (x0.getD 0 0)) ++ (g16r0 A (x0.getD 1 0)))), (45, tS (g16r0 A (x0.getD 1 0))), (44, u64v (x0.getD 1 0)), (43, pT 7001 1), (42, tS (g16r0 A (x0.getD 0 0))), (41, u64v (x0.getD 0 0)), (40, pT 7001 0), (4, pT 7001 0)], [(7001, bU 8 x0 40)]⟩
abbrev u62 (A : Ar) (x0 : LN) := (((g16r0 A (x0.getD 0 0)) ++ (g16r0 A (x0.getD 1 0))) ++ (g16r0 A (x0.getD 2 0))) ++ (g16r0 A (x0.getD 3 0))
abbrev u63 (A : Ar) (x0 : LN) := (u62 A x0) ++ (g16r0 A (x0.getD 4 0))
theorem g10R11 (x0 : LN) : g10D A n (pth 383) K ⟨[(4, pT 7001 0)], [(7001, bU 8 x0 40)]⟩ = match g16ok A (x0.getD 0 0) with
    | true => match g16ok A (x0.getD 1 0) with
      | true => match A.le ((g16r0 A (x0.getD 0 0)).length + (g16r0 A (x0.getD 1 0)).length) 9223372036854775807 with
        | true => match g16ok A (x0.getD 2 0) with
          | true => match A.le (((g16r0 A (x0.getD 0 0)) ++ (g16r0 A (x0.getD 1 0))).length + (g16r0 A (x0.getD 2 0)).length) 9223372036854775807 with
            | true => match g16ok A (x0.getD 3 0) with
              | true => match A.le ((((g16r0 A (x0.getD 0 0)) ++ (g16r0 A (x0.getD 1 0))) ++ (g16r0 A (x0.getD 2 0))).length + (g16r0 A (x0.getD 3 0)).length) 9223372036854775807 with
                | true => match g16ok A (x0.getD 4 0) with
                  | true => match A.le ((u62 A x0).length + (g16r0 A (x0.getD 4 0)).length) 9223372036854775807 with
                    | true => match g16ok A (x0.getD 5 0) with
                      | true => match A.le ((u63 A x0).length + (g16r0 A (x0.getD 5 0)).length) 9223372036854775807 with
                        | true => match g16ok A (x0.getD 6 0) with
                          | true => match A.le (((u63 A x0) ++ (g16r0 A (x0.getD 5 0))).length + (g16r0 A (x0.getD 6 0)).length) 9223372036854775807 with
                            | true => match g16ok A (x0.getD 7 0) with
                              | true => match A.le ((((u63 A x0) ++ (g16r0 A (x0.getD 5 0))) ++ (g16r0 A (x0.getD 6 0))).length + (g16r0 A (x0.getD 7 0)).length) 9223372036854775807 with
                                | true => K .normal (g10R11s0 A x0)
                                | false => none
                              | false => none
                            | false => none
                          | false => none
                        | false => none
                      | false => none
                    | false => none
                  | false => none
                | false => none
              | false => none
            | false => none
          | false => none
        | false => none
      | false => none
    | false => none := by kernel_rfl
def g10R8s0 (A : Ar) (x0 : LN) (x1 : Int) (x2 : LN) : St := ⟨[(30, bO (A.ic .lss x1 (A.ofN x0.length))), (29, i6 (A.ofN x0.length)), (28, tS x0), (27, i6 x1), (0, tS x0), (4, pT 7001 0), (5, i6 x1)], [(7001, bU 8 x2 40)]⟩
theorem g10R8 (x0 : LN) (x1 : Int) (x2 : LN) : g10D A n (pth 4287) K ⟨[(0, tS x0), (4, pT 7001 0), (5, i6 x1)], [(7001, bU 8 x2 40)]⟩ = K .normal (g10R8s0 A x0 x1 x2) := by kernel_rfl
def g10R5s0 (A : Ar) (x0 : LN) (x1 : Nat) : St := ⟨[(0, tS ((x0 ++ (g16r0 A (A.nsh .shr .u64 x1 61))) ++ (g16r0 A (A.nsh .shl .u64 x1 3)))), (25, tS ((x0 ++ (g16r0 A (A.nsh .shr .u64 x1 61))) ++ (g16r0 A (A.nsh .shl .u64 x1 3)))), (24, tS (g16r0 A (A.nsh .shl .u64 x1 3))), (23, u64v (A.nsh .shl .u64 x1 3)), (22, u64v x1), (21, tS (x0 ++ (g16r0 A (A.nsh .shr .u64 x1 61)))), (20, tS (g16r0 A (A.nsh .shr .u64 x1 61))), (19, u64v (A.nsh .shr .u64 x1 61)), (18, u64v x1), (17, tS x0), (0, tS x0), (3, u64v x1)], []⟩
theorem g10R5 (x0 : LN) (x1 : Nat) : g10D A n (pth 47) K ⟨[(0, tS x0), (3, u64v x1)], []⟩ = match g16ok A (A.nsh .shr .u64 x1 61) with
    | true => match A.le (x0.length + (g16r0 A (A.nsh .shr .u64 x1 61)).length) 9223372036854775807 with
      | true => match g16ok A (A.nsh .shl .u64 x1 3) with
        | true => match A.le ((x0 ++ (g16r0 A (A.nsh .shr .u64 x1 61))).length + (g16r0 A (A.nsh .shl .u64 x1 3)).length) 9223372036854775807 with
          | true => K .normal (g10R5s0 A x0 x1)
          | false => none
        | false => none
      | false => none
    | false => none := by kernel_rfl
def g10R6s0 (A : Ar) (x0 : LN) : St := ⟨[(4, pT 7001 0), (26, aN .u64 8 (((((((([0, 0, 0, 0, 0, 0, 0, 0].set 0 7640891576956012808).set 1 13503953896175478587).set 2 4354685564936845355).set 3 11912009170470909681).set 4 5840696475078001361).set 5 11170449401992604703).set 6 2270897969802886507).set 7 6620516959819538809)), (0, tS x0)], [(7001, bU 8 (((((((([0, 0, 0, 0, 0, 0, 0, 0].set 0 7640891576956012808).set 1 13503953896175478587).set 2 4354685564936845355).set 3 11912009170470909681).set 4 5840696475078001361).set 5 11170449401992604703).set 6 2270897969802886507).set 7 6620516959819538809) 40)]⟩
theorem g10R6 (x0 : LN) : g10D A n (pth 95) K ⟨[(0, tS x0)], []⟩ = K .normal (g10R6s0 A x0) := by kernel_rfl
def g10R7s0 (A : Ar) (x0 x1 : LN) : St := ⟨[(5, i6 0), (0, tS x0), (4, pT 7001 0)], [(7001, bU 8 x1 40)]⟩
theorem g10R7 (x0 x1 : LN) : g10D A n (pth 319) K ⟨[(0, tS x0), (4, pT 7001 0)], [(7001, bU 8 x1 40)]⟩ = K .normal (g10R7s0 A x0 x1) := by kernel_rfl
def g10R3s0 (A : Ar) (x0 : LN) (x1 : Nat) : St := ⟨[(14, bO (A.ic .neq (A.ib .rem .i64 (A.ofN x0.length) 128) 112)), (13, i6 (A.ib .rem .i64 (A.ofN x0.length) 128)), (12, i6 (A.ofN x0.length)), (11, tS x0), (0, tS x0), (3, u64v x1)], []⟩
theorem g10R3 (x0 : LN) (x1 : Nat) : g10D A n (pth 263) K ⟨[(0, tS x0), (3, u64v x1)], []⟩ = K .normal (g10R3s0 A x0 x1) := by kernel_rfl
def g10R4s0 (A : Ar) (x0 : LN) (x1 : Nat) : St := ⟨[(0, tS (x0 ++ [0])), (16, tS (x0 ++ [0])), (15, tS x0), (0, tS x0), (3, u64v x1)], []⟩
theorem g10R4 (x0 : LN) (x1 : Nat) : g10D A n (pth 327) K ⟨[(0, tS x0), (3, u64v x1)], []⟩ = match A.le (x0.length + [0].length) 9223372036854775807 with
    | true => K .normal (g10R4s0 A x0 x1)
    | false => none := by kernel_rfl
def g10R0s0 (A : Ar) (x0 : LN) : St := ⟨[(2, tS []), (0, tS x0)], []⟩
theorem g10R0 (x0 : LN) : g10D A n (pth 2) K ⟨[(0, tS x0)], []⟩ = K .normal (g10R0s0 A x0) := by kernel_rfl
def g10R1s0 (A : Ar) (x0 : LN) : St := ⟨[(3, u64v (A.i2n .u64 (A.ofN x0.length))), (8, u64v (A.i2n .u64 (A.ofN x0.length))), (7, i6 (A.ofN x0.length)), (6, tS x0), (0, tS x0)], []⟩
theorem g10R1 (x0 : LN) : g10D A n (pth 5) K ⟨[(0, tS x0)], []⟩ = K .normal (g10R1s0 A x0) := by kernel_rfl
def g10R2s0 (A : Ar) (x0 : LN) (x1 : Nat) : St := ⟨[(0, tS (x0 ++ [128])), (10, tS (x0 ++ [128])), (9, tS x0), (0, tS x0), (3, u64v x1)], []⟩
theorem g10R2 (x0 : LN) (x1 : Nat) : g10D A n (pth 11) K ⟨[(0, tS x0), (3, u64v x1)], []⟩ = match A.le (x0.length + [128].length) 9223372036854775807 with
    | true => K .normal (g10R2s0 A x0 x1)
    | false => none := by kernel_rfl
end
def g10J10 {R : Type} (A : Ar) (n : Nat) (kk : KK R) (lg10L8 : LN → Int → LN → Option R) (x0 : LN) (x1 : Int) (x2 : LN) : Option R :=
  match A.neg (A.ib .add .i64 x1 128) with
  | true => none
  | false => match A.le (A.toN (A.ib .add .i64 x1 128)) x0.length with
    | true => match A.neg x1 with
      | true => none
      | false => match A.le (A.toN x1) (A.toN (A.ib .add .i64 x1 128)) with
        | true => match g17ok A x2 ((x0.take (A.toN (A.ib .add .i64 x1 128))).drop (A.toN x1)) with
          | true => lg10L8 x0 (A.ib .add .i64 x1 128) (g17r0 A x2 ((x0.take (A.toN (A.ib .add .i64 x1 128))).drop (A.toN x1)))
          | false => none
        | false => none
    | false => none
abbrev u64 (A : Ar) (x2 : LN) (x0 : LN) (x1 : Int) := g17r0 A x2 ((x0.take (A.toN (A.ib .add .i64 x1 128))).drop (A.toN x1))
theorem g10J10_eq {R : Type} (A : Ar) (n : Nat) (kk : KK R) (m0 : Nat) (lg10L8 : LN → Int → LN → Option R)
    (hg10L8 : ∀ (s : St) (x0 : LN) (x1 : Int) (x2 : LN), keep g10an 8 s = ⟨[(0, tS x0), (4, pT 7001 0), (5, i6 x1)], [(7001, bU 8 x2 40)]⟩ → g10V A n (pth 1215) m0 (blockK 2 (g10Q A n (pth 255) (g10T kk))) s = lg10L8 x0 x1 x2) (s : St) (x0 : LN) (x1 : Int) (x2 : LN) (h : keep g10an 10 s = ⟨[(0, tS x0), (4, pT 7001 0), (5, i6 x1)], [(7001, bU 8 x2 40)]⟩) :
    g10D A n (pth 3263) (g10W A n (pth 1215) m0 (blockK 2 (g10Q A n (pth 255) (g10T kk)))) s = g10J10 A n kk lg10L8 x0 x1 x2 := by
  have h1 := (g10Wn A n _ _ _ _).trans (hg10L8 (g10R9s0 A x0 x1 (u64 A x2 x0 x1)) x0 (A.ib .add .i64 x1 128) (u64 A x2 x0 x1) (by kernel_rfl))
  have h2 := (g10F A n _ 9 _ (g10R10s0 A x0 x1 x2) _ (by kernel_rfl) (by kernel_rfl)).trans (g10R9 A n (g10W A n (pth 1215) m0 (blockK 2 (g10Q A n (pth 255) (g10T kk)))) x0 x1 (u64 A x2 x0 x1))
  rw [h1] at h2
  have h3 := (g10Qn A n _ _ _).trans h2
  have h4 := (blockK_n 3 _ _).trans h3
  have h5 := (g10F A n _ 10 _ ⟨[(0, tS x0), (4, pT 7001 0), (5, i6 x1)], [(7001, bU 8 x2 40)]⟩ _ (by kernel_rfl) (by kernel_rfl)).trans (g10R10 A n (blockK 3 (g10Q A n (pth 7359) (g10W A n (pth 1215) m0 (blockK 2 (g10Q A n (pth 255) (g10T kk)))))) x0 x1 x2)
  rw [h4] at h5
  have h6 := (g10p5311 A n _ _).trans h5
  have h7 := (g10p3263 A n _ _).trans h6
  exact (g10F A n _ 10 _ _ ⟨[(0, tS x0), (4, pT 7001 0), (5, i6 x1)], [(7001, bU 8 x2 40)]⟩ (by kernel_rfl) (h.trans (by kernel_rfl))).trans (h7.trans (by kernel_rfl))
def g10J11 {R : Type} (A : Ar) (n : Nat) (kk : KK R) (x0 : LN) : Option R :=
  match g16ok A (x0.getD 0 0) with
  | true => match g16ok A (x0.getD 1 0) with
    | true => match A.le ((g16r0 A (x0.getD 0 0)).length + (g16r0 A (x0.getD 1 0)).length) 9223372036854775807 with
      | true => match g16ok A (x0.getD 2 0) with
        | true => match A.le (((g16r0 A (x0.getD 0 0)) ++ (g16r0 A (x0.getD 1 0))).length + (g16r0 A (x0.getD 2 0)).length) 9223372036854775807 with
          | true => match g16ok A (x0.getD 3 0) with
            | true => match A.le ((((g16r0 A (x0.getD 0 0)) ++ (g16r0 A (x0.getD 1 0))) ++ (g16r0 A (x0.getD 2 0))).length + (g16r0 A (x0.getD 3 0)).length) 9223372036854775807 with
              | true => match g16ok A (x0.getD 4 0) with
                | true => match A.le (((((g16r0 A (x0.getD 0 0)) ++ (g16r0 A (x0.getD 1 0))) ++ (g16r0 A (x0.getD 2 0))) ++ (g16r0 A (x0.getD 3 0))).length + (g16r0 A (x0.getD 4 0)).length) 9223372036854775807 with
                  | true => match g16ok A (x0.getD 5 0) with
                    | true => match A.le ((((((g16r0 A (x0.getD 0 0)) ++ (g16r0 A (x0.getD 1 0))) ++ (g16r0 A (x0.getD 2 0))) ++ (g16r0 A (x0.getD 3 0))) ++ (g16r0 A (x0.getD 4 0))).length + (g16r0 A (x0.getD 5 0)).length) 9223372036854775807 with
                      | true => match g16ok A (x0.getD 6 0) with
                        | true => match A.le (((((((g16r0 A (x0.getD 0 0)) ++ (g16r0 A (x0.getD 1 0))) ++ (g16r0 A (x0.getD 2 0))) ++ (g16r0 A (x0.getD 3 0))) ++ (g16r0 A (x0.getD 4 0))) ++ (g16r0 A (x0.getD 5 0))).length + (g16r0 A (x0.getD 6 0)).length) 9223372036854775807 with
                          | true => match g16ok A (x0.getD 7 0) with
                            | true => match A.le ((((((((g16r0 A (x0.getD 0 0)) ++ (g16r0 A (x0.getD 1 0))) ++ (g16r0 A (x0.getD 2 0))) ++ (g16r0 A (x0.getD 3 0))) ++ (g16r0 A (x0.getD 4 0))) ++ (g16r0 A (x0.getD 5 0))) ++ (g16r0 A (x0.getD 6 0))).length + (g16r0 A (x0.getD 7 0)).length) 9223372036854775807 with
                              | true => kk (tS ((((((((g16r0 A (x0.getD 0 0)) ++ (g16r0 A (x0.getD 1 0))) ++ (g16r0 A (x0.getD 2 0))) ++ (g16r0 A (x0.getD 3 0))) ++ (g16r0 A (x0.getD 4 0))) ++ (g16r0 A (x0.getD 5 0))) ++ (g16r0 A (x0.getD 6 0))) ++ (g16r0 A (x0.getD 7 0)))) [(7001, bU 8 x0 40)]
                              | false => none
                            | false => none
                          | false => none
                        | false => none
                      | false => none
                    | false => none
                  | false => none
                | false => none
              | false => none
            | false => none
          | false => none
        | false => none
      | false => none
    | false => none
  | false => none
theorem g10J11_eq {R : Type} (A : Ar) (n : Nat) (kk : KK R) (s : St) (x0 : LN) (h : keep g10an 11 s = ⟨[(4, pT 7001 0)], [(7001, bU 8 x0 40)]⟩) :
    g10D A n (pth 255) (g10T kk) s = g10J11 A n kk x0 := by
  have h1 : (g10T kk) .ret (g10R11s0 A x0) = kk (tS ((((u63 A x0) ++ (g16r0 A (x0.getD 5 0))) ++ (g16r0 A (x0.getD 6 0))) ++ (g16r0 A (x0.getD 7 0)))) [(7001, bU 8 x0 40)] := by kernel_rfl
  have h2 := (g10p511 A n _ _).trans h1
  have h3 := (g10Qn A n _ _ _).trans h2
  have h4 := (g10F A n _ 11 _ ⟨[(4, pT 7001 0)], [(7001, bU 8 x0 40)]⟩ _ (by kernel_rfl) (by kernel_rfl)).trans (g10R11 A n (g10Q A n (pth 511) (g10T kk)) x0)
  rw [h3] at h4
  have h5 := (g10p255 A n _ _).trans h4
  exact (g10F A n _ 11 _ _ ⟨[(4, pT 7001 0)], [(7001, bU 8 x0 40)]⟩ (by kernel_rfl) (h.trans (by kernel_rfl))).trans (h5.trans (by kernel_rfl))
def g10L8 {R : Type} (A : Ar) (n : Nat) (kk : KK R) : Nat → LN → Int → LN → Option R
  | 0, _, _, _ => none
  | m + 1, x0, x1, x2 => match A.ic .lss x1 (A.ofN x0.length) with
  | true => g10J10 A n kk (g10L8 A n kk m) x0 x1 x2
  | false => g10J11 A n kk x2
theorem g10L8_eq {R : Type} (A : Ar) (n : Nat) (kk : KK R) (m : Nat) (s : St) (x0 : LN) (x1 : Int) (x2 : LN) (h : keep g10an 8 s = ⟨[(0, tS x0), (4, pT 7001 0), (5, i6 x1)], [(7001, bU 8 x2 40)]⟩) :
    g10V A n (pth 1215) m (blockK 2 (g10Q A n (pth 255) (g10T kk))) s = g10L8 A n kk m x0 x1 x2 := by
  induction m generalizing s x0 x1 x2 with
  | zero => rfl
  | succ m ih =>
    have h1 := (g10Qn A n _ _ _).trans (g10J10_eq A n kk m (g10L8 A n kk m) ih (g10R8s0 A x0 x1 x2) x0 x1 x2 (by kernel_rfl))
    have h2 := (g10p10431 A n _ _).trans h1
    have h3 := (g10Qn A n _ _ _).trans (g10J11_eq A n kk (g10R8s0 A x0 x1 x2) x2 (by kernel_rfl))
    have h4 := (blockK_hit 2 _ _).trans h3
    have h5 := (g10We A n (pth 1215) m _ _ _).trans h4
    have h6 := (g10Qe A n (pth 3263) _ _ _).trans h5
    have h7 := (g10p14527 A n _ _).trans h6
    have h8 := g10p6335 A n (g10Q A n (pth 3263) (g10W A n (pth 1215) m (blockK 2 (g10Q A n (pth 255) (g10T kk))))) (g10R8s0 A x0 x1 x2) (A.ic .lss x1 (A.ofN x0.length)) (by kernel_rfl)
    rw [h2, h7] at h8
    have h9 := (g10Qn A n _ _ _).trans h8
    have h10 := (g10F A n _ 8 _ ⟨[(0, tS x0), (4, pT 7001 0), (5, i6 x1)], [(7001, bU 8 x2 40)]⟩ _ (by kernel_rfl) (by kernel_rfl)).trans (g10R8 A n (g10Q A n (pth 6335) (g10Q A n (pth 3263) (g10W A n (pth 1215) m (blockK 2 (g10Q A n (pth 255) (g10T kk)))))) x0 x1 x2)
    rw [h9] at h10
    have h11 := (g10p2239 A n _ _).trans h10
    have h12 := (g10p1215 A n _ _).trans h11
    exact (loopD_first (s' := ⟨[(0, tS x0), (4, pT 7001 0), (5, i6 x1)], [(7001, bU 8 x2 40)]⟩) (id := 8) (by kernel_rfl) (h.trans (by kernel_rfl)) _).trans ((g10Vs A n _ m _ _).trans (h12.trans (by kernel_rfl)))
def g10J5 {R : Type} (A : Ar) (n : Nat) (kk : KK R) (x0 : LN) (x1 : Nat) : Option R :=
  match g16ok A (A.nsh .shr .u64 x1 61) with
  | true => match A.le (x0.length + (g16r0 A (A.nsh .shr .u64 x1 61)).length) 9223372036854775807 with
    | true => match g16ok A (A.nsh .shl .u64 x1 3) with
      | true => match A.le ((x0 ++ (g16r0 A (A.nsh .shr .u64 x1 61))).length + (g16r0 A (A.nsh .shl .u64 x1 3)).length) 9223372036854775807 with
        | true => g10L8 A n kk n ((x0 ++ (g16r0 A (A.nsh .shr .u64 x1 61))) ++ (g16r0 A (A.nsh .shl .u64 x1 3))) 0 (((((((([0, 0, 0, 0, 0, 0, 0, 0].set 0 7640891576956012808).set 1 13503953896175478587).set 2 4354685564936845355).set 3 11912009170470909681).set 4 5840696475078001361).set 5 11170449401992604703).set 6 2270897969802886507).set 7 6620516959819538809)
        | false => none
      | false => none
    | false => none
  | false => none
abbrev u65 := ((((((([0, 0, 0, 0, 0, 0, 0, 0].set 0 7640891576956012808).set 1 13503953896175478587).set 2 4354685564936845355).set 3 11912009170470909681).set 4 5840696475078001361).set 5 11170449401992604703).set 6 2270897969802886507).set 7 6620516959819538809
abbrev u66 (A : Ar) (x0 : LN) (x1 : Nat) := (x0 ++ (g16r0 A (A.nsh .shr .u64 x1 61))) ++ (g16r0 A (A.nsh .shl .u64 x1 3))
theorem g10J5_eq {R : Type} (A : Ar) (n : Nat) (kk : KK R) (s : St) (x0 : LN) (x1 : Nat) (h : keep g10an 5 s = ⟨[(0, tS x0), (3, u64v x1)], []⟩) :
    g10D A n (pth 31) (g10T kk) s = g10J5 A n kk x0 x1 := by
  have h1 := (g10p703 A n _ _).trans (g10L8_eq A n kk n (g10R7s0 A (u66 A x0 x1) (u65)) (u66 A x0 x1) 0 (u65) (by kernel_rfl))
  have h2 := (g10p447 A n _ _).trans h1
  have h3 := (g10Qn A n _ _ _).trans h2
  have h4 := (g10F A n _ 7 _ (g10R6s0 A (u66 A x0 x1)) _ (by kernel_rfl) (by kernel_rfl)).trans (g10R7 A n (g10Q A n (pth 447) (g10Q A n (pth 255) (g10T kk))) (u66 A x0 x1) (u65))
  rw [h3] at h4
  have h5 := (g10p191 A n _ _).trans h4
  have h6 := (g10p127 A n _ _).trans h5
  have h7 := (g10Qn A n _ _ _).trans h6
  have h8 := (g10F A n _ 6 _ (g10R5s0 A x0 x1) _ (by kernel_rfl) (by kernel_rfl)).trans (g10R6 A n (g10Q A n (pth 127) (g10T kk)) (u66 A x0 x1))
  rw [h7] at h8
  have h9 := (g10p63 A n _ _).trans h8
  have h10 := (g10Qn A n _ _ _).trans h9
  have h11 := (g10F A n _ 5 _ ⟨[(0, tS x0), (3, u64v x1)], []⟩ _ (by kernel_rfl) (by kernel_rfl)).trans (g10R5 A n (g10Q A n (pth 63) (g10T kk)) x0 x1)
  rw [h10] at h11
  have h12 := (g10p31 A n _ _).trans h11
  exact (g10F A n _ 5 _ _ ⟨[(0, tS x0), (3, u64v x1)], []⟩ (by kernel_rfl) (h.trans (by kernel_rfl))).trans (h12.trans (by kernel_rfl))
def g10L3 {R : Type} (A : Ar) (n : Nat) (kk : KK R) : Nat → LN → Nat → Option R
  | 0, _, _ => none
  | m + 1, x0, x1 => match A.ic .neq (A.ib .rem .i64 (A.ofN x0.length) 128) 112 with
  | true => match A.le (x0.length + [0].length) 9223372036854775807 with
    | true => g10L3 A n kk m (x0 ++ [0]) x1
    | false => none
  | false => g10J5 A n kk x0 x1
theorem g10L3_eq {R : Type} (A : Ar) (n : Nat) (kk : KK R) (m : Nat) (s : St) (x0 : LN) (x1 : Nat) (h : keep g10an 3 s = ⟨[(0, tS x0), (3, u64v x1)], []⟩) :
    g10V A n (pth 71) m (blockK 0 (g10Q A n (pth 31) (g10T kk))) s = g10L3 A n kk m x0 x1 := by
  induction m generalizing s x0 x1 with
  | zero => rfl
  | succ m ih =>
    have h1 := (g10Wn A n _ _ _ _).trans (ih (g10R4s0 A x0 x1) (x0 ++ [0]) x1 (by kernel_rfl))
    have h2 := (blockK_n 1 _ _).trans h1
    have h3 := (g10F A n _ 4 _ (g10R3s0 A x0 x1) _ (by kernel_rfl) (by kernel_rfl)).trans (g10R4 A n (blockK 1 (g10W A n (pth 71) m (blockK 0 (g10Q A n (pth 31) (g10T kk))))) x0 x1)
    rw [h2] at h3
    have h4 := (g10p199 A n _ _).trans h3
    have h5 := (g10Qn A n _ _ _).trans h4
    have h6 := (g10p647 A n _ _).trans h5
    have h7 := (g10Qn A n _ _ _).trans (g10J5_eq A n kk (g10R3s0 A x0 x1) x0 x1 (by kernel_rfl))
    have h8 := (blockK_hit 0 _ _).trans h7
    have h9 := (g10We A n (pth 71) m _ _ _).trans h8
    have h10 := (g10Qe A n (pth 199) _ _ _).trans h9
    have h11 := (g10p903 A n _ _).trans h10
    have h12 := g10p391 A n (g10Q A n (pth 199) (g10W A n (pth 71) m (blockK 0 (g10Q A n (pth 31) (g10T kk))))) (g10R3s0 A x0 x1) (A.ic .neq (A.ib .rem .i64 (A.ofN x0.length) 128) 112) (by kernel_rfl)
    rw [h6, h11] at h12
    have h13 := (g10Qn A n _ _ _).trans h12
    have h14 := (g10F A n _ 3 _ ⟨[(0, tS x0), (3, u64v x1)], []⟩ _ (by kernel_rfl) (by kernel_rfl)).trans (g10R3 A n (g10Q A n (pth 391) (g10Q A n (pth 199) (g10W A n (pth 71) m (blockK 0 (g10Q A n (pth 31) (g10T kk)))))) x0 x1)
    rw [h13] at h14
    have h15 := (g10p135 A n _ _).trans h14
    have h16 := (g10p71 A n _ _).trans h15
    exact (loopD_first (s' := ⟨[(0, tS x0), (3, u64v x1)], []⟩) (id := 3) (by kernel_rfl) (h.trans (by kernel_rfl)) _).trans ((g10Vs A n _ m _ _).trans (h16.trans (by kernel_rfl)))
def g10 {R : Type} (A : Ar) (n : Nat) (kk : KK R) (a : LN) : Option R :=
  match A.le (a.length + [128].length) 9223372036854775807 with
  | true => g10L3 A n kk n (a ++ [128]) (A.i2n .u64 (A.ofN a.length))
  | false => none
theorem g10_eq {R : Type} (A : Ar) (n : Nat) (kk : KK R) (a : LN) :
    funD A gtys (g10O A) g10an n (bodyOf Try.f10) g10res [(tS a)] [] kk = g10 A n kk a := by
  have h1 := (g10p39 A n _ _).trans (g10L3_eq A n kk n (g10R2s0 A a (A.i2n .u64 (A.ofN a.length))) (a ++ [128]) (A.i2n .u64 (A.ofN a.length)) (by kernel_rfl))
  have h2 := (g10p23 A n _ _).trans h1
  have h3 := (g10p15 A n _ _).trans h2
  have h4 := (g10Qn A n _ _ _).trans h3
  have h5 := (g10F A n _ 2 _ (g10R1s0 A a) _ (by kernel_rfl) (by kernel_rfl)).trans (g10R2 A n (g10Q A n (pth 15) (g10T kk)) a (A.i2n .u64 (A.ofN a.length)))
  rw [h4] at h5
  have h6 := (g10p7 A n _ _).trans h5
  have h7 := (g10Qn A n _ _ _).trans h6
  have h8 := (g10F A n _ 1 _ (g10R0s0 A a) _ (by kernel_rfl) (by kernel_rfl)).trans (g10R1 A n (g10Q A n (pth 7) (g10T kk)) a)
  rw [h7] at h8
  have h9 := (g10p3 A n _ _).trans h8
  have h10 := (g10Qn A n _ _ _).trans h9
  have h11 := (g10F A n _ 0 _ ⟨[(0, tS a)], []⟩ _ (by kernel_rfl) (by kernel_rfl)).trans (g10R0 A n (g10Q A n (pth 3) (g10T kk)) a)
  rw [h10] at h11
  have h12 := (g10p1 A n _ _).trans h11
  exact (show funD A gtys (g10O A) g10an n (bodyOf Try.f10) g10res [(tS a)] [] kk = g10D A n (pth 1) (g10T kk) ⟨[(0, tS a)], []⟩ from by kernel_rfl).trans (h12.trans (by kernel_rfl))
def g10is (o : Option AV) : Bool := match o with
  | some (.v (.cell (.str _))) => true
  | _ => false
def g10g0 (o : Option AV) : LN := match o with
  | some (.v (.cell (.str x))) => x
  | _ => []
theorem g10is_spec {o : Option AV} (h : g10is o = true) : o = some (.v (.cell (.str (g10g0 o)))) := by
  unfold g10is at h
  split at h
  · rfl
  · cases h
def g10v (A : Ar) (a : LN) : Option AV := g10 A (100000) (fun v _ => some v) a
def g10ok (A : Ar) (a : LN) : Bool := g10is (g10v A a)
def g10r0 (A : Ar) (a : LN) : LN := g10g0 (g10v A a)
theorem g10ok_spec {A : Ar} {a} (h : g10ok A a = true) : g10v A a = some (.v (.cell (.str (g10r0 A a)))) := g10is_spec h
def g10o (A : Ar) (args : List AV) : Option (Bool × AV) := match args with
  | [.v (.cell (.str a))] => some (g10ok A a, .v (.cell (.str (g10r0 A a))))
  | _ => none
theorem g10o_sound : ∀ args v, g10o realA args = some (true, v) → Fn1 Try.prog 10 args v := by
  intro args v h
  unfold g10o at h
  split at h
  · rename_i a
    simp only [Option.some.injEq, Prod.mk.injEq] at h
    obtain ⟨hc, h⟩ := h
    subst h
    · skip
      exact fn1_of mixed gtysOK g10O_sound g10O_det (an := g10an) (n := 100000) Try.func10 (c := bodyOf Try.f10) rfl (by kernel_rfl) Try.call10 (Nat.le_of_ble_eq_true rfl) (fun b => rfl) (fun _ => (g10_eq realA (100000) (fun v _ => some v) a).trans (show g10v realA a = _ from g10ok_spec hc))
  · cases h
section
variable {R : Type} (A : Ar) (n : Nat) (K : Ex → St → Option R) (s : St)
end
def g3J4 {R : Type} (A : Ar) (n : Nat) (kk : KK R) (x0 : LN) (x1 : Bool) : Option R :=
  match A.neg (A.mn (A.ofN x0.length) 600) with
  | true => none
  | false => match A.le (A.toN (A.mn (A.ofN x0.length) 600)) x0.length with
    | true => match x1 with
      | true => match g9ok A ((x0.take (A.toN (A.mn (A.ofN x0.length) 600))).drop 0) with
        | true => match g10ok A ((x0.take (A.toN (A.mn (A.ofN x0.length) 600))).drop 0) with
          | true => kk (bO (A.sc .eql (g9r0 A ((x0.take (A.toN (A.mn (A.ofN x0.length) 600))).drop 0)) (g10r0 A ((x0.take (A.toN (A.mn (A.ofN x0.length) 600))).drop 0)))) []
          | false => none
        | false => none
      | false => kk (bO false) []
    | false => none
def g3 {R : Type} (A : Ar) (n : Nat) (kk : KK R) (a : LN) : Option R :=
  match g8ok A with
  | true => match !(g8r0 A) with
    | true => kk (bO false) []
    | false => g3J4 A n kk a (g8r0 A)
  | false => none
section
variable {R : Type} (A : Ar) (n : Nat) (K : Ex → St → Option R) (s : St)
end
section
variable {R : Type} (A : Ar) (n : Nat) (K : Ex → St → Option R) (s : St)
end
end Go.Sx
