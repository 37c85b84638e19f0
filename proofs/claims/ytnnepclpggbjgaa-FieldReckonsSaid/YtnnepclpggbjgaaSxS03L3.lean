/- printed by sxgen -/
import Derived.Test.YtnnepclpggbjgaaSxS03Vb
namespace Go.Sx
open Go.Proofs
set_option linter.unusedVariables false
/- engrosser/engrosserlaw03.FieldReckons -/
def g3O (A : Ar) : Orc := orcOf [(11, g11o A), (12, g12o A), (13, g13o A), (14, g14o A), (15, g15o A), (16, g16o A), (17, g17o A), (18, g18o A), (19, g19o A)]
theorem g3O_sound : OSound Try.prog (g3O realA) := orc_sound fun f g hm args v hv => by
  simp only [List.mem_cons, List.not_mem_nil, or_false, Prod.mk.injEq] at hm
  rcases hm with ⟨rfl, rfl⟩ | ⟨rfl, rfl⟩ | ⟨rfl, rfl⟩ | ⟨rfl, rfl⟩ | ⟨rfl, rfl⟩ | ⟨rfl, rfl⟩ | ⟨rfl, rfl⟩ | ⟨rfl, rfl⟩ | ⟨rfl, rfl⟩
  · exact g11o_sound _ _ hv
  · exact g12o_sound _ _ hv
  · exact g13o_sound _ _ hv
  · exact g14o_sound _ _ hv
  · exact g15o_sound _ _ hv
  · exact g16o_sound _ _ hv
  · exact g17o_sound _ _ hv
  · exact g18o_sound _ _ hv
  · exact g19o_sound _ _ hv
theorem g3O_det : ODet (g3O realA) := orc_det _
def g3an : Ann := [(0, ([0, 1], [])), (1, ([2, 3], [1000, 1001])), (2, ([2, 3, 5], [1000, 1001])), (3, ([], [])), (4, ([2, 3, 5], [1000, 1001]))]
def g3res : List ResultVar := [.tmp 4]
noncomputable def g3D {R : Type} (A : Ar) (n : Nat) (p : List Bool) (K : Ex → St → Option R) (s : St) : Option R := codeD A gtys (g3O A) g3an n (sub (bodyOf Try.f3) p) K s
noncomputable def g3Q {R : Type} (A : Ar) (n : Nat) (p : List Bool) (K : Ex → St → Option R) : Ex → St → Option R := seqC (g3D A n p K) K
noncomputable def g3T {R : Type} (kk : AV → Heap → Option R) : Ex → St → Option R := finD gtys g3res kk
theorem g3Qn {R : Type} (A : Ar) (n : Nat) (p : List Bool) (K : Ex → St → Option R) (s : St) : g3Q A n p K .normal s = g3D A n p K s := rfl
theorem g3Qr {R : Type} (A : Ar) (n : Nat) (p : List Bool) (K : Ex → St → Option R) (s : St) : g3Q A n p K .ret s = K .ret s := rfl
section
variable {R : Type} (A : Ar) (n : Nat) (K : Ex → St → Option R) (s : St)
theorem g3p : g3D A n (pth 1) K s = g3D A n (pth 2) (g3Q A n (pth 3) K) s := by kernel_rfl
theorem g3p0 (s' : St) (h : keep g3an 0 s = keep g3an 0 s') : g3D A n (pth 2) K s = g3D A n (pth 2) K s' := codeD_first (id := 0) (by kernel_rfl) h K
theorem g3p1 : g3D A n (pth 3) K s = g3D A n (pth 5) (g3Q A n (pth 7) K) s := by kernel_rfl
theorem g3p10 (s' : St) (h : keep g3an 1 s = keep g3an 1 s') : g3D A n (pth 5) K s = g3D A n (pth 5) K s' := codeD_first (id := 1) (by kernel_rfl) h K
theorem g3p11 : g3D A n (pth 7) K s = g3D A n (pth 11) (g3Q A n (pth 15) K) s := by kernel_rfl
theorem g3p110 : g3D A n (pth 11) K s = g3D A n (pth 19) (g3Q A n (pth 27) K) s := by kernel_rfl
theorem g3p1100 (s' : St) (h : keep g3an 2 s = keep g3an 2 s') : g3D A n (pth 19) K s = g3D A n (pth 19) K s' := codeD_first (id := 2) (by kernel_rfl) h K
theorem g3p1101 (t : Bool) : ev s (.tmp 8) = some (.v (.cell (.bool t))) → g3D A n (pth 27) K s = (match t with
    | true => g3D A n (pth 43) K s
    | false => g3D A n (pth 59) K s) := codeD_cond t
theorem g3p11010 : g3D A n (pth 43) K s = g3D A n (pth 75) (g3Q A n (pth 107) K) s := by kernel_rfl
theorem g3p110100 (s' : St) (h : keep g3an 3 s = keep g3an 3 s') : g3D A n (pth 75) K s = g3D A n (pth 75) K s' := codeD_first (id := 3) (by kernel_rfl) h K
theorem g3p110101 : g3D A n (pth 107) K s = K .ret s := by kernel_rfl
theorem g3p11011 : g3D A n (pth 59) K s = K .normal s := by kernel_rfl
theorem g3p111 : g3D A n (pth 15) K s = g3D A n (pth 23) (g3Q A n (pth 31) K) s := by kernel_rfl
theorem g3p1110 (s' : St) (h : keep g3an 4 s = keep g3an 4 s') : g3D A n (pth 23) K s = g3D A n (pth 23) K s' := codeD_first (id := 4) (by kernel_rfl) h K
theorem g3p1111 : g3D A n (pth 31) K s = K .ret s := by kernel_rfl
theorem g3R4 (x0 : Bool) (x1 x2 : List Nat) : g3D A n (pth 23) K ⟨[(2, (pT 1000 0)), (3, (pT 1001 0)), (5, (bO x0))], [(1000, (bU 4 x1 24)), (1001, (bU 4 x2 24))]⟩ = match (generalizing := false) x0 with
    | true => match (generalizing := false) g12ok A x1 x2 with
      | true => match (generalizing := false) g13ok A x1 x2 with
        | true => match (generalizing := false) (A.lq (g12r0 A x1 x2) (g13r0 A x1 x2)) && true with
          | true => match (generalizing := false) g14ok A x1 x2 with
            | true => match (generalizing := false) g15ok A x1 x2 with
              | true => match (generalizing := false) (A.lq (g14r0 A x1 x2) (g15r0 A x1 x2)) && true with
                | true => match (generalizing := false) g16ok A x1 x2 with
                  | true => match (generalizing := false) g17ok A x1 x2 with
                    | true => match (generalizing := false) (A.lq (g16r0 A x1 x2) (g17r0 A x1 x2)) && true with
                      | true => match (generalizing := false) g18ok A x1 with
                        | true => match (generalizing := false) g19ok A x1 with
                          | true => match (generalizing := false) (A.lq (g18r0 A x1) (g19r0 A x1)) && true with
                            | true => K .normal ⟨[(4, (bO true)), (43, (bO true)), (42, (bO true)), (41, (aN .u64 4 (g19r0 A x1))), (40, (aN .u64 4 x1)), (39, (aN .u64 4 (g18r0 A x1))), (38, (aN .u64 4 x1)), (37, (bO true)), (36, (bO true)), (35, (bO true)), (34, (aN .u64 4 (g17r0 A x1 x2))), (33, (aN .u64 4 x2)), (32, (aN .u64 4 x1)), (31, (aN .u64 4 (g16r0 A x1 x2))), (30, (aN .u64 4 x2)), (29, (aN .u64 4 x1)), (28, (bO true)), (27, (bO true)), (26, (bO true)), (25, (aN .u64 4 (g15r0 A x1 x2))), (24, (aN .u64 4 x2)), (23, (aN .u64 4 x1)), (22, (aN .u64 4 (g14r0 A x1 x2))), (21, (aN .u64 4 x2)), (20, (aN .u64 4 x1)), (19, (bO true)), (18, (bO true)), (17, (bO true)), (16, (aN .u64 4 (g13r0 A x1 x2))), (15, (aN .u64 4 x2)), (14, (aN .u64 4 x1)), (13, (aN .u64 4 (g12r0 A x1 x2))), (12, (aN .u64 4 x2)), (11, (aN .u64 4 x1)), (10, (bO true)), (9, (bO true)), (2, (pT 1000 0)), (3, (pT 1001 0)), (5, (bO x0))], [(1000, (bU 4 x1 24)), (1001, (bU 4 x2 24))]⟩
                            | false => K .normal ⟨[(4, (bO false)), (43, (bO false)), (42, (bO false)), (41, (aN .u64 4 (g19r0 A x1))), (40, (aN .u64 4 x1)), (39, (aN .u64 4 (g18r0 A x1))), (38, (aN .u64 4 x1)), (37, (bO true)), (36, (bO true)), (35, (bO true)), (34, (aN .u64 4 (g17r0 A x1 x2))), (33, (aN .u64 4 x2)), (32, (aN .u64 4 x1)), (31, (aN .u64 4 (g16r0 A x1 x2))), (30, (aN .u64 4 x2)), (29, (aN .u64 4 x1)), (28, (bO true)), (27, (bO true)), (26, (bO true)), (25, (aN .u64 4 (g15r0 A x1 x2))), (24, (aN .u64 4 x2)), (23, (aN .u64 4 x1)), (22, (aN .u64 4 (g14r0 A x1 x2))), (21, (aN .u64 4 x2)), (20, (aN .u64 4 x1)), (19, (bO true)), (18, (bO true)), (17, (bO true)), (16, (aN .u64 4 (g13r0 A x1 x2))), (15, (aN .u64 4 x2)), (14, (aN .u64 4 x1)), (13, (aN .u64 4 (g12r0 A x1 x2))), (12, (aN .u64 4 x2)), (11, (aN .u64 4 x1)), (10, (bO true)), (9, (bO true)), (2, (pT 1000 0)), (3, (pT 1001 0)), (5, (bO x0))], [(1000, (bU 4 x1 24)), (1001, (bU 4 x2 24))]⟩
                          | false => none
                        | false => none
                      | false => K .normal ⟨[(4, (bO false)), (43, (bO false)), (42, uN), (41, uN), (40, uN), (39, uN), (38, uN), (37, (bO false)), (36, (bO false)), (35, (bO false)), (34, (aN .u64 4 (g17r0 A x1 x2))), (33, (aN .u64 4 x2)), (32, (aN .u64 4 x1)), (31, (aN .u64 4 (g16r0 A x1 x2))), (30, (aN .u64 4 x2)), (29, (aN .u64 4 x1)), (28, (bO true)), (27, (bO true)), (26, (bO true)), (25, (aN .u64 4 (g15r0 A x1 x2))), (24, (aN .u64 4 x2)), (23, (aN .u64 4 x1)), (22, (aN .u64 4 (g14r0 A x1 x2))), (21, (aN .u64 4 x2)), (20, (aN .u64 4 x1)), (19, (bO true)), (18, (bO true)), (17, (bO true)), (16, (aN .u64 4 (g13r0 A x1 x2))), (15, (aN .u64 4 x2)), (14, (aN .u64 4 x1)), (13, (aN .u64 4 (g12r0 A x1 x2))), (12, (aN .u64 4 x2)), (11, (aN .u64 4 x1)), (10, (bO true)), (9, (bO true)), (2, (pT 1000 0)), (3, (pT 1001 0)), (5, (bO x0))], [(1000, (bU 4 x1 24)), (1001, (bU 4 x2 24))]⟩
                    | false => none
                  | false => none
                | false => K .normal ⟨[(4, (bO false)), (43, (bO false)), (42, uN), (41, uN), (40, uN), (39, uN), (38, uN), (37, (bO false)), (36, (bO false)), (35, uN), (34, uN), (33, uN), (32, uN), (31, uN), (30, uN), (29, uN), (28, (bO false)), (27, (bO false)), (26, (bO false)), (25, (aN .u64 4 (g15r0 A x1 x2))), (24, (aN .u64 4 x2)), (23, (aN .u64 4 x1)), (22, (aN .u64 4 (g14r0 A x1 x2))), (21, (aN .u64 4 x2)), (20, (aN .u64 4 x1)), (19, (bO true)), (18, (bO true)), (17, (bO true)), (16, (aN .u64 4 (g13r0 A x1 x2))), (15, (aN .u64 4 x2)), (14, (aN .u64 4 x1)), (13, (aN .u64 4 (g12r0 A x1 x2))), (12, (aN .u64 4 x2)), (11, (aN .u64 4 x1)), (10, (bO true)), (9, (bO true)), (2, (pT 1000 0)), (3, (pT 1001 0)), (5, (bO x0))], [(1000, (bU 4 x1 24)), (1001, (bU 4 x2 24))]⟩
              | false => none
            | false => none
          | false => K .normal ⟨[(4, (bO false)), (43, (bO false)), (42, uN), (41, uN), (40, uN), (39, uN), (38, uN), (37, (bO false)), (36, (bO false)), (35, uN), (34, uN), (33, uN), (32, uN), (31, uN), (30, uN), (29, uN), (28, (bO false)), (27, (bO false)), (26, uN), (25, uN), (24, uN), (23, uN), (22, uN), (21, uN), (20, uN), (19, (bO false)), (18, (bO false)), (17, (bO false)), (16, (aN .u64 4 (g13r0 A x1 x2))), (15, (aN .u64 4 x2)), (14, (aN .u64 4 x1)), (13, (aN .u64 4 (g12r0 A x1 x2))), (12, (aN .u64 4 x2)), (11, (aN .u64 4 x1)), (10, (bO true)), (9, (bO true)), (2, (pT 1000 0)), (3, (pT 1001 0)), (5, (bO x0))], [(1000, (bU 4 x1 24)), (1001, (bU 4 x2 24))]⟩
        | false => none
      | false => none
    | false => K .normal ⟨[(4, (bO false)), (43, (bO false)), (42, uN), (41, uN), (40, uN), (39, uN), (38, uN), (37, (bO false)), (36, (bO false)), (35, uN), (34, uN), (33, uN), (32, uN), (31, uN), (30, uN), (29, uN), (28, (bO false)), (27, (bO false)), (26, uN), (25, uN), (24, uN), (23, uN), (22, uN), (21, uN), (20, uN), (19, (bO false)), (18, (bO false)), (17, uN), (16, uN), (15, uN), (14, uN), (13, uN), (12, uN), (11, uN), (10, (bO false)), (9, (bO false)), (2, (pT 1000 0)), (3, (pT 1001 0)), (5, (bO x0))], [(1000, (bU 4 x1 24)), (1001, (bU 4 x2 24))]⟩ := by kernel_rfl
theorem g3R0 (x0 x1 : List Nat) : g3D A n (pth 2) K ⟨[(0, (aN .u64 4 x0)), (1, (aN .u64 4 x1))], []⟩ = K .normal ⟨[(4, (bO false)), (3, (pT 1001 0)), (2, (pT 1000 0)), (0, (aN .u64 4 x0)), (1, (aN .u64 4 x1))], [(1001, (bU 4 x1 24)), (1000, (bU 4 x0 24))]⟩ := by kernel_rfl
theorem g3R1 (x0 x1 : List Nat) : g3D A n (pth 5) K ⟨[(2, (pT 1000 0)), (3, (pT 1001 0))], [(1000, (bU 4 x0 24)), (1001, (bU 4 x1 24))]⟩ = match (generalizing := false) g11ok A with
    | true => K .normal ⟨[(5, (bO (g11r0 A))), (6, (bO (g11r0 A))), (2, (pT 1000 0)), (3, (pT 1001 0))], [(1000, (bU 4 x0 24)), (1001, (bU 4 x1 24))]⟩
    | false => none := by kernel_rfl
theorem g3R2 (x0 : Bool) (x1 x2 : List Nat) : g3D A n (pth 19) K ⟨[(2, (pT 1000 0)), (3, (pT 1001 0)), (5, (bO x0))], [(1000, (bU 4 x1 24)), (1001, (bU 4 x2 24))]⟩ = K .normal ⟨[(8, (bO (!x0))), (7, (bO x0)), (2, (pT 1000 0)), (3, (pT 1001 0)), (5, (bO x0))], [(1000, (bU 4 x1 24)), (1001, (bU 4 x2 24))]⟩ := by kernel_rfl
theorem g3R3 : g3D A n (pth 75) K ⟨[], []⟩ = K .normal ⟨[(4, (bO false))], []⟩ := by kernel_rfl
end
def g3J4 {R : Type} (A : Ar) (n : Nat) (kk : AV → Heap → Option R)  (x0 : Bool) (x1 x2 : List Nat) : Option R :=
  match (generalizing := false) x0 with
  | true => match (generalizing := false) g12ok A x1 x2 with
    | true => match (generalizing := false) g13ok A x1 x2 with
      | true => match (generalizing := false) (A.lq (g12r0 A x1 x2) (g13r0 A x1 x2)) && true with
        | true => match (generalizing := false) g14ok A x1 x2 with
          | true => match (generalizing := false) g15ok A x1 x2 with
            | true => match (generalizing := false) (A.lq (g14r0 A x1 x2) (g15r0 A x1 x2)) && true with
              | true => match (generalizing := false) g16ok A x1 x2 with
                | true => match (generalizing := false) g17ok A x1 x2 with
                  | true => match (generalizing := false) (A.lq (g16r0 A x1 x2) (g17r0 A x1 x2)) && true with
                    | true => match (generalizing := false) g18ok A x1 with
                      | true => match (generalizing := false) g19ok A x1 with
                        | true => match (generalizing := false) (A.lq (g18r0 A x1) (g19r0 A x1)) && true with
                          | true => kk (bO true) [(1000, (bU 4 x1 24)), (1001, (bU 4 x2 24))]
                          | false => kk (bO false) [(1000, (bU 4 x1 24)), (1001, (bU 4 x2 24))]
                        | false => none
                      | false => none
                    | false => kk (bO false) [(1000, (bU 4 x1 24)), (1001, (bU 4 x2 24))]
                  | false => none
                | false => none
              | false => kk (bO false) [(1000, (bU 4 x1 24)), (1001, (bU 4 x2 24))]
            | false => none
          | false => none
        | false => kk (bO false) [(1000, (bU 4 x1 24)), (1001, (bU 4 x2 24))]
      | false => none
    | false => none
  | false => kk (bO false) [(1000, (bU 4 x1 24)), (1001, (bU 4 x2 24))]
set_option maxRecDepth 100000 in
theorem g3J4_eq {R : Type} (A : Ar) (n : Nat) (kk : AV → Heap → Option R)    (s : St) (x0 : Bool) (x1 x2 : List Nat) (h : keep g3an 4 s = ⟨[(2, (pT 1000 0)), (3, (pT 1001 0)), (5, (bO x0))], [(1000, (bU 4 x1 24)), (1001, (bU 4 x2 24))]⟩) :
    g3D A n (pth 15) (g3T kk) s = g3J4 A n kk  x0 x1 x2 := by
  have h3 : (g3T kk) .ret ⟨[(4, (bO true)), (43, (bO true)), (42, (bO true)), (41, (aN .u64 4 (g19r0 A x1))), (40, (aN .u64 4 x1)), (39, (aN .u64 4 (g18r0 A x1))), (38, (aN .u64 4 x1)), (37, (bO true)), (36, (bO true)), (35, (bO true)), (34, (aN .u64 4 (g17r0 A x1 x2))), (33, (aN .u64 4 x2)), (32, (aN .u64 4 x1)), (31, (aN .u64 4 (g16r0 A x1 x2))), (30, (aN .u64 4 x2)), (29, (aN .u64 4 x1)), (28, (bO true)), (27, (bO true)), (26, (bO true)), (25, (aN .u64 4 (g15r0 A x1 x2))), (24, (aN .u64 4 x2)), (23, (aN .u64 4 x1)), (22, (aN .u64 4 (g14r0 A x1 x2))), (21, (aN .u64 4 x2)), (20, (aN .u64 4 x1)), (19, (bO true)), (18, (bO true)), (17, (bO true)), (16, (aN .u64 4 (g13r0 A x1 x2))), (15, (aN .u64 4 x2)), (14, (aN .u64 4 x1)), (13, (aN .u64 4 (g12r0 A x1 x2))), (12, (aN .u64 4 x2)), (11, (aN .u64 4 x1)), (10, (bO true)), (9, (bO true)), (2, (pT 1000 0)), (3, (pT 1001 0)), (5, (bO x0))], [(1000, (bU 4 x1 24)), (1001, (bU 4 x2 24))]⟩ = kk (bO true) [(1000, (bU 4 x1 24)), (1001, (bU 4 x2 24))] := by kernel_rfl
  have h4 := (g3p1111 A n _ _).trans h3
  have h5 := (g3Qn A n _ _ _).trans h4
  have h6 : (g3T kk) .ret ⟨[(4, (bO false)), (43, (bO false)), (42, (bO false)), (41, (aN .u64 4 (g19r0 A x1))), (40, (aN .u64 4 x1)), (39, (aN .u64 4 (g18r0 A x1))), (38, (aN .u64 4 x1)), (37, (bO true)), (36, (bO true)), (35, (bO true)), (34, (aN .u64 4 (g17r0 A x1 x2))), (33, (aN .u64 4 x2)), (32, (aN .u64 4 x1)), (31, (aN .u64 4 (g16r0 A x1 x2))), (30, (aN .u64 4 x2)), (29, (aN .u64 4 x1)), (28, (bO true)), (27, (bO true)), (26, (bO true)), (25, (aN .u64 4 (g15r0 A x1 x2))), (24, (aN .u64 4 x2)), (23, (aN .u64 4 x1)), (22, (aN .u64 4 (g14r0 A x1 x2))), (21, (aN .u64 4 x2)), (20, (aN .u64 4 x1)), (19, (bO true)), (18, (bO true)), (17, (bO true)), (16, (aN .u64 4 (g13r0 A x1 x2))), (15, (aN .u64 4 x2)), (14, (aN .u64 4 x1)), (13, (aN .u64 4 (g12r0 A x1 x2))), (12, (aN .u64 4 x2)), (11, (aN .u64 4 x1)), (10, (bO true)), (9, (bO true)), (2, (pT 1000 0)), (3, (pT 1001 0)), (5, (bO x0))], [(1000, (bU 4 x1 24)), (1001, (bU 4 x2 24))]⟩ = kk (bO false) [(1000, (bU 4 x1 24)), (1001, (bU 4 x2 24))] := by kernel_rfl
  have h7 := (g3p1111 A n _ _).trans h6
  have h8 := (g3Qn A n _ _ _).trans h7
  have h9 : (g3T kk) .ret ⟨[(4, (bO false)), (43, (bO false)), (42, uN), (41, uN), (40, uN), (39, uN), (38, uN), (37, (bO false)), (36, (bO false)), (35, (bO false)), (34, (aN .u64 4 (g17r0 A x1 x2))), (33, (aN .u64 4 x2)), (32, (aN .u64 4 x1)), (31, (aN .u64 4 (g16r0 A x1 x2))), (30, (aN .u64 4 x2)), (29, (aN .u64 4 x1)), (28, (bO true)), (27, (bO true)), (26, (bO true)), (25, (aN .u64 4 (g15r0 A x1 x2))), (24, (aN .u64 4 x2)), (23, (aN .u64 4 x1)), (22, (aN .u64 4 (g14r0 A x1 x2))), (21, (aN .u64 4 x2)), (20, (aN .u64 4 x1)), (19, (bO true)), (18, (bO true)), (17, (bO true)), (16, (aN .u64 4 (g13r0 A x1 x2))), (15, (aN .u64 4 x2)), (14, (aN .u64 4 x1)), (13, (aN .u64 4 (g12r0 A x1 x2))), (12, (aN .u64 4 x2)), (11, (aN .u64 4 x1)), (10, (bO true)), (9, (bO true)), (2, (pT 1000 0)), (3, (pT 1001 0)), (5, (bO x0))], [(1000, (bU 4 x1 24)), (1001, (bU 4 x2 24))]⟩ = kk (bO false) [(1000, (bU 4 x1 24)), (1001, (bU 4 x2 24))] := by kernel_rfl
  have h10 := (g3p1111 A n _ _).trans h9
  have h11 := (g3Qn A n _ _ _).trans h10
  have h12 : (g3T kk) .ret ⟨[(4, (bO false)), (43, (bO false)), (42, uN), (41, uN), (40, uN), (39, uN), (38, uN), (37, (bO false)), (36, (bO false)), (35, uN), (34, uN), (33, uN), (32, uN), (31, uN), (30, uN), (29, uN), (28, (bO false)), (27, (bO false)), (26, (bO false)), (25, (aN .u64 4 (g15r0 A x1 x2))), (24, (aN .u64 4 x2)), (23, (aN .u64 4 x1)), (22, (aN .u64 4 (g14r0 A x1 x2))), (21, (aN .u64 4 x2)), (20, (aN .u64 4 x1)), (19, (bO true)), (18, (bO true)), (17, (bO true)), (16, (aN .u64 4 (g13r0 A x1 x2))), (15, (aN .u64 4 x2)), (14, (aN .u64 4 x1)), (13, (aN .u64 4 (g12r0 A x1 x2))), (12, (aN .u64 4 x2)), (11, (aN .u64 4 x1)), (10, (bO true)), (9, (bO true)), (2, (pT 1000 0)), (3, (pT 1001 0)), (5, (bO x0))], [(1000, (bU 4 x1 24)), (1001, (bU 4 x2 24))]⟩ = kk (bO false) [(1000, (bU 4 x1 24)), (1001, (bU 4 x2 24))] := by kernel_rfl
  have h13 := (g3p1111 A n _ _).trans h12
  have h14 := (g3Qn A n _ _ _).trans h13
  have h15 : (g3T kk) .ret ⟨[(4, (bO false)), (43, (bO false)), (42, uN), (41, uN), (40, uN), (39, uN), (38, uN), (37, (bO false)), (36, (bO false)), (35, uN), (34, uN), (33, uN), (32, uN), (31, uN), (30, uN), (29, uN), (28, (bO false)), (27, (bO false)), (26, uN), (25, uN), (24, uN), (23, uN), (22, uN), (21, uN), (20, uN), (19, (bO false)), (18, (bO false)), (17, (bO false)), (16, (aN .u64 4 (g13r0 A x1 x2))), (15, (aN .u64 4 x2)), (14, (aN .u64 4 x1)), (13, (aN .u64 4 (g12r0 A x1 x2))), (12, (aN .u64 4 x2)), (11, (aN .u64 4 x1)), (10, (bO true)), (9, (bO true)), (2, (pT 1000 0)), (3, (pT 1001 0)), (5, (bO x0))], [(1000, (bU 4 x1 24)), (1001, (bU 4 x2 24))]⟩ = kk (bO false) [(1000, (bU 4 x1 24)), (1001, (bU 4 x2 24))] := by kernel_rfl
  have h16 := (g3p1111 A n _ _).trans h15
  have h17 := (g3Qn A n _ _ _).trans h16
  have h18 : (g3T kk) .ret ⟨[(4, (bO false)), (43, (bO false)), (42, uN), (41, uN), (40, uN), (39, uN), (38, uN), (37, (bO false)), (36, (bO false)), (35, uN), (34, uN), (33, uN), (32, uN), (31, uN), (30, uN), (29, uN), (28, (bO false)), (27, (bO false)), (26, uN), (25, uN), (24, uN), (23, uN), (22, uN), (21, uN), (20, uN), (19, (bO false)), (18, (bO false)), (17, uN), (16, uN), (15, uN), (14, uN), (13, uN), (12, uN), (11, uN), (10, (bO false)), (9, (bO false)), (2, (pT 1000 0)), (3, (pT 1001 0)), (5, (bO x0))], [(1000, (bU 4 x1 24)), (1001, (bU 4 x2 24))]⟩ = kk (bO false) [(1000, (bU 4 x1 24)), (1001, (bU 4 x2 24))] := by kernel_rfl
  have h19 := (g3p1111 A n _ _).trans h18
  have h20 := (g3Qn A n _ _ _).trans h19
  have h1 := g3R4 A n (g3Q A n (pth 31) (g3T kk)) x0 x1 x2
  have h21 := (g3p1110 A n _ ⟨[(2, (pT 1000 0)), (3, (pT 1001 0)), (5, (bO x0))], [(1000, (bU 4 x1 24)), (1001, (bU 4 x2 24))]⟩ _ (by kernel_rfl)).trans h1
  rw [h5, h8, h11, h14, h17, h20] at h21
  have h22 := (g3p111 A n _ _).trans h21
  exact (codeD_first (s' := ⟨[(2, (pT 1000 0)), (3, (pT 1001 0)), (5, (bO x0))], [(1000, (bU 4 x1 24)), (1001, (bU 4 x2 24))]⟩) (id := 4) (by kernel_rfl) (h.trans (by kernel_rfl)) _).trans (h22.trans (by kernel_rfl))
def g3 {R : Type} (A : Ar) (n : Nat) (kk : AV → Heap → Option R) (a b : List Nat) : Option R :=
  match (generalizing := false) g11ok A with
  | true => match (generalizing := false) !(g11r0 A) with
    | true => kk (bO false) []
    | false => g3J4 A n kk  (g11r0 A) a b
  | false => none
set_option maxRecDepth 100000 in
theorem g3_eq {R : Type} (A : Ar) (n : Nat) (kk : AV → Heap → Option R) (a b : List Nat) :
    funD A gtys (g3O A) g3an n (bodyOf Try.f3) g3res [(aN .u64 4 a), (aN .u64 4 b)] [] kk = g3 A n kk a b := by
  have h9 : (g3T kk) .ret ⟨[(4, (bO false))], []⟩ = kk (bO false) [] := by kernel_rfl
  have h10 := (g3Qr A n (pth 15) _ _).trans h9
  have h11 := (g3p110101 A n _ _).trans h10
  have h12 := (g3Qn A n _ _ _).trans h11
  have h7 := g3R3 A n (g3Q A n (pth 107) (g3Q A n (pth 15) (g3T kk))) 
  have h13 := (g3p110100 A n _ ⟨[(8, (bO (!(g11r0 A)))), (7, (bO (g11r0 A))), (2, (pT 1000 0)), (3, (pT 1001 0)), (5, (bO (g11r0 A)))], [(1000, (bU 4 a 24)), (1001, (bU 4 b 24))]⟩ _ (by kernel_rfl)).trans h7
  rw [h12] at h13
  have h14 := (g3p11010 A n _ _).trans h13
  have h15 := (g3Qn A n _ _ _).trans (g3J4_eq A n kk     ⟨[(8, (bO (!(g11r0 A)))), (7, (bO (g11r0 A))), (2, (pT 1000 0)), (3, (pT 1001 0)), (5, (bO (g11r0 A)))], [(1000, (bU 4 a 24)), (1001, (bU 4 b 24))]⟩ (g11r0 A) a b (by kernel_rfl))
  have h16 := (g3p11011 A n _ _).trans h15
  have h17 := g3p1101 A n (g3Q A n (pth 15) (g3T kk)) ⟨[(8, (bO (!(g11r0 A)))), (7, (bO (g11r0 A))), (2, (pT 1000 0)), (3, (pT 1001 0)), (5, (bO (g11r0 A)))], [(1000, (bU 4 a 24)), (1001, (bU 4 b 24))]⟩ (!(g11r0 A)) (by kernel_rfl)
  rw [h14, h16] at h17
  have h18 := (g3Qn A n _ _ _).trans h17
  have h5 := g3R2 A n (g3Q A n (pth 27) (g3Q A n (pth 15) (g3T kk))) (g11r0 A) a b
  have h19 := (g3p1100 A n _ ⟨[(5, (bO (g11r0 A))), (6, (bO (g11r0 A))), (2, (pT 1000 0)), (3, (pT 1001 0))], [(1000, (bU 4 a 24)), (1001, (bU 4 b 24))]⟩ _ (by kernel_rfl)).trans h5
  rw [h18] at h19
  have h20 := (g3p110 A n _ _).trans h19
  have h21 := (g3p11 A n _ _).trans h20
  have h22 := (g3Qn A n _ _ _).trans h21
  have h3 := g3R1 A n (g3Q A n (pth 7) (g3T kk)) a b
  have h23 := (g3p10 A n _ ⟨[(4, (bO false)), (3, (pT 1001 0)), (2, (pT 1000 0)), (0, (aN .u64 4 a)), (1, (aN .u64 4 b))], [(1001, (bU 4 b 24)), (1000, (bU 4 a 24))]⟩ _ (by kernel_rfl)).trans h3
  rw [h22] at h23
  have h24 := (g3p1 A n _ _).trans h23
  have h25 := (g3Qn A n _ _ _).trans h24
  have h1 := g3R0 A n (g3Q A n (pth 3) (g3T kk)) a b
  have h26 := (g3p0 A n _ ⟨[(0, (aN .u64 4 a)), (1, (aN .u64 4 b))], []⟩ _ (by kernel_rfl)).trans h1
  rw [h25] at h26
  have h27 := (g3p A n _ _).trans h26
  exact (show funD A gtys (g3O A) g3an n (bodyOf Try.f3) g3res [(aN .u64 4 a), (aN .u64 4 b)] [] kk = g3D A n (pth 1) (g3T kk) ⟨[(0, (aN .u64 4 a)), (1, (aN .u64 4 b))], []⟩ from by kernel_rfl).trans (h27.trans (by kernel_rfl))
def g3is (o : Option AV) : Bool := match o with
  | some (.v (.cell (.bool _))) => true
  | _ => false
def g3g0 (o : Option AV) : Bool := match o with
  | some (.v (.cell (.bool x))) => x
  | _ => false
theorem g3is_spec {o : Option AV} (h : g3is o = true) : o = some (.v (.cell (.bool (g3g0 o)))) := by
  unfold g3is at h
  split at h
  · rfl
  · cases h
def g3v (A : Ar) (a b : List Nat) : Option AV := g3 A (100000) (fun v _ => some v) a b
def g3ok (A : Ar) (a b : List Nat) : Bool := g3is (g3v A a b)
def g3r0 (A : Ar) (a b : List Nat) : Bool := g3g0 (g3v A a b)
theorem g3ok_spec {A : Ar} {a b} (h : g3ok A a b = true) : g3v A a b = some (.v (.cell (.bool (g3r0 A a b)))) := g3is_spec h
def g3o (A : Ar) (args : List AV) : Option (Bool × AV) := match args with
  | [.v (.agg [.nums .u64 n0 a]), .v (.agg [.nums .u64 n1 b])] => some (Nat.beq n0 4 && (Nat.beq n1 4 && (g3ok A a b)), .v (.cell (.bool (g3r0 A a b))))
  | _ => none
theorem g3o_sound : ∀ args v, g3o realA args = some (true, v) → Fn1 Try.prog 3 args v := by
  intro args v h
  unfold g3o at h
  split at h
  · rename_i n0 a n1 b
    simp only [Option.some.injEq, Prod.mk.injEq] at h
    obtain ⟨hc, h⟩ := h
    subst h
    · skip
      simp only [Bool.and_eq_true] at hc
      have en0 := beq_true hc.1
      subst en0
      replace hc := hc.2
      have en1 := beq_true hc.1
      subst en1
      replace hc := hc.2
      exact fn1_of mixed gtysOK g3O_sound g3O_det (an := g3an) (n := 100000) Try.func3 (c := bodyOf Try.f3) rfl (by kernel_rfl) Try.call3 (Nat.le_of_ble_eq_true rfl) (fun b => rfl) (fun _ => (g3_eq realA (100000) (fun v _ => some v) a b).trans (show g3v realA a b = _ from g3ok_spec hc))
  · cases h
end Go.Sx
