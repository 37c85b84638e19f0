/- printed by sxgen -/
import Derived.Test.YtnnepclpggbjgaaSxS03c
namespace Go.Sx
open Go.Proofs
set_option linter.unusedVariables false
/- engrosser/engrosserlaw03.FieldRoots -/
def g5O (A : Ar) : Orc := orcOf [(11, g11o A), (21, g21o A), (16, g16o A), (12, g12o A), (22, g22o A), (20, g20o A), (23, g23o A), (18, g18o A)]
theorem g5O_sound : OSound Try.prog (g5O realA) := orc_sound fun f g hm args v hv => by
  simp only [List.mem_cons, List.not_mem_nil, or_false, Prod.mk.injEq] at hm
  rcases hm with ⟨rfl, rfl⟩ | ⟨rfl, rfl⟩ | ⟨rfl, rfl⟩ | ⟨rfl, rfl⟩ | ⟨rfl, rfl⟩ | ⟨rfl, rfl⟩ | ⟨rfl, rfl⟩ | ⟨rfl, rfl⟩
  · exact g11o_sound _ _ hv
  · exact g21o_sound _ _ hv
  · exact g16o_sound _ _ hv
  · exact g12o_sound _ _ hv
  · exact g22o_sound _ _ hv
  · exact g20o_sound _ _ hv
  · exact g23o_sound _ _ hv
  · exact g18o_sound _ _ hv
theorem g5O_det : ODet (g5O realA) := orc_det _
def g5an : Ann := [(0, ([0, 1], [])), (1, ([2, 3], [1000, 1001])), (2, ([2, 3, 5], [1000, 1001])), (3, ([], [])), (4, ([2, 3, 5], [1000, 1001])), (5, ([2, 3, 5, 6, 7], [1000, 1001, 5006])), (6, ([], [])), (7, ([2, 5, 6, 7], [1000, 5006])), (8, ([2, 5, 6, 7, 8, 9], [1000, 5006, 8008])), (9, ([2, 5, 6, 7, 8, 9, 10], [1000, 5006, 8008, 9003]))]
def g5res : List ResultVar := [.tmp 4]
noncomputable def g5D {R : Type} (A : Ar) (n : Nat) (p : List Bool) (K : Ex → St → Option R) (s : St) : Option R := codeD A gtys (g5O A) g5an n (sub (bodyOf Try.f5) p) K s
noncomputable def g5Q {R : Type} (A : Ar) (n : Nat) (p : List Bool) (K : Ex → St → Option R) : Ex → St → Option R := seqC (g5D A n p K) K
noncomputable def g5T {R : Type} (kk : AV → Heap → Option R) : Ex → St → Option R := finD gtys g5res kk
theorem g5Qn {R : Type} (A : Ar) (n : Nat) (p : List Bool) (K : Ex → St → Option R) (s : St) : g5Q A n p K .normal s = g5D A n p K s := rfl
theorem g5Qr {R : Type} (A : Ar) (n : Nat) (p : List Bool) (K : Ex → St → Option R) (s : St) : g5Q A n p K .ret s = K .ret s := rfl
section
variable {R : Type} (A : Ar) (n : Nat) (K : Ex → St → Option R) (s : St)
theorem g5p : g5D A n (pth 1) K s = g5D A n (pth 2) (g5Q A n (pth 3) K) s := by kernel_rfl
theorem g5p0 (s' : St) (h : keep g5an 0 s = keep g5an 0 s') : g5D A n (pth 2) K s = g5D A n (pth 2) K s' := codeD_first (id := 0) (by kernel_rfl) h K
theorem g5p1 : g5D A n (pth 3) K s = g5D A n (pth 5) (g5Q A n (pth 7) K) s := by kernel_rfl
theorem g5p10 (s' : St) (h : keep g5an 1 s = keep g5an 1 s') : g5D A n (pth 5) K s = g5D A n (pth 5) K s' := codeD_first (id := 1) (by kernel_rfl) h K
theorem g5p11 : g5D A n (pth 7) K s = g5D A n (pth 11) (g5Q A n (pth 15) K) s := by kernel_rfl
theorem g5p110 : g5D A n (pth 11) K s = g5D A n (pth 19) (g5Q A n (pth 27) K) s := by kernel_rfl
theorem g5p1100 (s' : St) (h : keep g5an 2 s = keep g5an 2 s') : g5D A n (pth 19) K s = g5D A n (pth 19) K s' := codeD_first (id := 2) (by kernel_rfl) h K
theorem g5p1101 (t : Bool) : ev s (.tmp 13) = some (.v (.cell (.bool t))) → g5D A n (pth 27) K s = (match t with
    | true => g5D A n (pth 43) K s
    | false => g5D A n (pth 59) K s) := codeD_cond t
theorem g5p11010 : g5D A n (pth 43) K s = g5D A n (pth 75) (g5Q A n (pth 107) K) s := by kernel_rfl
theorem g5p110100 (s' : St) (h : keep g5an 3 s = keep g5an 3 s') : g5D A n (pth 75) K s = g5D A n (pth 75) K s' := codeD_first (id := 3) (by kernel_rfl) h K
theorem g5p110101 : g5D A n (pth 107) K s = K .ret s := by kernel_rfl
theorem g5p11011 : g5D A n (pth 59) K s = K .normal s := by kernel_rfl
theorem g5p111 : g5D A n (pth 15) K s = g5D A n (pth 23) (g5Q A n (pth 31) K) s := by kernel_rfl
theorem g5p1110 (s' : St) (h : keep g5an 4 s = keep g5an 4 s') : g5D A n (pth 23) K s = g5D A n (pth 23) K s' := codeD_first (id := 4) (by kernel_rfl) h K
theorem g5p1111 : g5D A n (pth 31) K s = g5D A n (pth 47) (g5Q A n (pth 63) K) s := by kernel_rfl
theorem g5p11110 : g5D A n (pth 47) K s = g5D A n (pth 79) (g5Q A n (pth 111) K) s := by kernel_rfl
theorem g5p111100 (s' : St) (h : keep g5an 5 s = keep g5an 5 s') : g5D A n (pth 79) K s = g5D A n (pth 79) K s' := codeD_first (id := 5) (by kernel_rfl) h K
theorem g5p111101 (t : Bool) : ev s (.tmp 40) = some (.v (.cell (.bool t))) → g5D A n (pth 111) K s = (match t with
    | true => g5D A n (pth 175) K s
    | false => g5D A n (pth 239) K s) := codeD_cond t
theorem g5p1111010 : g5D A n (pth 175) K s = g5D A n (pth 303) (g5Q A n (pth 431) K) s := by kernel_rfl
theorem g5p11110100 (s' : St) (h : keep g5an 6 s = keep g5an 6 s') : g5D A n (pth 303) K s = g5D A n (pth 303) K s' := codeD_first (id := 6) (by kernel_rfl) h K
theorem g5p11110101 : g5D A n (pth 431) K s = K .ret s := by kernel_rfl
theorem g5p1111011 : g5D A n (pth 239) K s = K .normal s := by kernel_rfl
theorem g5p11111 : g5D A n (pth 63) K s = g5D A n (pth 95) (g5Q A n (pth 127) K) s := by kernel_rfl
theorem g5p111110 (s' : St) (h : keep g5an 7 s = keep g5an 7 s') : g5D A n (pth 95) K s = g5D A n (pth 95) K s' := codeD_first (id := 7) (by kernel_rfl) h K
theorem g5p111111 : g5D A n (pth 127) K s = g5D A n (pth 191) (g5Q A n (pth 255) K) s := by kernel_rfl
theorem g5p1111110 (s' : St) (h : keep g5an 8 s = keep g5an 8 s') : g5D A n (pth 191) K s = g5D A n (pth 191) K s' := codeD_first (id := 8) (by kernel_rfl) h K
theorem g5p1111111 : g5D A n (pth 255) K s = g5D A n (pth 383) (g5Q A n (pth 511) K) s := by kernel_rfl
theorem g5p11111110 (s' : St) (h : keep g5an 9 s = keep g5an 9 s') : g5D A n (pth 383) K s = g5D A n (pth 383) K s' := codeD_first (id := 9) (by kernel_rfl) h K
theorem g5p11111111 : g5D A n (pth 511) K s = K .ret s := by kernel_rfl
theorem g5R7 (x0 x1 : Bool) (x2 x3 : List Nat) : g5D A n (pth 95) K ⟨[(2, (pT 1000 0)), (5, (bO x0)), (6, (pT 5006 0)), (7, (bO x1))], [(1000, (bU 4 x2 24)), (5006, (bU 4 x3 24))]⟩ = match (generalizing := false) g16ok A x2 x2 with
    | true => match (generalizing := false) g23ok A 1 with
      | true => match (generalizing := false) g21ok A (g16r0 A x2 x2) (g23r0 A 1) with
        | true => K .normal ⟨[(9, (bO (g21r1 A (g16r0 A x2 x2) (g23r0 A 1)))), (8, (pT 8008 0)), (48, (bO (g21r1 A (g16r0 A x2 x2) (g23r0 A 1)))), (47, (aN .u64 4 (g21r0 A (g16r0 A x2 x2) (g23r0 A 1)))), (41, (.tup [(.agg [.nums .u64 4 (g21r0 A (g16r0 A x2 x2) (g23r0 A 1))]), (.cell (.bool (g21r1 A (g16r0 A x2 x2) (g23r0 A 1))))])), (46, (.tup [(.agg [.nums .u64 4 (g21r0 A (g16r0 A x2 x2) (g23r0 A 1))]), (.cell (.bool (g21r1 A (g16r0 A x2 x2) (g23r0 A 1))))])), (45, (aN .u64 4 (g23r0 A 1))), (44, (aN .u64 4 (g16r0 A x2 x2))), (43, (aN .u64 4 x2)), (42, (aN .u64 4 x2)), (2, (pT 1000 0)), (5, (bO x0)), (6, (pT 5006 0)), (7, (bO x1))], [(8008, (bU 4 (g21r0 A (g16r0 A x2 x2) (g23r0 A 1)) 24)), (1000, (bU 4 x2 24)), (5006, (bU 4 x3 24))]⟩
        | false => none
      | false => none
    | false => none := by kernel_rfl
theorem g5R8 (x0 x1 x2 : Bool) (x3 x4 x5 : List Nat) : g5D A n (pth 191) K ⟨[(2, (pT 1000 0)), (5, (bO x0)), (6, (pT 5006 0)), (7, (bO x1)), (8, (pT 8008 0)), (9, (bO x2))], [(1000, (bU 4 x3 24)), (5006, (bU 4 x4 24)), (8008, (bU 4 x5 24))]⟩ = match (generalizing := false) g12ok A x3 [0, 0, 0, 0] with
    | true => K .normal ⟨[(10, (pT 9003 0)), (51, (aN .u64 4 (g12r0 A x3 [0, 0, 0, 0]))), (50, (aN .u64 4 [0, 0, 0, 0])), (49, (aN .u64 4 x3)), (2, (pT 1000 0)), (5, (bO x0)), (6, (pT 5006 0)), (7, (bO x1)), (8, (pT 8008 0)), (9, (bO x2))], [(9003, (bU 4 (g12r0 A x3 [0, 0, 0, 0]) 24)), (1000, (bU 4 x3 24)), (5006, (bU 4 x4 24)), (8008, (bU 4 x5 24))]⟩
    | false => none := by kernel_rfl
theorem g5R9 (x0 x1 x2 : Bool) (x3 x4 : List Nat) (x5 x6 : List Nat) : g5D A n (pth 383) K ⟨[(2, (pT 1000 0)), (5, (bO x0)), (6, (pT 5006 0)), (7, (bO x1)), (8, (pT 8008 0)), (9, (bO x2)), (10, (pT 9003 0))], [(1000, (bU 4 x3 24)), (5006, (bU 4 x4 24)), (8008, (bU 4 x5 24)), (9003, (bU 4 x6 24))]⟩ = match (generalizing := false) x0 with
    | true => match (generalizing := false) x2 with
      | true => match (generalizing := false) (A.lq x5 x6) && true with
        | true => match (generalizing := false) x1 with
          | true => K .normal ⟨[(4, (bO true)), (74, (bO true)), (73, (bO true)), (72, uN), (71, uN), (70, uN), (69, (bO true)), (68, (bO true)), (67, (bO true)), (66, (bO true)), (65, (bO true)), (64, uN), (63, uN), (62, uN), (61, uN), (60, (bO true)), (59, (bO true)), (58, (aN .u64 4 x6)), (57, (aN .u64 4 x5)), (56, (bO true)), (55, (bO true)), (54, (bO true)), (53, (bO true)), (52, (bO true)), (2, (pT 1000 0)), (5, (bO x0)), (6, (pT 5006 0)), (7, (bO x1)), (8, (pT 8008 0)), (9, (bO x2)), (10, (pT 9003 0))], [(1000, (bU 4 x3 24)), (5006, (bU 4 x4 24)), (8008, (bU 4 x5 24)), (9003, (bU 4 x6 24))]⟩
          | false => match (generalizing := false) (A.lq x4 [0, 0, 0, 0]) && true with
            | true => K .normal ⟨[(4, (bO true)), (74, (bO true)), (73, (bO true)), (72, (bO true)), (71, (aN .u64 4 [0, 0, 0, 0])), (70, (aN .u64 4 x4)), (69, (bO false)), (68, (bO false)), (67, (bO true)), (66, (bO true)), (65, (bO true)), (64, uN), (63, uN), (62, uN), (61, uN), (60, (bO true)), (59, (bO true)), (58, (aN .u64 4 x6)), (57, (aN .u64 4 x5)), (56, (bO true)), (55, (bO true)), (54, (bO true)), (53, (bO true)), (52, (bO true)), (2, (pT 1000 0)), (5, (bO x0)), (6, (pT 5006 0)), (7, (bO x1)), (8, (pT 8008 0)), (9, (bO x2)), (10, (pT 9003 0))], [(1000, (bU 4 x3 24)), (5006, (bU 4 x4 24)), (8008, (bU 4 x5 24)), (9003, (bU 4 x6 24))]⟩
            | false => K .normal ⟨[(4, (bO false)), (74, (bO false)), (73, (bO false)), (72, (bO false)), (71, (aN .u64 4 [0, 0, 0, 0])), (70, (aN .u64 4 x4)), (69, (bO false)), (68, (bO false)), (67, (bO true)), (66, (bO true)), (65, (bO true)), (64, uN), (63, uN), (62, uN), (61, uN), (60, (bO true)), (59, (bO true)), (58, (aN .u64 4 x6)), (57, (aN .u64 4 x5)), (56, (bO true)), (55, (bO true)), (54, (bO true)), (53, (bO true)), (52, (bO true)), (2, (pT 1000 0)), (5, (bO x0)), (6, (pT 5006 0)), (7, (bO x1)), (8, (pT 8008 0)), (9, (bO x2)), (10, (pT 9003 0))], [(1000, (bU 4 x3 24)), (5006, (bU 4 x4 24)), (8008, (bU 4 x5 24)), (9003, (bU 4 x6 24))]⟩
        | false => match (generalizing := false) g18ok A x3 with
          | true => match (generalizing := false) (A.lq x5 (g18r0 A x3)) && true with
            | true => match (generalizing := false) x1 with
              | true => K .normal ⟨[(4, (bO true)), (74, (bO true)), (73, (bO true)), (72, uN), (71, uN), (70, uN), (69, (bO true)), (68, (bO true)), (67, (bO true)), (66, (bO true)), (65, (bO true)), (64, (bO true)), (63, (aN .u64 4 (g18r0 A x3))), (62, (aN .u64 4 x3)), (61, (aN .u64 4 x5)), (60, (bO false)), (59, (bO false)), (58, (aN .u64 4 x6)), (57, (aN .u64 4 x5)), (56, (bO true)), (55, (bO true)), (54, (bO true)), (53, (bO true)), (52, (bO true)), (2, (pT 1000 0)), (5, (bO x0)), (6, (pT 5006 0)), (7, (bO x1)), (8, (pT 8008 0)), (9, (bO x2)), (10, (pT 9003 0))], [(1000, (bU 4 x3 24)), (5006, (bU 4 x4 24)), (8008, (bU 4 x5 24)), (9003, (bU 4 x6 24))]⟩
              | false => match (generalizing := false) (A.lq x4 [0, 0, 0, 0]) && true with
                | true => K .normal ⟨[(4, (bO true)), (74, (bO true)), (73, (bO true)), (72, (bO true)), (71, (aN .u64 4 [0, 0, 0, 0])), (70, (aN .u64 4 x4)), (69, (bO false)), (68, (bO false)), (67, (bO true)), (66, (bO true)), (65, (bO true)), (64, (bO true)), (63, (aN .u64 4 (g18r0 A x3))), (62, (aN .u64 4 x3)), (61, (aN .u64 4 x5)), (60, (bO false)), (59, (bO false)), (58, (aN .u64 4 x6)), (57, (aN .u64 4 x5)), (56, (bO true)), (55, (bO true)), (54, (bO true)), (53, (bO true)), (52, (bO true)), (2, (pT 1000 0)), (5, (bO x0)), (6, (pT 5006 0)), (7, (bO x1)), (8, (pT 8008 0)), (9, (bO x2)), (10, (pT 9003 0))], [(1000, (bU 4 x3 24)), (5006, (bU 4 x4 24)), (8008, (bU 4 x5 24)), (9003, (bU 4 x6 24))]⟩
                | false => K .normal ⟨[(4, (bO false)), (74, (bO false)), (73, (bO false)), (72, (bO false)), (71, (aN .u64 4 [0, 0, 0, 0])), (70, (aN .u64 4 x4)), (69, (bO false)), (68, (bO false)), (67, (bO true)), (66, (bO true)), (65, (bO true)), (64, (bO true)), (63, (aN .u64 4 (g18r0 A x3))), (62, (aN .u64 4 x3)), (61, (aN .u64 4 x5)), (60, (bO false)), (59, (bO false)), (58, (aN .u64 4 x6)), (57, (aN .u64 4 x5)), (56, (bO true)), (55, (bO true)), (54, (bO true)), (53, (bO true)), (52, (bO true)), (2, (pT 1000 0)), (5, (bO x0)), (6, (pT 5006 0)), (7, (bO x1)), (8, (pT 8008 0)), (9, (bO x2)), (10, (pT 9003 0))], [(1000, (bU 4 x3 24)), (5006, (bU 4 x4 24)), (8008, (bU 4 x5 24)), (9003, (bU 4 x6 24))]⟩
            | false => K .normal ⟨[(4, (bO false)), (74, (bO false)), (73, uN), (72, uN), (71, uN), (70, uN), (69, uN), (68, uN), (67, (bO false)), (66, (bO false)), (65, (bO false)), (64, (bO false)), (63, (aN .u64 4 (g18r0 A x3))), (62, (aN .u64 4 x3)), (61, (aN .u64 4 x5)), (60, (bO false)), (59, (bO false)), (58, (aN .u64 4 x6)), (57, (aN .u64 4 x5)), (56, (bO true)), (55, (bO true)), (54, (bO true)), (53, (bO true)), (52, (bO true)), (2, (pT 1000 0)), (5, (bO x0)), (6, (pT 5006 0)), (7, (bO x1)), (8, (pT 8008 0)), (9, (bO x2)), (10, (pT 9003 0))], [(1000, (bU 4 x3 24)), (5006, (bU 4 x4 24)), (8008, (bU 4 x5 24)), (9003, (bU 4 x6 24))]⟩
          | false => none
      | false => K .normal ⟨[(4, (bO false)), (74, (bO false)), (73, uN), (72, uN), (71, uN), (70, uN), (69, uN), (68, uN), (67, (bO false)), (66, (bO false)), (65, uN), (64, uN), (63, uN), (62, uN), (61, uN), (60, uN), (59, uN), (58, uN), (57, uN), (56, (bO false)), (55, (bO false)), (54, (bO false)), (53, (bO true)), (52, (bO true)), (2, (pT 1000 0)), (5, (bO x0)), (6, (pT 5006 0)), (7, (bO x1)), (8, (pT 8008 0)), (9, (bO x2)), (10, (pT 9003 0))], [(1000, (bU 4 x3 24)), (5006, (bU 4 x4 24)), (8008, (bU 4 x5 24)), (9003, (bU 4 x6 24))]⟩
    | false => K .normal ⟨[(4, (bO false)), (74, (bO false)), (73, uN), (72, uN), (71, uN), (70, uN), (69, uN), (68, uN), (67, (bO false)), (66, (bO false)), (65, uN), (64, uN), (63, uN), (62, uN), (61, uN), (60, uN), (59, uN), (58, uN), (57, uN), (56, (bO false)), (55, (bO false)), (54, uN), (53, (bO false)), (52, (bO false)), (2, (pT 1000 0)), (5, (bO x0)), (6, (pT 5006 0)), (7, (bO x1)), (8, (pT 8008 0)), (9, (bO x2)), (10, (pT 9003 0))], [(1000, (bU 4 x3 24)), (5006, (bU 4 x4 24)), (8008, (bU 4 x5 24)), (9003, (bU 4 x6 24))]⟩ := by kernel_rfl
theorem g5R4 (x0 : Bool) (x1 x2 : List Nat) : g5D A n (pth 23) K ⟨[(2, (pT 1000 0)), (3, (pT 1001 0)), (5, (bO x0))], [(1000, (bU 4 x1 24)), (1001, (bU 4 x2 24))]⟩ = match (generalizing := false) g21ok A x1 x2 with
    | true => K .normal ⟨[(7, (bO (g21r1 A x1 x2))), (6, (pT 5006 0)), (19, (bO (g21r1 A x1 x2))), (18, (aN .u64 4 (g21r0 A x1 x2))), (14, (.tup [(.agg [.nums .u64 4 (g21r0 A x1 x2)]), (.cell (.bool (g21r1 A x1 x2)))])), (17, (.tup [(.agg [.nums .u64 4 (g21r0 A x1 x2)]), (.cell (.bool (g21r1 A x1 x2)))])), (16, (aN .u64 4 x2)), (15, (aN .u64 4 x1)), (2, (pT 1000 0)), (3, (pT 1001 0)), (5, (bO x0))], [(5006, (bU 4 (g21r0 A x1 x2) 24)), (1000, (bU 4 x1 24)), (1001, (bU 4 x2 24))]⟩
    | false => none := by kernel_rfl
theorem g5R5 (x0 x1 : Bool) (x2 x3 x4 : List Nat) : g5D A n (pth 79) K ⟨[(2, (pT 1000 0)), (3, (pT 1001 0)), (5, (bO x0)), (6, (pT 5006 0)), (7, (bO x1))], [(1000, (bU 4 x2 24)), (1001, (bU 4 x3 24)), (5006, (bU 4 x4 24))]⟩ = match (generalizing := false) x1 with
    | true => match (generalizing := false) g16ok A x4 x4 with
      | true => match (generalizing := false) g16ok A x3 (g16r0 A x4 x4) with
        | true => match (generalizing := false) g12ok A x2 [0, 0, 0, 0] with
          | true => match (generalizing := false) !((A.lq (g16r0 A x3 (g16r0 A x4 x4)) (g12r0 A x2 [0, 0, 0, 0])) && true) with
            | true => K .normal ⟨[(40, (bO true)), (39, (bO true)), (38, uN), (37, uN), (36, uN), (35, (bO true)), (34, (bO true)), (33, uN), (32, uN), (31, (bO true)), (30, (bO true)), (29, (aN .u64 4 (g12r0 A x2 [0, 0, 0, 0]))), (28, (aN .u64 4 [0, 0, 0, 0])), (27, (aN .u64 4 x2)), (26, (aN .u64 4 (g16r0 A x3 (g16r0 A x4 x4)))), (25, (aN .u64 4 (g16r0 A x4 x4))), (24, (aN .u64 4 x4)), (23, (aN .u64 4 x4)), (22, (aN .u64 4 x3)), (21, (bO true)), (20, (bO true)), (2, (pT 1000 0)), (3, (pT 1001 0)), (5, (bO x0)), (6, (pT 5006 0)), (7, (bO x1))], [(1000, (bU 4 x2 24)), (1001, (bU 4 x3 24)), (5006, (bU 4 x4 24))]⟩
            | false => match (generalizing := false) g22ok A x4 with
              | true => match (generalizing := false) g22r0 A x4 with
                | true => K .normal ⟨[(40, (bO true)), (39, (bO true)), (38, uN), (37, uN), (36, uN), (35, (bO true)), (34, (bO true)), (33, (bO true)), (32, (aN .u64 4 x4)), (31, (bO false)), (30, (bO false)), (29, (aN .u64 4 (g12r0 A x2 [0, 0, 0, 0]))), (28, (aN .u64 4 [0, 0, 0, 0])), (27, (aN .u64 4 x2)), (26, (aN .u64 4 (g16r0 A x3 (g16r0 A x4 x4)))), (25, (aN .u64 4 (g16r0 A x4 x4))), (24, (aN .u64 4 x4)), (23, (aN .u64 4 x4)), (22, (aN .u64 4 x3)), (21, (bO true)), (20, (bO true)), (2, (pT 1000 0)), (3, (pT 1001 0)), (5, (bO x0)), (6, (pT 5006 0)), (7, (bO x1))], [(1000, (bU 4 x2 24)), (1001, (bU 4 x3 24)), (5006, (bU 4 x4 24))]⟩
                | false => match (generalizing := false) g20ok A x4 with
                  | true => match (generalizing := false) g20r0 A x4 with
                    | true => match (generalizing := false) !true with
                      | true => K .normal ⟨[(40, (bO true)), (39, (bO true)), (38, (bO true)), (37, (bO true)), (36, (aN .u64 4 x4)), (35, (bO false)), (34, (bO false)), (33, (bO false)), (32, (aN .u64 4 x4)), (31, (bO false)), (30, (bO false)), (29, (aN .u64 4 (g12r0 A x2 [0, 0, 0, 0]))), (28, (aN .u64 4 [0, 0, 0, 0])), (27, (aN .u64 4 x2)), (26, (aN .u64 4 (g16r0 A x3 (g16r0 A x4 x4)))), (25, (aN .u64 4 (g16r0 A x4 x4))), (24, (aN .u64 4 x4)), (23, (aN .u64 4 x4)), (22, (aN .u64 4 x3)), (21, (bO true)), (20, (bO true)), (2, (pT 1000 0)), (3, (pT 1001 0)), (5, (bO x0)), (6, (pT 5006 0)), (7, (bO x1))], [(1000, (bU 4 x2 24)), (1001, (bU 4 x3 24)), (5006, (bU 4 x4 24))]⟩
                      | false => K .normal ⟨[(40, (bO false)), (39, (bO false)), (38, (bO false)), (37, (bO true)), (36, (aN .u64 4 x4)), (35, (bO false)), (34, (bO false)), (33, (bO false)), (32, (aN .u64 4 x4)), (31, (bO false)), (30, (bO false)), (29, (aN .u64 4 (g12r0 A x2 [0, 0, 0, 0]))), (28, (aN .u64 4 [0, 0, 0, 0])), (27, (aN .u64 4 x2)), (26, (aN .u64 4 (g16r0 A x3 (g16r0 A x4 x4)))), (25, (aN .u64 4 (g16r0 A x4 x4))), (24, (aN .u64 4 x4)), (23, (aN .u64 4 x4)), (22, (aN .u64 4 x3)), (21, (bO true)), (20, (bO true)), (2, (pT 1000 0)), (3, (pT 1001 0)), (5, (bO x0)), (6, (pT 5006 0)), (7, (bO x1))], [(1000, (bU 4 x2 24)), (1001, (bU 4 x3 24)), (5006, (bU 4 x4 24))]⟩
                    | false => match (generalizing := false) !false with
                      | true => K .normal ⟨[(40, (bO true)), (39, (bO true)), (38, (bO true)), (37, (bO false)), (36, (aN .u64 4 x4)), (35, (bO false)), (34, (bO false)), (33, (bO false)), (32, (aN .u64 4 x4)), (31, (bO false)), (30, (bO false)), (29, (aN .u64 4 (g12r0 A x2 [0, 0, 0, 0]))), (28, (aN .u64 4 [0, 0, 0, 0])), (27, (aN .u64 4 x2)), (26, (aN .u64 4 (g16r0 A x3 (g16r0 A x4 x4)))), (25, (aN .u64 4 (g16r0 A x4 x4))), (24, (aN .u64 4 x4)), (23, (aN .u64 4 x4)), (22, (aN .u64 4 x3)), (21, (bO true)), (20, (bO true)), (2, (pT 1000 0)), (3, (pT 1001 0)), (5, (bO x0)), (6, (pT 5006 0)), (7, (bO x1))], [(1000, (bU 4 x2 24)), (1001, (bU 4 x3 24)), (5006, (bU 4 x4 24))]⟩
                      | false => K .normal ⟨[(40, (bO false)), (39, (bO false)), (38, (bO false)), (37, (bO false)), (36, (aN .u64 4 x4)), (35, (bO false)), (34, (bO false)), (33, (bO false)), (32, (aN .u64 4 x4)), (31, (bO false)), (30, (bO false)), (29, (aN .u64 4 (g12r0 A x2 [0, 0, 0, 0]))), (28, (aN .u64 4 [0, 0, 0, 0])), (27, (aN .u64 4 x2)), (26, (aN .u64 4 (g16r0 A x3 (g16r0 A x4 x4)))), (25, (aN .u64 4 (g16r0 A x4 x4))), (24, (aN .u64 4 x4)), (23, (aN .u64 4 x4)), (22, (aN .u64 4 x3)), (21, (bO true)), (20, (bO true)), (2, (pT 1000 0)), (3, (pT 1001 0)), (5, (bO x0)), (6, (pT 5006 0)), (7, (bO x1))], [(1000, (bU 4 x2 24)), (1001, (bU 4 x3 24)), (5006, (bU 4 x4 24))]⟩
                  | false => none
              | false => none
          | false => none
        | false => none
      | false => none
    | false => K .normal ⟨[(40, (bO false)), (39, uN), (38, uN), (37, uN), (36, uN), (35, uN), (34, uN), (33, uN), (32, uN), (31, uN), (30, uN), (29, uN), (28, uN), (27, uN), (26, uN), (25, uN), (24, uN), (23, uN), (22, uN), (21, (bO false)), (20, (bO false)), (2, (pT 1000 0)), (3, (pT 1001 0)), (5, (bO x0)), (6, (pT 5006 0)), (7, (bO x1))], [(1000, (bU 4 x2 24)), (1001, (bU 4 x3 24)), (5006, (bU 4 x4 24))]⟩ := by kernel_rfl
theorem g5R6 : g5D A n (pth 303) K ⟨[], []⟩ = K .normal ⟨[(4, (bO false))], []⟩ := by kernel_rfl
theorem g5R0 (x0 x1 : List Nat) : g5D A n (pth 2) K ⟨[(0, (aN .u64 4 x0)), (1, (aN .u64 4 x1))], []⟩ = K .normal ⟨[(4, (bO false)), (3, (pT 1001 0)), (2, (pT 1000 0)), (0, (aN .u64 4 x0)), (1, (aN .u64 4 x1))], [(1001, (bU 4 x1 24)), (1000, (bU 4 x0 24))]⟩ := by kernel_rfl
theorem g5R1 (x0 x1 : List Nat) : g5D A n (pth 5) K ⟨[(2, (pT 1000 0)), (3, (pT 1001 0))], [(1000, (bU 4 x0 24)), (1001, (bU 4 x1 24))]⟩ = match (generalizing := false) g11ok A with
    | true => K .normal ⟨[(5, (bO (g11r0 A))), (11, (bO (g11r0 A))), (2, (pT 1000 0)), (3, (pT 1001 0))], [(1000, (bU 4 x0 24)), (1001, (bU 4 x1 24))]⟩
    | false => none := by kernel_rfl
theorem g5R2 (x0 : Bool) (x1 x2 : List Nat) : g5D A n (pth 19) K ⟨[(2, (pT 1000 0)), (3, (pT 1001 0)), (5, (bO x0))], [(1000, (bU 4 x1 24)), (1001, (bU 4 x2 24))]⟩ = K .normal ⟨[(13, (bO (!x0))), (12, (bO x0)), (2, (pT 1000 0)), (3, (pT 1001 0)), (5, (bO x0))], [(1000, (bU 4 x1 24)), (1001, (bU 4 x2 24))]⟩ := by kernel_rfl
theorem g5R3 : g5D A n (pth 75) K ⟨[], []⟩ = K .normal ⟨[(4, (bO false))], []⟩ := by kernel_rfl
end
def g5J7 {R : Type} (A : Ar) (n : Nat) (kk : AV → Heap → Option R)  (x0 x1 : Bool) (x2 x3 : List Nat) : Option R :=
  match (generalizing := false) g16ok A x2 x2 with
  | true => match (generalizing := false) g23ok A 1 with
    | true => match (generalizing := false) g21ok A (g16r0 A x2 x2) (g23r0 A 1) with
      | true => match (generalizing := false) g12ok A x2 [0, 0, 0, 0] with
        | true => match (generalizing := false) x0 with
          | true => match (generalizing := false) g21r1 A (g16r0 A x2 x2) (g23r0 A 1) with
            | true => match (generalizing := false) (A.lq (g21r0 A (g16r0 A x2 x2) (g23r0 A 1)) (g12r0 A x2 [0, 0, 0, 0])) && true with
              | true => match (generalizing := false) x1 with
                | true => kk (bO true) [(1000, (bU 4 x2 24)), (5006, (bU 4 x3 24)), (8008, (bU 4 (g21r0 A (g16r0 A x2 x2) (g23r0 A 1)) 24)), (9003, (bU 4 (g12r0 A x2 [0, 0, 0, 0]) 24))]
                | false => match (generalizing := false) (A.lq x3 [0, 0, 0, 0]) && true with
                  | true => kk (bO true) [(1000, (bU 4 x2 24)), (5006, (bU 4 x3 24)), (8008, (bU 4 (g21r0 A (g16r0 A x2 x2) (g23r0 A 1)) 24)), (9003, (bU 4 (g12r0 A x2 [0, 0, 0, 0]) 24))]
                  | false => kk (bO false) [(1000, (bU 4 x2 24)), (5006, (bU 4 x3 24)), (8008, (bU 4 (g21r0 A (g16r0 A x2 x2) (g23r0 A 1)) 24)), (9003, (bU 4 (g12r0 A x2 [0, 0, 0, 0]) 24))]
              | false => match (generalizing := false) g18ok A x2 with
                | true => match (generalizing := false) (A.lq (g21r0 A (g16r0 A x2 x2) (g23r0 A 1)) (g18r0 A x2)) && true with
                  | true => match (generalizing := false) x1 with
                    | true => kk (bO true) [(1000, (bU 4 x2 24)), (5006, (bU 4 x3 24)), (8008, (bU 4 (g21r0 A (g16r0 A x2 x2) (g23r0 A 1)) 24)), (9003, (bU 4 (g12r0 A x2 [0, 0, 0, 0]) 24))]
                    | false => match (generalizing := false) (A.lq x3 [0, 0, 0, 0]) && true with
                      | true => kk (bO true) [(1000, (bU 4 x2 24)), (5006, (bU 4 x3 24)), (8008, (bU 4 (g21r0 A (g16r0 A x2 x2) (g23r0 A 1)) 24)), (9003, (bU 4 (g12r0 A x2 [0, 0, 0, 0]) 24))]
                      | false => kk (bO false) [(1000, (bU 4 x2 24)), (5006, (bU 4 x3 24)), (8008, (bU 4 (g21r0 A (g16r0 A x2 x2) (g23r0 A 1)) 24)), (9003, (bU 4 (g12r0 A x2 [0, 0, 0, 0]) 24))]
                  | false => kk (bO false) [(1000, (bU 4 x2 24)), (5006, (bU 4 x3 24)), (8008, (bU 4 (g21r0 A (g16r0 A x2 x2) (g23r0 A 1)) 24)), (9003, (bU 4 (g12r0 A x2 [0, 0, 0, 0]) 24))]
                | false => none
            | false => kk (bO false) [(1000, (bU 4 x2 24)), (5006, (bU 4 x3 24)), (8008, (bU 4 (g21r0 A (g16r0 A x2 x2) (g23r0 A 1)) 24)), (9003, (bU 4 (g12r0 A x2 [0, 0, 0, 0]) 24))]
          | false => kk (bO false) [(1000, (bU 4 x2 24)), (5006, (bU 4 x3 24)), (8008, (bU 4 (g21r0 A (g16r0 A x2 x2) (g23r0 A 1)) 24)), (9003, (bU 4 (g12r0 A x2 [0, 0, 0, 0]) 24))]
        | false => none
      | false => none
    | false => none
  | false => none
set_option maxRecDepth 100000 in
theorem g5J7_eq {R : Type} (A : Ar) (n : Nat) (kk : AV → Heap → Option R)    (s : St) (x0 x1 : Bool) (x2 x3 : List Nat) (h : keep g5an 7 s = ⟨[(2, (pT 1000 0)), (5, (bO x0)), (6, (pT 5006 0)), (7, (bO x1))], [(1000, (bU 4 x2 24)), (5006, (bU 4 x3 24))]⟩) :
    g5D A n (pth 63) (g5T kk) s = g5J7 A n kk  x0 x1 x2 x3 := by
  have h7 : (g5T kk) .ret ⟨[(4, (bO true)), (74, (bO true)), (73, (bO true)), (72, uN), (71, uN), (70, uN), (69, (bO true)), (68, (bO true)), (67, (bO true)), (66, (bO true)), (65, (bO true)), (64, uN), (63, uN), (62, uN), (61, uN), (60, (bO true)), (59, (bO true)), (58, (aN .u64 4 (g12r0 A x2 [0, 0, 0, 0]))), (57, (aN .u64 4 (g21r0 A (g16r0 A x2 x2) (g23r0 A 1)))), (56, (bO true)), (55, (bO true)), (54, (bO true)), (53, (bO true)), (52, (bO true)), (2, (pT 1000 0)), (5, (bO x0)), (6, (pT 5006 0)), (7, (bO x1)), (8, (pT 8008 0)), (9, (bO (g21r1 A (g16r0 A x2 x2) (g23r0 A 1)))), (10, (pT 9003 0))], [(1000, (bU 4 x2 24)), (5006, (bU 4 x3 24)), (8008, (bU 4 (g21r0 A (g16r0 A x2 x2) (g23r0 A 1)) 24)), (9003, (bU 4 (g12r0 A x2 [0, 0, 0, 0]) 24))]⟩ = kk (bO true) [(1000, (bU 4 x2 24)), (5006, (bU 4 x3 24)), (8008, (bU 4 (g21r0 A (g16r0 A x2 x2) (g23r0 A 1)) 24)), (9003, (bU 4 (g12r0 A x2 [0, 0, 0, 0]) 24))] := by kernel_rfl
  have h8 := (g5p11111111 A n _ _).trans h7
  have h9 := (g5Qn A n _ _ _).trans h8
  have h10 : (g5T kk) .ret ⟨[(4, (bO true)), (74, (bO true)), (73, (bO true)), (72, (bO true)), (71, (aN .u64 4 [0, 0, 0, 0])), (70, (aN .u64 4 x3)), (69, (bO false)), (68, (bO false)), (67, (bO true)), (66, (bO true)), (65, (bO true)), (64, uN), (63, uN), (62, uN), (61, uN), (60, (bO true)), (59, (bO true)), (58, (aN .u64 4 (g12r0 A x2 [0, 0, 0, 0]))), (57, (aN .u64 4 (g21r0 A (g16r0 A x2 x2) (g23r0 A 1)))), (56, (bO true)), (55, (bO true)), (54, (bO true)), (53, (bO true)), (52, (bO true)), (2, (pT 1000 0)), (5, (bO x0)), (6, (pT 5006 0)), (7, (bO x1)), (8, (pT 8008 0)), (9, (bO (g21r1 A (g16r0 A x2 x2) (g23r0 A 1)))), (10, (pT 9003 0))], [(1000, (bU 4 x2 24)), (5006, (bU 4 x3 24)), (8008, (bU 4 (g21r0 A (g16r0 A x2 x2) (g23r0 A 1)) 24)), (9003, (bU 4 (g12r0 A x2 [0, 0, 0, 0]) 24))]⟩ = kk (bO true) [(1000, (bU 4 x2 24)), (5006, (bU 4 x3 24)), (8008, (bU 4 (g21r0 A (g16r0 A x2 x2) (g23r0 A 1)) 24)), (9003, (bU 4 (g12r0 A x2 [0, 0, 0, 0]) 24))] := by kernel_rfl
  have h11 := (g5p11111111 A n _ _).trans h10
  have h12 := (g5Qn A n _ _ _).trans h11
  have h13 : (g5T kk) .ret ⟨[(4, (bO false)), (74, (bO false)), (73, (bO false)), (72, (bO false)), (71, (aN .u64 4 [0, 0, 0, 0])), (70, (aN .u64 4 x3)), (69, (bO false)), (68, (bO false)), (67, (bO true)), (66, (bO true)), (65, (bO true)), (64, uN), (63, uN), (62, uN), (61, uN), (60, (bO true)), (59, (bO true)), (58, (aN .u64 4 (g12r0 A x2 [0, 0, 0, 0]))), (57, (aN .u64 4 (g21r0 A (g16r0 A x2 x2) (g23r0 A 1)))), (56, (bO true)), (55, (bO true)), (54, (bO true)), (53, (bO true)), (52, (bO true)), (2, (pT 1000 0)), (5, (bO x0)), (6, (pT 5006 0)), (7, (bO x1)), (8, (pT 8008 0)), (9, (bO (g21r1 A (g16r0 A x2 x2) (g23r0 A 1)))), (10, (pT 9003 0))], [(1000, (bU 4 x2 24)), (5006, (bU 4 x3 24)), (8008, (bU 4 (g21r0 A (g16r0 A x2 x2) (g23r0 A 1)) 24)), (9003, (bU 4 (g12r0 A x2 [0, 0, 0, 0]) 24))]⟩ = kk (bO false) [(1000, (bU 4 x2 24)), (5006, (bU 4 x3 24)), (8008, (bU 4 (g21r0 A (g16r0 A x2 x2) (g23r0 A 1)) 24)), (9003, (bU 4 (g12r0 A x2 [0, 0, 0, 0]) 24))] := by kernel_rfl
  have h14 := (g5p11111111 A n _ _).trans h13
  have h15 := (g5Qn A n _ _ _).trans h14
  have h16 : (g5T kk) .ret ⟨[(4, (bO true)), (74, (bO true)), (73, (bO true)), (72, uN), (71, uN), (70, uN), (69, (bO true)), (68, (bO true)), (67, (bO true)), (66, (bO true)), (65, (bO true)), (64, (bO true)), (63, (aN .u64 4 (g18r0 A x2))), (62, (aN .u64 4 x2)), (61, (aN .u64 4 (g21r0 A (g16r0 A x2 x2) (g23r0 A 1)))), (60, (bO false)), (59, (bO false)), (58, (aN .u64 4 (g12r0 A x2 [0, 0, 0, 0]))), (57, (aN .u64 4 (g21r0 A (g16r0 A x2 x2) (g23r0 A 1)))), (56, (bO true)), (55, (bO true)), (54, (bO true)), (53, (bO true)), (52, (bO true)), (2, (pT 1000 0)), (5, (bO x0)), (6, (pT 5006 0)), (7, (bO x1)), (8, (pT 8008 0)), (9, (bO (g21r1 A (g16r0 A x2 x2) (g23r0 A 1)))), (10, (pT 9003 0))], [(1000, (bU 4 x2 24)), (5006, (bU 4 x3 24)), (8008, (bU 4 (g21r0 A (g16r0 A x2 x2) (g23r0 A 1)) 24)), (9003, (bU 4 (g12r0 A x2 [0, 0, 0, 0]) 24))]⟩ = kk (bO true) [(1000, (bU 4 x2 24)), (5006, (bU 4 x3 24)), (8008, (bU 4 (g21r0 A (g16r0 A x2 x2) (g23r0 A 1)) 24)), (9003, (bU 4 (g12r0 A x2 [0, 0, 0, 0]) 24))] := by kernel_rfl
  have h17 := (g5p11111111 A n _ _).trans h16
  have h18 := (g5Qn A n _ _ _).trans h17
  have h19 : (g5T kk) .ret ⟨[(4, (bO true)), (74, (bO true)), (73, (bO true)), (72, (bO true)), (71, (aN .u64 4 [0, 0, 0, 0])), (70, (aN .u64 4 x3)), (69, (bO false)), (68, (bO false)), (67, (bO true)), (66, (bO true)), (65, (bO true)), (64, (bO true)), (63, (aN .u64 4 (g18r0 A x2))), (62, (aN .u64 4 x2)), (61, (aN .u64 4 (g21r0 A (g16r0 A x2 x2) (g23r0 A 1)))), (60, (bO false)), (59, (bO false)), (58, (aN .u64 4 (g12r0 A x2 [0, 0, 0, 0]))), (57, (aN .u64 4 (g21r0 A (g16r0 A x2 x2) (g23r0 A 1)))), (56, (bO true)), (55, (bO true)), (54, (bO true)), (53, (bO true)), (52, (bO true)), (2, (pT 1000 0)), (5, (bO x0)), (6, (pT 5006 0)), (7, (bO x1)), (8, (pT 8008 0)), (9, (bO (g21r1 A (g16r0 A x2 x2) (g23r0 A 1)))), (10, (pT 9003 0))], [(1000, (bU 4 x2 24)), (5006, (bU 4 x3 24)), (8008, (bU 4 (g21r0 A (g16r0 A x2 x2) (g23r0 A 1)) 24)), (9003, (bU 4 (g12r0 A x2 [0, 0, 0, 0]) 24))]⟩ = kk (bO true) [(1000, (bU 4 x2 24)), (5006, (bU 4 x3 24)), (8008, (bU 4 (g21r0 A (g16r0 A x2 x2) (g23r0 A 1)) 24)), (9003, (bU 4 (g12r0 A x2 [0, 0, 0, 0]) 24))] := by kernel_rfl
  have h20 := (g5p11111111 A n _ _).trans h19
  have h21 := (g5Qn A n _ _ _).trans h20
  have h22 : (g5T kk) .ret ⟨[(4, (bO false)), (74, (bO false)), (73, (bO false)), (72, (bO false)), (71, (aN .u64 4 [0, 0, 0, 0])), (70, (aN .u64 4 x3)), (69, (bO false)), (68, (bO false)), (67, (bO true)), (66, (bO true)), (65, (bO true)), (64, (bO true)), (63, (aN .u64 4 (g18r0 A x2))), (62, (aN .u64 4 x2)), (61, (aN .u64 4 (g21r0 A (g16r0 A x2 x2) (g23r0 A 1)))), (60, (bO false)), (59, (bO false)), (58, (aN .u64 4 (g12r0 A x2 [0, 0, 0, 0]))), (57, (aN .u64 4 (g21r0 A (g16r0 A x2 x2) (g23r0 A 1)))), (56, (bO true)), (55, (bO true)), (54, (bO true)), (53, (bO true)), (52, (bO true)), (2, (pT 1000 0)), (5, (bO x0)), (6, (pT 5006 0)), (7, (bO x1)), (8, (pT 8008 0)), (9, (bO (g21r1 A (g16r0 A x2 x2) (g23r0 A 1)))), (10, (pT 9003 0))], [(1000, (bU 4 x2 24)), (5006, (bU 4 x3 24)), (8008, (bU 4 (g21r0 A (g16r0 A x2 x2) (g23r0 A 1)) 24)), (9003, (bU 4 (g12r0 A x2 [0, 0, 0, 0]) 24))]⟩ = kk (bO false) [(1000, (bU 4 x2 24)), (5006, (bU 4 x3 24)), (8008, (bU 4 (g21r0 A (g16r0 A x2 x2) (g23r0 A 1)) 24)), (9003, (bU 4 (g12r0 A x2 [0, 0, 0, 0]) 24))] := by kernel_rfl
  have h23 := (g5p11111111 A n _ _).trans h22
  have h24 := (g5Qn A n _ _ _).trans h23
  have h25 : (g5T kk) .ret ⟨[(4, (bO false)), (74, (bO false)), (73, uN), (72, uN), (71, uN), (70, uN), (69, uN), (68, uN), (67, (bO false)), (66, (bO false)), (65, (bO false)), (64, (bO false)), (63, (aN .u64 4 (g18r0 A x2))), (62, (aN .u64 4 x2)), (61, (aN .u64 4 (g21r0 A (g16r0 A x2 x2) (g23r0 A 1)))), (60, (bO false)), (59, (bO false)), (58, (aN .u64 4 (g12r0 A x2 [0, 0, 0, 0]))), (57, (aN .u64 4 (g21r0 A (g16r0 A x2 x2) (g23r0 A 1)))), (56, (bO true)), (55, (bO true)), (54, (bO true)), (53, (bO true)), (52, (bO true)), (2, (pT 1000 0)), (5, (bO x0)), (6, (pT 5006 0)), (7, (bO x1)), (8, (pT 8008 0)), (9, (bO (g21r1 A (g16r0 A x2 x2) (g23r0 A 1)))), (10, (pT 9003 0))], [(1000, (bU 4 x2 24)), (5006, (bU 4 x3 24)), (8008, (bU 4 (g21r0 A (g16r0 A x2 x2) (g23r0 A 1)) 24)), (9003, (bU 4 (g12r0 A x2 [0, 0, 0, 0]) 24))]⟩ = kk (bO false) [(1000, (bU 4 x2 24)), (5006, (bU 4 x3 24)), (8008, (bU 4 (g21r0 A (g16r0 A x2 x2) (g23r0 A 1)) 24)), (9003, (bU 4 (g12r0 A x2 [0, 0, 0, 0]) 24))] := by kernel_rfl
  have h26 := (g5p11111111 A n _ _).trans h25
  have h27 := (g5Qn A n _ _ _).trans h26
  have h28 : (g5T kk) .ret ⟨[(4, (bO false)), (74, (bO false)), (73, uN), (72, uN), (71, uN), (70, uN), (69, uN), (68, uN), (67, (bO false)), (66, (bO false)), (65, uN), (64, uN), (63, uN), (62, uN), (61, uN), (60, uN), (59, uN), (58, uN), (57, uN), (56, (bO false)), (55, (bO false)), (54, (bO false)), (53, (bO true)), (52, (bO true)), (2, (pT 1000 0)), (5, (bO x0)), (6, (pT 5006 0)), (7, (bO x1)), (8, (pT 8008 0)), (9, (bO (g21r1 A (g16r0 A x2 x2) (g23r0 A 1)))), (10, (pT 9003 0))], [(1000, (bU 4 x2 24)), (5006, (bU 4 x3 24)), (8008, (bU 4 (g21r0 A (g16r0 A x2 x2) (g23r0 A 1)) 24)), (9003, (bU 4 (g12r0 A x2 [0, 0, 0, 0]) 24))]⟩ = kk (bO false) [(1000, (bU 4 x2 24)), (5006, (bU 4 x3 24)), (8008, (bU 4 (g21r0 A (g16r0 A x2 x2) (g23r0 A 1)) 24)), (9003, (bU 4 (g12r0 A x2 [0, 0, 0, 0]) 24))] := by kernel_rfl
  have h29 := (g5p11111111 A n _ _).trans h28
  have h30 := (g5Qn A n _ _ _).trans h29
  have h31 : (g5T kk) .ret ⟨[(4, (bO false)), (74, (bO false)), (73, uN), (72, uN), (71, uN), (70, uN), (69, uN), (68, uN), (67, (bO false)), (66, (bO false)), (65, uN), (64, uN), (63, uN), (62, uN), (61, uN), (60, uN), (59, uN), (58, uN), (57, uN), (56, (bO false)), (55, (bO false)), (54, uN), (53, (bO false)), (52, (bO false)), (2, (pT 1000 0)), (5, (bO x0)), (6, (pT 5006 0)), (7, (bO x1)), (8, (pT 8008 0)), (9, (bO (g21r1 A (g16r0 A x2 x2) (g23r0 A 1)))), (10, (pT 9003 0))], [(1000, (bU 4 x2 24)), (5006, (bU 4 x3 24)), (8008, (bU 4 (g21r0 A (g16r0 A x2 x2) (g23r0 A 1)) 24)), (9003, (bU 4 (g12r0 A x2 [0, 0, 0, 0]) 24))]⟩ = kk (bO false) [(1000, (bU 4 x2 24)), (5006, (bU 4 x3 24)), (8008, (bU 4 (g21r0 A (g16r0 A x2 x2) (g23r0 A 1)) 24)), (9003, (bU 4 (g12r0 A x2 [0, 0, 0, 0]) 24))] := by kernel_rfl
  have h32 := (g5p11111111 A n _ _).trans h31
  have h33 := (g5Qn A n _ _ _).trans h32
  have h5 := g5R9 A n (g5Q A n (pth 511) (g5T kk)) x0 x1 (g21r1 A (g16r0 A x2 x2) (g23r0 A 1)) x2 x3 (g21r0 A (g16r0 A x2 x2) (g23r0 A 1)) (g12r0 A x2 [0, 0, 0, 0])
  have h34 := (g5p11111110 A n _ ⟨[(10, (pT 9003 0)), (51, (aN .u64 4 (g12r0 A x2 [0, 0, 0, 0]))), (50, (aN .u64 4 [0, 0, 0, 0])), (49, (aN .u64 4 x2)), (2, (pT 1000 0)), (5, (bO x0)), (6, (pT 5006 0)), (7, (bO x1)), (8, (pT 8008 0)), (9, (bO (g21r1 A (g16r0 A x2 x2) (g23r0 A 1))))], [(9003, (bU 4 (g12r0 A x2 [0, 0, 0, 0]) 24)), (1000, (bU 4 x2 24)), (5006, (bU 4 x3 24)), (8008, (bU 4 (g21r0 A (g16r0 A x2 x2) (g23r0 A 1)) 24))]⟩ _ (by kernel_rfl)).trans h5
  rw [h9, h12, h15, h18, h21, h24, h27, h30, h33] at h34
  have h35 := (g5p1111111 A n _ _).trans h34
  have h36 := (g5Qn A n _ _ _).trans h35
  have h3 := g5R8 A n (g5Q A n (pth 255) (g5T kk)) x0 x1 (g21r1 A (g16r0 A x2 x2) (g23r0 A 1)) x2 x3 (g21r0 A (g16r0 A x2 x2) (g23r0 A 1))
  have h37 := (g5p1111110 A n _ ⟨[(9, (bO (g21r1 A (g16r0 A x2 x2) (g23r0 A 1)))), (8, (pT 8008 0)), (48, (bO (g21r1 A (g16r0 A x2 x2) (g23r0 A 1)))), (47, (aN .u64 4 (g21r0 A (g16r0 A x2 x2) (g23r0 A 1)))), (41, (.tup [(.agg [.nums .u64 4 (g21r0 A (g16r0 A x2 x2) (g23r0 A 1))]), (.cell (.bool (g21r1 A (g16r0 A x2 x2) (g23r0 A 1))))])), (46, (.tup [(.agg [.nums .u64 4 (g21r0 A (g16r0 A x2 x2) (g23r0 A 1))]), (.cell (.bool (g21r1 A (g16r0 A x2 x2) (g23r0 A 1))))])), (45, (aN .u64 4 (g23r0 A 1))), (44, (aN .u64 4 (g16r0 A x2 x2))), (43, (aN .u64 4 x2)), (42, (aN .u64 4 x2)), (2, (pT 1000 0)), (5, (bO x0)), (6, (pT 5006 0)), (7, (bO x1))], [(8008, (bU 4 (g21r0 A (g16r0 A x2 x2) (g23r0 A 1)) 24)), (1000, (bU 4 x2 24)), (5006, (bU 4 x3 24))]⟩ _ (by kernel_rfl)).trans h3
  rw [h36] at h37
  have h38 := (g5p111111 A n _ _).trans h37
  have h39 := (g5Qn A n _ _ _).trans h38
  have h1 := g5R7 A n (g5Q A n (pth 127) (g5T kk)) x0 x1 x2 x3
  have h40 := (g5p111110 A n _ ⟨[(2, (pT 1000 0)), (5, (bO x0)), (6, (pT 5006 0)), (7, (bO x1))], [(1000, (bU 4 x2 24)), (5006, (bU 4 x3 24))]⟩ _ (by kernel_rfl)).trans h1
  rw [h39] at h40
  have h41 := (g5p11111 A n _ _).trans h40
  exact (codeD_first (s' := ⟨[(2, (pT 1000 0)), (5, (bO x0)), (6, (pT 5006 0)), (7, (bO x1))], [(1000, (bU 4 x2 24)), (5006, (bU 4 x3 24))]⟩) (id := 7) (by kernel_rfl) (h.trans (by kernel_rfl)) _).trans (h41.trans (by kernel_rfl))
def g5J4 {R : Type} (A : Ar) (n : Nat) (kk : AV → Heap → Option R)  (x0 : Bool) (x1 x2 : List Nat) : Option R :=
  match (generalizing := false) g21ok A x1 x2 with
  | true => match (generalizing := false) g21r1 A x1 x2 with
    | true => match (generalizing := false) g16ok A (g21r0 A x1 x2) (g21r0 A x1 x2) with
      | true => match (generalizing := false) g16ok A x2 (g16r0 A (g21r0 A x1 x2) (g21r0 A x1 x2)) with
        | true => match (generalizing := false) g12ok A x1 [0, 0, 0, 0] with
          | true => match (generalizing := false) !((A.lq (g16r0 A x2 (g16r0 A (g21r0 A x1 x2) (g21r0 A x1 x2))) (g12r0 A x1 [0, 0, 0, 0])) && true) with
            | true => kk (bO false) []
            | false => match (generalizing := false) g22ok A (g21r0 A x1 x2) with
              | true => match (generalizing := false) g22r0 A (g21r0 A x1 x2) with
                | true => kk (bO false) []
                | false => match (generalizing := false) g20ok A (g21r0 A x1 x2) with
                  | true => match (generalizing := false) g20r0 A (g21r0 A x1 x2) with
                    | true => match (generalizing := false) !true with
                      | true => kk (bO false) []
                      | false => g5J7 A n kk  x0 (g21r1 A x1 x2) x1 (g21r0 A x1 x2)
                    | false => match (generalizing := false) !false with
                      | true => kk (bO false) []
                      | false => g5J7 A n kk  x0 (g21r1 A x1 x2) x1 (g21r0 A x1 x2)
                  | false => none
              | false => none
          | false => none
        | false => none
      | false => none
    | false => g5J7 A n kk  x0 (g21r1 A x1 x2) x1 (g21r0 A x1 x2)
  | false => none
set_option maxRecDepth 100000 in
theorem g5J4_eq {R : Type} (A : Ar) (n : Nat) (kk : AV → Heap → Option R)    (s : St) (x0 : Bool) (x1 x2 : List Nat) (h : keep g5an 4 s = ⟨[(2, (pT 1000 0)), (3, (pT 1001 0)), (5, (bO x0))], [(1000, (bU 4 x1 24)), (1001, (bU 4 x2 24))]⟩) :
    g5D A n (pth 15) (g5T kk) s = g5J4 A n kk  x0 x1 x2 := by
  have h7 : (g5T kk) .ret ⟨[(4, (bO false))], []⟩ = kk (bO false) [] := by kernel_rfl
  have h8 := (g5Qr A n (pth 63) _ _).trans h7
  have h9 := (g5p11110101 A n _ _).trans h8
  have h10 := (g5Qn A n _ _ _).trans h9
  have h5 := g5R6 A n (g5Q A n (pth 431) (g5Q A n (pth 63) (g5T kk))) 
  have h11 := (g5p11110100 A n _ ⟨[(40, (bO true)), (39, (bO true)), (38, uN), (37, uN), (36, uN), (35, (bO true)), (34, (bO true)), (33, uN), (32, uN), (31, (bO true)), (30, (bO true)), (29, (aN .u64 4 (g12r0 A x1 [0, 0, 0, 0]))), (28, (aN .u64 4 [0, 0, 0, 0])), (27, (aN .u64 4 x1)), (26, (aN .u64 4 (g16r0 A x2 (g16r0 A (g21r0 A x1 x2) (g21r0 A x1 x2))))), (25, (aN .u64 4 (g16r0 A (g21r0 A x1 x2) (g21r0 A x1 x2)))), (24, (aN .u64 4 (g21r0 A x1 x2))), (23, (aN .u64 4 (g21r0 A x1 x2))), (22, (aN .u64 4 x2)), (21, (bO true)), (20, (bO true)), (2, (pT 1000 0)), (3, (pT 1001 0)), (5, (bO x0)), (6, (pT 5006 0)), (7, (bO (g21r1 A x1 x2)))], [(1000, (bU 4 x1 24)), (1001, (bU 4 x2 24)), (5006, (bU 4 (g21r0 A x1 x2) 24))]⟩ _ (by kernel_rfl)).trans h5
  rw [h10] at h11
  have h12 := (g5p1111010 A n _ _).trans h11
  have h13 := (g5p111101 A n (g5Q A n (pth 63) (g5T kk)) ⟨[(40, (bO true)), (39, (bO true)), (38, uN), (37, uN), (36, uN), (35, (bO true)), (34, (bO true)), (33, uN), (32, uN), (31, (bO true)), (30, (bO true)), (29, (aN .u64 4 (g12r0 A x1 [0, 0, 0, 0]))), (28, (aN .u64 4 [0, 0, 0, 0])), (27, (aN .u64 4 x1)), (26, (aN .u64 4 (g16r0 A x2 (g16r0 A (g21r0 A x1 x2) (g21r0 A x1 x2))))), (25, (aN .u64 4 (g16r0 A (g21r0 A x1 x2) (g21r0 A x1 x2)))), (24, (aN .u64 4 (g21r0 A x1 x2))), (23, (aN .u64 4 (g21r0 A x1 x2))), (22, (aN .u64 4 x2)), (21, (bO true)), (20, (bO true)), (2, (pT 1000 0)), (3, (pT 1001 0)), (5, (bO x0)), (6, (pT 5006 0)), (7, (bO (g21r1 A x1 x2)))], [(1000, (bU 4 x1 24)), (1001, (bU 4 x2 24)), (5006, (bU 4 (g21r0 A x1 x2) 24))]⟩ true (by kernel_rfl)).trans h12
  have h14 := (g5Qn A n _ _ _).trans h13
  have h17 : (g5T kk) .ret ⟨[(4, (bO false))], []⟩ = kk (bO false) [] := by kernel_rfl
  have h18 := (g5Qr A n (pth 63) _ _).trans h17
  have h19 := (g5p11110101 A n _ _).trans h18
  have h20 := (g5Qn A n _ _ _).trans h19
  have h15 := g5R6 A n (g5Q A n (pth 431) (g5Q A n (pth 63) (g5T kk))) 
  have h21 := (g5p11110100 A n _ ⟨[(40, (bO true)), (39, (bO true)), (38, uN), (37, uN), (36, uN), (35, (bO true)), (34, (bO true)), (33, (bO true)), (32, (aN .u64 4 (g21r0 A x1 x2))), (31, (bO false)), (30, (bO false)), (29, (aN .u64 4 (g12r0 A x1 [0, 0, 0, 0]))), (28, (aN .u64 4 [0, 0, 0, 0])), (27, (aN .u64 4 x1)), (26, (aN .u64 4 (g16r0 A x2 (g16r0 A (g21r0 A x1 x2) (g21r0 A x1 x2))))), (25, (aN .u64 4 (g16r0 A (g21r0 A x1 x2) (g21r0 A x1 x2)))), (24, (aN .u64 4 (g21r0 A x1 x2))), (23, (aN .u64 4 (g21r0 A x1 x2))), (22, (aN .u64 4 x2)), (21, (bO true)), (20, (bO true)), (2, (pT 1000 0)), (3, (pT 1001 0)), (5, (bO x0)), (6, (pT 5006 0)), (7, (bO (g21r1 A x1 x2)))], [(1000, (bU 4 x1 24)), (1001, (bU 4 x2 24)), (5006, (bU 4 (g21r0 A x1 x2) 24))]⟩ _ (by kernel_rfl)).trans h15
  rw [h20] at h21
  have h22 := (g5p1111010 A n _ _).trans h21
  have h23 := (g5p111101 A n (g5Q A n (pth 63) (g5T kk)) ⟨[(40, (bO true)), (39, (bO true)), (38, uN), (37, uN), (36, uN), (35, (bO true)), (34, (bO true)), (33, (bO true)), (32, (aN .u64 4 (g21r0 A x1 x2))), (31, (bO false)), (30, (bO false)), (29, (aN .u64 4 (g12r0 A x1 [0, 0, 0, 0]))), (28, (aN .u64 4 [0, 0, 0, 0])), (27, (aN .u64 4 x1)), (26, (aN .u64 4 (g16r0 A x2 (g16r0 A (g21r0 A x1 x2) (g21r0 A x1 x2))))), (25, (aN .u64 4 (g16r0 A (g21r0 A x1 x2) (g21r0 A x1 x2)))), (24, (aN .u64 4 (g21r0 A x1 x2))), (23, (aN .u64 4 (g21r0 A x1 x2))), (22, (aN .u64 4 x2)), (21, (bO true)), (20, (bO true)), (2, (pT 1000 0)), (3, (pT 1001 0)), (5, (bO x0)), (6, (pT 5006 0)), (7, (bO (g21r1 A x1 x2)))], [(1000, (bU 4 x1 24)), (1001, (bU 4 x2 24)), (5006, (bU 4 (g21r0 A x1 x2) 24))]⟩ true (by kernel_rfl)).trans h22
  have h24 := (g5Qn A n _ _ _).trans h23
  have h27 : (g5T kk) .ret ⟨[(4, (bO false))], []⟩ = kk (bO false) [] := by kernel_rfl
  have h28 := (g5Qr A n (pth 63) _ _).trans h27
  have h29 := (g5p11110101 A n _ _).trans h28
  have h30 := (g5Qn A n _ _ _).trans h29
  have h25 := g5R6 A n (g5Q A n (pth 431) (g5Q A n (pth 63) (g5T kk))) 
  have h31 := (g5p11110100 A n _ ⟨[(40, (bO true)), (39, (bO true)), (38, (bO true)), (37, (bO true)), (36, (aN .u64 4 (g21r0 A x1 x2))), (35, (bO false)), (34, (bO false)), (33, (bO false)), (32, (aN .u64 4 (g21r0 A x1 x2))), (31, (bO false)), (30, (bO false)), (29, (aN .u64 4 (g12r0 A x1 [0, 0, 0, 0]))), (28, (aN .u64 4 [0, 0, 0, 0])), (27, (aN .u64 4 x1)), (26, (aN .u64 4 (g16r0 A x2 (g16r0 A (g21r0 A x1 x2) (g21r0 A x1 x2))))), (25, (aN .u64 4 (g16r0 A (g21r0 A x1 x2) (g21r0 A x1 x2)))), (24, (aN .u64 4 (g21r0 A x1 x2))), (23, (aN .u64 4 (g21r0 A x1 x2))), (22, (aN .u64 4 x2)), (21, (bO true)), (20, (bO true)), (2, (pT 1000 0)), (3, (pT 1001 0)), (5, (bO x0)), (6, (pT 5006 0)), (7, (bO (g21r1 A x1 x2)))], [(1000, (bU 4 x1 24)), (1001, (bU 4 x2 24)), (5006, (bU 4 (g21r0 A x1 x2) 24))]⟩ _ (by kernel_rfl)).trans h25
  rw [h30] at h31
  have h32 := (g5p1111010 A n _ _).trans h31
  have h33 := (g5p111101 A n (g5Q A n (pth 63) (g5T kk)) ⟨[(40, (bO true)), (39, (bO true)), (38, (bO true)), (37, (bO true)), (36, (aN .u64 4 (g21r0 A x1 x2))), (35, (bO false)), (34, (bO false)), (33, (bO false)), (32, (aN .u64 4 (g21r0 A x1 x2))), (31, (bO false)), (30, (bO false)), (29, (aN .u64 4 (g12r0 A x1 [0, 0, 0, 0]))), (28, (aN .u64 4 [0, 0, 0, 0])), (27, (aN .u64 4 x1)), (26, (aN .u64 4 (g16r0 A x2 (g16r0 A (g21r0 A x1 x2) (g21r0 A x1 x2))))), (25, (aN .u64 4 (g16r0 A (g21r0 A x1 x2) (g21r0 A x1 x2)))), (24, (aN .u64 4 (g21r0 A x1 x2))), (23, (aN .u64 4 (g21r0 A x1 x2))), (22, (aN .u64 4 x2)), (21, (bO true)), (20, (bO true)), (2, (pT 1000 0)), (3, (pT 1001 0)), (5, (bO x0)), (6, (pT 5006 0)), (7, (bO (g21r1 A x1 x2)))], [(1000, (bU 4 x1 24)), (1001, (bU 4 x2 24)), (5006, (bU 4 (g21r0 A x1 x2) 24))]⟩ true (by kernel_rfl)).trans h32
  have h34 := (g5Qn A n _ _ _).trans h33
  have h35 := (g5Qn A n _ _ _).trans (g5J7_eq A n kk     ⟨[(40, (bO false)), (39, (bO false)), (38, (bO false)), (37, (bO true)), (36, (aN .u64 4 (g21r0 A x1 x2))), (35, (bO false)), (34, (bO false)), (33, (bO false)), (32, (aN .u64 4 (g21r0 A x1 x2))), (31, (bO false)), (30, (bO false)), (29, (aN .u64 4 (g12r0 A x1 [0, 0, 0, 0]))), (28, (aN .u64 4 [0, 0, 0, 0])), (27, (aN .u64 4 x1)), (26, (aN .u64 4 (g16r0 A x2 (g16r0 A (g21r0 A x1 x2) (g21r0 A x1 x2))))), (25, (aN .u64 4 (g16r0 A (g21r0 A x1 x2) (g21r0 A x1 x2)))), (24, (aN .u64 4 (g21r0 A x1 x2))), (23, (aN .u64 4 (g21r0 A x1 x2))), (22, (aN .u64 4 x2)), (21, (bO true)), (20, (bO true)), (2, (pT 1000 0)), (3, (pT 1001 0)), (5, (bO x0)), (6, (pT 5006 0)), (7, (bO (g21r1 A x1 x2)))], [(1000, (bU 4 x1 24)), (1001, (bU 4 x2 24)), (5006, (bU 4 (g21r0 A x1 x2) 24))]⟩ x0 (g21r1 A x1 x2) x1 (g21r0 A x1 x2) (by kernel_rfl))
  have h36 := (g5p1111011 A n _ _).trans h35
  have h37 := (g5p111101 A n (g5Q A n (pth 63) (g5T kk)) ⟨[(40, (bO false)), (39, (bO false)), (38, (bO false)), (37, (bO true)), (36, (aN .u64 4 (g21r0 A x1 x2))), (35, (bO false)), (34, (bO false)), (33, (bO false)), (32, (aN .u64 4 (g21r0 A x1 x2))), (31, (bO false)), (30, (bO false)), (29, (aN .u64 4 (g12r0 A x1 [0, 0, 0, 0]))), (28, (aN .u64 4 [0, 0, 0, 0])), (27, (aN .u64 4 x1)), (26, (aN .u64 4 (g16r0 A x2 (g16r0 A (g21r0 A x1 x2) (g21r0 A x1 x2))))), (25, (aN .u64 4 (g16r0 A (g21r0 A x1 x2) (g21r0 A x1 x2)))), (24, (aN .u64 4 (g21r0 A x1 x2))), (23, (aN .u64 4 (g21r0 A x1 x2))), (22, (aN .u64 4 x2)), (21, (bO true)), (20, (bO true)), (2, (pT 1000 0)), (3, (pT 1001 0)), (5, (bO x0)), (6, (pT 5006 0)), (7, (bO (g21r1 A x1 x2)))], [(1000, (bU 4 x1 24)), (1001, (bU 4 x2 24)), (5006, (bU 4 (g21r0 A x1 x2) 24))]⟩ false (by kernel_rfl)).trans h36
  have h38 := (g5Qn A n _ _ _).trans h37
  have h41 : (g5T kk) .ret ⟨[(4, (bO false))], []⟩ = kk (bO false) [] := by kernel_rfl
  have h42 := (g5Qr A n (pth 63) _ _).trans h41
  have h43 := (g5p11110101 A n _ _).trans h42
  have h44 := (g5Qn A n _ _ _).trans h43
  have h39 := g5R6 A n (g5Q A n (pth 431) (g5Q A n (pth 63) (g5T kk))) 
  have h45 := (g5p11110100 A n _ ⟨[(40, (bO true)), (39, (bO true)), (38, (bO true)), (37, (bO false)), (36, (aN .u64 4 (g21r0 A x1 x2))), (35, (bO false)), (34, (bO false)), (33, (bO false)), (32, (aN .u64 4 (g21r0 A x1 x2))), (31, (bO false)), (30, (bO false)), (29, (aN .u64 4 (g12r0 A x1 [0, 0, 0, 0]))), (28, (aN .u64 4 [0, 0, 0, 0])), (27, (aN .u64 4 x1)), (26, (aN .u64 4 (g16r0 A x2 (g16r0 A (g21r0 A x1 x2) (g21r0 A x1 x2))))), (25, (aN .u64 4 (g16r0 A (g21r0 A x1 x2) (g21r0 A x1 x2)))), (24, (aN .u64 4 (g21r0 A x1 x2))), (23, (aN .u64 4 (g21r0 A x1 x2))), (22, (aN .u64 4 x2)), (21, (bO true)), (20, (bO true)), (2, (pT 1000 0)), (3, (pT 1001 0)), (5, (bO x0)), (6, (pT 5006 0)), (7, (bO (g21r1 A x1 x2)))], [(1000, (bU 4 x1 24)), (1001, (bU 4 x2 24)), (5006, (bU 4 (g21r0 A x1 x2) 24))]⟩ _ (by kernel_rfl)).trans h39
  rw [h44] at h45
  have h46 := (g5p1111010 A n _ _).trans h45
  have h47 := (g5p111101 A n (g5Q A n (pth 63) (g5T kk)) ⟨[(40, (bO true)), (39, (bO true)), (38, (bO true)), (37, (bO false)), (36, (aN .u64 4 (g21r0 A x1 x2))), (35, (bO false)), (34, (bO false)), (33, (bO false)), (32, (aN .u64 4 (g21r0 A x1 x2))), (31, (bO false)), (30, (bO false)), (29, (aN .u64 4 (g12r0 A x1 [0, 0, 0, 0]))), (28, (aN .u64 4 [0, 0, 0, 0])), (27, (aN .u64 4 x1)), (26, (aN .u64 4 (g16r0 A x2 (g16r0 A (g21r0 A x1 x2) (g21r0 A x1 x2))))), (25, (aN .u64 4 (g16r0 A (g21r0 A x1 x2) (g21r0 A x1 x2)))), (24, (aN .u64 4 (g21r0 A x1 x2))), (23, (aN .u64 4 (g21r0 A x1 x2))), (22, (aN .u64 4 x2)), (21, (bO true)), (20, (bO true)), (2, (pT 1000 0)), (3, (pT 1001 0)), (5, (bO x0)), (6, (pT 5006 0)), (7, (bO (g21r1 A x1 x2)))], [(1000, (bU 4 x1 24)), (1001, (bU 4 x2 24)), (5006, (bU 4 (g21r0 A x1 x2) 24))]⟩ true (by kernel_rfl)).trans h46
  have h48 := (g5Qn A n _ _ _).trans h47
  have h49 := (g5Qn A n _ _ _).trans (g5J7_eq A n kk     ⟨[(40, (bO false)), (39, (bO false)), (38, (bO false)), (37, (bO false)), (36, (aN .u64 4 (g21r0 A x1 x2))), (35, (bO false)), (34, (bO false)), (33, (bO false)), (32, (aN .u64 4 (g21r0 A x1 x2))), (31, (bO false)), (30, (bO false)), (29, (aN .u64 4 (g12r0 A x1 [0, 0, 0, 0]))), (28, (aN .u64 4 [0, 0, 0, 0])), (27, (aN .u64 4 x1)), (26, (aN .u64 4 (g16r0 A x2 (g16r0 A (g21r0 A x1 x2) (g21r0 A x1 x2))))), (25, (aN .u64 4 (g16r0 A (g21r0 A x1 x2) (g21r0 A x1 x2)))), (24, (aN .u64 4 (g21r0 A x1 x2))), (23, (aN .u64 4 (g21r0 A x1 x2))), (22, (aN .u64 4 x2)), (21, (bO true)), (20, (bO true)), (2, (pT 1000 0)), (3, (pT 1001 0)), (5, (bO x0)), (6, (pT 5006 0)), (7, (bO (g21r1 A x1 x2)))], [(1000, (bU 4 x1 24)), (1001, (bU 4 x2 24)), (5006, (bU 4 (g21r0 A x1 x2) 24))]⟩ x0 (g21r1 A x1 x2) x1 (g21r0 A x1 x2) (by kernel_rfl))
  have h50 := (g5p1111011 A n _ _).trans h49
  have h51 := (g5p111101 A n (g5Q A n (pth 63) (g5T kk)) ⟨[(40, (bO false)), (39, (bO false)), (38, (bO false)), (37, (bO false)), (36, (aN .u64 4 (g21r0 A x1 x2))), (35, (bO false)), (34, (bO false)), (33, (bO false)), (32, (aN .u64 4 (g21r0 A x1 x2))), (31, (bO false)), (30, (bO false)), (29, (aN .u64 4 (g12r0 A x1 [0, 0, 0, 0]))), (28, (aN .u64 4 [0, 0, 0, 0])), (27, (aN .u64 4 x1)), (26, (aN .u64 4 (g16r0 A x2 (g16r0 A (g21r0 A x1 x2) (g21r0 A x1 x2))))), (25, (aN .u64 4 (g16r0 A (g21r0 A x1 x2) (g21r0 A x1 x2)))), (24, (aN .u64 4 (g21r0 A x1 x2))), (23, (aN .u64 4 (g21r0 A x1 x2))), (22, (aN .u64 4 x2)), (21, (bO true)), (20, (bO true)), (2, (pT 1000 0)), (3, (pT 1001 0)), (5, (bO x0)), (6, (pT 5006 0)), (7, (bO (g21r1 A x1 x2)))], [(1000, (bU 4 x1 24)), (1001, (bU 4 x2 24)), (5006, (bU 4 (g21r0 A x1 x2) 24))]⟩ false (by kernel_rfl)).trans h50
  have h52 := (g5Qn A n _ _ _).trans h51
  have h53 := (g5Qn A n _ _ _).trans (g5J7_eq A n kk     ⟨[(40, (bO false)), (39, uN), (38, uN), (37, uN), (36, uN), (35, uN), (34, uN), (33, uN), (32, uN), (31, uN), (30, uN), (29, uN), (28, uN), (27, uN), (26, uN), (25, uN), (24, uN), (23, uN), (22, uN), (21, (bO false)), (20, (bO false)), (2, (pT 1000 0)), (3, (pT 1001 0)), (5, (bO x0)), (6, (pT 5006 0)), (7, (bO (g21r1 A x1 x2)))], [(1000, (bU 4 x1 24)), (1001, (bU 4 x2 24)), (5006, (bU 4 (g21r0 A x1 x2) 24))]⟩ x0 (g21r1 A x1 x2) x1 (g21r0 A x1 x2) (by kernel_rfl))
  have h54 := (g5p1111011 A n _ _).trans h53
  have h55 := (g5p111101 A n (g5Q A n (pth 63) (g5T kk)) ⟨[(40, (bO false)), (39, uN), (38, uN), (37, uN), (36, uN), (35, uN), (34, uN), (33, uN), (32, uN), (31, uN), (30, uN), (29, uN), (28, uN), (27, uN), (26, uN), (25, uN), (24, uN), (23, uN), (22, uN), (21, (bO false)), (20, (bO false)), (2, (pT 1000 0)), (3, (pT 1001 0)), (5, (bO x0)), (6, (pT 5006 0)), (7, (bO (g21r1 A x1 x2)))], [(1000, (bU 4 x1 24)), (1001, (bU 4 x2 24)), (5006, (bU 4 (g21r0 A x1 x2) 24))]⟩ false (by kernel_rfl)).trans h54
  have h56 := (g5Qn A n _ _ _).trans h55
  have h3 := g5R5 A n (g5Q A n (pth 111) (g5Q A n (pth 63) (g5T kk))) x0 (g21r1 A x1 x2) x1 x2 (g21r0 A x1 x2)
  have h57 := (g5p111100 A n _ ⟨[(7, (bO (g21r1 A x1 x2))), (6, (pT 5006 0)), (19, (bO (g21r1 A x1 x2))), (18, (aN .u64 4 (g21r0 A x1 x2))), (14, (.tup [(.agg [.nums .u64 4 (g21r0 A x1 x2)]), (.cell (.bool (g21r1 A x1 x2)))])), (17, (.tup [(.agg [.nums .u64 4 (g21r0 A x1 x2)]), (.cell (.bool (g21r1 A x1 x2)))])), (16, (aN .u64 4 x2)), (15, (aN .u64 4 x1)), (2, (pT 1000 0)), (3, (pT 1001 0)), (5, (bO x0))], [(5006, (bU 4 (g21r0 A x1 x2) 24)), (1000, (bU 4 x1 24)), (1001, (bU 4 x2 24))]⟩ _ (by kernel_rfl)).trans h3
  rw [h14, h24, h34, h38, h48, h52, h56] at h57
  have h58 := (g5p11110 A n _ _).trans h57
  have h59 := (g5p1111 A n _ _).trans h58
  have h60 := (g5Qn A n _ _ _).trans h59
  have h1 := g5R4 A n (g5Q A n (pth 31) (g5T kk)) x0 x1 x2
  have h61 := (g5p1110 A n _ ⟨[(2, (pT 1000 0)), (3, (pT 1001 0)), (5, (bO x0))], [(1000, (bU 4 x1 24)), (1001, (bU 4 x2 24))]⟩ _ (by kernel_rfl)).trans h1
  rw [h60] at h61
  have h62 := (g5p111 A n _ _).trans h61
  exact (codeD_first (s' := ⟨[(2, (pT 1000 0)), (3, (pT 1001 0)), (5, (bO x0))], [(1000, (bU 4 x1 24)), (1001, (bU 4 x2 24))]⟩) (id := 4) (by kernel_rfl) (h.trans (by kernel_rfl)) _).trans (h62.trans (by kernel_rfl))
def g5 {R : Type} (A : Ar) (n : Nat) (kk : AV → Heap → Option R) (a b : List Nat) : Option R :=
  match (generalizing := false) g11ok A with
  | true => match (generalizing := false) !(g11r0 A) with
    | true => kk (bO false) []
    | false => g5J4 A n kk  (g11r0 A) a b
  | false => none
set_option maxRecDepth 100000 in
theorem g5_eq {R : Type} (A : Ar) (n : Nat) (kk : AV → Heap → Option R) (a b : List Nat) :
    funD A gtys (g5O A) g5an n (bodyOf Try.f5) g5res [(aN .u64 4 a), (aN .u64 4 b)] [] kk = g5 A n kk a b := by
  have h9 : (g5T kk) .ret ⟨[(4, (bO false))], []⟩ = kk (bO false) [] := by kernel_rfl
  have h10 := (g5Qr A n (pth 15) _ _).trans h9
  have h11 := (g5p110101 A n _ _).trans h10
  have h12 := (g5Qn A n _ _ _).trans h11
  have h7 := g5R3 A n (g5Q A n (pth 107) (g5Q A n (pth 15) (g5T kk))) 
  have h13 := (g5p110100 A n _ ⟨[(13, (bO (!(g11r0 A)))), (12, (bO (g11r0 A))), (2, (pT 1000 0)), (3, (pT 1001 0)), (5, (bO (g11r0 A)))], [(1000, (bU 4 a 24)), (1001, (bU 4 b 24))]⟩ _ (by kernel_rfl)).trans h7
  rw [h12] at h13
  have h14 := (g5p11010 A n _ _).trans h13
  have h15 := (g5Qn A n _ _ _).trans (g5J4_eq A n kk     ⟨[(13, (bO (!(g11r0 A)))), (12, (bO (g11r0 A))), (2, (pT 1000 0)), (3, (pT 1001 0)), (5, (bO (g11r0 A)))], [(1000, (bU 4 a 24)), (1001, (bU 4 b 24))]⟩ (g11r0 A) a b (by kernel_rfl))
  have h16 := (g5p11011 A n _ _).trans h15
  have h17 := g5p1101 A n (g5Q A n (pth 15) (g5T kk)) ⟨[(13, (bO (!(g11r0 A)))), (12, (bO (g11r0 A))), (2, (pT 1000 0)), (3, (pT 1001 0)), (5, (bO (g11r0 A)))], [(1000, (bU 4 a 24)), (1001, (bU 4 b 24))]⟩ (!(g11r0 A)) (by kernel_rfl)
  rw [h14, h16] at h17
  have h18 := (g5Qn A n _ _ _).trans h17
  have h5 := g5R2 A n (g5Q A n (pth 27) (g5Q A n (pth 15) (g5T kk))) (g11r0 A) a b
  have h19 := (g5p1100 A n _ ⟨[(5, (bO (g11r0 A))), (11, (bO (g11r0 A))), (2, (pT 1000 0)), (3, (pT 1001 0))], [(1000, (bU 4 a 24)), (1001, (bU 4 b 24))]⟩ _ (by kernel_rfl)).trans h5
  rw [h18] at h19
  have h20 := (g5p110 A n _ _).trans h19
  have h21 := (g5p11 A n _ _).trans h20
  have h22 := (g5Qn A n _ _ _).trans h21
  have h3 := g5R1 A n (g5Q A n (pth 7) (g5T kk)) a b
  have h23 := (g5p10 A n _ ⟨[(4, (bO false)), (3, (pT 1001 0)), (2, (pT 1000 0)), (0, (aN .u64 4 a)), (1, (aN .u64 4 b))], [(1001, (bU 4 b 24)), (1000, (bU 4 a 24))]⟩ _ (by kernel_rfl)).trans h3
  rw [h22] at h23
  have h24 := (g5p1 A n _ _).trans h23
  have h25 := (g5Qn A n _ _ _).trans h24
  have h1 := g5R0 A n (g5Q A n (pth 3) (g5T kk)) a b
  have h26 := (g5p0 A n _ ⟨[(0, (aN .u64 4 a)), (1, (aN .u64 4 b))], []⟩ _ (by kernel_rfl)).trans h1
  rw [h25] at h26
  have h27 := (g5p A n _ _).trans h26
  exact (show funD A gtys (g5O A) g5an n (bodyOf Try.f5) g5res [(aN .u64 4 a), (aN .u64 4 b)] [] kk = g5D A n (pth 1) (g5T kk) ⟨[(0, (aN .u64 4 a)), (1, (aN .u64 4 b))], []⟩ from by kernel_rfl).trans (h27.trans (by kernel_rfl))
def g5is (o : Option AV) : Bool := match o with
  | some (.v (.cell (.bool _))) => true
  | _ => false
def g5g0 (o : Option AV) : Bool := match o with
  | some (.v (.cell (.bool x))) => x
  | _ => false
theorem g5is_spec {o : Option AV} (h : g5is o = true) : o = some (.v (.cell (.bool (g5g0 o)))) := by
  unfold g5is at h
  split at h
  · rfl
  · cases h
def g5v (A : Ar) (a b : List Nat) : Option AV := g5 A (100000) (fun v _ => some v) a b
def g5ok (A : Ar) (a b : List Nat) : Bool := g5is (g5v A a b)
def g5r0 (A : Ar) (a b : List Nat) : Bool := g5g0 (g5v A a b)
theorem g5ok_spec {A : Ar} {a b} (h : g5ok A a b = true) : g5v A a b = some (.v (.cell (.bool (g5r0 A a b)))) := g5is_spec h
def g5o (A : Ar) (args : List AV) : Option (Bool × AV) := match args with
  | [.v (.agg [.nums .u64 n0 a]), .v (.agg [.nums .u64 n1 b])] => some (Nat.beq n0 4 && (Nat.beq n1 4 && (g5ok A a b)), .v (.cell (.bool (g5r0 A a b))))
  | _ => none
theorem g5o_sound : ∀ args v, g5o realA args = some (true, v) → Fn1 Try.prog 5 args v := by
  intro args v h
  unfold g5o at h
  split at h
  · rename_i n0 a n1 b
    simp only [Option.some.injEq, Prod.mk.injEq] at h
    obtain ⟨hc, h⟩ := h
    subst h
    · skip
      simp only [Bool.and_eq_true] at hc
      have en0 := beq_true hc.1
      subst en0
      replace hc := hc.2
      have en1 := beq_true hc.1
      subst en1
      replace hc := hc.2
      exact fn1_of mixed gtysOK g5O_sound g5O_det (an := g5an) (n := 100000) Try.func5 (c := bodyOf Try.f5) rfl (by kernel_rfl) Try.call5 (Nat.le_of_ble_eq_true rfl) (fun b => rfl) (fun _ => (g5_eq realA (100000) (fun v _ => some v) a b).trans (show g5v realA a b = _ from g5ok_spec hc))
  · cases h
end Go.Sx
