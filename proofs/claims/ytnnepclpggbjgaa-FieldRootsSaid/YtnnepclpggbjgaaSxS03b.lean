/- printed by sxgen -/
import Derived.Test.YtnnepclpggbjgaaSxS03a
namespace Go.Sx
open Go.Proofs
set_option linter.unusedVariables false
/- (engrosser/field.limbs).store -/
def g38O (A : Ar) : Orc := orcOf [(47, g47o A)]
theorem g38O_sound : OSound Try.prog (g38O realA) := orc_sound fun f g hm args v hv => by
  simp only [List.mem_cons, List.not_mem_nil, or_false, Prod.mk.injEq] at hm
  rcases hm with ⟨rfl, rfl⟩
  · exact g47o_sound _ _ hv
theorem g38O_det : ODet (g38O realA) := orc_det _
def g38an : Ann := [(0, ([0], [])), (1, ([1, 2], [1000, 1001])), (2, ([1, 2], [1000, 1001])), (3, ([1, 2, 3], [1000, 1001])), (4, ([1, 2, 3, 4], [1000, 1001])), (5, ([1, 2, 3, 4], [1000, 1001])), (6, ([1, 2, 3, 4], [1000, 1001])), (7, ([1, 2, 3], [1000, 1001])), (8, ([1, 2], [1000, 1001])), (9, ([1, 2, 5], [1000, 1001])), (10, ([1, 2, 5, 30], [1000, 1001])), (11, ([1, 2, 5, 30], [1000, 1001])), (12, ([1, 2, 5, 6, 30], [1000, 1001])), (13, ([1, 2, 6, 30], [1000, 1001])), (14, ([1, 2, 5, 6, 30], [1000, 1001])), (15, ([1, 2, 5, 30], [1000, 1001])), (16, ([1, 2], [1000, 1001]))]
def g38res : List ResultVar := [.cell 2 24]
noncomputable def g38D {R : Type} (A : Ar) (n : Nat) (p : List Bool) (K : Ex → St → Option R) (s : St) : Option R := codeD A gtys (g38O A) g38an n (sub (bodyOf Try.f38) p) K s
noncomputable def g38V {R : Type} (A : Ar) (n : Nat) (p : List Bool) (m : Nat) (K : Ex → St → Option R) (s : St) : Option R := loopD (fun K' s'' => codeD A gtys (g38O A) g38an n (sub (bodyOf Try.f38) p) K' s'') m K s
noncomputable def g38Q {R : Type} (A : Ar) (n : Nat) (p : List Bool) (K : Ex → St → Option R) : Ex → St → Option R := seqC (g38D A n p K) K
noncomputable def g38W {R : Type} (A : Ar) (n : Nat) (p : List Bool) (m : Nat) (K : Ex → St → Option R) : Ex → St → Option R := seqC (g38V A n p m K) K
noncomputable def g38T {R : Type} (kk : AV → Heap → Option R) : Ex → St → Option R := finD gtys g38res kk
theorem g38Qn {R : Type} (A : Ar) (n : Nat) (p : List Bool) (K : Ex → St → Option R) (s : St) : g38Q A n p K .normal s = g38D A n p K s := rfl
theorem g38Qe {R : Type} (A : Ar) (n : Nat) (p : List Bool) (K : Ex → St → Option R) (i : Nat) (s : St) : g38Q A n p K (.exit i) s = K (.exit i) s := rfl
theorem g38Wn {R : Type} (A : Ar) (n : Nat) (p : List Bool) (m : Nat) (K : Ex → St → Option R) (s : St) : g38W A n p m K .normal s = g38V A n p m K s := rfl
theorem g38We {R : Type} (A : Ar) (n : Nat) (p : List Bool) (m : Nat) (K : Ex → St → Option R) (i : Nat) (s : St) : g38W A n p m K (.exit i) s = K (.exit i) s := rfl
theorem g38Vs {R : Type} (A : Ar) (n : Nat) (p : List Bool) (m : Nat) (K : Ex → St → Option R) (s : St) : g38V A n p (m + 1) K s = g38D A n p (g38W A n p m K) s := rfl
section
variable {R : Type} (A : Ar) (n : Nat) (K : Ex → St → Option R) (s : St)
theorem g38p : g38D A n (pth 1) K s = g38D A n (pth 2) (g38Q A n (pth 3) K) s := by kernel_rfl
theorem g38p0 (s' : St) (h : keep g38an 0 s = keep g38an 0 s') : g38D A n (pth 2) K s = g38D A n (pth 2) K s' := codeD_first (id := 0) (by kernel_rfl) h K
theorem g38p1 : g38D A n (pth 3) K s = g38D A n (pth 5) (g38Q A n (pth 7) K) s := by kernel_rfl
theorem g38p10 (s' : St) (h : keep g38an 1 s = keep g38an 1 s') : g38D A n (pth 5) K s = g38D A n (pth 5) K s' := codeD_first (id := 1) (by kernel_rfl) h K
theorem g38p11 : g38D A n (pth 7) K s = g38D A n (pth 11) (g38Q A n (pth 15) K) s := by kernel_rfl
theorem g38p110 (s' : St) (h : keep g38an 2 s = keep g38an 2 s') : g38D A n (pth 11) K s = g38D A n (pth 11) K s' := codeD_first (id := 2) (by kernel_rfl) h K
theorem g38p111 : g38D A n (pth 15) K s = g38D A n (pth 23) (g38Q A n (pth 31) K) s := by kernel_rfl
theorem g38p1110 : g38D A n (pth 23) K s = g38D A n (pth 39) (g38Q A n (pth 55) K) s := by kernel_rfl
theorem g38p11100 (s' : St) (h : keep g38an 3 s = keep g38an 3 s') : g38D A n (pth 39) K s = g38D A n (pth 39) K s' := codeD_first (id := 3) (by kernel_rfl) h K
theorem g38p11101 : g38D A n (pth 55) K s = g38D A n (pth 87) (blockK 0 K) s := by kernel_rfl
theorem g38p111010 : g38D A n (pth 87) K s = g38V A n (pth 151) n K s := by kernel_rfl
theorem g38p1110100 : g38D A n (pth 151) K s = g38D A n (pth 279) (g38Q A n (pth 407) K) s := by kernel_rfl
theorem g38p11101000 : g38D A n (pth 279) K s = g38D A n (pth 535) (g38Q A n (pth 791) K) s := by kernel_rfl
theorem g38p111010000 (s' : St) (h : keep g38an 4 s = keep g38an 4 s') : g38D A n (pth 535) K s = g38D A n (pth 535) K s' := codeD_first (id := 4) (by kernel_rfl) h K
theorem g38p111010001 (t : Bool) : ev s (.tmp 15) = some (.v (.cell (.bool t))) → g38D A n (pth 791) K s = (match t with
    | true => g38D A n (pth 1303) K s
    | false => g38D A n (pth 1815) K s) := codeD_cond t
theorem g38p1110100010 : g38D A n (pth 1303) K s = K .normal s := by kernel_rfl
theorem g38p1110100011 : g38D A n (pth 1815) K s = K (.exit 0) s := by kernel_rfl
theorem g38p11101001 : g38D A n (pth 407) K s = g38D A n (pth 663) (g38Q A n (pth 919) K) s := by kernel_rfl
theorem g38p111010010 : g38D A n (pth 663) K s = g38D A n (pth 1175) (blockK 1 K) s := by kernel_rfl
theorem g38p1110100100 (s' : St) (h : keep g38an 6 s = keep g38an 6 s') : g38D A n (pth 1175) K s = g38D A n (pth 1175) K s' := codeD_first (id := 6) (by kernel_rfl) h K
theorem g38p111010011 (s' : St) (h : keep g38an 5 s = keep g38an 5 s') : g38D A n (pth 919) K s = g38D A n (pth 919) K s' := codeD_first (id := 5) (by kernel_rfl) h K
theorem g38p1111 : g38D A n (pth 31) K s = g38D A n (pth 47) (g38Q A n (pth 63) K) s := by kernel_rfl
theorem g38p11110 (s' : St) (h : keep g38an 7 s = keep g38an 7 s') : g38D A n (pth 47) K s = g38D A n (pth 47) K s' := codeD_first (id := 7) (by kernel_rfl) h K
theorem g38p11111 : g38D A n (pth 63) K s = g38D A n (pth 95) (g38Q A n (pth 127) K) s := by kernel_rfl
theorem g38p111110 (s' : St) (h : keep g38an 8 s = keep g38an 8 s') : g38D A n (pth 95) K s = g38D A n (pth 95) K s' := codeD_first (id := 8) (by kernel_rfl) h K
theorem g38p111111 : g38D A n (pth 127) K s = g38D A n (pth 191) (g38Q A n (pth 255) K) s := by kernel_rfl
theorem g38p1111110 : g38D A n (pth 191) K s = g38D A n (pth 319) (g38Q A n (pth 447) K) s := by kernel_rfl
theorem g38p11111100 (s' : St) (h : keep g38an 9 s = keep g38an 9 s') : g38D A n (pth 319) K s = g38D A n (pth 319) K s' := codeD_first (id := 9) (by kernel_rfl) h K
theorem g38p11111101 : g38D A n (pth 447) K s = g38D A n (pth 703) (blockK 2 K) s := by kernel_rfl
theorem g38p111111010 : g38D A n (pth 703) K s = g38V A n (pth 1215) n K s := by kernel_rfl
theorem g38p1111110100 : g38D A n (pth 1215) K s = g38D A n (pth 2239) (g38Q A n (pth 3263) K) s := by kernel_rfl
theorem g38p11111101000 (s' : St) (h : keep g38an 10 s = keep g38an 10 s') : g38D A n (pth 2239) K s = g38D A n (pth 2239) K s' := codeD_first (id := 10) (by kernel_rfl) h K
theorem g38p11111101001 : g38D A n (pth 3263) K s = g38D A n (pth 5311) (g38Q A n (pth 7359) K) s := by kernel_rfl
theorem g38p111111010010 (t : Bool) : ev s (.tmp 31) = some (.v (.cell (.bool t))) → g38D A n (pth 5311) K s = (match t with
    | true => g38D A n (pth 9407) K s
    | false => g38D A n (pth 13503) K s) := codeD_cond t
theorem g38p1111110100100 : g38D A n (pth 9407) K s = K .normal s := by kernel_rfl
theorem g38p1111110100101 : g38D A n (pth 13503) K s = K (.exit 2) s := by kernel_rfl
theorem g38p111111010011 : g38D A n (pth 7359) K s = g38D A n (pth 11455) (g38Q A n (pth 15551) K) s := by kernel_rfl
theorem g38p1111110100110 : g38D A n (pth 11455) K s = g38D A n (pth 19647) (blockK 3 K) s := by kernel_rfl
theorem g38p11111101001100 : g38D A n (pth 19647) K s = g38D A n (pth 36031) (g38Q A n (pth 52415) K) s := by kernel_rfl
theorem g38p111111010011000 (s' : St) (h : keep g38an 11 s = keep g38an 11 s') : g38D A n (pth 36031) K s = g38D A n (pth 36031) K s' := codeD_first (id := 11) (by kernel_rfl) h K
theorem g38p111111010011001 : g38D A n (pth 52415) K s = g38D A n (pth 85183) (g38Q A n (pth 117951) K) s := by kernel_rfl
theorem g38p1111110100110010 (s' : St) (h : keep g38an 12 s = keep g38an 12 s') : g38D A n (pth 85183) K s = g38D A n (pth 85183) K s' := codeD_first (id := 12) (by kernel_rfl) h K
theorem g38p1111110100110011 : g38D A n (pth 117951) K s = g38D A n (pth 183487) (g38Q A n (pth 249023) K) s := by kernel_rfl
theorem g38p11111101001100110 (s' : St) (h : keep g38an 13 s = keep g38an 13 s') : g38D A n (pth 183487) K s = g38D A n (pth 183487) K s' := codeD_first (id := 13) (by kernel_rfl) h K
theorem g38p11111101001100111 (s' : St) (h : keep g38an 14 s = keep g38an 14 s') : g38D A n (pth 249023) K s = g38D A n (pth 249023) K s' := codeD_first (id := 14) (by kernel_rfl) h K
theorem g38p1111110100111 (s' : St) (h : keep g38an 15 s = keep g38an 15 s') : g38D A n (pth 15551) K s = g38D A n (pth 15551) K s' := codeD_first (id := 15) (by kernel_rfl) h K
theorem g38p1111111 : g38D A n (pth 255) K s = g38D A n (pth 383) (g38Q A n (pth 511) K) s := by kernel_rfl
theorem g38p11111110 (s' : St) (h : keep g38an 16 s = keep g38an 16 s') : g38D A n (pth 383) K s = g38D A n (pth 383) K s' := codeD_first (id := 16) (by kernel_rfl) h K
theorem g38p11111111 : g38D A n (pth 511) K s = K .ret s := by kernel_rfl
theorem g38R6 (x0 : Nat) (x1 : Int) (x2 x3 : List Nat) : g38D A n (pth 1175) K ⟨[(1, (pT 1000 0)), (2, (pT 1001 0)), (3, (u64v x0)), (4, (i6 x1))], [(1000, (bU 5 x2 44)), (1001, (bU 4 x3 24))]⟩ = match (generalizing := false) A.neg x1 with
    | true => none
    | false => match (generalizing := false) A.lt (A.toN x1) 5 with
      | true => K .normal ⟨[(3, (u64v (A.nsh .shr .u64 (A.nb .add .u64 (x2.getD (A.toN x1) 0) x0) 51))), (23, (u64v (A.nsh .shr .u64 (A.nb .add .u64 (x2.getD (A.toN x1) 0) x0) 51))), (22, (u64v (A.nb .add .u64 (x2.getD (A.toN x1) 0) x0))), (21, (u64v x0)), (20, (u64v (x2.getD (A.toN x1) 0))), (19, (.v (.cell (.ptr 1000 0 (some ⟨A.toN x1, 1, 5, 0, 0, 0⟩))))), (18, (i6 x1)), (1, (pT 1000 0)), (2, (pT 1001 0)), (3, (u64v x0)), (4, (i6 x1))], [(1000, (bU 5 x2 44)), (1001, (bU 4 x3 24))]⟩
      | false => none := by kernel_rfl
theorem g38R5 (x0 : Nat) (x1 : Int) (x2 x3 : List Nat) : g38D A n (pth 919) K ⟨[(1, (pT 1000 0)), (2, (pT 1001 0)), (3, (u64v x0)), (4, (i6 x1))], [(1000, (bU 5 x2 44)), (1001, (bU 4 x3 24))]⟩ = K .normal ⟨[(4, (i6 (A.ib .add .i64 x1 1))), (17, (i6 (A.ib .add .i64 x1 1))), (16, (i6 x1)), (1, (pT 1000 0)), (2, (pT 1001 0)), (3, (u64v x0)), (4, (i6 x1))], [(1000, (bU 5 x2 44)), (1001, (bU 4 x3 24))]⟩ := by kernel_rfl
theorem g38R11 (x0 : Nat) (x1 : Int) (x2 x3 : List Nat) : g38D A n (pth 36031) K ⟨[(1, (pT 1000 0)), (2, (pT 1001 0)), (5, (u64v x0)), (30, (i6 x1))], [(1000, (bU 5 x2 44)), (1001, (bU 4 x3 24))]⟩ = K .normal ⟨[(6, (i6 x1)), (32, (i6 x1)), (1, (pT 1000 0)), (2, (pT 1001 0)), (5, (u64v x0)), (30, (i6 x1))], [(1000, (bU 5 x2 44)), (1001, (bU 4 x3 24))]⟩ := by kernel_rfl
theorem g38R12 (x0 : Nat) (x1 x2 : Int) (x3 x4 : List Nat) : g38D A n (pth 85183) K ⟨[(1, (pT 1000 0)), (2, (pT 1001 0)), (5, (u64v x0)), (6, (i6 x1)), (30, (i6 x2))], [(1000, (bU 5 x3 44)), (1001, (bU 4 x4 24))]⟩ = match (generalizing := false) A.neg x1 with
    | true => none
    | false => match (generalizing := false) A.lt (A.toN x1) 5 with
      | true => match (generalizing := false) A.neg x1 with
        | true => none
        | false => match (generalizing := false) A.lt (A.toN x1) 5 with
          | true => K .normal ⟨[(38, (.v (.cell (.ptr 1000 0 (some ⟨A.toN x1, 1, 5, 0, 0, 0⟩))))), (37, (u64v (A.nb .add .u64 (x3.getD (A.toN x1) 0) x0))), (36, (u64v x0)), (35, (u64v (x3.getD (A.toN x1) 0))), (34, (.v (.cell (.ptr 1000 0 (some ⟨A.toN x1, 1, 5, 0, 0, 0⟩))))), (33, (i6 x1)), (1, (pT 1000 0)), (2, (pT 1001 0)), (5, (u64v x0)), (6, (i6 x1)), (30, (i6 x2))], [(1000, (bU 5 (x3.set (A.toN x1) (A.nb .add .u64 (x3.getD (A.toN x1) 0) x0)) 44)), (1001, (bU 4 x4 24))]⟩
          | false => none
      | false => none := by kernel_rfl
theorem g38R13 (x0 x1 : Int) (x2 x3 : List Nat) : g38D A n (pth 183487) K ⟨[(1, (pT 1000 0)), (2, (pT 1001 0)), (6, (i6 x0)), (30, (i6 x1))], [(1000, (bU 5 x2 44)), (1001, (bU 4 x3 24))]⟩ = match (generalizing := false) A.neg x0 with
    | true => none
    | false => match (generalizing := false) A.lt (A.toN x0) 5 with
      | true => K .normal ⟨[(5, (u64v (A.nsh .shr .u64 (x2.getD (A.toN x0) 0) 51))), (42, (u64v (A.nsh .shr .u64 (x2.getD (A.toN x0) 0) 51))), (41, (u64v (x2.getD (A.toN x0) 0))), (40, (.v (.cell (.ptr 1000 0 (some ⟨A.toN x0, 1, 5, 0, 0, 0⟩))))), (39, (i6 x0)), (1, (pT 1000 0)), (2, (pT 1001 0)), (6, (i6 x0)), (30, (i6 x1))], [(1000, (bU 5 x2 44)), (1001, (bU 4 x3 24))]⟩
      | false => none := by kernel_rfl
theorem g38R14 (x0 : Nat) (x1 x2 : Int) (x3 x4 : List Nat) : g38D A n (pth 249023) K ⟨[(1, (pT 1000 0)), (2, (pT 1001 0)), (5, (u64v x0)), (6, (i6 x1)), (30, (i6 x2))], [(1000, (bU 5 x3 44)), (1001, (bU 4 x4 24))]⟩ = match (generalizing := false) A.neg x1 with
    | true => none
    | false => match (generalizing := false) A.lt (A.toN x1) 5 with
      | true => match (generalizing := false) A.neg x1 with
        | true => none
        | false => match (generalizing := false) A.lt (A.toN x1) 5 with
          | true => K .normal ⟨[(47, (.v (.cell (.ptr 1000 0 (some ⟨A.toN x1, 1, 5, 0, 0, 0⟩))))), (46, (u64v (A.nb .and .u64 (x3.getD (A.toN x1) 0) 2251799813685247))), (45, (u64v (x3.getD (A.toN x1) 0))), (44, (.v (.cell (.ptr 1000 0 (some ⟨A.toN x1, 1, 5, 0, 0, 0⟩))))), (43, (i6 x1)), (1, (pT 1000 0)), (2, (pT 1001 0)), (5, (u64v x0)), (6, (i6 x1)), (30, (i6 x2))], [(1000, (bU 5 (x3.set (A.toN x1) (A.nb .and .u64 (x3.getD (A.toN x1) 0) 2251799813685247)) 44)), (1001, (bU 4 x4 24))]⟩
          | false => none
      | false => none := by kernel_rfl
theorem g38R15 (x0 : Nat) (x1 : Int) (x2 x3 : List Nat) : g38D A n (pth 15551) K ⟨[(1, (pT 1000 0)), (2, (pT 1001 0)), (5, (u64v x0)), (30, (i6 x1))], [(1000, (bU 5 x2 44)), (1001, (bU 4 x3 24))]⟩ = K .normal ⟨[(30, (i6 (A.ib .add .i64 x1 1))), (48, (i6 (A.ib .add .i64 x1 1))), (1, (pT 1000 0)), (2, (pT 1001 0)), (5, (u64v x0)), (30, (i6 x1))], [(1000, (bU 5 x2 44)), (1001, (bU 4 x3 24))]⟩ := by kernel_rfl
theorem g38R16 (x0 x1 : List Nat) : g38D A n (pth 383) K ⟨[(1, (pT 1000 0)), (2, (pT 1001 0))], [(1000, (bU 5 x0 44)), (1001, (bU 4 x1 24))]⟩ = K .normal ⟨[(76, (aN .u64 4 (((([0, 0, 0, 0].set 0 (A.nb .or .u64 (x0.getD 0 0) (A.nsh .shl .u64 (x0.getD 1 0) 51))).set 1 (A.nb .or .u64 (A.nsh .shr .u64 (x0.getD 1 0) 13) (A.nsh .shl .u64 (x0.getD 2 0) 38))).set 2 (A.nb .or .u64 (A.nsh .shr .u64 (x0.getD 2 0) 26) (A.nsh .shl .u64 (x0.getD 3 0) 25))).set 3 (A.nb .or .u64 (A.nsh .shr .u64 (x0.getD 3 0) 39) (A.nsh .shl .u64 (x0.getD 4 0) 12))))), (75, (u64v (A.nb .or .u64 (A.nsh .shr .u64 (x0.getD 3 0) 39) (A.nsh .shl .u64 (x0.getD 4 0) 12)))), (74, (u64v (A.nsh .shl .u64 (x0.getD 4 0) 12))), (73, (u64v (x0.getD 4 0))), (72, (pT 1000 4)), (71, (u64v (A.nsh .shr .u64 (x0.getD 3 0) 39))), (70, (u64v (x0.getD 3 0))), (69, (pT 1000 3)), (68, (u64v (A.nb .or .u64 (A.nsh .shr .u64 (x0.getD 2 0) 26) (A.nsh .shl .u64 (x0.getD 3 0) 25)))), (67, (u64v (A.nsh .shl .u64 (x0.getD 3 0) 25))), (66, (u64v (x0.getD 3 0))), (65, (pT 1000 3)), (64, (u64v (A.nsh .shr .u64 (x0.getD 2 0) 26))), (63, (u64v (x0.getD 2 0))), (62, (pT 1000 2)), (61, (u64v (A.nb .or .u64 (A.nsh .shr .u64 (x0.getD 1 0) 13) (A.nsh .shl .u64 (x0.getD 2 0) 38)))), (60, (u64v (A.nsh .shl .u64 (x0.getD 2 0) 38))), (59, (u64v (x0.getD 2 0))), (58, (pT 1000 2)), (57, (u64v (A.nsh .shr .u64 (x0.getD 1 0) 13))), (56, (u64v (x0.getD 1 0))), (55, (pT 1000 1)), (54, (u64v (A.nb .or .u64 (x0.getD 0 0) (A.nsh .shl .u64 (x0.getD 1 0) 51)))), (53, (u64v (A.nsh .shl .u64 (x0.getD 1 0) 51))), (52, (u64v (x0.getD 1 0))), (51, (pT 1000 1)), (50, (u64v (x0.getD 0 0))), (49, (pT 1000 0)), (1, (pT 1000 0)), (2, (pT 1001 0))], [(1000, (bU 5 x0 44)), (1001, (bU 4 (((([0, 0, 0, 0].set 0 (A.nb .or .u64 (x0.getD 0 0) (A.nsh .shl .u64 (x0.getD 1 0) 51))).set 1 (A.nb .or .u64 (A.nsh .shr .u64 (x0.getD 1 0) 13) (A.nsh .shl .u64 (x0.getD 2 0) 38))).set 2 (A.nb .or .u64 (A.nsh .shr .u64 (x0.getD 2 0) 26) (A.nsh .shl .u64 (x0.getD 3 0) 25))).set 3 (A.nb .or .u64 (A.nsh .shr .u64 (x0.getD 3 0) 39) (A.nsh .shl .u64 (x0.getD 4 0) 12))) 24))]⟩ := by kernel_rfl
theorem g38R10 (x0 : Nat) (x1 : Int) (x2 x3 : List Nat) : g38D A n (pth 2239) K ⟨[(1, (pT 1000 0)), (2, (pT 1001 0)), (5, (u64v x0)), (30, (i6 x1))], [(1000, (bU 5 x2 44)), (1001, (bU 4 x3 24))]⟩ = K .normal ⟨[(31, (bO (A.ic .lss x1 5))), (1, (pT 1000 0)), (2, (pT 1001 0)), (5, (u64v x0)), (30, (i6 x1))], [(1000, (bU 5 x2 44)), (1001, (bU 4 x3 24))]⟩ := by kernel_rfl
theorem g38R7 (x0 : Nat) (x1 x2 : List Nat) : g38D A n (pth 47) K ⟨[(1, (pT 1000 0)), (2, (pT 1001 0)), (3, (u64v x0))], [(1000, (bU 5 x1 44)), (1001, (bU 4 x2 24))]⟩ = K .normal ⟨[(29, (pT 1000 0)), (28, (u64v (A.nb .add .u64 (x1.getD 0 0) (A.nb .mul .u64 19 x0)))), (27, (u64v (A.nb .mul .u64 19 x0))), (26, (u64v x0)), (25, (u64v (x1.getD 0 0))), (24, (pT 1000 0)), (1, (pT 1000 0)), (2, (pT 1001 0)), (3, (u64v x0))], [(1000, (bU 5 (x1.set 0 (A.nb .add .u64 (x1.getD 0 0) (A.nb .mul .u64 19 x0))) 44)), (1001, (bU 4 x2 24))]⟩ := by kernel_rfl
theorem g38R8 (x0 x1 : List Nat) : g38D A n (pth 95) K ⟨[(1, (pT 1000 0)), (2, (pT 1001 0))], [(1000, (bU 5 x0 44)), (1001, (bU 4 x1 24))]⟩ = K .normal ⟨[(5, (u64v 0)), (1, (pT 1000 0)), (2, (pT 1001 0))], [(1000, (bU 5 x0 44)), (1001, (bU 4 x1 24))]⟩ := by kernel_rfl
theorem g38R9 (x0 : Nat) (x1 x2 : List Nat) : g38D A n (pth 319) K ⟨[(1, (pT 1000 0)), (2, (pT 1001 0)), (5, (u64v x0))], [(1000, (bU 5 x1 44)), (1001, (bU 4 x2 24))]⟩ = K .normal ⟨[(30, (i6 0)), (1, (pT 1000 0)), (2, (pT 1001 0)), (5, (u64v x0))], [(1000, (bU 5 x1 44)), (1001, (bU 4 x2 24))]⟩ := by kernel_rfl
theorem g38R4 (x0 : Nat) (x1 : Int) (x2 x3 : List Nat) : g38D A n (pth 535) K ⟨[(1, (pT 1000 0)), (2, (pT 1001 0)), (3, (u64v x0)), (4, (i6 x1))], [(1000, (bU 5 x2 44)), (1001, (bU 4 x3 24))]⟩ = K .normal ⟨[(15, (bO (A.ic .lss x1 5))), (14, (i6 x1)), (1, (pT 1000 0)), (2, (pT 1001 0)), (3, (u64v x0)), (4, (i6 x1))], [(1000, (bU 5 x2 44)), (1001, (bU 4 x3 24))]⟩ := by kernel_rfl
theorem g38R0 (x0 : List Nat) : g38D A n (pth 2) K ⟨[(0, (aN .u64 5 x0))], []⟩ = K .normal ⟨[(2, (pT 1001 0)), (1, (pT 1000 0)), (0, (aN .u64 5 x0))], [(1001, (bU 4 [0, 0, 0, 0] 24)), (1000, (bU 5 x0 44))]⟩ := by kernel_rfl
theorem g38R1 (x0 x1 : List Nat) : g38D A n (pth 5) K ⟨[(1, (pT 1000 0)), (2, (pT 1001 0))], [(1000, (bU 5 x0 44)), (1001, (bU 4 x1 24))]⟩ = match (generalizing := false) g47ok A x0 with
    | true => match (generalizing := false) g47ok A (g47r0 A x0) with
      | true => K .normal ⟨[(9, (aN .u64 5 (g47r0 A (g47r0 A x0)))), (8, (aN .u64 5 (g47r0 A x0))), (7, (aN .u64 5 x0)), (1, (pT 1000 0)), (2, (pT 1001 0))], [(1000, (bU 5 (g47r0 A (g47r0 A x0)) 44)), (1001, (bU 4 x1 24))]⟩
      | false => none
    | false => none := by kernel_rfl
theorem g38R2 (x0 x1 : List Nat) : g38D A n (pth 11) K ⟨[(1, (pT 1000 0)), (2, (pT 1001 0))], [(1000, (bU 5 x0 44)), (1001, (bU 4 x1 24))]⟩ = K .normal ⟨[(3, (u64v (A.nsh .shr .u64 (A.nb .add .u64 (x0.getD 0 0) 19) 51))), (13, (u64v (A.nsh .shr .u64 (A.nb .add .u64 (x0.getD 0 0) 19) 51))), (12, (u64v (A.nb .add .u64 (x0.getD 0 0) 19))), (11, (u64v (x0.getD 0 0))), (10, (pT 1000 0)), (1, (pT 1000 0)), (2, (pT 1001 0))], [(1000, (bU 5 x0 44)), (1001, (bU 4 x1 24))]⟩ := by kernel_rfl
theorem g38R3 (x0 : Nat) (x1 x2 : List Nat) : g38D A n (pth 39) K ⟨[(1, (pT 1000 0)), (2, (pT 1001 0)), (3, (u64v x0))], [(1000, (bU 5 x1 44)), (1001, (bU 4 x2 24))]⟩ = K .normal ⟨[(4, (i6 1)), (1, (pT 1000 0)), (2, (pT 1001 0)), (3, (u64v x0))], [(1000, (bU 5 x1 44)), (1001, (bU 4 x2 24))]⟩ := by kernel_rfl
end
def g38J6 {R : Type} (A : Ar) (n : Nat) (kk : AV → Heap → Option R) (lg38L4 : Nat → Int → List Nat → List Nat → Option R) (x0 : Nat) (x1 : Int) (x2 x3 : List Nat) : Option R :=
  match (generalizing := false) A.neg x1 with
  | true => none
  | false => match (generalizing := false) A.lt (A.toN x1) 5 with
    | true => lg38L4 (A.nsh .shr .u64 (A.nb .add .u64 (x2.getD (A.toN x1) 0) x0) 51) (A.ib .add .i64 x1 1) x2 x3
    | false => none
set_option maxRecDepth 100000 in
theorem g38J6_eq {R : Type} (A : Ar) (n : Nat) (kk : AV → Heap → Option R) (m0 : Nat) (lg38L4 : Nat → Int → List Nat → List Nat → Option R) 
    (hg38L4 : ∀ (s : St) (x0 : Nat) (x1 : Int) (x2 x3 : List Nat), keep g38an 4 s = ⟨[(1, (pT 1000 0)), (2, (pT 1001 0)), (3, (u64v x0)), (4, (i6 x1))], [(1000, (bU 5 x2 44)), (1001, (bU 4 x3 24))]⟩ → g38V A n (pth 151) m0 (blockK 0 (g38Q A n (pth 31) (g38T kk))) s = lg38L4 x0 x1 x2 x3) (s : St) (x0 : Nat) (x1 : Int) (x2 x3 : List Nat) (h : keep g38an 6 s = ⟨[(1, (pT 1000 0)), (2, (pT 1001 0)), (3, (u64v x0)), (4, (i6 x1))], [(1000, (bU 5 x2 44)), (1001, (bU 4 x3 24))]⟩) :
    g38D A n (pth 407) (g38W A n (pth 151) m0 (blockK 0 (g38Q A n (pth 31) (g38T kk)))) s = g38J6 A n kk lg38L4 x0 x1 x2 x3 := by
  have h5 := (g38Wn A n _ _ _ _).trans (hg38L4 ⟨[(4, (i6 (A.ib .add .i64 x1 1))), (17, (i6 (A.ib .add .i64 x1 1))), (16, (i6 x1)), (1, (pT 1000 0)), (2, (pT 1001 0)), (3, (u64v (A.nsh .shr .u64 (A.nb .add .u64 (x2.getD (A.toN x1) 0) x0) 51))), (4, (i6 x1))], [(1000, (bU 5 x2 44)), (1001, (bU 4 x3 24))]⟩ (A.nsh .shr .u64 (A.nb .add .u64 (x2.getD (A.toN x1) 0) x0) 51) (A.ib .add .i64 x1 1) x2 x3 (by kernel_rfl))
  have h3 := g38R5 A n (g38W A n (pth 151) m0 (blockK 0 (g38Q A n (pth 31) (g38T kk)))) (A.nsh .shr .u64 (A.nb .add .u64 (x2.getD (A.toN x1) 0) x0) 51) x1 x2 x3
  have h6 := (g38p111010011 A n _ ⟨[(3, (u64v (A.nsh .shr .u64 (A.nb .add .u64 (x2.getD (A.toN x1) 0) x0) 51))), (23, (u64v (A.nsh .shr .u64 (A.nb .add .u64 (x2.getD (A.toN x1) 0) x0) 51))), (22, (u64v (A.nb .add .u64 (x2.getD (A.toN x1) 0) x0))), (21, (u64v x0)), (20, (u64v (x2.getD (A.toN x1) 0))), (19, (.v (.cell (.ptr 1000 0 (some ⟨A.toN x1, 1, 5, 0, 0, 0⟩))))), (18, (i6 x1)), (1, (pT 1000 0)), (2, (pT 1001 0)), (3, (u64v x0)), (4, (i6 x1))], [(1000, (bU 5 x2 44)), (1001, (bU 4 x3 24))]⟩ _ (by kernel_rfl)).trans h3
  rw [h5] at h6
  have h7 := (g38Qn A n _ _ _).trans h6
  have h8 := (blockK_n 1 _ _).trans h7
  have h1 := g38R6 A n (blockK 1 (g38Q A n (pth 919) (g38W A n (pth 151) m0 (blockK 0 (g38Q A n (pth 31) (g38T kk)))))) x0 x1 x2 x3
  have h9 := (g38p1110100100 A n _ ⟨[(1, (pT 1000 0)), (2, (pT 1001 0)), (3, (u64v x0)), (4, (i6 x1))], [(1000, (bU 5 x2 44)), (1001, (bU 4 x3 24))]⟩ _ (by kernel_rfl)).trans h1
  rw [h8] at h9
  have h10 := (g38p111010010 A n _ _).trans h9
  have h11 := (g38p11101001 A n _ _).trans h10
  exact (codeD_first (s' := ⟨[(1, (pT 1000 0)), (2, (pT 1001 0)), (3, (u64v x0)), (4, (i6 x1))], [(1000, (bU 5 x2 44)), (1001, (bU 4 x3 24))]⟩) (id := 6) (by kernel_rfl) (h.trans (by kernel_rfl)) _).trans (h11.trans (by kernel_rfl))
def g38J11 {R : Type} (A : Ar) (n : Nat) (kk : AV → Heap → Option R) (lg38L10 : Nat → Int → List Nat → List Nat → Option R) (x0 : Nat) (x1 : Int) (x2 x3 : List Nat) : Option R :=
  match (generalizing := false) A.neg x1 with
  | true => none
  | false => match (generalizing := false) A.lt (A.toN x1) 5 with
    | true => match (generalizing := false) A.neg x1 with
      | true => none
      | false => match (generalizing := false) A.lt (A.toN x1) 5 with
        | true => match (generalizing := false) A.neg x1 with
          | true => none
          | false => match (generalizing := false) A.lt (A.toN x1) 5 with
            | true => match (generalizing := false) A.neg x1 with
              | true => none
              | false => match (generalizing := false) A.lt (A.toN x1) 5 with
                | true => match (generalizing := false) A.neg x1 with
                  | true => none
                  | false => match (generalizing := false) A.lt (A.toN x1) 5 with
                    | true => lg38L10 (A.nsh .shr .u64 ((x2.set (A.toN x1) (A.nb .add .u64 (x2.getD (A.toN x1) 0) x0)).getD (A.toN x1) 0) 51) (A.ib .add .i64 x1 1) ((x2.set (A.toN x1) (A.nb .add .u64 (x2.getD (A.toN x1) 0) x0)).set (A.toN x1) (A.nb .and .u64 ((x2.set (A.toN x1) (A.nb .add .u64 (x2.getD (A.toN x1) 0) x0)).getD (A.toN x1) 0) 2251799813685247)) x3
                    | false => none
                | false => none
            | false => none
        | false => none
    | false => none
set_option maxRecDepth 100000 in
theorem g38J11_eq {R : Type} (A : Ar) (n : Nat) (kk : AV → Heap → Option R) (m0 : Nat) (lg38L10 : Nat → Int → List Nat → List Nat → Option R) 
    (hg38L10 : ∀ (s : St) (x0 : Nat) (x1 : Int) (x2 x3 : List Nat), keep g38an 10 s = ⟨[(1, (pT 1000 0)), (2, (pT 1001 0)), (5, (u64v x0)), (30, (i6 x1))], [(1000, (bU 5 x2 44)), (1001, (bU 4 x3 24))]⟩ → g38V A n (pth 1215) m0 (blockK 2 (g38Q A n (pth 255) (g38T kk))) s = lg38L10 x0 x1 x2 x3) (s : St) (x0 : Nat) (x1 : Int) (x2 x3 : List Nat) (h : keep g38an 11 s = ⟨[(1, (pT 1000 0)), (2, (pT 1001 0)), (5, (u64v x0)), (30, (i6 x1))], [(1000, (bU 5 x2 44)), (1001, (bU 4 x3 24))]⟩) :
    g38D A n (pth 7359) (g38W A n (pth 1215) m0 (blockK 2 (g38Q A n (pth 255) (g38T kk)))) s = g38J11 A n kk lg38L10 x0 x1 x2 x3 := by
  have h11 := (g38Wn A n _ _ _ _).trans (hg38L10 ⟨[(30, (i6 (A.ib .add .i64 x1 1))), (48, (i6 (A.ib .add .i64 x1 1))), (1, (pT 1000 0)), (2, (pT 1001 0)), (5, (u64v (A.nsh .shr .u64 ((x2.set (A.toN x1) (A.nb .add .u64 (x2.getD (A.toN x1) 0) x0)).getD (A.toN x1) 0) 51))), (30, (i6 x1))], [(1000, (bU 5 ((x2.set (A.toN x1) (A.nb .add .u64 (x2.getD (A.toN x1) 0) x0)).set (A.toN x1) (A.nb .and .u64 ((x2.set (A.toN x1) (A.nb .add .u64 (x2.getD (A.toN x1) 0) x0)).getD (A.toN x1) 0) 2251799813685247)) 44)), (1001, (bU 4 x3 24))]⟩ (A.nsh .shr .u64 ((x2.set (A.toN x1) (A.nb .add .u64 (x2.getD (A.toN x1) 0) x0)).getD (A.toN x1) 0) 51) (A.ib .add .i64 x1 1) ((x2.set (A.toN x1) (A.nb .add .u64 (x2.getD (A.toN x1) 0) x0)).set (A.toN x1) (A.nb .and .u64 ((x2.set (A.toN x1) (A.nb .add .u64 (x2.getD (A.toN x1) 0) x0)).getD (A.toN x1) 0) 2251799813685247)) x3 (by kernel_rfl))
  have h9 := g38R15 A n (g38W A n (pth 1215) m0 (blockK 2 (g38Q A n (pth 255) (g38T kk)))) (A.nsh .shr .u64 ((x2.set (A.toN x1) (A.nb .add .u64 (x2.getD (A.toN x1) 0) x0)).getD (A.toN x1) 0) 51) x1 ((x2.set (A.toN x1) (A.nb .add .u64 (x2.getD (A.toN x1) 0) x0)).set (A.toN x1) (A.nb .and .u64 ((x2.set (A.toN x1) (A.nb .add .u64 (x2.getD (A.toN x1) 0) x0)).getD (A.toN x1) 0) 2251799813685247)) x3
  have h12 := (g38p1111110100111 A n _ ⟨[(47, (.v (.cell (.ptr 1000 0 (some ⟨A.toN x1, 1, 5, 0, 0, 0⟩))))), (46, (u64v (A.nb .and .u64 ((x2.set (A.toN x1) (A.nb .add .u64 (x2.getD (A.toN x1) 0) x0)).getD (A.toN x1) 0) 2251799813685247))), (45, (u64v ((x2.set (A.toN x1) (A.nb .add .u64 (x2.getD (A.toN x1) 0) x0)).getD (A.toN x1) 0))), (44, (.v (.cell (.ptr 1000 0 (some ⟨A.toN x1, 1, 5, 0, 0, 0⟩))))), (43, (i6 x1)), (1, (pT 1000 0)), (2, (pT 1001 0)), (5, (u64v (A.nsh .shr .u64 ((x2.set (A.toN x1) (A.nb .add .u64 (x2.getD (A.toN x1) 0) x0)).getD (A.toN x1) 0) 51))), (6, (i6 x1)), (30, (i6 x1))], [(1000, (bU 5 ((x2.set (A.toN x1) (A.nb .add .u64 (x2.getD (A.toN x1) 0) x0)).set (A.toN x1) (A.nb .and .u64 ((x2.set (A.toN x1) (A.nb .add .u64 (x2.getD (A.toN x1) 0) x0)).getD (A.toN x1) 0) 2251799813685247)) 44)), (1001, (bU 4 x3 24))]⟩ _ (by kernel_rfl)).trans h9
  rw [h11] at h12
  have h13 := (g38Qn A n _ _ _).trans h12
  have h14 := (blockK_n 3 _ _).trans h13
  have h7 := g38R14 A n (blockK 3 (g38Q A n (pth 15551) (g38W A n (pth 1215) m0 (blockK 2 (g38Q A n (pth 255) (g38T kk)))))) (A.nsh .shr .u64 ((x2.set (A.toN x1) (A.nb .add .u64 (x2.getD (A.toN x1) 0) x0)).getD (A.toN x1) 0) 51) x1 x1 (x2.set (A.toN x1) (A.nb .add .u64 (x2.getD (A.toN x1) 0) x0)) x3
  have h15 := (g38p11111101001100111 A n _ ⟨[(5, (u64v (A.nsh .shr .u64 ((x2.set (A.toN x1) (A.nb .add .u64 (x2.getD (A.toN x1) 0) x0)).getD (A.toN x1) 0) 51))), (42, (u64v (A.nsh .shr .u64 ((x2.set (A.toN x1) (A.nb .add .u64 (x2.getD (A.toN x1) 0) x0)).getD (A.toN x1) 0) 51))), (41, (u64v ((x2.set (A.toN x1) (A.nb .add .u64 (x2.getD (A.toN x1) 0) x0)).getD (A.toN x1) 0))), (40, (.v (.cell (.ptr 1000 0 (some ⟨A.toN x1, 1, 5, 0, 0, 0⟩))))), (39, (i6 x1)), (1, (pT 1000 0)), (2, (pT 1001 0)), (6, (i6 x1)), (30, (i6 x1))], [(1000, (bU 5 (x2.set (A.toN x1) (A.nb .add .u64 (x2.getD (A.toN x1) 0) x0)) 44)), (1001, (bU 4 x3 24))]⟩ _ (by kernel_rfl)).trans h7
  rw [h14] at h15
  have h16 := (g38Qn A n _ _ _).trans h15
  have h5 := g38R13 A n (g38Q A n (pth 249023) (blockK 3 (g38Q A n (pth 15551) (g38W A n (pth 1215) m0 (blockK 2 (g38Q A n (pth 255) (g38T kk))))))) x1 x1 (x2.set (A.toN x1) (A.nb .add .u64 (x2.getD (A.toN x1) 0) x0)) x3
  have h17 := (g38p11111101001100110 A n _ ⟨[(38, (.v (.cell (.ptr 1000 0 (some ⟨A.toN x1, 1, 5, 0, 0, 0⟩))))), (37, (u64v (A.nb .add .u64 (x2.getD (A.toN x1) 0) x0))), (36, (u64v x0)), (35, (u64v (x2.getD (A.toN x1) 0))), (34, (.v (.cell (.ptr 1000 0 (some ⟨A.toN x1, 1, 5, 0, 0, 0⟩))))), (33, (i6 x1)), (1, (pT 1000 0)), (2, (pT 1001 0)), (5, (u64v x0)), (6, (i6 x1)), (30, (i6 x1))], [(1000, (bU 5 (x2.set (A.toN x1) (A.nb .add .u64 (x2.getD (A.toN x1) 0) x0)) 44)), (1001, (bU 4 x3 24))]⟩ _ (by kernel_rfl)).trans h5
  rw [h16] at h17
  have h18 := (g38p1111110100110011 A n _ _).trans h17
  have h19 := (g38Qn A n _ _ _).trans h18
  have h3 := g38R12 A n (g38Q A n (pth 117951) (blockK 3 (g38Q A n (pth 15551) (g38W A n (pth 1215) m0 (blockK 2 (g38Q A n (pth 255) (g38T kk))))))) x0 x1 x1 x2 x3
  have h20 := (g38p1111110100110010 A n _ ⟨[(6, (i6 x1)), (32, (i6 x1)), (1, (pT 1000 0)), (2, (pT 1001 0)), (5, (u64v x0)), (30, (i6 x1))], [(1000, (bU 5 x2 44)), (1001, (bU 4 x3 24))]⟩ _ (by kernel_rfl)).trans h3
  rw [h19] at h20
  have h21 := (g38p111111010011001 A n _ _).trans h20
  have h22 := (g38Qn A n _ _ _).trans h21
  have h1 := g38R11 A n (g38Q A n (pth 52415) (blockK 3 (g38Q A n (pth 15551) (g38W A n (pth 1215) m0 (blockK 2 (g38Q A n (pth 255) (g38T kk))))))) x0 x1 x2 x3
  have h23 := (g38p111111010011000 A n _ ⟨[(1, (pT 1000 0)), (2, (pT 1001 0)), (5, (u64v x0)), (30, (i6 x1))], [(1000, (bU 5 x2 44)), (1001, (bU 4 x3 24))]⟩ _ (by kernel_rfl)).trans h1
  rw [h22] at h23
  have h24 := (g38p11111101001100 A n _ _).trans h23
  have h25 := (g38p1111110100110 A n _ _).trans h24
  have h26 := (g38p111111010011 A n _ _).trans h25
  exact (codeD_first (s' := ⟨[(1, (pT 1000 0)), (2, (pT 1001 0)), (5, (u64v x0)), (30, (i6 x1))], [(1000, (bU 5 x2 44)), (1001, (bU 4 x3 24))]⟩) (id := 11) (by kernel_rfl) (h.trans (by kernel_rfl)) _).trans (h26.trans (by kernel_rfl))
def g38J16 {R : Type} (A : Ar) (n : Nat) (kk : AV → Heap → Option R)  (x0 x1 : List Nat) : Option R :=
  kk (aN .u64 4 (((([0, 0, 0, 0].set 0 (A.nb .or .u64 (x0.getD 0 0) (A.nsh .shl .u64 (x0.getD 1 0) 51))).set 1 (A.nb .or .u64 (A.nsh .shr .u64 (x0.getD 1 0) 13) (A.nsh .shl .u64 (x0.getD 2 0) 38))).set 2 (A.nb .or .u64 (A.nsh .shr .u64 (x0.getD 2 0) 26) (A.nsh .shl .u64 (x0.getD 3 0) 25))).set 3 (A.nb .or .u64 (A.nsh .shr .u64 (x0.getD 3 0) 39) (A.nsh .shl .u64 (x0.getD 4 0) 12)))) [(1000, (bU 5 x0 44)), (1001, (bU 4 (((([0, 0, 0, 0].set 0 (A.nb .or .u64 (x0.getD 0 0) (A.nsh .shl .u64 (x0.getD 1 0) 51))).set 1 (A.nb .or .u64 (A.nsh .shr .u64 (x0.getD 1 0) 13) (A.nsh .shl .u64 (x0.getD 2 0) 38))).set 2 (A.nb .or .u64 (A.nsh .shr .u64 (x0.getD 2 0) 26) (A.nsh .shl .u64 (x0.getD 3 0) 25))).set 3 (A.nb .or .u64 (A.nsh .shr .u64 (x0.getD 3 0) 39) (A.nsh .shl .u64 (x0.getD 4 0) 12))) 24))]
set_option maxRecDepth 100000 in
theorem g38J16_eq {R : Type} (A : Ar) (n : Nat) (kk : AV → Heap → Option R)    (s : St) (x0 x1 : List Nat) (h : keep g38an 16 s = ⟨[(1, (pT 1000 0)), (2, (pT 1001 0))], [(1000, (bU 5 x0 44)), (1001, (bU 4 x1 24))]⟩) :
    g38D A n (pth 255) (g38T kk) s = g38J16 A n kk  x0 x1 := by
  have h3 : (g38T kk) .ret ⟨[(76, (aN .u64 4 (((([0, 0, 0, 0].set 0 (A.nb .or .u64 (x0.getD 0 0) (A.nsh .shl .u64 (x0.getD 1 0) 51))).set 1 (A.nb .or .u64 (A.nsh .shr .u64 (x0.getD 1 0) 13) (A.nsh .shl .u64 (x0.getD 2 0) 38))).set 2 (A.nb .or .u64 (A.nsh .shr .u64 (x0.getD 2 0) 26) (A.nsh .shl .u64 (x0.getD 3 0) 25))).set 3 (A.nb .or .u64 (A.nsh .shr .u64 (x0.getD 3 0) 39) (A.nsh .shl .u64 (x0.getD 4 0) 12))))), (75, (u64v (A.nb .or .u64 (A.nsh .shr .u64 (x0.getD 3 0) 39) (A.nsh .shl .u64 (x0.getD 4 0) 12)))), (74, (u64v (A.nsh .shl .u64 (x0.getD 4 0) 12))), (73, (u64v (x0.getD 4 0))), (72, (pT 1000 4)), (71, (u64v (A.nsh .shr .u64 (x0.getD 3 0) 39))), (70, (u64v (x0.getD 3 0))), (69, (pT 1000 3)), (68, (u64v (A.nb .or .u64 (A.nsh .shr .u64 (x0.getD 2 0) 26) (A.nsh .shl .u64 (x0.getD 3 0) 25)))), (67, (u64v (A.nsh .shl .u64 (x0.getD 3 0) 25))), (66, (u64v (x0.getD 3 0))), (65, (pT 1000 3)), (64, (u64v (A.nsh .shr .u64 (x0.getD 2 0) 26))), (63, (u64v (x0.getD 2 0))), (62, (pT 1000 2)), (61, (u64v (A.nb .or .u64 (A.nsh .shr .u64 (x0.getD 1 0) 13) (A.nsh .shl .u64 (x0.getD 2 0) 38)))), (60, (u64v (A.nsh .shl .u64 (x0.getD 2 0) 38))), (59, (u64v (x0.getD 2 0))), (58, (pT 1000 2)), (57, (u64v (A.nsh .shr .u64 (x0.getD 1 0) 13))), (56, (u64v (x0.getD 1 0))), (55, (pT 1000 1)), (54, (u64v (A.nb .or .u64 (x0.getD 0 0) (A.nsh .shl .u64 (x0.getD 1 0) 51)))), (53, (u64v (A.nsh .shl .u64 (x0.getD 1 0) 51))), (52, (u64v (x0.getD 1 0))), (51, (pT 1000 1)), (50, (u64v (x0.getD 0 0))), (49, (pT 1000 0)), (1, (pT 1000 0)), (2, (pT 1001 0))], [(1000, (bU 5 x0 44)), (1001, (bU 4 (((([0, 0, 0, 0].set 0 (A.nb .or .u64 (x0.getD 0 0) (A.nsh .shl .u64 (x0.getD 1 0) 51))).set 1 (A.nb .or .u64 (A.nsh .shr .u64 (x0.getD 1 0) 13) (A.nsh .shl .u64 (x0.getD 2 0) 38))).set 2 (A.nb .or .u64 (A.nsh .shr .u64 (x0.getD 2 0) 26) (A.nsh .shl .u64 (x0.getD 3 0) 25))).set 3 (A.nb .or .u64 (A.nsh .shr .u64 (x0.getD 3 0) 39) (A.nsh .shl .u64 (x0.getD 4 0) 12))) 24))]⟩ = kk (aN .u64 4 (((([0, 0, 0, 0].set 0 (A.nb .or .u64 (x0.getD 0 0) (A.nsh .shl .u64 (x0.getD 1 0) 51))).set 1 (A.nb .or .u64 (A.nsh .shr .u64 (x0.getD 1 0) 13) (A.nsh .shl .u64 (x0.getD 2 0) 38))).set 2 (A.nb .or .u64 (A.nsh .shr .u64 (x0.getD 2 0) 26) (A.nsh .shl .u64 (x0.getD 3 0) 25))).set 3 (A.nb .or .u64 (A.nsh .shr .u64 (x0.getD 3 0) 39) (A.nsh .shl .u64 (x0.getD 4 0) 12)))) [(1000, (bU 5 x0 44)), (1001, (bU 4 (((([0, 0, 0, 0].set 0 (A.nb .or .u64 (x0.getD 0 0) (A.nsh .shl .u64 (x0.getD 1 0) 51))).set 1 (A.nb .or .u64 (A.nsh .shr .u64 (x0.getD 1 0) 13) (A.nsh .shl .u64 (x0.getD 2 0) 38))).set 2 (A.nb .or .u64 (A.nsh .shr .u64 (x0.getD 2 0) 26) (A.nsh .shl .u64 (x0.getD 3 0) 25))).set 3 (A.nb .or .u64 (A.nsh .shr .u64 (x0.getD 3 0) 39) (A.nsh .shl .u64 (x0.getD 4 0) 12))) 24))] := by kernel_rfl
  have h4 := (g38p11111111 A n _ _).trans h3
  have h5 := (g38Qn A n _ _ _).trans h4
  have h1 := g38R16 A n (g38Q A n (pth 511) (g38T kk)) x0 x1
  have h6 := (g38p11111110 A n _ ⟨[(1, (pT 1000 0)), (2, (pT 1001 0))], [(1000, (bU 5 x0 44)), (1001, (bU 4 x1 24))]⟩ _ (by kernel_rfl)).trans h1
  rw [h5] at h6
  have h7 := (g38p1111111 A n _ _).trans h6
  exact (codeD_first (s' := ⟨[(1, (pT 1000 0)), (2, (pT 1001 0))], [(1000, (bU 5 x0 44)), (1001, (bU 4 x1 24))]⟩) (id := 16) (by kernel_rfl) (h.trans (by kernel_rfl)) _).trans (h7.trans (by kernel_rfl))
def g38L10 {R : Type} (A : Ar) (n : Nat) (kk : AV → Heap → Option R)  : Nat → Nat → Int → List Nat → List Nat → Option R
  | 0, _, _, _, _ => none
  | m + 1, x0, x1, x2, x3 => match (generalizing := false) A.ic .lss x1 5 with
  | true => g38J11 A n kk (g38L10 A n kk  m) x0 x1 x2 x3
  | false => g38J16 A n kk  x2 x3
set_option maxRecDepth 100000 in
theorem g38L10_eq {R : Type} (A : Ar) (n : Nat) (kk : AV → Heap → Option R)    (m : Nat) (s : St) (x0 : Nat) (x1 : Int) (x2 x3 : List Nat) (h : keep g38an 10 s = ⟨[(1, (pT 1000 0)), (2, (pT 1001 0)), (5, (u64v x0)), (30, (i6 x1))], [(1000, (bU 5 x2 44)), (1001, (bU 4 x3 24))]⟩) :
    g38V A n (pth 1215) m (blockK 2 (g38Q A n (pth 255) (g38T kk))) s = g38L10 A n kk  m x0 x1 x2 x3 := by
  induction m generalizing s x0 x1 x2 x3 with
  | zero => rfl
  | succ m ih =>
    have h3 := (g38Qn A n _ _ _).trans (g38J11_eq A n kk m (g38L10 A n kk  m) ih  ⟨[(31, (bO (A.ic .lss x1 5))), (1, (pT 1000 0)), (2, (pT 1001 0)), (5, (u64v x0)), (30, (i6 x1))], [(1000, (bU 5 x2 44)), (1001, (bU 4 x3 24))]⟩ x0 x1 x2 x3 (by kernel_rfl))
    have h4 := (g38p1111110100100 A n _ _).trans h3
    have h5 := (g38Qn A n _ _ _).trans (g38J16_eq A n kk     ⟨[(31, (bO (A.ic .lss x1 5))), (1, (pT 1000 0)), (2, (pT 1001 0)), (5, (u64v x0)), (30, (i6 x1))], [(1000, (bU 5 x2 44)), (1001, (bU 4 x3 24))]⟩ x2 x3 (by kernel_rfl))
    have h6 := (blockK_hit 2 _ _).trans h5
    have h7 := (g38We A n (pth 1215) m _ _ _).trans h6
    have h8 := (g38Qe A n (pth 7359) _ _ _).trans h7
    have h9 := (g38p1111110100101 A n _ _).trans h8
    have h10 := g38p111111010010 A n (g38Q A n (pth 7359) (g38W A n (pth 1215) m (blockK 2 (g38Q A n (pth 255) (g38T kk))))) ⟨[(31, (bO (A.ic .lss x1 5))), (1, (pT 1000 0)), (2, (pT 1001 0)), (5, (u64v x0)), (30, (i6 x1))], [(1000, (bU 5 x2 44)), (1001, (bU 4 x3 24))]⟩ (A.ic .lss x1 5) (by kernel_rfl)
    rw [h4, h9] at h10
    have h11 := (g38p11111101001 A n _ _).trans h10
    have h12 := (g38Qn A n _ _ _).trans h11
    have h1 := g38R10 A n (g38Q A n (pth 3263) (g38W A n (pth 1215) m (blockK 2 (g38Q A n (pth 255) (g38T kk))))) x0 x1 x2 x3
    have h13 := (g38p11111101000 A n _ ⟨[(1, (pT 1000 0)), (2, (pT 1001 0)), (5, (u64v x0)), (30, (i6 x1))], [(1000, (bU 5 x2 44)), (1001, (bU 4 x3 24))]⟩ _ (by kernel_rfl)).trans h1
    rw [h12] at h13
    have h14 := (g38p1111110100 A n _ _).trans h13
    exact (loopD_first (s' := ⟨[(1, (pT 1000 0)), (2, (pT 1001 0)), (5, (u64v x0)), (30, (i6 x1))], [(1000, (bU 5 x2 44)), (1001, (bU 4 x3 24))]⟩) (id := 10) (by kernel_rfl) (h.trans (by kernel_rfl)) _).trans ((g38Vs A n _ m _ _).trans (h14.trans (by kernel_rfl)))
def g38J7 {R : Type} (A : Ar) (n : Nat) (kk : AV → Heap → Option R)  (x0 : Nat) (x1 x2 : List Nat) : Option R :=
  g38L10 A n kk  n 0 0 (x1.set 0 (A.nb .add .u64 (x1.getD 0 0) (A.nb .mul .u64 19 x0))) x2
set_option maxRecDepth 100000 in
theorem g38J7_eq {R : Type} (A : Ar) (n : Nat) (kk : AV → Heap → Option R)    (s : St) (x0 : Nat) (x1 x2 : List Nat) (h : keep g38an 7 s = ⟨[(1, (pT 1000 0)), (2, (pT 1001 0)), (3, (u64v x0))], [(1000, (bU 5 x1 44)), (1001, (bU 4 x2 24))]⟩) :
    g38D A n (pth 31) (g38T kk) s = g38J7 A n kk  x0 x1 x2 := by
  have h7 := (g38p111111010 A n _ _).trans (g38L10_eq A n kk    n ⟨[(30, (i6 0)), (1, (pT 1000 0)), (2, (pT 1001 0)), (5, (u64v 0))], [(1000, (bU 5 (x1.set 0 (A.nb .add .u64 (x1.getD 0 0) (A.nb .mul .u64 19 x0))) 44)), (1001, (bU 4 x2 24))]⟩ 0 0 (x1.set 0 (A.nb .add .u64 (x1.getD 0 0) (A.nb .mul .u64 19 x0))) x2 (by kernel_rfl))
  have h8 := (g38p11111101 A n _ _).trans h7
  have h9 := (g38Qn A n _ _ _).trans h8
  have h5 := g38R9 A n (g38Q A n (pth 447) (g38Q A n (pth 255) (g38T kk))) 0 (x1.set 0 (A.nb .add .u64 (x1.getD 0 0) (A.nb .mul .u64 19 x0))) x2
  have h10 := (g38p11111100 A n _ ⟨[(5, (u64v 0)), (1, (pT 1000 0)), (2, (pT 1001 0))], [(1000, (bU 5 (x1.set 0 (A.nb .add .u64 (x1.getD 0 0) (A.nb .mul .u64 19 x0))) 44)), (1001, (bU 4 x2 24))]⟩ _ (by kernel_rfl)).trans h5
  rw [h9] at h10
  have h11 := (g38p1111110 A n _ _).trans h10
  have h12 := (g38p111111 A n _ _).trans h11
  have h13 := (g38Qn A n _ _ _).trans h12
  have h3 := g38R8 A n (g38Q A n (pth 127) (g38T kk)) (x1.set 0 (A.nb .add .u64 (x1.getD 0 0) (A.nb .mul .u64 19 x0))) x2
  have h14 := (g38p111110 A n _ ⟨[(29, (pT 1000 0)), (28, (u64v (A.nb .add .u64 (x1.getD 0 0) (A.nb .mul .u64 19 x0)))), (27, (u64v (A.nb .mul .u64 19 x0))), (26, (u64v x0)), (25, (u64v (x1.getD 0 0))), (24, (pT 1000 0)), (1, (pT 1000 0)), (2, (pT 1001 0)), (3, (u64v x0))], [(1000, (bU 5 (x1.set 0 (A.nb .add .u64 (x1.getD 0 0) (A.nb .mul .u64 19 x0))) 44)), (1001, (bU 4 x2 24))]⟩ _ (by kernel_rfl)).trans h3
  rw [h13] at h14
  have h15 := (g38p11111 A n _ _).trans h14
  have h16 := (g38Qn A n _ _ _).trans h15
  have h1 := g38R7 A n (g38Q A n (pth 63) (g38T kk)) x0 x1 x2
  have h17 := (g38p11110 A n _ ⟨[(1, (pT 1000 0)), (2, (pT 1001 0)), (3, (u64v x0))], [(1000, (bU 5 x1 44)), (1001, (bU 4 x2 24))]⟩ _ (by kernel_rfl)).trans h1
  rw [h16] at h17
  have h18 := (g38p1111 A n _ _).trans h17
  exact (codeD_first (s' := ⟨[(1, (pT 1000 0)), (2, (pT 1001 0)), (3, (u64v x0))], [(1000, (bU 5 x1 44)), (1001, (bU 4 x2 24))]⟩) (id := 7) (by kernel_rfl) (h.trans (by kernel_rfl)) _).trans (h18.trans (by kernel_rfl))
def g38L4 {R : Type} (A : Ar) (n : Nat) (kk : AV → Heap → Option R)  : Nat → Nat → Int → List Nat → List Nat → Option R
  | 0, _, _, _, _ => none
  | m + 1, x0, x1, x2, x3 => match (generalizing := false) A.ic .lss x1 5 with
  | true => g38J6 A n kk (g38L4 A n kk  m) x0 x1 x2 x3
  | false => g38J7 A n kk  x0 x2 x3
set_option maxRecDepth 100000 in
theorem g38L4_eq {R : Type} (A : Ar) (n : Nat) (kk : AV → Heap → Option R)    (m : Nat) (s : St) (x0 : Nat) (x1 : Int) (x2 x3 : List Nat) (h : keep g38an 4 s = ⟨[(1, (pT 1000 0)), (2, (pT 1001 0)), (3, (u64v x0)), (4, (i6 x1))], [(1000, (bU 5 x2 44)), (1001, (bU 4 x3 24))]⟩) :
    g38V A n (pth 151) m (blockK 0 (g38Q A n (pth 31) (g38T kk))) s = g38L4 A n kk  m x0 x1 x2 x3 := by
  induction m generalizing s x0 x1 x2 x3 with
  | zero => rfl
  | succ m ih =>
    have h3 := (g38Qn A n _ _ _).trans (g38J6_eq A n kk m (g38L4 A n kk  m) ih  ⟨[(15, (bO (A.ic .lss x1 5))), (14, (i6 x1)), (1, (pT 1000 0)), (2, (pT 1001 0)), (3, (u64v x0)), (4, (i6 x1))], [(1000, (bU 5 x2 44)), (1001, (bU 4 x3 24))]⟩ x0 x1 x2 x3 (by kernel_rfl))
    have h4 := (g38p1110100010 A n _ _).trans h3
    have h5 := (g38Qn A n _ _ _).trans (g38J7_eq A n kk     ⟨[(15, (bO (A.ic .lss x1 5))), (14, (i6 x1)), (1, (pT 1000 0)), (2, (pT 1001 0)), (3, (u64v x0)), (4, (i6 x1))], [(1000, (bU 5 x2 44)), (1001, (bU 4 x3 24))]⟩ x0 x2 x3 (by kernel_rfl))
    have h6 := (blockK_hit 0 _ _).trans h5
    have h7 := (g38We A n (pth 151) m _ _ _).trans h6
    have h8 := (g38Qe A n (pth 407) _ _ _).trans h7
    have h9 := (g38p1110100011 A n _ _).trans h8
    have h10 := g38p111010001 A n (g38Q A n (pth 407) (g38W A n (pth 151) m (blockK 0 (g38Q A n (pth 31) (g38T kk))))) ⟨[(15, (bO (A.ic .lss x1 5))), (14, (i6 x1)), (1, (pT 1000 0)), (2, (pT 1001 0)), (3, (u64v x0)), (4, (i6 x1))], [(1000, (bU 5 x2 44)), (1001, (bU 4 x3 24))]⟩ (A.ic .lss x1 5) (by kernel_rfl)
    rw [h4, h9] at h10
    have h11 := (g38Qn A n _ _ _).trans h10
    have h1 := g38R4 A n (g38Q A n (pth 791) (g38Q A n (pth 407) (g38W A n (pth 151) m (blockK 0 (g38Q A n (pth 31) (g38T kk)))))) x0 x1 x2 x3
    have h12 := (g38p111010000 A n _ ⟨[(1, (pT 1000 0)), (2, (pT 1001 0)), (3, (u64v x0)), (4, (i6 x1))], [(1000, (bU 5 x2 44)), (1001, (bU 4 x3 24))]⟩ _ (by kernel_rfl)).trans h1
    rw [h11] at h12
    have h13 := (g38p11101000 A n _ _).trans h12
    have h14 := (g38p1110100 A n _ _).trans h13
    exact (loopD_first (s' := ⟨[(1, (pT 1000 0)), (2, (pT 1001 0)), (3, (u64v x0)), (4, (i6 x1))], [(1000, (bU 5 x2 44)), (1001, (bU 4 x3 24))]⟩) (id := 4) (by kernel_rfl) (h.trans (by kernel_rfl)) _).trans ((g38Vs A n _ m _ _).trans (h14.trans (by kernel_rfl)))
def g38 {R : Type} (A : Ar) (n : Nat) (kk : AV → Heap → Option R) (a : List Nat) : Option R :=
  match (generalizing := false) g47ok A a with
  | true => match (generalizing := false) g47ok A (g47r0 A a) with
    | true => g38L4 A n kk  n (A.nsh .shr .u64 (A.nb .add .u64 ((g47r0 A (g47r0 A a)).getD 0 0) 19) 51) 1 (g47r0 A (g47r0 A a)) [0, 0, 0, 0]
    | false => none
  | false => none
set_option maxRecDepth 100000 in
theorem g38_eq {R : Type} (A : Ar) (n : Nat) (kk : AV → Heap → Option R) (a : List Nat) :
    funD A gtys (g38O A) g38an n (bodyOf Try.f38) g38res [(aN .u64 5 a)] [] kk = g38 A n kk a := by
  have h9 := (g38p111010 A n _ _).trans (g38L4_eq A n kk    n ⟨[(4, (i6 1)), (1, (pT 1000 0)), (2, (pT 1001 0)), (3, (u64v (A.nsh .shr .u64 (A.nb .add .u64 ((g47r0 A (g47r0 A a)).getD 0 0) 19) 51)))], [(1000, (bU 5 (g47r0 A (g47r0 A a)) 44)), (1001, (bU 4 [0, 0, 0, 0] 24))]⟩ (A.nsh .shr .u64 (A.nb .add .u64 ((g47r0 A (g47r0 A a)).getD 0 0) 19) 51) 1 (g47r0 A (g47r0 A a)) [0, 0, 0, 0] (by kernel_rfl))
  have h10 := (g38p11101 A n _ _).trans h9
  have h11 := (g38Qn A n _ _ _).trans h10
  have h7 := g38R3 A n (g38Q A n (pth 55) (g38Q A n (pth 31) (g38T kk))) (A.nsh .shr .u64 (A.nb .add .u64 ((g47r0 A (g47r0 A a)).getD 0 0) 19) 51) (g47r0 A (g47r0 A a)) [0, 0, 0, 0]
  have h12 := (g38p11100 A n _ ⟨[(3, (u64v (A.nsh .shr .u64 (A.nb .add .u64 ((g47r0 A (g47r0 A a)).getD 0 0) 19) 51))), (13, (u64v (A.nsh .shr .u64 (A.nb .add .u64 ((g47r0 A (g47r0 A a)).getD 0 0) 19) 51))), (12, (u64v (A.nb .add .u64 ((g47r0 A (g47r0 A a)).getD 0 0) 19))), (11, (u64v ((g47r0 A (g47r0 A a)).getD 0 0))), (10, (pT 1000 0)), (1, (pT 1000 0)), (2, (pT 1001 0))], [(1000, (bU 5 (g47r0 A (g47r0 A a)) 44)), (1001, (bU 4 [0, 0, 0, 0] 24))]⟩ _ (by kernel_rfl)).trans h7
  rw [h11] at h12
  have h13 := (g38p1110 A n _ _).trans h12
  have h14 := (g38p111 A n _ _).trans h13
  have h15 := (g38Qn A n _ _ _).trans h14
  have h5 := g38R2 A n (g38Q A n (pth 15) (g38T kk)) (g47r0 A (g47r0 A a)) [0, 0, 0, 0]
  have h16 := (g38p110 A n _ ⟨[(9, (aN .u64 5 (g47r0 A (g47r0 A a)))), (8, (aN .u64 5 (g47r0 A a))), (7, (aN .u64 5 a)), (1, (pT 1000 0)), (2, (pT 1001 0))], [(1000, (bU 5 (g47r0 A (g47r0 A a)) 44)), (1001, (bU 4 [0, 0, 0, 0] 24))]⟩ _ (by kernel_rfl)).trans h5
  rw [h15] at h16
  have h17 := (g38p11 A n _ _).trans h16
  have h18 := (g38Qn A n _ _ _).trans h17
  have h3 := g38R1 A n (g38Q A n (pth 7) (g38T kk)) a [0, 0, 0, 0]
  have h19 := (g38p10 A n _ ⟨[(2, (pT 1001 0)), (1, (pT 1000 0)), (0, (aN .u64 5 a))], [(1001, (bU 4 [0, 0, 0, 0] 24)), (1000, (bU 5 a 44))]⟩ _ (by kernel_rfl)).trans h3
  rw [h18] at h19
  have h20 := (g38p1 A n _ _).trans h19
  have h21 := (g38Qn A n _ _ _).trans h20
  have h1 := g38R0 A n (g38Q A n (pth 3) (g38T kk)) a
  have h22 := (g38p0 A n _ ⟨[(0, (aN .u64 5 a))], []⟩ _ (by kernel_rfl)).trans h1
  rw [h21] at h22
  have h23 := (g38p A n _ _).trans h22
  exact (show funD A gtys (g38O A) g38an n (bodyOf Try.f38) g38res [(aN .u64 5 a)] [] kk = g38D A n (pth 1) (g38T kk) ⟨[(0, (aN .u64 5 a))], []⟩ from by kernel_rfl).trans (h23.trans (by kernel_rfl))
def g38is (o : Option AV) : Bool := match o with
  | some (aN .u64 4 _) => true
  | _ => false
def g38g0 (o : Option AV) : List Nat := match o with
  | some (aN .u64 4 x) => x
  | _ => []
theorem g38is_spec {o : Option AV} (h : g38is o = true) : o = some (aN .u64 4 (g38g0 o)) := by
  unfold g38is at h
  split at h
  · rfl
  · cases h
def g38v (A : Ar) (a : List Nat) : Option AV := g38 A (100000) (fun v _ => some v) a
def g38ok (A : Ar) (a : List Nat) : Bool := g38is (g38v A a)
def g38r0 (A : Ar) (a : List Nat) : List Nat := g38g0 (g38v A a)
theorem g38ok_spec {A : Ar} {a} (h : g38ok A a = true) : g38v A a = some (aN .u64 4 (g38r0 A a)) := g38is_spec h
def g38o (A : Ar) (args : List AV) : Option (Bool × AV) := match args with
  | [.v (.agg [.nums .u64 n0 a])] => some (Nat.beq n0 5 && (g38ok A a), .v (.agg [.nums .u64 4 (g38r0 A a)]))
  | _ => none
theorem g38o_sound : ∀ args v, g38o realA args = some (true, v) → Fn1 Try.prog 38 args v := by
  intro args v h
  unfold g38o at h
  split at h
  · rename_i n0 a
    simp only [Option.some.injEq, Prod.mk.injEq] at h
    obtain ⟨hc, h⟩ := h
    subst h
    · skip
      simp only [Bool.and_eq_true] at hc
      have en0 := beq_true hc.1
      subst en0
      replace hc := hc.2
      exact fn1_of mixed gtysOK g38O_sound g38O_det (an := g38an) (n := 100000) Try.func38 (c := bodyOf Try.f38) rfl (by kernel_rfl) Try.call38 (Nat.le_of_ble_eq_true rfl) (fun b => rfl) (fun _ => (g38_eq realA (100000) (fun v _ => some v) a).trans (show g38v realA a = _ from g38ok_spec hc))
  · cases h
/- engrosser/field.Mul -/
def g16O (A : Ar) : Orc := orcOf [(37, g37o A), (42, g42o A), (38, g38o A)]
theorem g16O_sound : OSound Try.prog (g16O realA) := orc_sound fun f g hm args v hv => by
  simp only [List.mem_cons, List.not_mem_nil, or_false, Prod.mk.injEq] at hm
  rcases hm with ⟨rfl, rfl⟩ | ⟨rfl, rfl⟩ | ⟨rfl, rfl⟩
  · exact g37o_sound _ _ hv
  · exact g42o_sound _ _ hv
  · exact g38o_sound _ _ hv
theorem g16O_det : ODet (g16O realA) := orc_det _
def g16an : Ann := [(0, ([0, 1], [])), (1, ([2, 3, 4], [1000, 1001, 1002]))]
def g16res : List ResultVar := [.cell 4 24]
noncomputable def g16D {R : Type} (A : Ar) (n : Nat) (p : List Bool) (K : Ex → St → Option R) (s : St) : Option R := codeD A gtys (g16O A) g16an n (sub (bodyOf Try.f16) p) K s
noncomputable def g16Q {R : Type} (A : Ar) (n : Nat) (p : List Bool) (K : Ex → St → Option R) : Ex → St → Option R := seqC (g16D A n p K) K
noncomputable def g16T {R : Type} (kk : AV → Heap → Option R) : Ex → St → Option R := finD gtys g16res kk
theorem g16Qn {R : Type} (A : Ar) (n : Nat) (p : List Bool) (K : Ex → St → Option R) (s : St) : g16Q A n p K .normal s = g16D A n p K s := rfl
section
variable {R : Type} (A : Ar) (n : Nat) (K : Ex → St → Option R) (s : St)
theorem g16p : g16D A n (pth 1) K s = g16D A n (pth 2) (g16Q A n (pth 3) K) s := by kernel_rfl
theorem g16p0 (s' : St) (h : keep g16an 0 s = keep g16an 0 s') : g16D A n (pth 2) K s = g16D A n (pth 2) K s' := codeD_first (id := 0) (by kernel_rfl) h K
theorem g16p1 : g16D A n (pth 3) K s = g16D A n (pth 5) (g16Q A n (pth 7) K) s := by kernel_rfl
theorem g16p10 (s' : St) (h : keep g16an 1 s = keep g16an 1 s') : g16D A n (pth 5) K s = g16D A n (pth 5) K s' := codeD_first (id := 1) (by kernel_rfl) h K
theorem g16p11 : g16D A n (pth 7) K s = K .ret s := by kernel_rfl
theorem g16R0 (x0 x1 : List Nat) : g16D A n (pth 2) K ⟨[(0, (aN .u64 4 x0)), (1, (aN .u64 4 x1))], []⟩ = K .normal ⟨[(4, (pT 1002 0)), (3, (pT 1001 0)), (2, (pT 1000 0)), (0, (aN .u64 4 x0)), (1, (aN .u64 4 x1))], [(1002, (bU 4 [0, 0, 0, 0] 24)), (1001, (bU 4 x1 24)), (1000, (bU 4 x0 24))]⟩ := by kernel_rfl
theorem g16R1 (x0 x1 x2 : List Nat) : g16D A n (pth 5) K ⟨[(2, (pT 1000 0)), (3, (pT 1001 0)), (4, (pT 1002 0))], [(1000, (bU 4 x0 24)), (1001, (bU 4 x1 24)), (1002, (bU 4 x2 24))]⟩ = match (generalizing := false) g37ok A x0 with
    | true => match (generalizing := false) g37ok A x1 with
      | true => match (generalizing := false) g42ok A (g37r0 A x0) (g37r0 A x1) with
        | true => match (generalizing := false) g38ok A (g42r0 A (g37r0 A x0) (g37r0 A x1)) with
          | true => K .normal ⟨[(10, (aN .u64 4 (g38r0 A (g42r0 A (g37r0 A x0) (g37r0 A x1))))), (9, (aN .u64 5 (g42r0 A (g37r0 A x0) (g37r0 A x1)))), (8, (aN .u64 5 (g37r0 A x1))), (7, (aN .u64 4 x1)), (6, (aN .u64 5 (g37r0 A x0))), (5, (aN .u64 4 x0)), (2, (pT 1000 0)), (3, (pT 1001 0)), (4, (pT 1002 0))], [(1000, (bU 4 x0 24)), (1001, (bU 4 x1 24)), (1002, (bU 4 (g38r0 A (g42r0 A (g37r0 A x0) (g37r0 A x1))) 24))]⟩
          | false => none
        | false => none
      | false => none
    | false => none := by kernel_rfl
end
def g16 {R : Type} (A : Ar) (n : Nat) (kk : AV → Heap → Option R) (a b : List Nat) : Option R :=
  match (generalizing := false) g37ok A a with
  | true => match (generalizing := false) g37ok A b with
    | true => match (generalizing := false) g42ok A (g37r0 A a) (g37r0 A b) with
      | true => match (generalizing := false) g38ok A (g42r0 A (g37r0 A a) (g37r0 A b)) with
        | true => kk (aN .u64 4 (g38r0 A (g42r0 A (g37r0 A a) (g37r0 A b)))) [(1000, (bU 4 a 24)), (1001, (bU 4 b 24)), (1002, (bU 4 (g38r0 A (g42r0 A (g37r0 A a) (g37r0 A b))) 24))]
        | false => none
      | false => none
    | false => none
  | false => none
set_option maxRecDepth 100000 in
theorem g16_eq {R : Type} (A : Ar) (n : Nat) (kk : AV → Heap → Option R) (a b : List Nat) :
    funD A gtys (g16O A) g16an n (bodyOf Try.f16) g16res [(aN .u64 4 a), (aN .u64 4 b)] [] kk = g16 A n kk a b := by
  have h5 : (g16T kk) .ret ⟨[(10, (aN .u64 4 (g38r0 A (g42r0 A (g37r0 A a) (g37r0 A b))))), (9, (aN .u64 5 (g42r0 A (g37r0 A a) (g37r0 A b)))), (8, (aN .u64 5 (g37r0 A b))), (7, (aN .u64 4 b)), (6, (aN .u64 5 (g37r0 A a))), (5, (aN .u64 4 a)), (2, (pT 1000 0)), (3, (pT 1001 0)), (4, (pT 1002 0))], [(1000, (bU 4 a 24)), (1001, (bU 4 b 24)), (1002, (bU 4 (g38r0 A (g42r0 A (g37r0 A a) (g37r0 A b))) 24))]⟩ = kk (aN .u64 4 (g38r0 A (g42r0 A (g37r0 A a) (g37r0 A b)))) [(1000, (bU 4 a 24)), (1001, (bU 4 b 24)), (1002, (bU 4 (g38r0 A (g42r0 A (g37r0 A a) (g37r0 A b))) 24))] := by kernel_rfl
  have h6 := (g16p11 A n _ _).trans h5
  have h7 := (g16Qn A n _ _ _).trans h6
  have h3 := g16R1 A n (g16Q A n (pth 7) (g16T kk)) a b [0, 0, 0, 0]
  have h8 := (g16p10 A n _ ⟨[(4, (pT 1002 0)), (3, (pT 1001 0)), (2, (pT 1000 0)), (0, (aN .u64 4 a)), (1, (aN .u64 4 b))], [(1002, (bU 4 [0, 0, 0, 0] 24)), (1001, (bU 4 b 24)), (1000, (bU 4 a 24))]⟩ _ (by kernel_rfl)).trans h3
  rw [h7] at h8
  have h9 := (g16p1 A n _ _).trans h8
  have h10 := (g16Qn A n _ _ _).trans h9
  have h1 := g16R0 A n (g16Q A n (pth 3) (g16T kk)) a b
  have h11 := (g16p0 A n _ ⟨[(0, (aN .u64 4 a)), (1, (aN .u64 4 b))], []⟩ _ (by kernel_rfl)).trans h1
  rw [h10] at h11
  have h12 := (g16p A n _ _).trans h11
  exact (show funD A gtys (g16O A) g16an n (bodyOf Try.f16) g16res [(aN .u64 4 a), (aN .u64 4 b)] [] kk = g16D A n (pth 1) (g16T kk) ⟨[(0, (aN .u64 4 a)), (1, (aN .u64 4 b))], []⟩ from by kernel_rfl).trans (h12.trans (by kernel_rfl))
def g16is (o : Option AV) : Bool := match o with
  | some (aN .u64 4 _) => true
  | _ => false
def g16g0 (o : Option AV) : List Nat := match o with
  | some (aN .u64 4 x) => x
  | _ => []
theorem g16is_spec {o : Option AV} (h : g16is o = true) : o = some (aN .u64 4 (g16g0 o)) := by
  unfold g16is at h
  split at h
  · rfl
  · cases h
def g16v (A : Ar) (a b : List Nat) : Option AV := g16 A (100000) (fun v _ => some v) a b
def g16ok (A : Ar) (a b : List Nat) : Bool := g16is (g16v A a b)
def g16r0 (A : Ar) (a b : List Nat) : List Nat := g16g0 (g16v A a b)
theorem g16ok_spec {A : Ar} {a b} (h : g16ok A a b = true) : g16v A a b = some (aN .u64 4 (g16r0 A a b)) := g16is_spec h
def g16o (A : Ar) (args : List AV) : Option (Bool × AV) := match args with
  | [.v (.agg [.nums .u64 n0 a]), .v (.agg [.nums .u64 n1 b])] => some (Nat.beq n0 4 && (Nat.beq n1 4 && (g16ok A a b)), .v (.agg [.nums .u64 4 (g16r0 A a b)]))
  | _ => none
theorem g16o_sound : ∀ args v, g16o realA args = some (true, v) → Fn1 Try.prog 16 args v := by
  intro args v h
  unfold g16o at h
  split at h
  · rename_i n0 a n1 b
    simp only [Option.some.injEq, Prod.mk.injEq] at h
    obtain ⟨hc, h⟩ := h
    subst h
    · skip
      simp only [Bool.and_eq_true] at hc
      have en0 := beq_true hc.1
      subst en0
      replace hc := hc.2
      have en1 := beq_true hc.1
      subst en1
      replace hc := hc.2
      exact fn1_of mixed gtysOK g16O_sound g16O_det (an := g16an) (n := 100000) Try.func16 (c := bodyOf Try.f16) rfl (by kernel_rfl) Try.call16 (Nat.le_of_ble_eq_true rfl) (fun b => rfl) (fun _ => (g16_eq realA (100000) (fun v _ => some v) a b).trans (show g16v realA a b = _ from g16ok_spec hc))
  · cases h
/- engrosser/field.power -/
def g46O (A : Ar) : Orc := orcOf [(42, g42o A)]
theorem g46O_sound : OSound Try.prog (g46O realA) := orc_sound fun f g hm args v hv => by
  simp only [List.mem_cons, List.not_mem_nil, or_false, Prod.mk.injEq] at hm
  rcases hm with ⟨rfl, rfl⟩
  · exact g42o_sound _ _ hv
theorem g46O_det : ODet (g46O realA) := orc_det _
def g46an : Ann := [(0, ([0, 1], [])), (1, ([2, 3, 4], [1000, 1001, 1002])), (2, ([2, 3, 4, 5], [1000, 1001, 1002, 2001])), (3, ([2, 3, 4, 5, 9, 10], [1000, 1001, 1002, 2001])), (4, ([2, 3, 4, 5, 9, 10], [1000, 1001, 1002, 2001])), (5, ([2, 3, 4, 5, 6, 7, 9, 10], [1000, 1001, 1002, 2001])), (6, ([2, 3, 4, 5, 6, 7, 9, 10, 14], [1000, 1001, 1002, 2001])), (7, ([2, 3, 4, 5, 6, 7, 9, 10, 14], [1000, 1001, 1002, 2001])), (8, ([2, 3, 4, 5, 6, 7, 9, 10, 14], [1000, 1001, 1002, 2001])), (9, ([2, 3, 4, 5, 6, 7, 9, 10, 14], [1000, 1001, 1002, 2001])), (10, ([2, 3, 4, 5, 6, 7, 9, 10, 14], [1000, 1001, 1002, 2001])), (11, ([2, 3, 4, 5, 6, 7, 9, 10, 14], [1000, 1001, 1002, 2001])), (12, ([2, 3, 4, 5, 9, 10], [1000, 1001, 1002, 2001])), (13, ([4, 5], [1002, 2001]))]
def g46res : List ResultVar := [.cell 4 44]
noncomputable def g46D {R : Type} (A : Ar) (n : Nat) (p : List Bool) (K : Ex → St → Option R) (s : St) : Option R := codeD A gtys (g46O A) g46an n (sub (bodyOf Try.f46) p) K s
noncomputable def g46V {R : Type} (A : Ar) (n : Nat) (p : List Bool) (m : Nat) (K : Ex → St → Option R) (s : St) : Option R := loopD (fun K' s'' => codeD A gtys (g46O A) g46an n (sub (bodyOf Try.f46) p) K' s'') m K s
noncomputable def g46Q {R : Type} (A : Ar) (n : Nat) (p : List Bool) (K : Ex → St → Option R) : Ex → St → Option R := seqC (g46D A n p K) K
noncomputable def g46W {R : Type} (A : Ar) (n : Nat) (p : List Bool) (m : Nat) (K : Ex → St → Option R) : Ex → St → Option R := seqC (g46V A n p m K) K
noncomputable def g46T {R : Type} (kk : AV → Heap → Option R) : Ex → St → Option R := finD gtys g46res kk
theorem g46Qn {R : Type} (A : Ar) (n : Nat) (p : List Bool) (K : Ex → St → Option R) (s : St) : g46Q A n p K .normal s = g46D A n p K s := rfl
theorem g46Qe {R : Type} (A : Ar) (n : Nat) (p : List Bool) (K : Ex → St → Option R) (i : Nat) (s : St) : g46Q A n p K (.exit i) s = K (.exit i) s := rfl
theorem g46Wn {R : Type} (A : Ar) (n : Nat) (p : List Bool) (m : Nat) (K : Ex → St → Option R) (s : St) : g46W A n p m K .normal s = g46V A n p m K s := rfl
theorem g46We {R : Type} (A : Ar) (n : Nat) (p : List Bool) (m : Nat) (K : Ex → St → Option R) (i : Nat) (s : St) : g46W A n p m K (.exit i) s = K (.exit i) s := rfl
theorem g46Vs {R : Type} (A : Ar) (n : Nat) (p : List Bool) (m : Nat) (K : Ex → St → Option R) (s : St) : g46V A n p (m + 1) K s = g46D A n p (g46W A n p m K) s := rfl
section
variable {R : Type} (A : Ar) (n : Nat) (K : Ex → St → Option R) (s : St)
theorem g46p : g46D A n (pth 1) K s = g46D A n (pth 2) (g46Q A n (pth 3) K) s := by kernel_rfl
theorem g46p0 (s' : St) (h : keep g46an 0 s = keep g46an 0 s') : g46D A n (pth 2) K s = g46D A n (pth 2) K s' := codeD_first (id := 0) (by kernel_rfl) h K
theorem g46p1 : g46D A n (pth 3) K s = g46D A n (pth 5) K s := by kernel_rfl
theorem g46p10 : g46D A n (pth 5) K s = g46D A n (pth 9) (g46Q A n (pth 13) K) s := by kernel_rfl
theorem g46p100 (s' : St) (h : keep g46an 1 s = keep g46an 1 s') : g46D A n (pth 9) K s = g46D A n (pth 9) K s' := codeD_first (id := 1) (by kernel_rfl) h K
theorem g46p101 : g46D A n (pth 13) K s = g46D A n (pth 21) (g46Q A n (pth 29) K) s := by kernel_rfl
theorem g46p1010 : g46D A n (pth 21) K s = K .normal s := by kernel_rfl
theorem g46p1011 : g46D A n (pth 29) K s = g46D A n (pth 45) (g46Q A n (pth 61) K) s := by kernel_rfl
theorem g46p10110 : g46D A n (pth 45) K s = g46D A n (pth 77) (g46Q A n (pth 109) K) s := by kernel_rfl
theorem g46p101100 (s' : St) (h : keep g46an 2 s = keep g46an 2 s') : g46D A n (pth 77) K s = g46D A n (pth 77) K s' := codeD_first (id := 2) (by kernel_rfl) h K
theorem g46p101101 : g46D A n (pth 109) K s = g46D A n (pth 173) (blockK 0 K) s := by kernel_rfl
theorem g46p1011010 : g46D A n (pth 173) K s = g46V A n (pth 301) n K s := by kernel_rfl
theorem g46p10110100 : g46D A n (pth 301) K s = g46D A n (pth 557) (g46Q A n (pth 813) K) s := by kernel_rfl
theorem g46p101101000 (s' : St) (h : keep g46an 3 s = keep g46an 3 s') : g46D A n (pth 557) K s = g46D A n (pth 557) K s' := codeD_first (id := 3) (by kernel_rfl) h K
theorem g46p101101001 : g46D A n (pth 813) K s = g46D A n (pth 1325) (g46Q A n (pth 1837) K) s := by kernel_rfl
theorem g46p1011010010 (t : Bool) : ev s (.tmp 11) = some (.v (.cell (.bool t))) → g46D A n (pth 1325) K s = (match t with
    | true => g46D A n (pth 2349) K s
    | false => g46D A n (pth 3373) K s) := codeD_cond t
theorem g46p10110100100 : g46D A n (pth 2349) K s = K .normal s := by kernel_rfl
theorem g46p10110100101 : g46D A n (pth 3373) K s = K (.exit 0) s := by kernel_rfl
theorem g46p1011010011 : g46D A n (pth 1837) K s = g46D A n (pth 2861) (g46Q A n (pth 3885) K) s := by kernel_rfl
theorem g46p10110100110 : g46D A n (pth 2861) K s = g46D A n (pth 4909) (blockK 1 K) s := by kernel_rfl
theorem g46p101101001100 : g46D A n (pth 4909) K s = g46D A n (pth 9005) (g46Q A n (pth 13101) K) s := by kernel_rfl
theorem g46p1011010011000 (s' : St) (h : keep g46an 4 s = keep g46an 4 s') : g46D A n (pth 9005) K s = g46D A n (pth 9005) K s' := codeD_first (id := 4) (by kernel_rfl) h K
theorem g46p1011010011001 : g46D A n (pth 13101) K s = g46D A n (pth 21293) (g46Q A n (pth 29485) K) s := by kernel_rfl
theorem g46p10110100110010 (s' : St) (h : keep g46an 5 s = keep g46an 5 s') : g46D A n (pth 21293) K s = g46D A n (pth 21293) K s' := codeD_first (id := 5) (by kernel_rfl) h K
theorem g46p10110100110011 : g46D A n (pth 29485) K s = g46D A n (pth 45869) (blockK 2 K) s := by kernel_rfl
theorem g46p101101001100110 : g46D A n (pth 45869) K s = g46V A n (pth 78637) n K s := by kernel_rfl
theorem g46p1011010011001100 : g46D A n (pth 78637) K s = g46D A n (pth 144173) (g46Q A n (pth 209709) K) s := by kernel_rfl
theorem g46p10110100110011000 (s' : St) (h : keep g46an 6 s = keep g46an 6 s') : g46D A n (pth 144173) K s = g46D A n (pth 144173) K s' := codeD_first (id := 6) (by kernel_rfl) h K
theorem g46p10110100110011001 : g46D A n (pth 209709) K s = g46D A n (pth 340781) (g46Q A n (pth 471853) K) s := by kernel_rfl
theorem g46p101101001100110010 (t : Bool) : ev s (.tmp 15) = some (.v (.cell (.bool t))) → g46D A n (pth 340781) K s = (match t with
    | true => g46D A n (pth 602925) K s
    | false => g46D A n (pth 865069) K s) := codeD_cond t
theorem g46p1011010011001100100 : g46D A n (pth 602925) K s = K .normal s := by kernel_rfl
theorem g46p1011010011001100101 : g46D A n (pth 865069) K s = K (.exit 2) s := by kernel_rfl
theorem g46p101101001100110011 : g46D A n (pth 471853) K s = g46D A n (pth 733997) (g46Q A n (pth 996141) K) s := by kernel_rfl
theorem g46p1011010011001100110 : g46D A n (pth 733997) K s = g46D A n (pth 1258285) (blockK 3 K) s := by kernel_rfl
theorem g46p10110100110011001100 : g46D A n (pth 1258285) K s = g46D A n (pth 2306861) (g46Q A n (pth 3355437) K) s := by kernel_rfl
theorem g46p101101001100110011000 : g46D A n (pth 2306861) K s = g46D A n (pth 4404013) (g46Q A n (pth 6501165) K) s := by kernel_rfl
theorem g46p1011010011001100110000 (s' : St) (h : keep g46an 7 s = keep g46an 7 s') : g46D A n (pth 4404013) K s = g46D A n (pth 4404013) K s' := codeD_first (id := 7) (by kernel_rfl) h K
theorem g46p1011010011001100110001 (t : Bool) : ev s (.tmp 26) = some (.v (.cell (.bool t))) → g46D A n (pth 6501165) K s = (match t with
    | true => g46D A n (pth 10695469) K s
    | false => g46D A n (pth 14889773) K s) := codeD_cond t
theorem g46p10110100110011001100010 : g46D A n (pth 10695469) K s = K (.exit 0) s := by kernel_rfl
theorem g46p10110100110011001100011 : g46D A n (pth 14889773) K s = K .normal s := by kernel_rfl
theorem g46p101101001100110011001 : g46D A n (pth 3355437) K s = g46D A n (pth 5452589) (g46Q A n (pth 7549741) K) s := by kernel_rfl
theorem g46p1011010011001100110010 : g46D A n (pth 5452589) K s = g46D A n (pth 9646893) (g46Q A n (pth 13841197) K) s := by kernel_rfl
theorem g46p10110100110011001100100 (s' : St) (h : keep g46an 8 s = keep g46an 8 s') : g46D A n (pth 9646893) K s = g46D A n (pth 9646893) K s' := codeD_first (id := 8) (by kernel_rfl) h K
theorem g46p10110100110011001100101 (t : Bool) : ev s (.tmp 29) = some (.v (.cell (.bool t))) → g46D A n (pth 13841197) K s = (match t with
    | true => g46D A n (pth 22229805) K s
    | false => g46D A n (pth 30618413) K s) := codeD_cond t
theorem g46p101101001100110011001010 (s' : St) (h : keep g46an 9 s = keep g46an 9 s') : g46D A n (pth 22229805) K s = g46D A n (pth 22229805) K s' := codeD_first (id := 9) (by kernel_rfl) h K
theorem g46p101101001100110011001011 : g46D A n (pth 30618413) K s = K .normal s := by kernel_rfl
theorem g46p1011010011001100110011 (s' : St) (h : keep g46an 10 s = keep g46an 10 s') : g46D A n (pth 7549741) K s = g46D A n (pth 7549741) K s' := codeD_first (id := 10) (by kernel_rfl) h K
theorem g46p1011010011001100111 (s' : St) (h : keep g46an 11 s = keep g46an 11 s') : g46D A n (pth 996141) K s = g46D A n (pth 996141) K s' := codeD_first (id := 11) (by kernel_rfl) h K
theorem g46p10110100111 (s' : St) (h : keep g46an 12 s = keep g46an 12 s') : g46D A n (pth 3885) K s = g46D A n (pth 3885) K s' := codeD_first (id := 12) (by kernel_rfl) h K
theorem g46p10111 : g46D A n (pth 61) K s = g46D A n (pth 93) (g46Q A n (pth 125) K) s := by kernel_rfl
theorem g46p101110 (s' : St) (h : keep g46an 13 s = keep g46an 13 s') : g46D A n (pth 93) K s = g46D A n (pth 93) K s' := codeD_first (id := 13) (by kernel_rfl) h K
theorem g46p101111 : g46D A n (pth 125) K s = K .ret s := by kernel_rfl
theorem g46R10 (x0 : Int) (x1 : Nat) (x2 : List Nat) (x3 x4 : Int) (x5 x6 : List Nat) (x7 x8 : List Nat) : g46D A n (pth 7549741) K ⟨[(2, (pT 1000 0)), (3, (pT 1001 0)), (4, (pT 1002 0)), (5, (pT 2001 0)), (6, (i6 x0)), (7, (u64v x1)), (9, (aN .u64 4 x2)), (10, (i6 x3)), (14, (i6 x4))], [(1000, (bU 5 x5 44)), (1001, (bU 4 x6 23)), (1002, (bU 5 x7 44)), (2001, (bU 5 x8 44))]⟩ = match (generalizing := false) g42ok A x5 x5 with
    | true => K .normal ⟨[(7, (u64v (A.nsh .shr .u64 x1 1))), (37, (u64v (A.nsh .shr .u64 x1 1))), (36, (u64v x1)), (35, (aN .u64 5 (g42r0 A x5 x5))), (34, (aN .u64 5 x5)), (33, (aN .u64 5 x5)), (2, (pT 1000 0)), (3, (pT 1001 0)), (4, (pT 1002 0)), (5, (pT 2001 0)), (6, (i6 x0)), (7, (u64v x1)), (9, (aN .u64 4 x2)), (10, (i6 x3)), (14, (i6 x4))], [(1000, (bU 5 (g42r0 A x5 x5) 44)), (1001, (bU 4 x6 23)), (1002, (bU 5 x7 44)), (2001, (bU 5 x8 44))]⟩
    | false => none := by kernel_rfl
theorem g46R11 (x0 : Int) (x1 : Nat) (x2 : List Nat) (x3 x4 : Int) (x5 x6 : List Nat) (x7 x8 : List Nat) : g46D A n (pth 996141) K ⟨[(2, (pT 1000 0)), (3, (pT 1001 0)), (4, (pT 1002 0)), (5, (pT 2001 0)), (6, (i6 x0)), (7, (u64v x1)), (9, (aN .u64 4 x2)), (10, (i6 x3)), (14, (i6 x4))], [(1000, (bU 5 x5 44)), (1001, (bU 4 x6 23)), (1002, (bU 5 x7 44)), (2001, (bU 5 x8 44))]⟩ = K .normal ⟨[(14, (i6 (A.ib .add .i64 x4 1))), (38, (i6 (A.ib .add .i64 x4 1))), (2, (pT 1000 0)), (3, (pT 1001 0)), (4, (pT 1002 0)), (5, (pT 2001 0)), (6, (i6 x0)), (7, (u64v x1)), (9, (aN .u64 4 x2)), (10, (i6 x3)), (14, (i6 x4))], [(1000, (bU 5 x5 44)), (1001, (bU 4 x6 23)), (1002, (bU 5 x7 44)), (2001, (bU 5 x8 44))]⟩ := by kernel_rfl
theorem g46R8 (x0 : Int) (x1 : Nat) (x2 : List Nat) (x3 x4 : Int) (x5 x6 : List Nat) (x7 x8 : List Nat) : g46D A n (pth 9646893) K ⟨[(2, (pT 1000 0)), (3, (pT 1001 0)), (4, (pT 1002 0)), (5, (pT 2001 0)), (6, (i6 x0)), (7, (u64v x1)), (9, (aN .u64 4 x2)), (10, (i6 x3)), (14, (i6 x4))], [(1000, (bU 5 x5 44)), (1001, (bU 4 x6 23)), (1002, (bU 5 x7 44)), (2001, (bU 5 x8 44))]⟩ = K .normal ⟨[(29, (bO (A.nc .neq (A.nb .and .u64 x1 1) 0))), (28, (u64v (A.nb .and .u64 x1 1))), (27, (u64v x1)), (2, (pT 1000 0)), (3, (pT 1001 0)), (4, (pT 1002 0)), (5, (pT 2001 0)), (6, (i6 x0)), (7, (u64v x1)), (9, (aN .u64 4 x2)), (10, (i6 x3)), (14, (i6 x4))], [(1000, (bU 5 x5 44)), (1001, (bU 4 x6 23)), (1002, (bU 5 x7 44)), (2001, (bU 5 x8 44))]⟩ := by kernel_rfl
theorem g46R9 (x0 : Int) (x1 : Nat) (x2 : List Nat) (x3 x4 : Int) (x5 x6 : List Nat) (x7 x8 : List Nat) : g46D A n (pth 22229805) K ⟨[(2, (pT 1000 0)), (3, (pT 1001 0)), (4, (pT 1002 0)), (5, (pT 2001 0)), (6, (i6 x0)), (7, (u64v x1)), (9, (aN .u64 4 x2)), (10, (i6 x3)), (14, (i6 x4))], [(1000, (bU 5 x5 44)), (1001, (bU 4 x6 23)), (1002, (bU 5 x7 44)), (2001, (bU 5 x8 44))]⟩ = match (generalizing := false) g42ok A x8 x5 with
    | true => K .normal ⟨[(32, (aN .u64 5 (g42r0 A x8 x5))), (31, (aN .u64 5 x5)), (30, (aN .u64 5 x8)), (2, (pT 1000 0)), (3, (pT 1001 0)), (4, (pT 1002 0)), (5, (pT 2001 0)), (6, (i6 x0)), (7, (u64v x1)), (9, (aN .u64 4 x2)), (10, (i6 x3)), (14, (i6 x4))], [(1000, (bU 5 x5 44)), (1001, (bU 4 x6 23)), (1002, (bU 5 x7 44)), (2001, (bU 5 (g42r0 A x8 x5) 44))]⟩
    | false => none := by kernel_rfl
theorem g46R7 (x0 : Int) (x1 : Nat) (x2 : List Nat) (x3 x4 : Int) (x5 x6 : List Nat) (x7 x8 : List Nat) : g46D A n (pth 4404013) K ⟨[(2, (pT 1000 0)), (3, (pT 1001 0)), (4, (pT 1002 0)), (5, (pT 2001 0)), (6, (i6 x0)), (7, (u64v x1)), (9, (aN .u64 4 x2)), (10, (i6 x3)), (14, (i6 x4))], [(1000, (bU 5 x5 44)), (1001, (bU 4 x6 23)), (1002, (bU 5 x7 44)), (2001, (bU 5 x8 44))]⟩ = match (generalizing := false) A.nc .eql x1 0 with
    | true => match (generalizing := false) A.nc .eql (x6.getD 3 0) 0 with
      | true => match (generalizing := false) A.ic .eql x0 3 with
        | true => K .normal ⟨[(26, (bO true)), (25, (bO true)), (24, (i6 x0)), (23, (bO true)), (22, (bO true)), (21, (bO true)), (20, (u64v (x6.getD 3 0))), (19, (pT 1001 3)), (18, (bO true)), (17, (bO true)), (16, (u64v x1)), (2, (pT 1000 0)), (3, (pT 1001 0)), (4, (pT 1002 0)), (5, (pT 2001 0)), (6, (i6 x0)), (7, (u64v x1)), (9, (aN .u64 4 x2)), (10, (i6 x3)), (14, (i6 x4))], [(1000, (bU 5 x5 44)), (1001, (bU 4 x6 23)), (1002, (bU 5 x7 44)), (2001, (bU 5 x8 44))]⟩
        | false => K .normal ⟨[(26, (bO false)), (25, (bO false)), (24, (i6 x0)), (23, (bO true)), (22, (bO true)), (21, (bO true)), (20, (u64v (x6.getD 3 0))), (19, (pT 1001 3)), (18, (bO true)), (17, (bO true)), (16, (u64v x1)), (2, (pT 1000 0)), (3, (pT 1001 0)), (4, (pT 1002 0)), (5, (pT 2001 0)), (6, (i6 x0)), (7, (u64v x1)), (9, (aN .u64 4 x2)), (10, (i6 x3)), (14, (i6 x4))], [(1000, (bU 5 x5 44)), (1001, (bU 4 x6 23)), (1002, (bU 5 x7 44)), (2001, (bU 5 x8 44))]⟩
      | false => K .normal ⟨[(26, (bO false)), (25, uN), (24, uN), (23, (bO false)), (22, (bO false)), (21, (bO false)), (20, (u64v (x6.getD 3 0))), (19, (pT 1001 3)), (18, (bO true)), (17, (bO true)), (16, (u64v x1)), (2, (pT 1000 0)), (3, (pT 1001 0)), (4, (pT 1002 0)), (5, (pT 2001 0)), (6, (i6 x0)), (7, (u64v x1)), (9, (aN .u64 4 x2)), (10, (i6 x3)), (14, (i6 x4))], [(1000, (bU 5 x5 44)), (1001, (bU 4 x6 23)), (1002, (bU 5 x7 44)), (2001, (bU 5 x8 44))]⟩
    | false => K .normal ⟨[(26, (bO false)), (25, uN), (24, uN), (23, (bO false)), (22, (bO false)), (21, uN), (20, uN), (19, uN), (18, (bO false)), (17, (bO false)), (16, (u64v x1)), (2, (pT 1000 0)), (3, (pT 1001 0)), (4, (pT 1002 0)), (5, (pT 2001 0)), (6, (i6 x0)), (7, (u64v x1)), (9, (aN .u64 4 x2)), (10, (i6 x3)), (14, (i6 x4))], [(1000, (bU 5 x5 44)), (1001, (bU 4 x6 23)), (1002, (bU 5 x7 44)), (2001, (bU 5 x8 44))]⟩ := by kernel_rfl
theorem g46R13 (x0 x1 : List Nat) : g46D A n (pth 93) K ⟨[(4, (pT 1002 0)), (5, (pT 2001 0))], [(1002, (bU 5 x0 44)), (2001, (bU 5 x1 44))]⟩ = K .normal ⟨[(40, (aN .u64 5 x1)), (4, (pT 1002 0)), (5, (pT 2001 0))], [(1002, (bU 5 x1 44)), (2001, (bU 5 x1 44))]⟩ := by kernel_rfl
theorem g46R6 (x0 : Int) (x1 : Nat) (x2 : List Nat) (x3 x4 : Int) (x5 x6 : List Nat) (x7 x8 : List Nat) : g46D A n (pth 144173) K ⟨[(2, (pT 1000 0)), (3, (pT 1001 0)), (4, (pT 1002 0)), (5, (pT 2001 0)), (6, (i6 x0)), (7, (u64v x1)), (9, (aN .u64 4 x2)), (10, (i6 x3)), (14, (i6 x4))], [(1000, (bU 5 x5 44)), (1001, (bU 4 x6 23)), (1002, (bU 5 x7 44)), (2001, (bU 5 x8 44))]⟩ = K .normal ⟨[(15, (bO (A.ic .lss x4 64))), (2, (pT 1000 0)), (3, (pT 1001 0)), (4, (pT 1002 0)), (5, (pT 2001 0)), (6, (i6 x0)), (7, (u64v x1)), (9, (aN .u64 4 x2)), (10, (i6 x3)), (14, (i6 x4))], [(1000, (bU 5 x5 44)), (1001, (bU 4 x6 23)), (1002, (bU 5 x7 44)), (2001, (bU 5 x8 44))]⟩ := by kernel_rfl
theorem g46R12 (x0 : List Nat) (x1 : Int) (x2 x3 : List Nat) (x4 x5 : List Nat) : g46D A n (pth 3885) K ⟨[(2, (pT 1000 0)), (3, (pT 1001 0)), (4, (pT 1002 0)), (5, (pT 2001 0)), (9, (aN .u64 4 x0)), (10, (i6 x1))], [(1000, (bU 5 x2 44)), (1001, (bU 4 x3 23)), (1002, (bU 5 x4 44)), (2001, (bU 5 x5 44))]⟩ = K .normal ⟨[(10, (i6 (A.ib .add .i64 x1 1))), (39, (i6 (A.ib .add .i64 x1 1))), (2, (pT 1000 0)), (3, (pT 1001 0)), (4, (pT 1002 0)), (5, (pT 2001 0)), (9, (aN .u64 4 x0)), (10, (i6 x1))], [(1000, (bU 5 x2 44)), (1001, (bU 4 x3 23)), (1002, (bU 5 x4 44)), (2001, (bU 5 x5 44))]⟩ := by kernel_rfl
theorem g46R4 (x0 : List Nat) (x1 : Int) (x2 x3 : List Nat) (x4 x5 : List Nat) : g46D A n (pth 9005) K ⟨[(2, (pT 1000 0)), (3, (pT 1001 0)), (4, (pT 1002 0)), (5, (pT 2001 0)), (9, (aN .u64 4 x0)), (10, (i6 x1))], [(1000, (bU 5 x2 44)), (1001, (bU 4 x3 23)), (1002, (bU 5 x4 44)), (2001, (bU 5 x5 44))]⟩ = match (generalizing := false) A.neg x1 with
    | true => none
    | false => match (generalizing := false) A.lt (A.toN x1) 4 with
      | true => K .normal ⟨[(7, (u64v (x0.getD (A.toN x1) 0))), (6, (i6 x1)), (13, (u64v (x0.getD (A.toN x1) 0))), (12, (i6 x1)), (2, (pT 1000 0)), (3, (pT 1001 0)), (4, (pT 1002 0)), (5, (pT 2001 0)), (9, (aN .u64 4 x0)), (10, (i6 x1))], [(1000, (bU 5 x2 44)), (1001, (bU 4 x3 23)), (1002, (bU 5 x4 44)), (2001, (bU 5 x5 44))]⟩
      | false => none := by kernel_rfl
theorem g46R5 (x0 : Int) (x1 : Nat) (x2 : List Nat) (x3 : Int) (x4 x5 : List Nat) (x6 x7 : List Nat) : g46D A n (pth 21293) K ⟨[(2, (pT 1000 0)), (3, (pT 1001 0)), (4, (pT 1002 0)), (5, (pT 2001 0)), (6, (i6 x0)), (7, (u64v x1)), (9, (aN .u64 4 x2)), (10, (i6 x3))], [(1000, (bU 5 x4 44)), (1001, (bU 4 x5 23)), (1002, (bU 5 x6 44)), (2001, (bU 5 x7 44))]⟩ = K .normal ⟨[(14, (i6 0)), (2, (pT 1000 0)), (3, (pT 1001 0)), (4, (pT 1002 0)), (5, (pT 2001 0)), (6, (i6 x0)), (7, (u64v x1)), (9, (aN .u64 4 x2)), (10, (i6 x3))], [(1000, (bU 5 x4 44)), (1001, (bU 4 x5 23)), (1002, (bU 5 x6 44)), (2001, (bU 5 x7 44))]⟩ := by kernel_rfl
theorem g46R3 (x0 : List Nat) (x1 : Int) (x2 x3 : List Nat) (x4 x5 : List Nat) : g46D A n (pth 557) K ⟨[(2, (pT 1000 0)), (3, (pT 1001 0)), (4, (pT 1002 0)), (5, (pT 2001 0)), (9, (aN .u64 4 x0)), (10, (i6 x1))], [(1000, (bU 5 x2 44)), (1001, (bU 4 x3 23)), (1002, (bU 5 x4 44)), (2001, (bU 5 x5 44))]⟩ = K .normal ⟨[(11, (bO (A.ic .lss x1 4))), (2, (pT 1000 0)), (3, (pT 1001 0)), (4, (pT 1002 0)), (5, (pT 2001 0)), (9, (aN .u64 4 x0)), (10, (i6 x1))], [(1000, (bU 5 x2 44)), (1001, (bU 4 x3 23)), (1002, (bU 5 x4 44)), (2001, (bU 5 x5 44))]⟩ := by kernel_rfl
theorem g46R0 (x0 x1 : List Nat) : g46D A n (pth 2) K ⟨[(0, (aN .u64 5 x0)), (1, (aN .u64 4 x1))], []⟩ = K .normal ⟨[(4, (pT 1002 0)), (3, (pT 1001 0)), (2, (pT 1000 0)), (0, (aN .u64 5 x0)), (1, (aN .u64 4 x1))], [(1002, (bU 5 [0, 0, 0, 0, 0] 44)), (1001, (bU 4 x1 23)), (1000, (bU 5 x0 44))]⟩ := by kernel_rfl
theorem g46R1 (x0 x1 x2 : List Nat) : g46D A n (pth 9) K ⟨[(2, (pT 1000 0)), (3, (pT 1001 0)), (4, (pT 1002 0))], [(1000, (bU 5 x0 44)), (1001, (bU 4 x1 23)), (1002, (bU 5 x2 44))]⟩ = K .normal ⟨[(5, (pT 2001 0)), (8, (aN .u64 5 ([0, 0, 0, 0, 0].set 0 1))), (2, (pT 1000 0)), (3, (pT 1001 0)), (4, (pT 1002 0))], [(2001, (bU 5 ([0, 0, 0, 0, 0].set 0 1) 44)), (1000, (bU 5 x0 44)), (1001, (bU 4 x1 23)), (1002, (bU 5 x2 44))]⟩ := by kernel_rfl
theorem g46R2 (x0 x1 : List Nat) (x2 x3 : List Nat) : g46D A n (pth 77) K ⟨[(2, (pT 1000 0)), (3, (pT 1001 0)), (4, (pT 1002 0)), (5, (pT 2001 0))], [(1000, (bU 5 x0 44)), (1001, (bU 4 x1 23)), (1002, (bU 5 x2 44)), (2001, (bU 5 x3 44))]⟩ = K .normal ⟨[(10, (i6 0)), (9, (aN .u64 4 x1)), (2, (pT 1000 0)), (3, (pT 1001 0)), (4, (pT 1002 0)), (5, (pT 2001 0))], [(1000, (bU 5 x0 44)), (1001, (bU 4 x1 23)), (1002, (bU 5 x2 44)), (2001, (bU 5 x3 44))]⟩ := by kernel_rfl
end
def g46J10 {R : Type} (A : Ar) (n : Nat) (kk : AV → Heap → Option R) (lg46L3 : List Nat → Int → List Nat → List Nat → List Nat → List Nat → Option R) (lg46L6 : Int → Nat → List Nat → Int → Int → List Nat → List Nat → List Nat → List Nat → Option R) (x0 : Int) (x1 : Nat) (x2 : List Nat) (x3 x4 : Int) (x5 x6 : List Nat) (x7 x8 : List Nat) : Option R :=
  match (generalizing := false) g42ok A x5 x5 with
  | true => lg46L6 x0 (A.nsh .shr .u64 x1 1) x2 x3 (A.ib .add .i64 x4 1) (g42r0 A x5 x5) x6 x7 x8
  | false => none
set_option maxRecDepth 100000 in
theorem g46J10_eq {R : Type} (A : Ar) (n : Nat) (kk : AV → Heap → Option R) (m0 m1 : Nat) (lg46L3 : List Nat → Int → List Nat → List Nat → List Nat → List Nat → Option R) (lg46L6 : Int → Nat → List Nat → Int → Int → List Nat → List Nat → List Nat → List Nat → Option R) 
    (hg46L3 : ∀ (s : St) (x0 : List Nat) (x1 : Int) (x2 x3 : List Nat) (x4 x5 : List Nat), keep g46an 3 s = ⟨[(2, (pT 1000 0)), (3, (pT 1001 0)), (4, (pT 1002 0)), (5, (pT 2001 0)), (9, (aN .u64 4 x0)), (10, (i6 x1))], [(1000, (bU 5 x2 44)), (1001, (bU 4 x3 23)), (1002, (bU 5 x4 44)), (2001, (bU 5 x5 44))]⟩ → g46V A n (pth 301) m0 (blockK 0 (g46Q A n (pth 61) (g46T kk))) s = lg46L3 x0 x1 x2 x3 x4 x5)
    (hg46L6 : ∀ (s : St) (x0 : Int) (x1 : Nat) (x2 : List Nat) (x3 x4 : Int) (x5 x6 : List Nat) (x7 x8 : List Nat), keep g46an 6 s = ⟨[(2, (pT 1000 0)), (3, (pT 1001 0)), (4, (pT 1002 0)), (5, (pT 2001 0)), (6, (i6 x0)), (7, (u64v x1)), (9, (aN .u64 4 x2)), (10, (i6 x3)), (14, (i6 x4))], [(1000, (bU 5 x5 44)), (1001, (bU 4 x6 23)), (1002, (bU 5 x7 44)), (2001, (bU 5 x8 44))]⟩ → g46V A n (pth 78637) m1 (blockK 2 (blockK 1 (g46Q A n (pth 3885) (g46W A n (pth 301) m0 (blockK 0 (g46Q A n (pth 61) (g46T kk))))))) s = lg46L6 x0 x1 x2 x3 x4 x5 x6 x7 x8) (s : St) (x0 : Int) (x1 : Nat) (x2 : List Nat) (x3 x4 : Int) (x5 x6 : List Nat) (x7 x8 : List Nat) (h : keep g46an 10 s = ⟨[(2, (pT 1000 0)), (3, (pT 1001 0)), (4, (pT 1002 0)), (5, (pT 2001 0)), (6, (i6 x0)), (7, (u64v x1)), (9, (aN .u64 4 x2)), (10, (i6 x3)), (14, (i6 x4))], [(1000, (bU 5 x5 44)), (1001, (bU 4 x6 23)), (1002, (bU 5 x7 44)), (2001, (bU 5 x8 44))]⟩) :
    g46D A n (pth 7549741) (blockK 3 (g46Q A n (pth 996141) (g46W A n (pth 78637) m1 (blockK 2 (blockK 1 (g46Q A n (pth 3885) (g46W A n (pth 301) m0 (blockK 0 (g46Q A n (pth 61) (g46T kk)))))))))) s = g46J10 A n kk lg46L3 lg46L6 x0 x1 x2 x3 x4 x5 x6 x7 x8 := by
  have h5 := (g46Wn A n _ _ _ _).trans (hg46L6 ⟨[(14, (i6 (A.ib .add .i64 x4 1))), (38, (i6 (A.ib .add .i64 x4 1))), (2, (pT 1000 0)), (3, (pT 1001 0)), (4, (pT 1002 0)), (5, (pT 2001 0)), (6, (i6 x0)), (7, (u64v (A.nsh .shr .u64 x1 1))), (9, (aN .u64 4 x2)), (10, (i6 x3)), (14, (i6 x4))], [(1000, (bU 5 (g42r0 A x5 x5) 44)), (1001, (bU 4 x6 23)), (1002, (bU 5 x7 44)), (2001, (bU 5 x8 44))]⟩ x0 (A.nsh .shr .u64 x1 1) x2 x3 (A.ib .add .i64 x4 1) (g42r0 A x5 x5) x6 x7 x8 (by kernel_rfl))
  have h3 := g46R11 A n (g46W A n (pth 78637) m1 (blockK 2 (blockK 1 (g46Q A n (pth 3885) (g46W A n (pth 301) m0 (blockK 0 (g46Q A n (pth 61) (g46T kk)))))))) x0 (A.nsh .shr .u64 x1 1) x2 x3 x4 (g42r0 A x5 x5) x6 x7 x8
  have h6 := (g46p1011010011001100111 A n _ ⟨[(7, (u64v (A.nsh .shr .u64 x1 1))), (37, (u64v (A.nsh .shr .u64 x1 1))), (36, (u64v x1)), (35, (aN .u64 5 (g42r0 A x5 x5))), (34, (aN .u64 5 x5)), (33, (aN .u64 5 x5)), (2, (pT 1000 0)), (3, (pT 1001 0)), (4, (pT 1002 0)), (5, (pT 2001 0)), (6, (i6 x0)), (7, (u64v x1)), (9, (aN .u64 4 x2)), (10, (i6 x3)), (14, (i6 x4))], [(1000, (bU 5 (g42r0 A x5 x5) 44)), (1001, (bU 4 x6 23)), (1002, (bU 5 x7 44)), (2001, (bU 5 x8 44))]⟩ _ (by kernel_rfl)).trans h3
  rw [h5] at h6
  have h7 := (g46Qn A n _ _ _).trans h6
  have h8 := (blockK_n 3 _ _).trans h7
  have h1 := g46R10 A n (blockK 3 (g46Q A n (pth 996141) (g46W A n (pth 78637) m1 (blockK 2 (blockK 1 (g46Q A n (pth 3885) (g46W A n (pth 301) m0 (blockK 0 (g46Q A n (pth 61) (g46T kk)))))))))) x0 x1 x2 x3 x4 x5 x6 x7 x8
  have h9 := (g46p1011010011001100110011 A n _ ⟨[(2, (pT 1000 0)), (3, (pT 1001 0)), (4, (pT 1002 0)), (5, (pT 2001 0)), (6, (i6 x0)), (7, (u64v x1)), (9, (aN .u64 4 x2)), (10, (i6 x3)), (14, (i6 x4))], [(1000, (bU 5 x5 44)), (1001, (bU 4 x6 23)), (1002, (bU 5 x7 44)), (2001, (bU 5 x8 44))]⟩ _ (by kernel_rfl)).trans h1
  rw [h8] at h9
  exact (codeD_first (s' := ⟨[(2, (pT 1000 0)), (3, (pT 1001 0)), (4, (pT 1002 0)), (5, (pT 2001 0)), (6, (i6 x0)), (7, (u64v x1)), (9, (aN .u64 4 x2)), (10, (i6 x3)), (14, (i6 x4))], [(1000, (bU 5 x5 44)), (1001, (bU 4 x6 23)), (1002, (bU 5 x7 44)), (2001, (bU 5 x8 44))]⟩) (id := 10) (by kernel_rfl) (h.trans (by kernel_rfl)) _).trans (h9.trans (by kernel_rfl))
def g46J8 {R : Type} (A : Ar) (n : Nat) (kk : AV → Heap → Option R) (lg46L3 : List Nat → Int → List Nat → List Nat → List Nat → List Nat → Option R) (lg46L6 : Int → Nat → List Nat → Int → Int → List Nat → List Nat → List Nat → List Nat → Option R) (x0 : Int) (x1 : Nat) (x2 : List Nat) (x3 x4 : Int) (x5 x6 : List Nat) (x7 x8 : List Nat) : Option R :=
  match (generalizing := false) A.nc .neq (A.nb .and .u64 x1 1) 0 with
  | true => match (generalizing := false) g42ok A x8 x5 with
    | true => g46J10 A n kk lg46L3 lg46L6 x0 x1 x2 x3 x4 x5 x6 x7 (g42r0 A x8 x5)
    | false => none
  | false => g46J10 A n kk lg46L3 lg46L6 x0 x1 x2 x3 x4 x5 x6 x7 x8
set_option maxRecDepth 100000 in
theorem g46J8_eq {R : Type} (A : Ar) (n : Nat) (kk : AV → Heap → Option R) (m0 m1 : Nat) (lg46L3 : List Nat → Int → List Nat → List Nat → List Nat → List Nat → Option R) (lg46L6 : Int → Nat → List Nat → Int → Int → List Nat → List Nat → List Nat → List Nat → Option R) 
    (hg46L3 : ∀ (s : St) (x0 : List Nat) (x1 : Int) (x2 x3 : List Nat) (x4 x5 : List Nat), keep g46an 3 s = ⟨[(2, (pT 1000 0)), (3, (pT 1001 0)), (4, (pT 1002 0)), (5, (pT 2001 0)), (9, (aN .u64 4 x0)), (10, (i6 x1))], [(1000, (bU 5 x2 44)), (1001, (bU 4 x3 23)), (1002, (bU 5 x4 44)), (2001, (bU 5 x5 44))]⟩ → g46V A n (pth 301) m0 (blockK 0 (g46Q A n (pth 61) (g46T kk))) s = lg46L3 x0 x1 x2 x3 x4 x5)
    (hg46L6 : ∀ (s : St) (x0 : Int) (x1 : Nat) (x2 : List Nat) (x3 x4 : Int) (x5 x6 : List Nat) (x7 x8 : List Nat), keep g46an 6 s = ⟨[(2, (pT 1000 0)), (3, (pT 1001 0)), (4, (pT 1002 0)), (5, (pT 2001 0)), (6, (i6 x0)), (7, (u64v x1)), (9, (aN .u64 4 x2)), (10, (i6 x3)), (14, (i6 x4))], [(1000, (bU 5 x5 44)), (1001, (bU 4 x6 23)), (1002, (bU 5 x7 44)), (2001, (bU 5 x8 44))]⟩ → g46V A n (pth 78637) m1 (blockK 2 (blockK 1 (g46Q A n (pth 3885) (g46W A n (pth 301) m0 (blockK 0 (g46Q A n (pth 61) (g46T kk))))))) s = lg46L6 x0 x1 x2 x3 x4 x5 x6 x7 x8) (s : St) (x0 : Int) (x1 : Nat) (x2 : List Nat) (x3 x4 : Int) (x5 x6 : List Nat) (x7 x8 : List Nat) (h : keep g46an 8 s = ⟨[(2, (pT 1000 0)), (3, (pT 1001 0)), (4, (pT 1002 0)), (5, (pT 2001 0)), (6, (i6 x0)), (7, (u64v x1)), (9, (aN .u64 4 x2)), (10, (i6 x3)), (14, (i6 x4))], [(1000, (bU 5 x5 44)), (1001, (bU 4 x6 23)), (1002, (bU 5 x7 44)), (2001, (bU 5 x8 44))]⟩) :
    g46D A n (pth 3355437) (blockK 3 (g46Q A n (pth 996141) (g46W A n (pth 78637) m1 (blockK 2 (blockK 1 (g46Q A n (pth 3885) (g46W A n (pth 301) m0 (blockK 0 (g46Q A n (pth 61) (g46T kk)))))))))) s = g46J8 A n kk lg46L3 lg46L6 x0 x1 x2 x3 x4 x5 x6 x7 x8 := by
  have h5 := (g46Qn A n _ _ _).trans (g46J10_eq A n kk m0 m1 lg46L3 lg46L6 hg46L3 hg46L6  ⟨[(32, (aN .u64 5 (g42r0 A x8 x5))), (31, (aN .u64 5 x5)), (30, (aN .u64 5 x8)), (2, (pT 1000 0)), (3, (pT 1001 0)), (4, (pT 1002 0)), (5, (pT 2001 0)), (6, (i6 x0)), (7, (u64v x1)), (9, (aN .u64 4 x2)), (10, (i6 x3)), (14, (i6 x4))], [(1000, (bU 5 x5 44)), (1001, (bU 4 x6 23)), (1002, (bU 5 x7 44)), (2001, (bU 5 (g42r0 A x8 x5) 44))]⟩ x0 x1 x2 x3 x4 x5 x6 x7 (g42r0 A x8 x5) (by kernel_rfl))
  have h3 := g46R9 A n (g46Q A n (pth 7549741) (blockK 3 (g46Q A n (pth 996141) (g46W A n (pth 78637) m1 (blockK 2 (blockK 1 (g46Q A n (pth 3885) (g46W A n (pth 301) m0 (blockK 0 (g46Q A n (pth 61) (g46T kk))))))))))) x0 x1 x2 x3 x4 x5 x6 x7 x8
  have h6 := (g46p101101001100110011001010 A n _ ⟨[(29, (bO (A.nc .neq (A.nb .and .u64 x1 1) 0))), (28, (u64v (A.nb .and .u64 x1 1))), (27, (u64v x1)), (2, (pT 1000 0)), (3, (pT 1001 0)), (4, (pT 1002 0)), (5, (pT 2001 0)), (6, (i6 x0)), (7, (u64v x1)), (9, (aN .u64 4 x2)), (10, (i6 x3)), (14, (i6 x4))], [(1000, (bU 5 x5 44)), (1001, (bU 4 x6 23)), (1002, (bU 5 x7 44)), (2001, (bU 5 x8 44))]⟩ _ (by kernel_rfl)).trans h3
  rw [h5] at h6
  have h7 := (g46Qn A n _ _ _).trans (g46J10_eq A n kk m0 m1 lg46L3 lg46L6 hg46L3 hg46L6  ⟨[(29, (bO (A.nc .neq (A.nb .and .u64 x1 1) 0))), (28, (u64v (A.nb .and .u64 x1 1))), (27, (u64v x1)), (2, (pT 1000 0)), (3, (pT 1001 0)), (4, (pT 1002 0)), (5, (pT 2001 0)), (6, (i6 x0)), (7, (u64v x1)), (9, (aN .u64 4 x2)), (10, (i6 x3)), (14, (i6 x4))], [(1000, (bU 5 x5 44)), (1001, (bU 4 x6 23)), (1002, (bU 5 x7 44)), (2001, (bU 5 x8 44))]⟩ x0 x1 x2 x3 x4 x5 x6 x7 x8 (by kernel_rfl))
  have h8 := (g46p101101001100110011001011 A n _ _).trans h7
  have h9 := g46p10110100110011001100101 A n (g46Q A n (pth 7549741) (blockK 3 (g46Q A n (pth 996141) (g46W A n (pth 78637) m1 (blockK 2 (blockK 1 (g46Q A n (pth 3885) (g46W A n (pth 301) m0 (blockK 0 (g46Q A n (pth 61) (g46T kk))))))))))) ⟨[(29, (bO (A.nc .neq (A.nb .and .u64 x1 1) 0))), (28, (u64v (A.nb .and .u64 x1 1))), (27, (u64v x1)), (2, (pT 1000 0)), (3, (pT 1001 0)), (4, (pT 1002 0)), (5, (pT 2001 0)), (6, (i6 x0)), (7, (u64v x1)), (9, (aN .u64 4 x2)), (10, (i6 x3)), (14, (i6 x4))], [(1000, (bU 5 x5 44)), (1001, (bU 4 x6 23)), (1002, (bU 5 x7 44)), (2001, (bU 5 x8 44))]⟩ (A.nc .neq (A.nb .and .u64 x1 1) 0) (by kernel_rfl)
  rw [h6, h8] at h9
  have h10 := (g46Qn A n _ _ _).trans h9
  have h1 := g46R8 A n (g46Q A n (pth 13841197) (g46Q A n (pth 7549741) (blockK 3 (g46Q A n (pth 996141) (g46W A n (pth 78637) m1 (blockK 2 (blockK 1 (g46Q A n (pth 3885) (g46W A n (pth 301) m0 (blockK 0 (g46Q A n (pth 61) (g46T kk)))))))))))) x0 x1 x2 x3 x4 x5 x6 x7 x8
  have h11 := (g46p10110100110011001100100 A n _ ⟨[(2, (pT 1000 0)), (3, (pT 1001 0)), (4, (pT 1002 0)), (5, (pT 2001 0)), (6, (i6 x0)), (7, (u64v x1)), (9, (aN .u64 4 x2)), (10, (i6 x3)), (14, (i6 x4))], [(1000, (bU 5 x5 44)), (1001, (bU 4 x6 23)), (1002, (bU 5 x7 44)), (2001, (bU 5 x8 44))]⟩ _ (by kernel_rfl)).trans h1
  rw [h10] at h11
  have h12 := (g46p1011010011001100110010 A n _ _).trans h11
  have h13 := (g46p101101001100110011001 A n _ _).trans h12
  exact (codeD_first (s' := ⟨[(2, (pT 1000 0)), (3, (pT 1001 0)), (4, (pT 1002 0)), (5, (pT 2001 0)), (6, (i6 x0)), (7, (u64v x1)), (9, (aN .u64 4 x2)), (10, (i6 x3)), (14, (i6 x4))], [(1000, (bU 5 x5 44)), (1001, (bU 4 x6 23)), (1002, (bU 5 x7 44)), (2001, (bU 5 x8 44))]⟩) (id := 8) (by kernel_rfl) (h.trans (by kernel_rfl)) _).trans (h13.trans (by kernel_rfl))
def g46J7 {R : Type} (A : Ar) (n : Nat) (kk : AV → Heap → Option R) (lg46L3 : List Nat → Int → List Nat → List Nat → List Nat → List Nat → Option R) (lg46L6 : Int → Nat → List Nat → Int → Int → List Nat → List Nat → List Nat → List Nat → Option R) (x0 : Int) (x1 : Nat) (x2 : List Nat) (x3 x4 : Int) (x5 x6 : List Nat) (x7 x8 : List Nat) : Option R :=
  match (generalizing := false) A.nc .eql x1 0 with
  | true => match (generalizing := false) A.nc .eql (x6.getD 3 0) 0 with
    | true => match (generalizing := false) A.ic .eql x0 3 with
      | true => kk (aN .u64 5 x8) [(1002, (bU 5 x8 44)), (2001, (bU 5 x8 44))]
      | false => g46J8 A n kk lg46L3 lg46L6 x0 x1 x2 x3 x4 x5 x6 x7 x8
    | false => g46J8 A n kk lg46L3 lg46L6 x0 x1 x2 x3 x4 x5 x6 x7 x8
  | false => g46J8 A n kk lg46L3 lg46L6 x0 x1 x2 x3 x4 x5 x6 x7 x8
set_option maxRecDepth 100000 in
theorem g46J7_eq {R : Type} (A : Ar) (n : Nat) (kk : AV → Heap → Option R) (m0 m1 : Nat) (lg46L3 : List Nat → Int → List Nat → List Nat → List Nat → List Nat → Option R) (lg46L6 : Int → Nat → List Nat → Int → Int → List Nat → List Nat → List Nat → List Nat → Option R) 
    (hg46L3 : ∀ (s : St) (x0 : List Nat) (x1 : Int) (x2 x3 : List Nat) (x4 x5 : List Nat), keep g46an 3 s = ⟨[(2, (pT 1000 0)), (3, (pT 1001 0)), (4, (pT 1002 0)), (5, (pT 2001 0)), (9, (aN .u64 4 x0)), (10, (i6 x1))], [(1000, (bU 5 x2 44)), (1001, (bU 4 x3 23)), (1002, (bU 5 x4 44)), (2001, (bU 5 x5 44))]⟩ → g46V A n (pth 301) m0 (blockK 0 (g46Q A n (pth 61) (g46T kk))) s = lg46L3 x0 x1 x2 x3 x4 x5)
    (hg46L6 : ∀ (s : St) (x0 : Int) (x1 : Nat) (x2 : List Nat) (x3 x4 : Int) (x5 x6 : List Nat) (x7 x8 : List Nat), keep g46an 6 s = ⟨[(2, (pT 1000 0)), (3, (pT 1001 0)), (4, (pT 1002 0)), (5, (pT 2001 0)), (6, (i6 x0)), (7, (u64v x1)), (9, (aN .u64 4 x2)), (10, (i6 x3)), (14, (i6 x4))], [(1000, (bU 5 x5 44)), (1001, (bU 4 x6 23)), (1002, (bU 5 x7 44)), (2001, (bU 5 x8 44))]⟩ → g46V A n (pth 78637) m1 (blockK 2 (blockK 1 (g46Q A n (pth 3885) (g46W A n (pth 301) m0 (blockK 0 (g46Q A n (pth 61) (g46T kk))))))) s = lg46L6 x0 x1 x2 x3 x4 x5 x6 x7 x8) (s : St) (x0 : Int) (x1 : Nat) (x2 : List Nat) (x3 x4 : Int) (x5 x6 : List Nat) (x7 x8 : List Nat) (h : keep g46an 7 s = ⟨[(2, (pT 1000 0)), (3, (pT 1001 0)), (4, (pT 1002 0)), (5, (pT 2001 0)), (6, (i6 x0)), (7, (u64v x1)), (9, (aN .u64 4 x2)), (10, (i6 x3)), (14, (i6 x4))], [(1000, (bU 5 x5 44)), (1001, (bU 4 x6 23)), (1002, (bU 5 x7 44)), (2001, (bU 5 x8 44))]⟩) :
    g46D A n (pth 471853) (g46W A n (pth 78637) m1 (blockK 2 (blockK 1 (g46Q A n (pth 3885) (g46W A n (pth 301) m0 (blockK 0 (g46Q A n (pth 61) (g46T kk)))))))) s = g46J7 A n kk lg46L3 lg46L6 x0 x1 x2 x3 x4 x5 x6 x7 x8 := by
  have h5 : (g46T kk) .ret ⟨[(40, (aN .u64 5 x8)), (4, (pT 1002 0)), (5, (pT 2001 0))], [(1002, (bU 5 x8 44)), (2001, (bU 5 x8 44))]⟩ = kk (aN .u64 5 x8) [(1002, (bU 5 x8 44)), (2001, (bU 5 x8 44))] := by kernel_rfl
  have h6 := (g46p101111 A n _ _).trans h5
  have h7 := (g46Qn A n _ _ _).trans h6
  have h3 := g46R13 A n (g46Q A n (pth 125) (g46T kk)) x7 x8
  have h8 := (g46p101110 A n _ ⟨[(26, (bO true)), (25, (bO true)), (24, (i6 x0)), (23, (bO true)), (22, (bO true)), (21, (bO true)), (20, (u64v (x6.getD 3 0))), (19, (pT 1001 3)), (18, (bO true)), (17, (bO true)), (16, (u64v x1)), (2, (pT 1000 0)), (3, (pT 1001 0)), (4, (pT 1002 0)), (5, (pT 2001 0)), (6, (i6 x0)), (7, (u64v x1)), (9, (aN .u64 4 x2)), (10, (i6 x3)), (14, (i6 x4))], [(1000, (bU 5 x5 44)), (1001, (bU 4 x6 23)), (1002, (bU 5 x7 44)), (2001, (bU 5 x8 44))]⟩ _ (by kernel_rfl)).trans h3
  rw [h7] at h8
  have h9 := (g46p10111 A n _ _).trans h8
  have h10 := (g46Qn A n _ _ _).trans h9
  have h11 := (blockK_hit 0 _ _).trans h10
  have h12 := (g46We A n (pth 301) m0 _ _ _).trans h11
  have h13 := (g46Qe A n (pth 3885) _ _ _).trans h12
  have h14 := (blockK_miss 1 0 _ _ (by kernel_rfl)).trans h13
  have h15 := (blockK_miss 2 0 _ _ (by kernel_rfl)).trans h14
  have h16 := (g46We A n (pth 78637) m1 _ _ _).trans h15
  have h17 := (g46Qe A n (pth 996141) _ _ _).trans h16
  have h18 := (blockK_miss 3 0 _ _ (by kernel_rfl)).trans h17
  have h19 := (g46Qe A n (pth 3355437) _ _ _).trans h18
  have h20 := (g46p10110100110011001100010 A n _ _).trans h19
  have h21 := (g46p1011010011001100110001 A n (g46Q A n (pth 3355437) (blockK 3 (g46Q A n (pth 996141) (g46W A n (pth 78637) m1 (blockK 2 (blockK 1 (g46Q A n (pth 3885) (g46W A n (pth 301) m0 (blockK 0 (g46Q A n (pth 61) (g46T kk))))))))))) ⟨[(26, (bO true)), (25, (bO true)), (24, (i6 x0)), (23, (bO true)), (22, (bO true)), (21, (bO true)), (20, (u64v (x6.getD 3 0))), (19, (pT 1001 3)), (18, (bO true)), (17, (bO true)), (16, (u64v x1)), (2, (pT 1000 0)), (3, (pT 1001 0)), (4, (pT 1002 0)), (5, (pT 2001 0)), (6, (i6 x0)), (7, (u64v x1)), (9, (aN .u64 4 x2)), (10, (i6 x3)), (14, (i6 x4))], [(1000, (bU 5 x5 44)), (1001, (bU 4 x6 23)), (1002, (bU 5 x7 44)), (2001, (bU 5 x8 44))]⟩ true (by kernel_rfl)).trans h20
  have h22 := (g46Qn A n _ _ _).trans h21
  have h23 := (g46Qn A n _ _ _).trans (g46J8_eq A n kk m0 m1 lg46L3 lg46L6 hg46L3 hg46L6  ⟨[(26, (bO false)), (25, (bO false)), (24, (i6 x0)), (23, (bO true)), (22, (bO true)), (21, (bO true)), (20, (u64v (x6.getD 3 0))), (19, (pT 1001 3)), (18, (bO true)), (17, (bO true)), (16, (u64v x1)), (2, (pT 1000 0)), (3, (pT 1001 0)), (4, (pT 1002 0)), (5, (pT 2001 0)), (6, (i6 x0)), (7, (u64v x1)), (9, (aN .u64 4 x2)), (10, (i6 x3)), (14, (i6 x4))], [(1000, (bU 5 x5 44)), (1001, (bU 4 x6 23)), (1002, (bU 5 x7 44)), (2001, (bU 5 x8 44))]⟩ x0 x1 x2 x3 x4 x5 x6 x7 x8 (by kernel_rfl))
  have h24 := (g46p10110100110011001100011 A n _ _).trans h23
  have h25 := (g46p1011010011001100110001 A n (g46Q A n (pth 3355437) (blockK 3 (g46Q A n (pth 996141) (g46W A n (pth 78637) m1 (blockK 2 (blockK 1 (g46Q A n (pth 3885) (g46W A n (pth 301) m0 (blockK 0 (g46Q A n (pth 61) (g46T kk))))))))))) ⟨[(26, (bO false)), (25, (bO false)), (24, (i6 x0)), (23, (bO true)), (22, (bO true)), (21, (bO true)), (20, (u64v (x6.getD 3 0))), (19, (pT 1001 3)), (18, (bO true)), (17, (bO true)), (16, (u64v x1)), (2, (pT 1000 0)), (3, (pT 1001 0)), (4, (pT 1002 0)), (5, (pT 2001 0)), (6, (i6 x0)), (7, (u64v x1)), (9, (aN .u64 4 x2)), (10, (i6 x3)), (14, (i6 x4))], [(1000, (bU 5 x5 44)), (1001, (bU 4 x6 23)), (1002, (bU 5 x7 44)), (2001, (bU 5 x8 44))]⟩ false (by kernel_rfl)).trans h24
  have h26 := (g46Qn A n _ _ _).trans h25
  have h27 := (g46Qn A n _ _ _).trans (g46J8_eq A n kk m0 m1 lg46L3 lg46L6 hg46L3 hg46L6  ⟨[(26, (bO false)), (25, uN), (24, uN), (23, (bO false)), (22, (bO false)), (21, (bO false)), (20, (u64v (x6.getD 3 0))), (19, (pT 1001 3)), (18, (bO true)), (17, (bO true)), (16, (u64v x1)), (2, (pT 1000 0)), (3, (pT 1001 0)), (4, (pT 1002 0)), (5, (pT 2001 0)), (6, (i6 x0)), (7, (u64v x1)), (9, (aN .u64 4 x2)), (10, (i6 x3)), (14, (i6 x4))], [(1000, (bU 5 x5 44)), (1001, (bU 4 x6 23)), (1002, (bU 5 x7 44)), (2001, (bU 5 x8 44))]⟩ x0 x1 x2 x3 x4 x5 x6 x7 x8 (by kernel_rfl))
  have h28 := (g46p10110100110011001100011 A n _ _).trans h27
  have h29 := (g46p1011010011001100110001 A n (g46Q A n (pth 3355437) (blockK 3 (g46Q A n (pth 996141) (g46W A n (pth 78637) m1 (blockK 2 (blockK 1 (g46Q A n (pth 3885) (g46W A n (pth 301) m0 (blockK 0 (g46Q A n (pth 61) (g46T kk))))))))))) ⟨[(26, (bO false)), (25, uN), (24, uN), (23, (bO false)), (22, (bO false)), (21, (bO false)), (20, (u64v (x6.getD 3 0))), (19, (pT 1001 3)), (18, (bO true)), (17, (bO true)), (16, (u64v x1)), (2, (pT 1000 0)), (3, (pT 1001 0)), (4, (pT 1002 0)), (5, (pT 2001 0)), (6, (i6 x0)), (7, (u64v x1)), (9, (aN .u64 4 x2)), (10, (i6 x3)), (14, (i6 x4))], [(1000, (bU 5 x5 44)), (1001, (bU 4 x6 23)), (1002, (bU 5 x7 44)), (2001, (bU 5 x8 44))]⟩ false (by kernel_rfl)).trans h28
  have h30 := (g46Qn A n _ _ _).trans h29
  have h31 := (g46Qn A n _ _ _).trans (g46J8_eq A n kk m0 m1 lg46L3 lg46L6 hg46L3 hg46L6  ⟨[(26, (bO false)), (25, uN), (24, uN), (23, (bO false)), (22, (bO false)), (21, uN), (20, uN), (19, uN), (18, (bO false)), (17, (bO false)), (16, (u64v x1)), (2, (pT 1000 0)), (3, (pT 1001 0)), (4, (pT 1002 0)), (5, (pT 2001 0)), (6, (i6 x0)), (7, (u64v x1)), (9, (aN .u64 4 x2)), (10, (i6 x3)), (14, (i6 x4))], [(1000, (bU 5 x5 44)), (1001, (bU 4 x6 23)), (1002, (bU 5 x7 44)), (2001, (bU 5 x8 44))]⟩ x0 x1 x2 x3 x4 x5 x6 x7 x8 (by kernel_rfl))
  have h32 := (g46p10110100110011001100011 A n _ _).trans h31
  have h33 := (g46p1011010011001100110001 A n (g46Q A n (pth 3355437) (blockK 3 (g46Q A n (pth 996141) (g46W A n (pth 78637) m1 (blockK 2 (blockK 1 (g46Q A n (pth 3885) (g46W A n (pth 301) m0 (blockK 0 (g46Q A n (pth 61) (g46T kk))))))))))) ⟨[(26, (bO false)), (25, uN), (24, uN), (23, (bO false)), (22, (bO false)), (21, uN), (20, uN), (19, uN), (18, (bO false)), (17, (bO false)), (16, (u64v x1)), (2, (pT 1000 0)), (3, (pT 1001 0)), (4, (pT 1002 0)), (5, (pT 2001 0)), (6, (i6 x0)), (7, (u64v x1)), (9, (aN .u64 4 x2)), (10, (i6 x3)), (14, (i6 x4))], [(1000, (bU 5 x5 44)), (1001, (bU 4 x6 23)), (1002, (bU 5 x7 44)), (2001, (bU 5 x8 44))]⟩ false (by kernel_rfl)).trans h32
  have h34 := (g46Qn A n _ _ _).trans h33
  have h1 := g46R7 A n (g46Q A n (pth 6501165) (g46Q A n (pth 3355437) (blockK 3 (g46Q A n (pth 996141) (g46W A n (pth 78637) m1 (blockK 2 (blockK 1 (g46Q A n (pth 3885) (g46W A n (pth 301) m0 (blockK 0 (g46Q A n (pth 61) (g46T kk)))))))))))) x0 x1 x2 x3 x4 x5 x6 x7 x8
  have h35 := (g46p1011010011001100110000 A n _ ⟨[(2, (pT 1000 0)), (3, (pT 1001 0)), (4, (pT 1002 0)), (5, (pT 2001 0)), (6, (i6 x0)), (7, (u64v x1)), (9, (aN .u64 4 x2)), (10, (i6 x3)), (14, (i6 x4))], [(1000, (bU 5 x5 44)), (1001, (bU 4 x6 23)), (1002, (bU 5 x7 44)), (2001, (bU 5 x8 44))]⟩ _ (by kernel_rfl)).trans h1
  rw [h22, h26, h30, h34] at h35
  have h36 := (g46p101101001100110011000 A n _ _).trans h35
  have h37 := (g46p10110100110011001100 A n _ _).trans h36
  have h38 := (g46p1011010011001100110 A n _ _).trans h37
  have h39 := (g46p101101001100110011 A n _ _).trans h38
  exact (codeD_first (s' := ⟨[(2, (pT 1000 0)), (3, (pT 1001 0)), (4, (pT 1002 0)), (5, (pT 2001 0)), (6, (i6 x0)), (7, (u64v x1)), (9, (aN .u64 4 x2)), (10, (i6 x3)), (14, (i6 x4))], [(1000, (bU 5 x5 44)), (1001, (bU 4 x6 23)), (1002, (bU 5 x7 44)), (2001, (bU 5 x8 44))]⟩) (id := 7) (by kernel_rfl) (h.trans (by kernel_rfl)) _).trans (h39.trans (by kernel_rfl))
def g46L6 {R : Type} (A : Ar) (n : Nat) (kk : AV → Heap → Option R) (lg46L3 : List Nat → Int → List Nat → List Nat → List Nat → List Nat → Option R) : Nat → Int → Nat → List Nat → Int → Int → List Nat → List Nat → List Nat → List Nat → Option R
  | 0, _, _, _, _, _, _, _, _, _ => none
  | m + 1, x0, x1, x2, x3, x4, x5, x6, x7, x8 => match (generalizing := false) A.ic .lss x4 64 with
  | true => g46J7 A n kk lg46L3 (g46L6 A n kk lg46L3 m) x0 x1 x2 x3 x4 x5 x6 x7 x8
  | false => lg46L3 x2 (A.ib .add .i64 x3 1) x5 x6 x7 x8
set_option maxRecDepth 100000 in
theorem g46L6_eq {R : Type} (A : Ar) (n : Nat) (kk : AV → Heap → Option R) (m0 : Nat) (lg46L3 : List Nat → Int → List Nat → List Nat → List Nat → List Nat → Option R) 
    (hg46L3 : ∀ (s : St) (x0 : List Nat) (x1 : Int) (x2 x3 : List Nat) (x4 x5 : List Nat), keep g46an 3 s = ⟨[(2, (pT 1000 0)), (3, (pT 1001 0)), (4, (pT 1002 0)), (5, (pT 2001 0)), (9, (aN .u64 4 x0)), (10, (i6 x1))], [(1000, (bU 5 x2 44)), (1001, (bU 4 x3 23)), (1002, (bU 5 x4 44)), (2001, (bU 5 x5 44))]⟩ → g46V A n (pth 301) m0 (blockK 0 (g46Q A n (pth 61) (g46T kk))) s = lg46L3 x0 x1 x2 x3 x4 x5) (m : Nat) (s : St) (x0 : Int) (x1 : Nat) (x2 : List Nat) (x3 x4 : Int) (x5 x6 : List Nat) (x7 x8 : List Nat) (h : keep g46an 6 s = ⟨[(2, (pT 1000 0)), (3, (pT 1001 0)), (4, (pT 1002 0)), (5, (pT 2001 0)), (6, (i6 x0)), (7, (u64v x1)), (9, (aN .u64 4 x2)), (10, (i6 x3)), (14, (i6 x4))], [(1000, (bU 5 x5 44)), (1001, (bU 4 x6 23)), (1002, (bU 5 x7 44)), (2001, (bU 5 x8 44))]⟩) :
    g46V A n (pth 78637) m (blockK 2 (blockK 1 (g46Q A n (pth 3885) (g46W A n (pth 301) m0 (blockK 0 (g46Q A n (pth 61) (g46T kk))))))) s = g46L6 A n kk lg46L3 m x0 x1 x2 x3 x4 x5 x6 x7 x8 := by
  induction m generalizing s x0 x1 x2 x3 x4 x5 x6 x7 x8 with
  | zero => rfl
  | succ m ih =>
    have h3 := (g46Qn A n _ _ _).trans (g46J7_eq A n kk m0 m lg46L3 (g46L6 A n kk lg46L3 m) hg46L3 ih  ⟨[(15, (bO (A.ic .lss x4 64))), (2, (pT 1000 0)), (3, (pT 1001 0)), (4, (pT 1002 0)), (5, (pT 2001 0)), (6, (i6 x0)), (7, (u64v x1)), (9, (aN .u64 4 x2)), (10, (i6 x3)), (14, (i6 x4))], [(1000, (bU 5 x5 44)), (1001, (bU 4 x6 23)), (1002, (bU 5 x7 44)), (2001, (bU 5 x8 44))]⟩ x0 x1 x2 x3 x4 x5 x6 x7 x8 (by kernel_rfl))
    have h4 := (g46p1011010011001100100 A n _ _).trans h3
    have h7 := (g46Wn A n _ _ _ _).trans (hg46L3 ⟨[(10, (i6 (A.ib .add .i64 x3 1))), (39, (i6 (A.ib .add .i64 x3 1))), (2, (pT 1000 0)), (3, (pT 1001 0)), (4, (pT 1002 0)), (5, (pT 2001 0)), (9, (aN .u64 4 x2)), (10, (i6 x3))], [(1000, (bU 5 x5 44)), (1001, (bU 4 x6 23)), (1002, (bU 5 x7 44)), (2001, (bU 5 x8 44))]⟩ x2 (A.ib .add .i64 x3 1) x5 x6 x7 x8 (by kernel_rfl))
    have h5 := g46R12 A n (g46W A n (pth 301) m0 (blockK 0 (g46Q A n (pth 61) (g46T kk)))) x2 x3 x5 x6 x7 x8
    have h8 := (g46p10110100111 A n _ ⟨[(15, (bO (A.ic .lss x4 64))), (2, (pT 1000 0)), (3, (pT 1001 0)), (4, (pT 1002 0)), (5, (pT 2001 0)), (6, (i6 x0)), (7, (u64v x1)), (9, (aN .u64 4 x2)), (10, (i6 x3)), (14, (i6 x4))], [(1000, (bU 5 x5 44)), (1001, (bU 4 x6 23)), (1002, (bU 5 x7 44)), (2001, (bU 5 x8 44))]⟩ _ (by kernel_rfl)).trans h5
    rw [h7] at h8
    have h9 := (g46Qn A n _ _ _).trans h8
    have h10 := (blockK_n 1 _ _).trans h9
    have h11 := (blockK_hit 2 _ _).trans h10
    have h12 := (g46We A n (pth 78637) m _ _ _).trans h11
    have h13 := (g46Qe A n (pth 471853) _ _ _).trans h12
    have h14 := (g46p1011010011001100101 A n _ _).trans h13
    have h15 := g46p101101001100110010 A n (g46Q A n (pth 471853) (g46W A n (pth 78637) m (blockK 2 (blockK 1 (g46Q A n (pth 3885) (g46W A n (pth 301) m0 (blockK 0 (g46Q A n (pth 61) (g46T kk))))))))) ⟨[(15, (bO (A.ic .lss x4 64))), (2, (pT 1000 0)), (3, (pT 1001 0)), (4, (pT 1002 0)), (5, (pT 2001 0)), (6, (i6 x0)), (7, (u64v x1)), (9, (aN .u64 4 x2)), (10, (i6 x3)), (14, (i6 x4))], [(1000, (bU 5 x5 44)), (1001, (bU 4 x6 23)), (1002, (bU 5 x7 44)), (2001, (bU 5 x8 44))]⟩ (A.ic .lss x4 64) (by kernel_rfl)
    rw [h4, h14] at h15
    have h16 := (g46p10110100110011001 A n _ _).trans h15
    have h17 := (g46Qn A n _ _ _).trans h16
    have h1 := g46R6 A n (g46Q A n (pth 209709) (g46W A n (pth 78637) m (blockK 2 (blockK 1 (g46Q A n (pth 3885) (g46W A n (pth 301) m0 (blockK 0 (g46Q A n (pth 61) (g46T kk))))))))) x0 x1 x2 x3 x4 x5 x6 x7 x8
    have h18 := (g46p10110100110011000 A n _ ⟨[(2, (pT 1000 0)), (3, (pT 1001 0)), (4, (pT 1002 0)), (5, (pT 2001 0)), (6, (i6 x0)), (7, (u64v x1)), (9, (aN .u64 4 x2)), (10, (i6 x3)), (14, (i6 x4))], [(1000, (bU 5 x5 44)), (1001, (bU 4 x6 23)), (1002, (bU 5 x7 44)), (2001, (bU 5 x8 44))]⟩ _ (by kernel_rfl)).trans h1
    rw [h17] at h18
    have h19 := (g46p1011010011001100 A n _ _).trans h18
    exact (loopD_first (s' := ⟨[(2, (pT 1000 0)), (3, (pT 1001 0)), (4, (pT 1002 0)), (5, (pT 2001 0)), (6, (i6 x0)), (7, (u64v x1)), (9, (aN .u64 4 x2)), (10, (i6 x3)), (14, (i6 x4))], [(1000, (bU 5 x5 44)), (1001, (bU 4 x6 23)), (1002, (bU 5 x7 44)), (2001, (bU 5 x8 44))]⟩) (id := 6) (by kernel_rfl) (h.trans (by kernel_rfl)) _).trans ((g46Vs A n _ m _ _).trans (h19.trans (by kernel_rfl)))
def g46J4 {R : Type} (A : Ar) (n : Nat) (kk : AV → Heap → Option R) (lg46L3 : List Nat → Int → List Nat → List Nat → List Nat → List Nat → Option R) (x0 : List Nat) (x1 : Int) (x2 x3 : List Nat) (x4 x5 : List Nat) : Option R :=
  match (generalizing := false) A.neg x1 with
  | true => none
  | false => match (generalizing := false) A.lt (A.toN x1) 4 with
    | true => g46L6 A n kk lg46L3 n x1 (x0.getD (A.toN x1) 0) x0 x1 0 x2 x3 x4 x5
    | false => none
set_option maxRecDepth 100000 in
theorem g46J4_eq {R : Type} (A : Ar) (n : Nat) (kk : AV → Heap → Option R) (m0 : Nat) (lg46L3 : List Nat → Int → List Nat → List Nat → List Nat → List Nat → Option R) 
    (hg46L3 : ∀ (s : St) (x0 : List Nat) (x1 : Int) (x2 x3 : List Nat) (x4 x5 : List Nat), keep g46an 3 s = ⟨[(2, (pT 1000 0)), (3, (pT 1001 0)), (4, (pT 1002 0)), (5, (pT 2001 0)), (9, (aN .u64 4 x0)), (10, (i6 x1))], [(1000, (bU 5 x2 44)), (1001, (bU 4 x3 23)), (1002, (bU 5 x4 44)), (2001, (bU 5 x5 44))]⟩ → g46V A n (pth 301) m0 (blockK 0 (g46Q A n (pth 61) (g46T kk))) s = lg46L3 x0 x1 x2 x3 x4 x5) (s : St) (x0 : List Nat) (x1 : Int) (x2 x3 : List Nat) (x4 x5 : List Nat) (h : keep g46an 4 s = ⟨[(2, (pT 1000 0)), (3, (pT 1001 0)), (4, (pT 1002 0)), (5, (pT 2001 0)), (9, (aN .u64 4 x0)), (10, (i6 x1))], [(1000, (bU 5 x2 44)), (1001, (bU 4 x3 23)), (1002, (bU 5 x4 44)), (2001, (bU 5 x5 44))]⟩) :
    g46D A n (pth 1837) (g46W A n (pth 301) m0 (blockK 0 (g46Q A n (pth 61) (g46T kk)))) s = g46J4 A n kk lg46L3 x0 x1 x2 x3 x4 x5 := by
  have h5 := (g46p101101001100110 A n _ _).trans (g46L6_eq A n kk m0 lg46L3 hg46L3 n ⟨[(14, (i6 0)), (2, (pT 1000 0)), (3, (pT 1001 0)), (4, (pT 1002 0)), (5, (pT 2001 0)), (6, (i6 x1)), (7, (u64v (x0.getD (A.toN x1) 0))), (9, (aN .u64 4 x0)), (10, (i6 x1))], [(1000, (bU 5 x2 44)), (1001, (bU 4 x3 23)), (1002, (bU 5 x4 44)), (2001, (bU 5 x5 44))]⟩ x1 (x0.getD (A.toN x1) 0) x0 x1 0 x2 x3 x4 x5 (by kernel_rfl))
  have h6 := (g46p10110100110011 A n _ _).trans h5
  have h7 := (g46Qn A n _ _ _).trans h6
  have h3 := g46R5 A n (g46Q A n (pth 29485) (blockK 1 (g46Q A n (pth 3885) (g46W A n (pth 301) m0 (blockK 0 (g46Q A n (pth 61) (g46T kk))))))) x1 (x0.getD (A.toN x1) 0) x0 x1 x2 x3 x4 x5
  have h8 := (g46p10110100110010 A n _ ⟨[(7, (u64v (x0.getD (A.toN x1) 0))), (6, (i6 x1)), (13, (u64v (x0.getD (A.toN x1) 0))), (12, (i6 x1)), (2, (pT 1000 0)), (3, (pT 1001 0)), (4, (pT 1002 0)), (5, (pT 2001 0)), (9, (aN .u64 4 x0)), (10, (i6 x1))], [(1000, (bU 5 x2 44)), (1001, (bU 4 x3 23)), (1002, (bU 5 x4 44)), (2001, (bU 5 x5 44))]⟩ _ (by kernel_rfl)).trans h3
  rw [h7] at h8
  have h9 := (g46p1011010011001 A n _ _).trans h8
  have h10 := (g46Qn A n _ _ _).trans h9
  have h1 := g46R4 A n (g46Q A n (pth 13101) (blockK 1 (g46Q A n (pth 3885) (g46W A n (pth 301) m0 (blockK 0 (g46Q A n (pth 61) (g46T kk))))))) x0 x1 x2 x3 x4 x5
  have h11 := (g46p1011010011000 A n _ ⟨[(2, (pT 1000 0)), (3, (pT 1001 0)), (4, (pT 1002 0)), (5, (pT 2001 0)), (9, (aN .u64 4 x0)), (10, (i6 x1))], [(1000, (bU 5 x2 44)), (1001, (bU 4 x3 23)), (1002, (bU 5 x4 44)), (2001, (bU 5 x5 44))]⟩ _ (by kernel_rfl)).trans h1
  rw [h10] at h11
  have h12 := (g46p101101001100 A n _ _).trans h11
  have h13 := (g46p10110100110 A n _ _).trans h12
  have h14 := (g46p1011010011 A n _ _).trans h13
  exact (codeD_first (s' := ⟨[(2, (pT 1000 0)), (3, (pT 1001 0)), (4, (pT 1002 0)), (5, (pT 2001 0)), (9, (aN .u64 4 x0)), (10, (i6 x1))], [(1000, (bU 5 x2 44)), (1001, (bU 4 x3 23)), (1002, (bU 5 x4 44)), (2001, (bU 5 x5 44))]⟩) (id := 4) (by kernel_rfl) (h.trans (by kernel_rfl)) _).trans (h14.trans (by kernel_rfl))
def g46L3 {R : Type} (A : Ar) (n : Nat) (kk : AV → Heap → Option R)  : Nat → List Nat → Int → List Nat → List Nat → List Nat → List Nat → Option R
  | 0, _, _, _, _, _, _ => none
  | m + 1, x0, x1, x2, x3, x4, x5 => match (generalizing := false) A.ic .lss x1 4 with
  | true => g46J4 A n kk (g46L3 A n kk  m) x0 x1 x2 x3 x4 x5
  | false => kk (aN .u64 5 x5) [(1002, (bU 5 x5 44)), (2001, (bU 5 x5 44))]
set_option maxRecDepth 100000 in
theorem g46L3_eq {R : Type} (A : Ar) (n : Nat) (kk : AV → Heap → Option R)    (m : Nat) (s : St) (x0 : List Nat) (x1 : Int) (x2 x3 : List Nat) (x4 x5 : List Nat) (h : keep g46an 3 s = ⟨[(2, (pT 1000 0)), (3, (pT 1001 0)), (4, (pT 1002 0)), (5, (pT 2001 0)), (9, (aN .u64 4 x0)), (10, (i6 x1))], [(1000, (bU 5 x2 44)), (1001, (bU 4 x3 23)), (1002, (bU 5 x4 44)), (2001, (bU 5 x5 44))]⟩) :
    g46V A n (pth 301) m (blockK 0 (g46Q A n (pth 61) (g46T kk))) s = g46L3 A n kk  m x0 x1 x2 x3 x4 x5 := by
  induction m generalizing s x0 x1 x2 x3 x4 x5 with
  | zero => rfl
  | succ m ih =>
    have h3 := (g46Qn A n _ _ _).trans (g46J4_eq A n kk m (g46L3 A n kk  m) ih  ⟨[(11, (bO (A.ic .lss x1 4))), (2, (pT 1000 0)), (3, (pT 1001 0)), (4, (pT 1002 0)), (5, (pT 2001 0)), (9, (aN .u64 4 x0)), (10, (i6 x1))], [(1000, (bU 5 x2 44)), (1001, (bU 4 x3 23)), (1002, (bU 5 x4 44)), (2001, (bU 5 x5 44))]⟩ x0 x1 x2 x3 x4 x5 (by kernel_rfl))
    have h4 := (g46p10110100100 A n _ _).trans h3
    have h7 : (g46T kk) .ret ⟨[(40, (aN .u64 5 x5)), (4, (pT 1002 0)), (5, (pT 2001 0))], [(1002, (bU 5 x5 44)), (2001, (bU 5 x5 44))]⟩ = kk (aN .u64 5 x5) [(1002, (bU 5 x5 44)), (2001, (bU 5 x5 44))] := by kernel_rfl
    have h8 := (g46p101111 A n _ _).trans h7
    have h9 := (g46Qn A n _ _ _).trans h8
    have h5 := g46R13 A n (g46Q A n (pth 125) (g46T kk)) x4 x5
    have h10 := (g46p101110 A n _ ⟨[(11, (bO (A.ic .lss x1 4))), (2, (pT 1000 0)), (3, (pT 1001 0)), (4, (pT 1002 0)), (5, (pT 2001 0)), (9, (aN .u64 4 x0)), (10, (i6 x1))], [(1000, (bU 5 x2 44)), (1001, (bU 4 x3 23)), (1002, (bU 5 x4 44)), (2001, (bU 5 x5 44))]⟩ _ (by kernel_rfl)).trans h5
    rw [h9] at h10
    have h11 := (g46p10111 A n _ _).trans h10
    have h12 := (g46Qn A n _ _ _).trans h11
    have h13 := (blockK_hit 0 _ _).trans h12
    have h14 := (g46We A n (pth 301) m _ _ _).trans h13
    have h15 := (g46Qe A n (pth 1837) _ _ _).trans h14
    have h16 := (g46p10110100101 A n _ _).trans h15
    have h17 := g46p1011010010 A n (g46Q A n (pth 1837) (g46W A n (pth 301) m (blockK 0 (g46Q A n (pth 61) (g46T kk))))) ⟨[(11, (bO (A.ic .lss x1 4))), (2, (pT 1000 0)), (3, (pT 1001 0)), (4, (pT 1002 0)), (5, (pT 2001 0)), (9, (aN .u64 4 x0)), (10, (i6 x1))], [(1000, (bU 5 x2 44)), (1001, (bU 4 x3 23)), (1002, (bU 5 x4 44)), (2001, (bU 5 x5 44))]⟩ (A.ic .lss x1 4) (by kernel_rfl)
    rw [h4, h16] at h17
    have h18 := (g46p101101001 A n _ _).trans h17
    have h19 := (g46Qn A n _ _ _).trans h18
    have h1 := g46R3 A n (g46Q A n (pth 813) (g46W A n (pth 301) m (blockK 0 (g46Q A n (pth 61) (g46T kk))))) x0 x1 x2 x3 x4 x5
    have h20 := (g46p101101000 A n _ ⟨[(2, (pT 1000 0)), (3, (pT 1001 0)), (4, (pT 1002 0)), (5, (pT 2001 0)), (9, (aN .u64 4 x0)), (10, (i6 x1))], [(1000, (bU 5 x2 44)), (1001, (bU 4 x3 23)), (1002, (bU 5 x4 44)), (2001, (bU 5 x5 44))]⟩ _ (by kernel_rfl)).trans h1
    rw [h19] at h20
    have h21 := (g46p10110100 A n _ _).trans h20
    exact (loopD_first (s' := ⟨[(2, (pT 1000 0)), (3, (pT 1001 0)), (4, (pT 1002 0)), (5, (pT 2001 0)), (9, (aN .u64 4 x0)), (10, (i6 x1))], [(1000, (bU 5 x2 44)), (1001, (bU 4 x3 23)), (1002, (bU 5 x4 44)), (2001, (bU 5 x5 44))]⟩) (id := 3) (by kernel_rfl) (h.trans (by kernel_rfl)) _).trans ((g46Vs A n _ m _ _).trans (h21.trans (by kernel_rfl)))
def g46 {R : Type} (A : Ar) (n : Nat) (kk : AV → Heap → Option R) (a b : List Nat) : Option R :=
  g46L3 A n kk  n b 0 a b [0, 0, 0, 0, 0] ([0, 0, 0, 0, 0].set 0 1)
set_option maxRecDepth 100000 in
theorem g46_eq {R : Type} (A : Ar) (n : Nat) (kk : AV → Heap → Option R) (a b : List Nat) :
    funD A gtys (g46O A) g46an n (bodyOf Try.f46) g46res [(aN .u64 5 a), (aN .u64 4 b)] [] kk = g46 A n kk a b := by
  have h7 := (g46p1011010 A n _ _).trans (g46L3_eq A n kk    n ⟨[(10, (i6 0)), (9, (aN .u64 4 b)), (2, (pT 1000 0)), (3, (pT 1001 0)), (4, (pT 1002 0)), (5, (pT 2001 0))], [(1000, (bU 5 a 44)), (1001, (bU 4 b 23)), (1002, (bU 5 [0, 0, 0, 0, 0] 44)), (2001, (bU 5 ([0, 0, 0, 0, 0].set 0 1) 44))]⟩ b 0 a b [0, 0, 0, 0, 0] ([0, 0, 0, 0, 0].set 0 1) (by kernel_rfl))
  have h8 := (g46p101101 A n _ _).trans h7
  have h9 := (g46Qn A n _ _ _).trans h8
  have h5 := g46R2 A n (g46Q A n (pth 109) (g46Q A n (pth 61) (g46T kk))) a b [0, 0, 0, 0, 0] ([0, 0, 0, 0, 0].set 0 1)
  have h10 := (g46p101100 A n _ ⟨[(5, (pT 2001 0)), (8, (aN .u64 5 ([0, 0, 0, 0, 0].set 0 1))), (2, (pT 1000 0)), (3, (pT 1001 0)), (4, (pT 1002 0))], [(2001, (bU 5 ([0, 0, 0, 0, 0].set 0 1) 44)), (1000, (bU 5 a 44)), (1001, (bU 4 b 23)), (1002, (bU 5 [0, 0, 0, 0, 0] 44))]⟩ _ (by kernel_rfl)).trans h5
  rw [h9] at h10
  have h11 := (g46p10110 A n _ _).trans h10
  have h12 := (g46p1011 A n _ _).trans h11
  have h13 := (g46Qn A n _ _ _).trans h12
  have h14 := (g46p1010 A n _ _).trans h13
  have h15 := (g46p101 A n _ _).trans h14
  have h16 := (g46Qn A n _ _ _).trans h15
  have h3 := g46R1 A n (g46Q A n (pth 13) (g46T kk)) a b [0, 0, 0, 0, 0]
  have h17 := (g46p100 A n _ ⟨[(4, (pT 1002 0)), (3, (pT 1001 0)), (2, (pT 1000 0)), (0, (aN .u64 5 a)), (1, (aN .u64 4 b))], [(1002, (bU 5 [0, 0, 0, 0, 0] 44)), (1001, (bU 4 b 23)), (1000, (bU 5 a 44))]⟩ _ (by kernel_rfl)).trans h3
  rw [h16] at h17
  have h18 := (g46p10 A n _ _).trans h17
  have h19 := (g46p1 A n _ _).trans h18
  have h20 := (g46Qn A n _ _ _).trans h19
  have h1 := g46R0 A n (g46Q A n (pth 3) (g46T kk)) a b
  have h21 := (g46p0 A n _ ⟨[(0, (aN .u64 5 a)), (1, (aN .u64 4 b))], []⟩ _ (by kernel_rfl)).trans h1
  rw [h20] at h21
  have h22 := (g46p A n _ _).trans h21
  exact (show funD A gtys (g46O A) g46an n (bodyOf Try.f46) g46res [(aN .u64 5 a), (aN .u64 4 b)] [] kk = g46D A n (pth 1) (g46T kk) ⟨[(0, (aN .u64 5 a)), (1, (aN .u64 4 b))], []⟩ from by kernel_rfl).trans (h22.trans (by kernel_rfl))
def g46is (o : Option AV) : Bool := match o with
  | some (aN .u64 5 _) => true
  | _ => false
def g46g0 (o : Option AV) : List Nat := match o with
  | some (aN .u64 5 x) => x
  | _ => []
theorem g46is_spec {o : Option AV} (h : g46is o = true) : o = some (aN .u64 5 (g46g0 o)) := by
  unfold g46is at h
  split at h
  · rfl
  · cases h
def g46v (A : Ar) (a b : List Nat) : Option AV := g46 A (100000) (fun v _ => some v) a b
def g46ok (A : Ar) (a b : List Nat) : Bool := g46is (g46v A a b)
def g46r0 (A : Ar) (a b : List Nat) : List Nat := g46g0 (g46v A a b)
theorem g46ok_spec {A : Ar} {a b} (h : g46ok A a b = true) : g46v A a b = some (aN .u64 5 (g46r0 A a b)) := g46is_spec h
def g46o (A : Ar) (args : List AV) : Option (Bool × AV) := match args with
  | [.v (.agg [.nums .u64 n0 a]), .v (.agg [.nums .u64 n1 b])] => some (Nat.beq n0 5 && (Nat.beq n1 4 && (g46ok A a b)), .v (.agg [.nums .u64 5 (g46r0 A a b)]))
  | _ => none
theorem g46o_sound : ∀ args v, g46o realA args = some (true, v) → Fn1 Try.prog 46 args v := by
  intro args v h
  unfold g46o at h
  split at h
  · rename_i n0 a n1 b
    simp only [Option.some.injEq, Prod.mk.injEq] at h
    obtain ⟨hc, h⟩ := h
    subst h
    · skip
      simp only [Bool.and_eq_true] at hc
      have en0 := beq_true hc.1
      subst en0
      replace hc := hc.2
      have en1 := beq_true hc.1
      subst en1
      replace hc := hc.2
      exact fn1_of mixed gtysOK g46O_sound g46O_det (an := g46an) (n := 100000) Try.func46 (c := bodyOf Try.f46) rfl (by kernel_rfl) Try.call46 (Nat.le_of_ble_eq_true rfl) (fun b => rfl) (fun _ => (g46_eq realA (100000) (fun v _ => some v) a b).trans (show g46v realA a b = _ from g46ok_spec hc))
  · cases h
/- engrosser/field.Pow -/
def g24O (A : Ar) : Orc := orcOf [(37, g37o A), (46, g46o A), (38, g38o A)]
theorem g24O_sound : OSound Try.prog (g24O realA) := orc_sound fun f g hm args v hv => by
  simp only [List.mem_cons, List.not_mem_nil, or_false, Prod.mk.injEq] at hm
  rcases hm with ⟨rfl, rfl⟩ | ⟨rfl, rfl⟩ | ⟨rfl, rfl⟩
  · exact g37o_sound _ _ hv
  · exact g46o_sound _ _ hv
  · exact g38o_sound _ _ hv
theorem g24O_det : ODet (g24O realA) := orc_det _
def g24an : Ann := [(0, ([0, 1], [])), (1, ([2, 3, 4], [1000, 1001, 1002]))]
def g24res : List ResultVar := [.cell 4 24]
noncomputable def g24D {R : Type} (A : Ar) (n : Nat) (p : List Bool) (K : Ex → St → Option R) (s : St) : Option R := codeD A gtys (g24O A) g24an n (sub (bodyOf Try.f24) p) K s
noncomputable def g24Q {R : Type} (A : Ar) (n : Nat) (p : List Bool) (K : Ex → St → Option R) : Ex → St → Option R := seqC (g24D A n p K) K
noncomputable def g24T {R : Type} (kk : AV → Heap → Option R) : Ex → St → Option R := finD gtys g24res kk
theorem g24Qn {R : Type} (A : Ar) (n : Nat) (p : List Bool) (K : Ex → St → Option R) (s : St) : g24Q A n p K .normal s = g24D A n p K s := rfl
section
variable {R : Type} (A : Ar) (n : Nat) (K : Ex → St → Option R) (s : St)
theorem g24p : g24D A n (pth 1) K s = g24D A n (pth 2) (g24Q A n (pth 3) K) s := by kernel_rfl
theorem g24p0 (s' : St) (h : keep g24an 0 s = keep g24an 0 s') : g24D A n (pth 2) K s = g24D A n (pth 2) K s' := codeD_first (id := 0) (by kernel_rfl) h K
theorem g24p1 : g24D A n (pth 3) K s = g24D A n (pth 5) (g24Q A n (pth 7) K) s := by kernel_rfl
theorem g24p10 (s' : St) (h : keep g24an 1 s = keep g24an 1 s') : g24D A n (pth 5) K s = g24D A n (pth 5) K s' := codeD_first (id := 1) (by kernel_rfl) h K
theorem g24p11 : g24D A n (pth 7) K s = K .ret s := by kernel_rfl
theorem g24R0 (x0 x1 : List Nat) : g24D A n (pth 2) K ⟨[(0, (aN .u64 4 x0)), (1, (aN .u64 4 x1))], []⟩ = K .normal ⟨[(4, (pT 1002 0)), (3, (pT 1001 0)), (2, (pT 1000 0)), (0, (aN .u64 4 x0)), (1, (aN .u64 4 x1))], [(1002, (bU 4 [0, 0, 0, 0] 24)), (1001, (bU 4 x1 23)), (1000, (bU 4 x0 24))]⟩ := by kernel_rfl
theorem g24R1 (x0 x1 x2 : List Nat) : g24D A n (pth 5) K ⟨[(2, (pT 1000 0)), (3, (pT 1001 0)), (4, (pT 1002 0))], [(1000, (bU 4 x0 24)), (1001, (bU 4 x1 23)), (1002, (bU 4 x2 24))]⟩ = match (generalizing := false) g37ok A x0 with
    | true => match (generalizing := false) g46ok A (g37r0 A x0) x1 with
      | true => match (generalizing := false) g38ok A (g46r0 A (g37r0 A x0) x1) with
        | true => K .normal ⟨[(9, (aN .u64 4 (g38r0 A (g46r0 A (g37r0 A x0) x1)))), (8, (aN .u64 5 (g46r0 A (g37r0 A x0) x1))), (7, (aN .u64 4 x1)), (6, (aN .u64 5 (g37r0 A x0))), (5, (aN .u64 4 x0)), (2, (pT 1000 0)), (3, (pT 1001 0)), (4, (pT 1002 0))], [(1000, (bU 4 x0 24)), (1001, (bU 4 x1 23)), (1002, (bU 4 (g38r0 A (g46r0 A (g37r0 A x0) x1)) 24))]⟩
        | false => none
      | false => none
    | false => none := by kernel_rfl
end
def g24 {R : Type} (A : Ar) (n : Nat) (kk : AV → Heap → Option R) (a b : List Nat) : Option R :=
  match (generalizing := false) g37ok A a with
  | true => match (generalizing := false) g46ok A (g37r0 A a) b with
    | true => match (generalizing := false) g38ok A (g46r0 A (g37r0 A a) b) with
      | true => kk (aN .u64 4 (g38r0 A (g46r0 A (g37r0 A a) b))) [(1000, (bU 4 a 24)), (1001, (bU 4 b 23)), (1002, (bU 4 (g38r0 A (g46r0 A (g37r0 A a) b)) 24))]
      | false => none
    | false => none
  | false => none
set_option maxRecDepth 100000 in
theorem g24_eq {R : Type} (A : Ar) (n : Nat) (kk : AV → Heap → Option R) (a b : List Nat) :
    funD A gtys (g24O A) g24an n (bodyOf Try.f24) g24res [(aN .u64 4 a), (aN .u64 4 b)] [] kk = g24 A n kk a b := by
  have h5 : (g24T kk) .ret ⟨[(9, (aN .u64 4 (g38r0 A (g46r0 A (g37r0 A a) b)))), (8, (aN .u64 5 (g46r0 A (g37r0 A a) b))), (7, (aN .u64 4 b)), (6, (aN .u64 5 (g37r0 A a))), (5, (aN .u64 4 a)), (2, (pT 1000 0)), (3, (pT 1001 0)), (4, (pT 1002 0))], [(1000, (bU 4 a 24)), (1001, (bU 4 b 23)), (1002, (bU 4 (g38r0 A (g46r0 A (g37r0 A a) b)) 24))]⟩ = kk (aN .u64 4 (g38r0 A (g46r0 A (g37r0 A a) b))) [(1000, (bU 4 a 24)), (1001, (bU 4 b 23)), (1002, (bU 4 (g38r0 A (g46r0 A (g37r0 A a) b)) 24))] := by kernel_rfl
  have h6 := (g24p11 A n _ _).trans h5
  have h7 := (g24Qn A n _ _ _).trans h6
  have h3 := g24R1 A n (g24Q A n (pth 7) (g24T kk)) a b [0, 0, 0, 0]
  have h8 := (g24p10 A n _ ⟨[(4, (pT 1002 0)), (3, (pT 1001 0)), (2, (pT 1000 0)), (0, (aN .u64 4 a)), (1, (aN .u64 4 b))], [(1002, (bU 4 [0, 0, 0, 0] 24)), (1001, (bU 4 b 23)), (1000, (bU 4 a 24))]⟩ _ (by kernel_rfl)).trans h3
  rw [h7] at h8
  have h9 := (g24p1 A n _ _).trans h8
  have h10 := (g24Qn A n _ _ _).trans h9
  have h1 := g24R0 A n (g24Q A n (pth 3) (g24T kk)) a b
  have h11 := (g24p0 A n _ ⟨[(0, (aN .u64 4 a)), (1, (aN .u64 4 b))], []⟩ _ (by kernel_rfl)).trans h1
  rw [h10] at h11
  have h12 := (g24p A n _ _).trans h11
  exact (show funD A gtys (g24O A) g24an n (bodyOf Try.f24) g24res [(aN .u64 4 a), (aN .u64 4 b)] [] kk = g24D A n (pth 1) (g24T kk) ⟨[(0, (aN .u64 4 a)), (1, (aN .u64 4 b))], []⟩ from by kernel_rfl).trans (h12.trans (by kernel_rfl))
def g24is (o : Option AV) : Bool := match o with
  | some (aN .u64 4 _) => true
  | _ => false
def g24g0 (o : Option AV) : List Nat := match o with
  | some (aN .u64 4 x) => x
  | _ => []
theorem g24is_spec {o : Option AV} (h : g24is o = true) : o = some (aN .u64 4 (g24g0 o)) := by
  unfold g24is at h
  split at h
  · rfl
  · cases h
def g24v (A : Ar) (a b : List Nat) : Option AV := g24 A (100000) (fun v _ => some v) a b
def g24ok (A : Ar) (a b : List Nat) : Bool := g24is (g24v A a b)
def g24r0 (A : Ar) (a b : List Nat) : List Nat := g24g0 (g24v A a b)
theorem g24ok_spec {A : Ar} {a b} (h : g24ok A a b = true) : g24v A a b = some (aN .u64 4 (g24r0 A a b)) := g24is_spec h
def g24o (A : Ar) (args : List AV) : Option (Bool × AV) := match args with
  | [.v (.agg [.nums .u64 n0 a]), .v (.agg [.nums .u64 n1 b])] => some (Nat.beq n0 4 && (Nat.beq n1 4 && (g24ok A a b)), .v (.agg [.nums .u64 4 (g24r0 A a b)]))
  | _ => none
theorem g24o_sound : ∀ args v, g24o realA args = some (true, v) → Fn1 Try.prog 24 args v := by
  intro args v h
  unfold g24o at h
  split at h
  · rename_i n0 a n1 b
    simp only [Option.some.injEq, Prod.mk.injEq] at h
    obtain ⟨hc, h⟩ := h
    subst h
    · skip
      simp only [Bool.and_eq_true] at hc
      have en0 := beq_true hc.1
      subst en0
      replace hc := hc.2
      have en1 := beq_true hc.1
      subst en1
      replace hc := hc.2
      exact fn1_of mixed gtysOK g24O_sound g24O_det (an := g24an) (n := 100000) Try.func24 (c := bodyOf Try.f24) rfl (by kernel_rfl) Try.call24 (Nat.le_of_ble_eq_true rfl) (fun b => rfl) (fun _ => (g24_eq realA (100000) (fun v _ => some v) a b).trans (show g24v realA a b = _ from g24ok_spec hc))
  · cases h
/- engrosser/field.Sub -/
def g14O (A : Ar) : Orc := orcOf [(37, g37o A), (38, g38o A)]
theorem g14O_sound : OSound Try.prog (g14O realA) := orc_sound fun f g hm args v hv => by
  simp only [List.mem_cons, List.not_mem_nil, or_false, Prod.mk.injEq] at hm
  rcases hm with ⟨rfl, rfl⟩ | ⟨rfl, rfl⟩
  · exact g37o_sound _ _ hv
  · exact g38o_sound _ _ hv
theorem g14O_det : ODet (g14O realA) := orc_det _
def g14an : Ann := [(0, ([0, 1], [])), (1, ([2, 3, 4], [1000, 1001, 1002])), (2, ([4, 5, 6], [1002, 2004, 2005])), (3, ([4, 5, 6, 7], [1002, 2004, 2005, 3001])), (4, ([4, 5, 6, 7, 14], [1002, 2004, 2005, 3001])), (5, ([4, 5, 6, 7, 14], [1002, 2004, 2005, 3001])), (6, ([4, 5, 6, 7, 8, 14], [1002, 2004, 2005, 3001])), (7, ([4, 5, 6, 7, 14], [1002, 2004, 2005, 3001])), (8, ([4, 5], [1002, 2004]))]
def g14res : List ResultVar := [.cell 4 24]
noncomputable def g14D {R : Type} (A : Ar) (n : Nat) (p : List Bool) (K : Ex → St → Option R) (s : St) : Option R := codeD A gtys (g14O A) g14an n (sub (bodyOf Try.f14) p) K s
noncomputable def g14V {R : Type} (A : Ar) (n : Nat) (p : List Bool) (m : Nat) (K : Ex → St → Option R) (s : St) : Option R := loopD (fun K' s'' => codeD A gtys (g14O A) g14an n (sub (bodyOf Try.f14) p) K' s'') m K s
noncomputable def g14Q {R : Type} (A : Ar) (n : Nat) (p : List Bool) (K : Ex → St → Option R) : Ex → St → Option R := seqC (g14D A n p K) K
noncomputable def g14W {R : Type} (A : Ar) (n : Nat) (p : List Bool) (m : Nat) (K : Ex → St → Option R) : Ex → St → Option R := seqC (g14V A n p m K) K
noncomputable def g14T {R : Type} (kk : AV → Heap → Option R) : Ex → St → Option R := finD gtys g14res kk
theorem g14Qn {R : Type} (A : Ar) (n : Nat) (p : List Bool) (K : Ex → St → Option R) (s : St) : g14Q A n p K .normal s = g14D A n p K s := rfl
theorem g14Qe {R : Type} (A : Ar) (n : Nat) (p : List Bool) (K : Ex → St → Option R) (i : Nat) (s : St) : g14Q A n p K (.exit i) s = K (.exit i) s := rfl
theorem g14Wn {R : Type} (A : Ar) (n : Nat) (p : List Bool) (m : Nat) (K : Ex → St → Option R) (s : St) : g14W A n p m K .normal s = g14V A n p m K s := rfl
theorem g14We {R : Type} (A : Ar) (n : Nat) (p : List Bool) (m : Nat) (K : Ex → St → Option R) (i : Nat) (s : St) : g14W A n p m K (.exit i) s = K (.exit i) s := rfl
theorem g14Vs {R : Type} (A : Ar) (n : Nat) (p : List Bool) (m : Nat) (K : Ex → St → Option R) (s : St) : g14V A n p (m + 1) K s = g14D A n p (g14W A n p m K) s := rfl
section
variable {R : Type} (A : Ar) (n : Nat) (K : Ex → St → Option R) (s : St)
theorem g14p : g14D A n (pth 1) K s = g14D A n (pth 2) (g14Q A n (pth 3) K) s := by kernel_rfl
theorem g14p0 (s' : St) (h : keep g14an 0 s = keep g14an 0 s') : g14D A n (pth 2) K s = g14D A n (pth 2) K s' := codeD_first (id := 0) (by kernel_rfl) h K
theorem g14p1 : g14D A n (pth 3) K s = g14D A n (pth 5) (g14Q A n (pth 7) K) s := by kernel_rfl
theorem g14p10 (s' : St) (h : keep g14an 1 s = keep g14an 1 s') : g14D A n (pth 5) K s = g14D A n (pth 5) K s' := codeD_first (id := 1) (by kernel_rfl) h K
theorem g14p11 : g14D A n (pth 7) K s = g14D A n (pth 11) (g14Q A n (pth 15) K) s := by kernel_rfl
theorem g14p110 (s' : St) (h : keep g14an 2 s = keep g14an 2 s') : g14D A n (pth 11) K s = g14D A n (pth 11) K s' := codeD_first (id := 2) (by kernel_rfl) h K
theorem g14p111 : g14D A n (pth 15) K s = g14D A n (pth 23) (g14Q A n (pth 31) K) s := by kernel_rfl
theorem g14p1110 : g14D A n (pth 23) K s = g14D A n (pth 39) (g14Q A n (pth 55) K) s := by kernel_rfl
theorem g14p11100 (s' : St) (h : keep g14an 3 s = keep g14an 3 s') : g14D A n (pth 39) K s = g14D A n (pth 39) K s' := codeD_first (id := 3) (by kernel_rfl) h K
theorem g14p11101 : g14D A n (pth 55) K s = g14D A n (pth 87) (blockK 0 K) s := by kernel_rfl
theorem g14p111010 : g14D A n (pth 87) K s = g14V A n (pth 151) n K s := by kernel_rfl
theorem g14p1110100 : g14D A n (pth 151) K s = g14D A n (pth 279) (g14Q A n (pth 407) K) s := by kernel_rfl
theorem g14p11101000 (s' : St) (h : keep g14an 4 s = keep g14an 4 s') : g14D A n (pth 279) K s = g14D A n (pth 279) K s' := codeD_first (id := 4) (by kernel_rfl) h K
theorem g14p11101001 : g14D A n (pth 407) K s = g14D A n (pth 663) (g14Q A n (pth 919) K) s := by kernel_rfl
theorem g14p111010010 (t : Bool) : ev s (.tmp 15) = some (.v (.cell (.bool t))) → g14D A n (pth 663) K s = (match t with
    | true => g14D A n (pth 1175) K s
    | false => g14D A n (pth 1687) K s) := codeD_cond t
theorem g14p1110100100 : g14D A n (pth 1175) K s = K .normal s := by kernel_rfl
theorem g14p1110100101 : g14D A n (pth 1687) K s = K (.exit 0) s := by kernel_rfl
theorem g14p111010011 : g14D A n (pth 919) K s = g14D A n (pth 1431) (g14Q A n (pth 1943) K) s := by kernel_rfl
theorem g14p1110100110 : g14D A n (pth 1431) K s = g14D A n (pth 2455) (blockK 1 K) s := by kernel_rfl
theorem g14p11101001100 : g14D A n (pth 2455) K s = g14D A n (pth 4503) (g14Q A n (pth 6551) K) s := by kernel_rfl
theorem g14p111010011000 (s' : St) (h : keep g14an 5 s = keep g14an 5 s') : g14D A n (pth 4503) K s = g14D A n (pth 4503) K s' := codeD_first (id := 5) (by kernel_rfl) h K
theorem g14p111010011001 (s' : St) (h : keep g14an 6 s = keep g14an 6 s') : g14D A n (pth 6551) K s = g14D A n (pth 6551) K s' := codeD_first (id := 6) (by kernel_rfl) h K
theorem g14p1110100111 (s' : St) (h : keep g14an 7 s = keep g14an 7 s') : g14D A n (pth 1943) K s = g14D A n (pth 1943) K s' := codeD_first (id := 7) (by kernel_rfl) h K
theorem g14p1111 : g14D A n (pth 31) K s = g14D A n (pth 47) (g14Q A n (pth 63) K) s := by kernel_rfl
theorem g14p11110 (s' : St) (h : keep g14an 8 s = keep g14an 8 s') : g14D A n (pth 47) K s = g14D A n (pth 47) K s' := codeD_first (id := 8) (by kernel_rfl) h K
theorem g14p11111 : g14D A n (pth 63) K s = K .ret s := by kernel_rfl
theorem g14R5 (x0 : Int) (x1 x2 : List Nat) (x3 x4 : List Nat) : g14D A n (pth 4503) K ⟨[(4, (pT 1002 0)), (5, (pT 2004 0)), (6, (pT 2005 0)), (7, (pT 3001 0)), (14, (i6 x0))], [(1002, (bU 4 x1 24)), (2004, (bU 5 x2 44)), (2005, (bU 5 x3 44)), (3001, (bU 5 x4 44))]⟩ = K .normal ⟨[(8, (i6 x0)), (16, (i6 x0)), (4, (pT 1002 0)), (5, (pT 2004 0)), (6, (pT 2005 0)), (7, (pT 3001 0)), (14, (i6 x0))], [(1002, (bU 4 x1 24)), (2004, (bU 5 x2 44)), (2005, (bU 5 x3 44)), (3001, (bU 5 x4 44))]⟩ := by kernel_rfl
theorem g14R6 (x0 x1 : Int) (x2 x3 : List Nat) (x4 x5 : List Nat) : g14D A n (pth 6551) K ⟨[(4, (pT 1002 0)), (5, (pT 2004 0)), (6, (pT 2005 0)), (7, (pT 3001 0)), (8, (i6 x0)), (14, (i6 x1))], [(1002, (bU 4 x2 24)), (2004, (bU 5 x3 44)), (2005, (bU 5 x4 44)), (3001, (bU 5 x5 44))]⟩ = match (generalizing := false) A.neg x0 with
    | true => none
    | false => match (generalizing := false) A.lt (A.toN x0) 5 with
      | true => match (generalizing := false) A.neg x0 with
        | true => none
        | false => match (generalizing := false) A.lt (A.toN x0) 5 with
          | true => match (generalizing := false) A.neg x0 with
            | true => none
            | false => match (generalizing := false) A.lt (A.toN x0) 5 with
              | true => match (generalizing := false) A.neg x0 with
                | true => none
                | false => match (generalizing := false) A.lt (A.toN x0) 5 with
                  | true => K .normal ⟨[(28, (.v (.cell (.ptr 2004 0 (some ⟨A.toN x0, 1, 5, 0, 0, 0⟩))))), (27, (u64v (A.nb .add .u64 (x3.getD (A.toN x0) 0) (A.nb .sub .u64 (x5.getD (A.toN x0) 0) (x4.getD (A.toN x0) 0))))), (26, (u64v (A.nb .sub .u64 (x5.getD (A.toN x0) 0) (x4.getD (A.toN x0) 0)))), (25, (u64v (x4.getD (A.toN x0) 0))), (24, (.v (.cell (.ptr 2005 0 (some ⟨A.toN x0, 1, 5, 0, 0, 0⟩))))), (23, (i6 x0)), (22, (u64v (x5.getD (A.toN x0) 0))), (21, (.v (.cell (.ptr 3001 0 (some ⟨A.toN x0, 1, 5, 0, 0, 0⟩))))), (20, (i6 x0)), (19, (u64v (x3.getD (A.toN x0) 0))), (18, (.v (.cell (.ptr 2004 0 (some ⟨A.toN x0, 1, 5, 0, 0, 0⟩))))), (17, (i6 x0)), (4, (pT 1002 0)), (5, (pT 2004 0)), (6, (pT 2005 0)), (7, (pT 3001 0)), (8, (i6 x0)), (14, (i6 x1))], [(1002, (bU 4 x2 24)), (2004, (bU 5 (x3.set (A.toN x0) (A.nb .add .u64 (x3.getD (A.toN x0) 0) (A.nb .sub .u64 (x5.getD (A.toN x0) 0) (x4.getD (A.toN x0) 0)))) 44)), (2005, (bU 5 x4 44)), (3001, (bU 5 x5 44))]⟩
                  | false => none
              | false => none
          | false => none
      | false => none := by kernel_rfl
theorem g14R7 (x0 : Int) (x1 x2 : List Nat) (x3 x4 : List Nat) : g14D A n (pth 1943) K ⟨[(4, (pT 1002 0)), (5, (pT 2004 0)), (6, (pT 2005 0)), (7, (pT 3001 0)), (14, (i6 x0))], [(1002, (bU 4 x1 24)), (2004, (bU 5 x2 44)), (2005, (bU 5 x3 44)), (3001, (bU 5 x4 44))]⟩ = K .normal ⟨[(14, (i6 (A.ib .add .i64 x0 1))), (29, (i6 (A.ib .add .i64 x0 1))), (4, (pT 1002 0)), (5, (pT 2004 0)), (6, (pT 2005 0)), (7, (pT 3001 0)), (14, (i6 x0))], [(1002, (bU 4 x1 24)), (2004, (bU 5 x2 44)), (2005, (bU 5 x3 44)), (3001, (bU 5 x4 44))]⟩ := by kernel_rfl
theorem g14R4 (x0 : Int) (x1 x2 : List Nat) (x3 x4 : List Nat) : g14D A n (pth 279) K ⟨[(4, (pT 1002 0)), (5, (pT 2004 0)), (6, (pT 2005 0)), (7, (pT 3001 0)), (14, (i6 x0))], [(1002, (bU 4 x1 24)), (2004, (bU 5 x2 44)), (2005, (bU 5 x3 44)), (3001, (bU 5 x4 44))]⟩ = K .normal ⟨[(15, (bO (A.ic .lss x0 5))), (4, (pT 1002 0)), (5, (pT 2004 0)), (6, (pT 2005 0)), (7, (pT 3001 0)), (14, (i6 x0))], [(1002, (bU 4 x1 24)), (2004, (bU 5 x2 44)), (2005, (bU 5 x3 44)), (3001, (bU 5 x4 44))]⟩ := by kernel_rfl
theorem g14R8 (x0 x1 : List Nat) : g14D A n (pth 47) K ⟨[(4, (pT 1002 0)), (5, (pT 2004 0))], [(1002, (bU 4 x0 24)), (2004, (bU 5 x1 44))]⟩ = match (generalizing := false) g38ok A x1 with
    | true => K .normal ⟨[(31, (aN .u64 4 (g38r0 A x1))), (30, (aN .u64 5 x1)), (4, (pT 1002 0)), (5, (pT 2004 0))], [(1002, (bU 4 (g38r0 A x1) 24)), (2004, (bU 5 x1 44))]⟩
    | false => none := by kernel_rfl
theorem g14R0 (x0 x1 : List Nat) : g14D A n (pth 2) K ⟨[(0, (aN .u64 4 x0)), (1, (aN .u64 4 x1))], []⟩ = K .normal ⟨[(4, (pT 1002 0)), (3, (pT 1001 0)), (2, (pT 1000 0)), (0, (aN .u64 4 x0)), (1, (aN .u64 4 x1))], [(1002, (bU 4 [0, 0, 0, 0] 24)), (1001, (bU 4 x1 24)), (1000, (bU 4 x0 24))]⟩ := by kernel_rfl
theorem g14R1 (x0 x1 x2 : List Nat) : g14D A n (pth 5) K ⟨[(2, (pT 1000 0)), (3, (pT 1001 0)), (4, (pT 1002 0))], [(1000, (bU 4 x0 24)), (1001, (bU 4 x1 24)), (1002, (bU 4 x2 24))]⟩ = match (generalizing := false) g37ok A x0 with
    | true => match (generalizing := false) g37ok A x1 with
      | true => K .normal ⟨[(6, (pT 2005 0)), (5, (pT 2004 0)), (12, (aN .u64 5 (g37r0 A x1))), (11, (aN .u64 4 x1)), (10, (aN .u64 5 (g37r0 A x0))), (9, (aN .u64 4 x0)), (2, (pT 1000 0)), (3, (pT 1001 0)), (4, (pT 1002 0))], [(2005, (bU 5 (g37r0 A x1) 44)), (2004, (bU 5 (g37r0 A x0) 44)), (1000, (bU 4 x0 24)), (1001, (bU 4 x1 24)), (1002, (bU 4 x2 24))]⟩
      | false => none
    | false => none := by kernel_rfl
theorem g14R2 (x0 x1 x2 : List Nat) : g14D A n (pth 11) K ⟨[(4, (pT 1002 0)), (5, (pT 2004 0)), (6, (pT 2005 0))], [(1002, (bU 4 x0 24)), (2004, (bU 5 x1 44)), (2005, (bU 5 x2 44))]⟩ = K .normal ⟨[(7, (pT 3001 0)), (13, (aN .u64 5 ((((([0, 0, 0, 0, 0].set 0 9007199254740916).set 1 9007199254740988).set 2 9007199254740988).set 3 9007199254740988).set 4 9007199254740988))), (4, (pT 1002 0)), (5, (pT 2004 0)), (6, (pT 2005 0))], [(3001, (bU 5 ((((([0, 0, 0, 0, 0].set 0 9007199254740916).set 1 9007199254740988).set 2 9007199254740988).set 3 9007199254740988).set 4 9007199254740988) 44)), (1002, (bU 4 x0 24)), (2004, (bU 5 x1 44)), (2005, (bU 5 x2 44))]⟩ := by kernel_rfl
theorem g14R3 (x0 x1 : List Nat) (x2 x3 : List Nat) : g14D A n (pth 39) K ⟨[(4, (pT 1002 0)), (5, (pT 2004 0)), (6, (pT 2005 0)), (7, (pT 3001 0))], [(1002, (bU 4 x0 24)), (2004, (bU 5 x1 44)), (2005, (bU 5 x2 44)), (3001, (bU 5 x3 44))]⟩ = K .normal ⟨[(14, (i6 0)), (4, (pT 1002 0)), (5, (pT 2004 0)), (6, (pT 2005 0)), (7, (pT 3001 0))], [(1002, (bU 4 x0 24)), (2004, (bU 5 x1 44)), (2005, (bU 5 x2 44)), (3001, (bU 5 x3 44))]⟩ := by kernel_rfl
end
def g14J5 {R : Type} (A : Ar) (n : Nat) (kk : AV → Heap → Option R) (lg14L4 : Int → List Nat → List Nat → List Nat → List Nat → Option R) (x0 : Int) (x1 x2 : List Nat) (x3 x4 : List Nat) : Option R :=
  match (generalizing := false) A.neg x0 with
  | true => none
  | false => match (generalizing := false) A.lt (A.toN x0) 5 with
    | true => match (generalizing := false) A.neg x0 with
      | true => none
      | false => match (generalizing := false) A.lt (A.toN x0) 5 with
        | true => match (generalizing := false) A.neg x0 with
          | true => none
          | false => match (generalizing := false) A.lt (A.toN x0) 5 with
            | true => match (generalizing := false) A.neg x0 with
              | true => none
              | false => match (generalizing := false) A.lt (A.toN x0) 5 with
                | true => lg14L4 (A.ib .add .i64 x0 1) x1 (x2.set (A.toN x0) (A.nb .add .u64 (x2.getD (A.toN x0) 0) (A.nb .sub .u64 (x4.getD (A.toN x0) 0) (x3.getD (A.toN x0) 0)))) x3 x4
                | false => none
            | false => none
        | false => none
    | false => none
set_option maxRecDepth 100000 in
theorem g14J5_eq {R : Type} (A : Ar) (n : Nat) (kk : AV → Heap → Option R) (m0 : Nat) (lg14L4 : Int → List Nat → List Nat → List Nat → List Nat → Option R) 
    (hg14L4 : ∀ (s : St) (x0 : Int) (x1 x2 : List Nat) (x3 x4 : List Nat), keep g14an 4 s = ⟨[(4, (pT 1002 0)), (5, (pT 2004 0)), (6, (pT 2005 0)), (7, (pT 3001 0)), (14, (i6 x0))], [(1002, (bU 4 x1 24)), (2004, (bU 5 x2 44)), (2005, (bU 5 x3 44)), (3001, (bU 5 x4 44))]⟩ → g14V A n (pth 151) m0 (blockK 0 (g14Q A n (pth 31) (g14T kk))) s = lg14L4 x0 x1 x2 x3 x4) (s : St) (x0 : Int) (x1 x2 : List Nat) (x3 x4 : List Nat) (h : keep g14an 5 s = ⟨[(4, (pT 1002 0)), (5, (pT 2004 0)), (6, (pT 2005 0)), (7, (pT 3001 0)), (14, (i6 x0))], [(1002, (bU 4 x1 24)), (2004, (bU 5 x2 44)), (2005, (bU 5 x3 44)), (3001, (bU 5 x4 44))]⟩) :
    g14D A n (pth 919) (g14W A n (pth 151) m0 (blockK 0 (g14Q A n (pth 31) (g14T kk)))) s = g14J5 A n kk lg14L4 x0 x1 x2 x3 x4 := by
  have h7 := (g14Wn A n _ _ _ _).trans (hg14L4 ⟨[(14, (i6 (A.ib .add .i64 x0 1))), (29, (i6 (A.ib .add .i64 x0 1))), (4, (pT 1002 0)), (5, (pT 2004 0)), (6, (pT 2005 0)), (7, (pT 3001 0)), (14, (i6 x0))], [(1002, (bU 4 x1 24)), (2004, (bU 5 (x2.set (A.toN x0) (A.nb .add .u64 (x2.getD (A.toN x0) 0) (A.nb .sub .u64 (x4.getD (A.toN x0) 0) (x3.getD (A.toN x0) 0)))) 44)), (2005, (bU 5 x3 44)), (3001, (bU 5 x4 44))]⟩ (A.ib .add .i64 x0 1) x1 (x2.set (A.toN x0) (A.nb .add .u64 (x2.getD (A.toN x0) 0) (A.nb .sub .u64 (x4.getD (A.toN x0) 0) (x3.getD (A.toN x0) 0)))) x3 x4 (by kernel_rfl))
  have h5 := g14R7 A n (g14W A n (pth 151) m0 (blockK 0 (g14Q A n (pth 31) (g14T kk)))) x0 x1 (x2.set (A.toN x0) (A.nb .add .u64 (x2.getD (A.toN x0) 0) (A.nb .sub .u64 (x4.getD (A.toN x0) 0) (x3.getD (A.toN x0) 0)))) x3 x4
  have h8 := (g14p1110100111 A n _ ⟨[(28, (.v (.cell (.ptr 2004 0 (some ⟨A.toN x0, 1, 5, 0, 0, 0⟩))))), (27, (u64v (A.nb .add .u64 (x2.getD (A.toN x0) 0) (A.nb .sub .u64 (x4.getD (A.toN x0) 0) (x3.getD (A.toN x0) 0))))), (26, (u64v (A.nb .sub .u64 (x4.getD (A.toN x0) 0) (x3.getD (A.toN x0) 0)))), (25, (u64v (x3.getD (A.toN x0) 0))), (24, (.v (.cell (.ptr 2005 0 (some ⟨A.toN x0, 1, 5, 0, 0, 0⟩))))), (23, (i6 x0)), (22, (u64v (x4.getD (A.toN x0) 0))), (21, (.v (.cell (.ptr 3001 0 (some ⟨A.toN x0, 1, 5, 0, 0, 0⟩))))), (20, (i6 x0)), (19, (u64v (x2.getD (A.toN x0) 0))), (18, (.v (.cell (.ptr 2004 0 (some ⟨A.toN x0, 1, 5, 0, 0, 0⟩))))), (17, (i6 x0)), (4, (pT 1002 0)), (5, (pT 2004 0)), (6, (pT 2005 0)), (7, (pT 3001 0)), (8, (i6 x0)), (14, (i6 x0))], [(1002, (bU 4 x1 24)), (2004, (bU 5 (x2.set (A.toN x0) (A.nb .add .u64 (x2.getD (A.toN x0) 0) (A.nb .sub .u64 (x4.getD (A.toN x0) 0) (x3.getD (A.toN x0) 0)))) 44)), (2005, (bU 5 x3 44)), (3001, (bU 5 x4 44))]⟩ _ (by kernel_rfl)).trans h5
  rw [h7] at h8
  have h9 := (g14Qn A n _ _ _).trans h8
  have h10 := (blockK_n 1 _ _).trans h9
  have h3 := g14R6 A n (blockK 1 (g14Q A n (pth 1943) (g14W A n (pth 151) m0 (blockK 0 (g14Q A n (pth 31) (g14T kk)))))) x0 x0 x1 x2 x3 x4
  have h11 := (g14p111010011001 A n _ ⟨[(8, (i6 x0)), (16, (i6 x0)), (4, (pT 1002 0)), (5, (pT 2004 0)), (6, (pT 2005 0)), (7, (pT 3001 0)), (14, (i6 x0))], [(1002, (bU 4 x1 24)), (2004, (bU 5 x2 44)), (2005, (bU 5 x3 44)), (3001, (bU 5 x4 44))]⟩ _ (by kernel_rfl)).trans h3
  rw [h10] at h11
  have h12 := (g14Qn A n _ _ _).trans h11
  have h1 := g14R5 A n (g14Q A n (pth 6551) (blockK 1 (g14Q A n (pth 1943) (g14W A n (pth 151) m0 (blockK 0 (g14Q A n (pth 31) (g14T kk))))))) x0 x1 x2 x3 x4
  have h13 := (g14p111010011000 A n _ ⟨[(4, (pT 1002 0)), (5, (pT 2004 0)), (6, (pT 2005 0)), (7, (pT 3001 0)), (14, (i6 x0))], [(1002, (bU 4 x1 24)), (2004, (bU 5 x2 44)), (2005, (bU 5 x3 44)), (3001, (bU 5 x4 44))]⟩ _ (by kernel_rfl)).trans h1
  rw [h12] at h13
  have h14 := (g14p11101001100 A n _ _).trans h13
  have h15 := (g14p1110100110 A n _ _).trans h14
  have h16 := (g14p111010011 A n _ _).trans h15
  exact (codeD_first (s' := ⟨[(4, (pT 1002 0)), (5, (pT 2004 0)), (6, (pT 2005 0)), (7, (pT 3001 0)), (14, (i6 x0))], [(1002, (bU 4 x1 24)), (2004, (bU 5 x2 44)), (2005, (bU 5 x3 44)), (3001, (bU 5 x4 44))]⟩) (id := 5) (by kernel_rfl) (h.trans (by kernel_rfl)) _).trans (h16.trans (by kernel_rfl))
def g14L4 {R : Type} (A : Ar) (n : Nat) (kk : AV → Heap → Option R)  : Nat → Int → List Nat → List Nat → List Nat → List Nat → Option R
  | 0, _, _, _, _, _ => none
  | m + 1, x0, x1, x2, x3, x4 => match (generalizing := false) A.ic .lss x0 5 with
  | true => g14J5 A n kk (g14L4 A n kk  m) x0 x1 x2 x3 x4
  | false => match (generalizing := false) g38ok A x2 with
    | true => kk (aN .u64 4 (g38r0 A x2)) [(1002, (bU 4 (g38r0 A x2) 24)), (2004, (bU 5 x2 44))]
    | false => none
set_option maxRecDepth 100000 in
theorem g14L4_eq {R : Type} (A : Ar) (n : Nat) (kk : AV → Heap → Option R)    (m : Nat) (s : St) (x0 : Int) (x1 x2 : List Nat) (x3 x4 : List Nat) (h : keep g14an 4 s = ⟨[(4, (pT 1002 0)), (5, (pT 2004 0)), (6, (pT 2005 0)), (7, (pT 3001 0)), (14, (i6 x0))], [(1002, (bU 4 x1 24)), (2004, (bU 5 x2 44)), (2005, (bU 5 x3 44)), (3001, (bU 5 x4 44))]⟩) :
    g14V A n (pth 151) m (blockK 0 (g14Q A n (pth 31) (g14T kk))) s = g14L4 A n kk  m x0 x1 x2 x3 x4 := by
  induction m generalizing s x0 x1 x2 x3 x4 with
  | zero => rfl
  | succ m ih =>
    have h3 := (g14Qn A n _ _ _).trans (g14J5_eq A n kk m (g14L4 A n kk  m) ih  ⟨[(15, (bO (A.ic .lss x0 5))), (4, (pT 1002 0)), (5, (pT 2004 0)), (6, (pT 2005 0)), (7, (pT 3001 0)), (14, (i6 x0))], [(1002, (bU 4 x1 24)), (2004, (bU 5 x2 44)), (2005, (bU 5 x3 44)), (3001, (bU 5 x4 44))]⟩ x0 x1 x2 x3 x4 (by kernel_rfl))
    have h4 := (g14p1110100100 A n _ _).trans h3
    have h7 : (g14T kk) .ret ⟨[(31, (aN .u64 4 (g38r0 A x2))), (30, (aN .u64 5 x2)), (4, (pT 1002 0)), (5, (pT 2004 0))], [(1002, (bU 4 (g38r0 A x2) 24)), (2004, (bU 5 x2 44))]⟩ = kk (aN .u64 4 (g38r0 A x2)) [(1002, (bU 4 (g38r0 A x2) 24)), (2004, (bU 5 x2 44))] := by kernel_rfl
    have h8 := (g14p11111 A n _ _).trans h7
    have h9 := (g14Qn A n _ _ _).trans h8
    have h5 := g14R8 A n (g14Q A n (pth 63) (g14T kk)) x1 x2
    have h10 := (g14p11110 A n _ ⟨[(15, (bO (A.ic .lss x0 5))), (4, (pT 1002 0)), (5, (pT 2004 0)), (6, (pT 2005 0)), (7, (pT 3001 0)), (14, (i6 x0))], [(1002, (bU 4 x1 24)), (2004, (bU 5 x2 44)), (2005, (bU 5 x3 44)), (3001, (bU 5 x4 44))]⟩ _ (by kernel_rfl)).trans h5
    rw [h9] at h10
    have h11 := (g14p1111 A n _ _).trans h10
    have h12 := (g14Qn A n _ _ _).trans h11
    have h13 := (blockK_hit 0 _ _).trans h12
    have h14 := (g14We A n (pth 151) m _ _ _).trans h13
    have h15 := (g14Qe A n (pth 919) _ _ _).trans h14
    have h16 := (g14p1110100101 A n _ _).trans h15
    have h17 := g14p111010010 A n (g14Q A n (pth 919) (g14W A n (pth 151) m (blockK 0 (g14Q A n (pth 31) (g14T kk))))) ⟨[(15, (bO (A.ic .lss x0 5))), (4, (pT 1002 0)), (5, (pT 2004 0)), (6, (pT 2005 0)), (7, (pT 3001 0)), (14, (i6 x0))], [(1002, (bU 4 x1 24)), (2004, (bU 5 x2 44)), (2005, (bU 5 x3 44)), (3001, (bU 5 x4 44))]⟩ (A.ic .lss x0 5) (by kernel_rfl)
    rw [h4, h16] at h17
    have h18 := (g14p11101001 A n _ _).trans h17
    have h19 := (g14Qn A n _ _ _).trans h18
    have h1 := g14R4 A n (g14Q A n (pth 407) (g14W A n (pth 151) m (blockK 0 (g14Q A n (pth 31) (g14T kk))))) x0 x1 x2 x3 x4
    have h20 := (g14p11101000 A n _ ⟨[(4, (pT 1002 0)), (5, (pT 2004 0)), (6, (pT 2005 0)), (7, (pT 3001 0)), (14, (i6 x0))], [(1002, (bU 4 x1 24)), (2004, (bU 5 x2 44)), (2005, (bU 5 x3 44)), (3001, (bU 5 x4 44))]⟩ _ (by kernel_rfl)).trans h1
    rw [h19] at h20
    have h21 := (g14p1110100 A n _ _).trans h20
    exact (loopD_first (s' := ⟨[(4, (pT 1002 0)), (5, (pT 2004 0)), (6, (pT 2005 0)), (7, (pT 3001 0)), (14, (i6 x0))], [(1002, (bU 4 x1 24)), (2004, (bU 5 x2 44)), (2005, (bU 5 x3 44)), (3001, (bU 5 x4 44))]⟩) (id := 4) (by kernel_rfl) (h.trans (by kernel_rfl)) _).trans ((g14Vs A n _ m _ _).trans (h21.trans (by kernel_rfl)))
def g14 {R : Type} (A : Ar) (n : Nat) (kk : AV → Heap → Option R) (a b : List Nat) : Option R :=
  match (generalizing := false) g37ok A a with
  | true => match (generalizing := false) g37ok A b with
    | true => g14L4 A n kk  n 0 [0, 0, 0, 0] (g37r0 A a) (g37r0 A b) ((((([0, 0, 0, 0, 0].set 0 9007199254740916).set 1 9007199254740988).set 2 9007199254740988).set 3 9007199254740988).set 4 9007199254740988)
    | false => none
  | false => none
set_option maxRecDepth 100000 in
theorem g14_eq {R : Type} (A : Ar) (n : Nat) (kk : AV → Heap → Option R) (a b : List Nat) :
    funD A gtys (g14O A) g14an n (bodyOf Try.f14) g14res [(aN .u64 4 a), (aN .u64 4 b)] [] kk = g14 A n kk a b := by
  have h9 := (g14p111010 A n _ _).trans (g14L4_eq A n kk    n ⟨[(14, (i6 0)), (4, (pT 1002 0)), (5, (pT 2004 0)), (6, (pT 2005 0)), (7, (pT 3001 0))], [(1002, (bU 4 [0, 0, 0, 0] 24)), (2004, (bU 5 (g37r0 A a) 44)), (2005, (bU 5 (g37r0 A b) 44)), (3001, (bU 5 ((((([0, 0, 0, 0, 0].set 0 9007199254740916).set 1 9007199254740988).set 2 9007199254740988).set 3 9007199254740988).set 4 9007199254740988) 44))]⟩ 0 [0, 0, 0, 0] (g37r0 A a) (g37r0 A b) ((((([0, 0, 0, 0, 0].set 0 9007199254740916).set 1 9007199254740988).set 2 9007199254740988).set 3 9007199254740988).set 4 9007199254740988) (by kernel_rfl))
  have h10 := (g14p11101 A n _ _).trans h9
  have h11 := (g14Qn A n _ _ _).trans h10
  have h7 := g14R3 A n (g14Q A n (pth 55) (g14Q A n (pth 31) (g14T kk))) [0, 0, 0, 0] (g37r0 A a) (g37r0 A b) ((((([0, 0, 0, 0, 0].set 0 9007199254740916).set 1 9007199254740988).set 2 9007199254740988).set 3 9007199254740988).set 4 9007199254740988)
  have h12 := (g14p11100 A n _ ⟨[(7, (pT 3001 0)), (13, (aN .u64 5 ((((([0, 0, 0, 0, 0].set 0 9007199254740916).set 1 9007199254740988).set 2 9007199254740988).set 3 9007199254740988).set 4 9007199254740988))), (4, (pT 1002 0)), (5, (pT 2004 0)), (6, (pT 2005 0))], [(3001, (bU 5 ((((([0, 0, 0, 0, 0].set 0 9007199254740916).set 1 9007199254740988).set 2 9007199254740988).set 3 9007199254740988).set 4 9007199254740988) 44)), (1002, (bU 4 [0, 0, 0, 0] 24)), (2004, (bU 5 (g37r0 A a) 44)), (2005, (bU 5 (g37r0 A b) 44))]⟩ _ (by kernel_rfl)).trans h7
  rw [h11] at h12
  have h13 := (g14p1110 A n _ _).trans h12
  have h14 := (g14p111 A n _ _).trans h13
  have h15 := (g14Qn A n _ _ _).trans h14
  have h5 := g14R2 A n (g14Q A n (pth 15) (g14T kk)) [0, 0, 0, 0] (g37r0 A a) (g37r0 A b)
  have h16 := (g14p110 A n _ ⟨[(6, (pT 2005 0)), (5, (pT 2004 0)), (12, (aN .u64 5 (g37r0 A b))), (11, (aN .u64 4 b)), (10, (aN .u64 5 (g37r0 A a))), (9, (aN .u64 4 a)), (2, (pT 1000 0)), (3, (pT 1001 0)), (4, (pT 1002 0))], [(2005, (bU 5 (g37r0 A b) 44)), (2004, (bU 5 (g37r0 A a) 44)), (1000, (bU 4 a 24)), (1001, (bU 4 b 24)), (1002, (bU 4 [0, 0, 0, 0] 24))]⟩ _ (by kernel_rfl)).trans h5
  rw [h15] at h16
  have h17 := (g14p11 A n _ _).trans h16
  have h18 := (g14Qn A n _ _ _).trans h17
  have h3 := g14R1 A n (g14Q A n (pth 7) (g14T kk)) a b [0, 0, 0, 0]
  have h19 := (g14p10 A n _ ⟨[(4, (pT 1002 0)), (3, (pT 1001 0)), (2, (pT 1000 0)), (0, (aN .u64 4 a)), (1, (aN .u64 4 b))], [(1002, (bU 4 [0, 0, 0, 0] 24)), (1001, (bU 4 b 24)), (1000, (bU 4 a 24))]⟩ _ (by kernel_rfl)).trans h3
  rw [h18] at h19
  have h20 := (g14p1 A n _ _).trans h19
  have h21 := (g14Qn A n _ _ _).trans h20
  have h1 := g14R0 A n (g14Q A n (pth 3) (g14T kk)) a b
  have h22 := (g14p0 A n _ ⟨[(0, (aN .u64 4 a)), (1, (aN .u64 4 b))], []⟩ _ (by kernel_rfl)).trans h1
  rw [h21] at h22
  have h23 := (g14p A n _ _).trans h22
  exact (show funD A gtys (g14O A) g14an n (bodyOf Try.f14) g14res [(aN .u64 4 a), (aN .u64 4 b)] [] kk = g14D A n (pth 1) (g14T kk) ⟨[(0, (aN .u64 4 a)), (1, (aN .u64 4 b))], []⟩ from by kernel_rfl).trans (h23.trans (by kernel_rfl))
def g14is (o : Option AV) : Bool := match o with
  | some (aN .u64 4 _) => true
  | _ => false
def g14g0 (o : Option AV) : List Nat := match o with
  | some (aN .u64 4 x) => x
  | _ => []
theorem g14is_spec {o : Option AV} (h : g14is o = true) : o = some (aN .u64 4 (g14g0 o)) := by
  unfold g14is at h
  split at h
  · rfl
  · cases h
def g14v (A : Ar) (a b : List Nat) : Option AV := g14 A (100000) (fun v _ => some v) a b
def g14ok (A : Ar) (a b : List Nat) : Bool := g14is (g14v A a b)
def g14r0 (A : Ar) (a b : List Nat) : List Nat := g14g0 (g14v A a b)
theorem g14ok_spec {A : Ar} {a b} (h : g14ok A a b = true) : g14v A a b = some (aN .u64 4 (g14r0 A a b)) := g14is_spec h
def g14o (A : Ar) (args : List AV) : Option (Bool × AV) := match args with
  | [.v (.agg [.nums .u64 n0 a]), .v (.agg [.nums .u64 n1 b])] => some (Nat.beq n0 4 && (Nat.beq n1 4 && (g14ok A a b)), .v (.agg [.nums .u64 4 (g14r0 A a b)]))
  | _ => none
theorem g14o_sound : ∀ args v, g14o realA args = some (true, v) → Fn1 Try.prog 14 args v := by
  intro args v h
  unfold g14o at h
  split at h
  · rename_i n0 a n1 b
    simp only [Option.some.injEq, Prod.mk.injEq] at h
    obtain ⟨hc, h⟩ := h
    subst h
    · skip
      simp only [Bool.and_eq_true] at hc
      have en0 := beq_true hc.1
      subst en0
      replace hc := hc.2
      have en1 := beq_true hc.1
      subst en1
      replace hc := hc.2
      exact fn1_of mixed gtysOK g14O_sound g14O_det (an := g14an) (n := 100000) Try.func14 (c := bodyOf Try.f14) rfl (by kernel_rfl) Try.call14 (Nat.le_of_ble_eq_true rfl) (fun b => rfl) (fun _ => (g14_eq realA (100000) (fun v _ => some v) a b).trans (show g14v realA a b = _ from g14ok_spec hc))
  · cases h
/- engrosser/field.Neg -/
def g18O (A : Ar) : Orc := orcOf [(14, g14o A)]
theorem g18O_sound : OSound Try.prog (g18O realA) := orc_sound fun f g hm args v hv => by
  simp only [List.mem_cons, List.not_mem_nil, or_false, Prod.mk.injEq] at hm
  rcases hm with ⟨rfl, rfl⟩
  · exact g14o_sound _ _ hv
theorem g18O_det : ODet (g18O realA) := orc_det _
def g18an : Ann := [(0, ([0], [])), (1, ([1, 2], [1000, 1001]))]
def g18res : List ResultVar := [.cell 2 24]
noncomputable def g18D {R : Type} (A : Ar) (n : Nat) (p : List Bool) (K : Ex → St → Option R) (s : St) : Option R := codeD A gtys (g18O A) g18an n (sub (bodyOf Try.f18) p) K s
noncomputable def g18Q {R : Type} (A : Ar) (n : Nat) (p : List Bool) (K : Ex → St → Option R) : Ex → St → Option R := seqC (g18D A n p K) K
noncomputable def g18T {R : Type} (kk : AV → Heap → Option R) : Ex → St → Option R := finD gtys g18res kk
theorem g18Qn {R : Type} (A : Ar) (n : Nat) (p : List Bool) (K : Ex → St → Option R) (s : St) : g18Q A n p K .normal s = g18D A n p K s := rfl
section
variable {R : Type} (A : Ar) (n : Nat) (K : Ex → St → Option R) (s : St)
theorem g18p : g18D A n (pth 1) K s = g18D A n (pth 2) (g18Q A n (pth 3) K) s := by kernel_rfl
theorem g18p0 (s' : St) (h : keep g18an 0 s = keep g18an 0 s') : g18D A n (pth 2) K s = g18D A n (pth 2) K s' := codeD_first (id := 0) (by kernel_rfl) h K
theorem g18p1 : g18D A n (pth 3) K s = g18D A n (pth 5) (g18Q A n (pth 7) K) s := by kernel_rfl
theorem g18p10 (s' : St) (h : keep g18an 1 s = keep g18an 1 s') : g18D A n (pth 5) K s = g18D A n (pth 5) K s' := codeD_first (id := 1) (by kernel_rfl) h K
theorem g18p11 : g18D A n (pth 7) K s = K .ret s := by kernel_rfl
theorem g18R0 (x0 : List Nat) : g18D A n (pth 2) K ⟨[(0, (aN .u64 4 x0))], []⟩ = K .normal ⟨[(2, (pT 1001 0)), (1, (pT 1000 0)), (0, (aN .u64 4 x0))], [(1001, (bU 4 [0, 0, 0, 0] 24)), (1000, (bU 4 x0 24))]⟩ := by kernel_rfl
theorem g18R1 (x0 x1 : List Nat) : g18D A n (pth 5) K ⟨[(1, (pT 1000 0)), (2, (pT 1001 0))], [(1000, (bU 4 x0 24)), (1001, (bU 4 x1 24))]⟩ = match (generalizing := false) g14ok A [0, 0, 0, 0] x0 with
    | true => K .normal ⟨[(5, (aN .u64 4 (g14r0 A [0, 0, 0, 0] x0))), (4, (aN .u64 4 x0)), (3, (aN .u64 4 [0, 0, 0, 0])), (1, (pT 1000 0)), (2, (pT 1001 0))], [(1000, (bU 4 x0 24)), (1001, (bU 4 (g14r0 A [0, 0, 0, 0] x0) 24))]⟩
    | false => none := by kernel_rfl
end
def g18 {R : Type} (A : Ar) (n : Nat) (kk : AV → Heap → Option R) (a : List Nat) : Option R :=
  match (generalizing := false) g14ok A [0, 0, 0, 0] a with
  | true => kk (aN .u64 4 (g14r0 A [0, 0, 0, 0] a)) [(1000, (bU 4 a 24)), (1001, (bU 4 (g14r0 A [0, 0, 0, 0] a) 24))]
  | false => none
set_option maxRecDepth 100000 in
theorem g18_eq {R : Type} (A : Ar) (n : Nat) (kk : AV → Heap → Option R) (a : List Nat) :
    funD A gtys (g18O A) g18an n (bodyOf Try.f18) g18res [(aN .u64 4 a)] [] kk = g18 A n kk a := by
  have h5 : (g18T kk) .ret ⟨[(5, (aN .u64 4 (g14r0 A [0, 0, 0, 0] a))), (4, (aN .u64 4 a)), (3, (aN .u64 4 [0, 0, 0, 0])), (1, (pT 1000 0)), (2, (pT 1001 0))], [(1000, (bU 4 a 24)), (1001, (bU 4 (g14r0 A [0, 0, 0, 0] a) 24))]⟩ = kk (aN .u64 4 (g14r0 A [0, 0, 0, 0] a)) [(1000, (bU 4 a 24)), (1001, (bU 4 (g14r0 A [0, 0, 0, 0] a) 24))] := by kernel_rfl
  have h6 := (g18p11 A n _ _).trans h5
  have h7 := (g18Qn A n _ _ _).trans h6
  have h3 := g18R1 A n (g18Q A n (pth 7) (g18T kk)) a [0, 0, 0, 0]
  have h8 := (g18p10 A n _ ⟨[(2, (pT 1001 0)), (1, (pT 1000 0)), (0, (aN .u64 4 a))], [(1001, (bU 4 [0, 0, 0, 0] 24)), (1000, (bU 4 a 24))]⟩ _ (by kernel_rfl)).trans h3
  rw [h7] at h8
  have h9 := (g18p1 A n _ _).trans h8
  have h10 := (g18Qn A n _ _ _).trans h9
  have h1 := g18R0 A n (g18Q A n (pth 3) (g18T kk)) a
  have h11 := (g18p0 A n _ ⟨[(0, (aN .u64 4 a))], []⟩ _ (by kernel_rfl)).trans h1
  rw [h10] at h11
  have h12 := (g18p A n _ _).trans h11
  exact (show funD A gtys (g18O A) g18an n (bodyOf Try.f18) g18res [(aN .u64 4 a)] [] kk = g18D A n (pth 1) (g18T kk) ⟨[(0, (aN .u64 4 a))], []⟩ from by kernel_rfl).trans (h12.trans (by kernel_rfl))
def g18is (o : Option AV) : Bool := match o with
  | some (aN .u64 4 _) => true
  | _ => false
def g18g0 (o : Option AV) : List Nat := match o with
  | some (aN .u64 4 x) => x
  | _ => []
theorem g18is_spec {o : Option AV} (h : g18is o = true) : o = some (aN .u64 4 (g18g0 o)) := by
  unfold g18is at h
  split at h
  · rfl
  · cases h
def g18v (A : Ar) (a : List Nat) : Option AV := g18 A (100000) (fun v _ => some v) a
def g18ok (A : Ar) (a : List Nat) : Bool := g18is (g18v A a)
def g18r0 (A : Ar) (a : List Nat) : List Nat := g18g0 (g18v A a)
theorem g18ok_spec {A : Ar} {a} (h : g18ok A a = true) : g18v A a = some (aN .u64 4 (g18r0 A a)) := g18is_spec h
def g18o (A : Ar) (args : List AV) : Option (Bool × AV) := match args with
  | [.v (.agg [.nums .u64 n0 a])] => some (Nat.beq n0 4 && (g18ok A a), .v (.agg [.nums .u64 4 (g18r0 A a)]))
  | _ => none
theorem g18o_sound : ∀ args v, g18o realA args = some (true, v) → Fn1 Try.prog 18 args v := by
  intro args v h
  unfold g18o at h
  split at h
  · rename_i n0 a
    simp only [Option.some.injEq, Prod.mk.injEq] at h
    obtain ⟨hc, h⟩ := h
    subst h
    · skip
      simp only [Bool.and_eq_true] at hc
      have en0 := beq_true hc.1
      subst en0
      replace hc := hc.2
      exact fn1_of mixed gtysOK g18O_sound g18O_det (an := g18an) (n := 100000) Try.func18 (c := bodyOf Try.f18) rfl (by kernel_rfl) Try.call18 (Nat.le_of_ble_eq_true rfl) (fun b => rfl) (fun _ => (g18_eq realA (100000) (fun v _ => some v) a).trans (show g18v realA a = _ from g18ok_spec hc))
  · cases h
/- engrosser/field.Odd -/
def g22O (A : Ar) : Orc := orcOf [(37, g37o A), (38, g38o A)]
theorem g22O_sound : OSound Try.prog (g22O realA) := orc_sound fun f g hm args v hv => by
  simp only [List.mem_cons, List.not_mem_nil, or_false, Prod.mk.injEq] at hm
  rcases hm with ⟨rfl, rfl⟩ | ⟨rfl, rfl⟩
  · exact g37o_sound _ _ hv
  · exact g38o_sound _ _ hv
theorem g22O_det : ODet (g22O realA) := orc_det _
def g22an : Ann := [(0, ([0], [])), (1, ([1], [1000]))]
def g22res : List ResultVar := [.tmp 2]
noncomputable def g22D {R : Type} (A : Ar) (n : Nat) (p : List Bool) (K : Ex → St → Option R) (s : St) : Option R := codeD A gtys (g22O A) g22an n (sub (bodyOf Try.f22) p) K s
noncomputable def g22Q {R : Type} (A : Ar) (n : Nat) (p : List Bool) (K : Ex → St → Option R) : Ex → St → Option R := seqC (g22D A n p K) K
noncomputable def g22T {R : Type} (kk : AV → Heap → Option R) : Ex → St → Option R := finD gtys g22res kk
theorem g22Qn {R : Type} (A : Ar) (n : Nat) (p : List Bool) (K : Ex → St → Option R) (s : St) : g22Q A n p K .normal s = g22D A n p K s := rfl
section
variable {R : Type} (A : Ar) (n : Nat) (K : Ex → St → Option R) (s : St)
theorem g22p : g22D A n (pth 1) K s = g22D A n (pth 2) (g22Q A n (pth 3) K) s := by kernel_rfl
theorem g22p0 (s' : St) (h : keep g22an 0 s = keep g22an 0 s') : g22D A n (pth 2) K s = g22D A n (pth 2) K s' := codeD_first (id := 0) (by kernel_rfl) h K
theorem g22p1 : g22D A n (pth 3) K s = g22D A n (pth 5) (g22Q A n (pth 7) K) s := by kernel_rfl
theorem g22p10 (s' : St) (h : keep g22an 1 s = keep g22an 1 s') : g22D A n (pth 5) K s = g22D A n (pth 5) K s' := codeD_first (id := 1) (by kernel_rfl) h K
theorem g22p11 : g22D A n (pth 7) K s = K .ret s := by kernel_rfl
theorem g22R0 (x0 : List Nat) : g22D A n (pth 2) K ⟨[(0, (aN .u64 4 x0))], []⟩ = K .normal ⟨[(2, (bO false)), (1, (pT 1000 0)), (0, (aN .u64 4 x0))], [(1000, (bU 4 x0 24))]⟩ := by kernel_rfl
theorem g22R1 (x0 : List Nat) : g22D A n (pth 5) K ⟨[(1, (pT 1000 0))], [(1000, (bU 4 x0 24))]⟩ = match (generalizing := false) g37ok A x0 with
    | true => match (generalizing := false) g38ok A (g37r0 A x0) with
      | true => K .normal ⟨[(2, (bO (A.nc .neq (A.nb .and .u64 ((g38r0 A (g37r0 A x0)).getD 0 0) 1) 0))), (8, (bO (A.nc .neq (A.nb .and .u64 ((g38r0 A (g37r0 A x0)).getD 0 0) 1) 0))), (7, (u64v (A.nb .and .u64 ((g38r0 A (g37r0 A x0)).getD 0 0) 1))), (6, (u64v ((g38r0 A (g37r0 A x0)).getD 0 0))), (5, (aN .u64 4 (g38r0 A (g37r0 A x0)))), (4, (aN .u64 5 (g37r0 A x0))), (3, (aN .u64 4 x0)), (1, (pT 1000 0))], [(1000, (bU 4 x0 24))]⟩
      | false => none
    | false => none := by kernel_rfl
end
def g22 {R : Type} (A : Ar) (n : Nat) (kk : AV → Heap → Option R) (a : List Nat) : Option R :=
  match (generalizing := false) g37ok A a with
  | true => match (generalizing := false) g38ok A (g37r0 A a) with
    | true => kk (bO (A.nc .neq (A.nb .and .u64 ((g38r0 A (g37r0 A a)).getD 0 0) 1) 0)) [(1000, (bU 4 a 24))]
    | false => none
  | false => none
set_option maxRecDepth 100000 in
theorem g22_eq {R : Type} (A : Ar) (n : Nat) (kk : AV → Heap → Option R) (a : List Nat) :
    funD A gtys (g22O A) g22an n (bodyOf Try.f22) g22res [(aN .u64 4 a)] [] kk = g22 A n kk a := by
  have h5 : (g22T kk) .ret ⟨[(2, (bO (A.nc .neq (A.nb .and .u64 ((g38r0 A (g37r0 A a)).getD 0 0) 1) 0))), (8, (bO (A.nc .neq (A.nb .and .u64 ((g38r0 A (g37r0 A a)).getD 0 0) 1) 0))), (7, (u64v (A.nb .and .u64 ((g38r0 A (g37r0 A a)).getD 0 0) 1))), (6, (u64v ((g38r0 A (g37r0 A a)).getD 0 0))), (5, (aN .u64 4 (g38r0 A (g37r0 A a)))), (4, (aN .u64 5 (g37r0 A a))), (3, (aN .u64 4 a)), (1, (pT 1000 0))], [(1000, (bU 4 a 24))]⟩ = kk (bO (A.nc .neq (A.nb .and .u64 ((g38r0 A (g37r0 A a)).getD 0 0) 1) 0)) [(1000, (bU 4 a 24))] := by kernel_rfl
  have h6 := (g22p11 A n _ _).trans h5
  have h7 := (g22Qn A n _ _ _).trans h6
  have h3 := g22R1 A n (g22Q A n (pth 7) (g22T kk)) a
  have h8 := (g22p10 A n _ ⟨[(2, (bO false)), (1, (pT 1000 0)), (0, (aN .u64 4 a))], [(1000, (bU 4 a 24))]⟩ _ (by kernel_rfl)).trans h3
  rw [h7] at h8
  have h9 := (g22p1 A n _ _).trans h8
  have h10 := (g22Qn A n _ _ _).trans h9
  have h1 := g22R0 A n (g22Q A n (pth 3) (g22T kk)) a
  have h11 := (g22p0 A n _ ⟨[(0, (aN .u64 4 a))], []⟩ _ (by kernel_rfl)).trans h1
  rw [h10] at h11
  have h12 := (g22p A n _ _).trans h11
  exact (show funD A gtys (g22O A) g22an n (bodyOf Try.f22) g22res [(aN .u64 4 a)] [] kk = g22D A n (pth 1) (g22T kk) ⟨[(0, (aN .u64 4 a))], []⟩ from by kernel_rfl).trans (h12.trans (by kernel_rfl))
def g22is (o : Option AV) : Bool := match o with
  | some (.v (.cell (.bool _))) => true
  | _ => false
def g22g0 (o : Option AV) : Bool := match o with
  | some (.v (.cell (.bool x))) => x
  | _ => false
theorem g22is_spec {o : Option AV} (h : g22is o = true) : o = some (.v (.cell (.bool (g22g0 o)))) := by
  unfold g22is at h
  split at h
  · rfl
  · cases h
def g22v (A : Ar) (a : List Nat) : Option AV := g22 A (100000) (fun v _ => some v) a
def g22ok (A : Ar) (a : List Nat) : Bool := g22is (g22v A a)
def g22r0 (A : Ar) (a : List Nat) : Bool := g22g0 (g22v A a)
theorem g22ok_spec {A : Ar} {a} (h : g22ok A a = true) : g22v A a = some (.v (.cell (.bool (g22r0 A a)))) := g22is_spec h
def g22o (A : Ar) (args : List AV) : Option (Bool × AV) := match args with
  | [.v (.agg [.nums .u64 n0 a])] => some (Nat.beq n0 4 && (g22ok A a), .v (.cell (.bool (g22r0 A a))))
  | _ => none
theorem g22o_sound : ∀ args v, g22o realA args = some (true, v) → Fn1 Try.prog 22 args v := by
  intro args v h
  unfold g22o at h
  split at h
  · rename_i n0 a
    simp only [Option.some.injEq, Prod.mk.injEq] at h
    obtain ⟨hc, h⟩ := h
    subst h
    · skip
      simp only [Bool.and_eq_true] at hc
      have en0 := beq_true hc.1
      subst en0
      replace hc := hc.2
      exact fn1_of mixed gtysOK g22O_sound g22O_det (an := g22an) (n := 100000) Try.func22 (c := bodyOf Try.f22) rfl (by kernel_rfl) Try.call22 (Nat.le_of_ble_eq_true rfl) (fun b => rfl) (fun _ => (g22_eq realA (100000) (fun v _ => some v) a).trans (show g22v realA a = _ from g22ok_spec hc))
  · cases h
/- engrosser/field.Root -/
def g21O (A : Ar) : Orc := orcOf [(16, g16o A), (24, g24o A), (37, g37o A), (38, g38o A), (18, g18o A), (23, g23o A), (22, g22o A)]
theorem g21O_sound : OSound Try.prog (g21O realA) := orc_sound fun f g hm args v hv => by
  simp only [List.mem_cons, List.not_mem_nil, or_false, Prod.mk.injEq] at hm
  rcases hm with ⟨rfl, rfl⟩ | ⟨rfl, rfl⟩ | ⟨rfl, rfl⟩ | ⟨rfl, rfl⟩ | ⟨rfl, rfl⟩ | ⟨rfl, rfl⟩ | ⟨rfl, rfl⟩
  · exact g16o_sound _ _ hv
  · exact g24o_sound _ _ hv
  · exact g37o_sound _ _ hv
  · exact g38o_sound _ _ hv
  · exact g18o_sound _ _ hv
  · exact g23o_sound _ _ hv
  · exact g22o_sound _ _ hv
theorem g21O_det : ODet (g21O realA) := orc_det _
def g21an : Ann := [(0, ([0, 1], [])), (1, ([2, 3, 4], [1000, 1001, 1002])), (2, ([2, 3, 4, 6], [1000, 1001, 1002, 2005])), (3, ([2, 3, 4, 6, 7], [1000, 1001, 1002, 2005, 3005])), (4, ([2, 3, 4, 8], [1000, 1001, 1002, 4009])), (5, ([3, 4, 8, 9], [1001, 1002, 4009, 5003])), (6, ([4], [1002])), (7, ([4, 8, 9, 36], [1002, 4009, 5003])), (8, ([4, 8, 9, 36], [1002, 4009, 5003])), (9, ([4, 8], [1002, 4009])), (10, ([4, 8], [1002, 4009])), (11, ([4, 8], [1002, 4009])), (12, ([4, 8], [1002, 4009]))]
def g21res : List ResultVar := [.cell 4 24, .tmp 5]
noncomputable def g21D {R : Type} (A : Ar) (n : Nat) (p : List Bool) (K : Ex → St → Option R) (s : St) : Option R := codeD A gtys (g21O A) g21an n (sub (bodyOf Try.f21) p) K s
noncomputable def g21Q {R : Type} (A : Ar) (n : Nat) (p : List Bool) (K : Ex → St → Option R) : Ex → St → Option R := seqC (g21D A n p K) K
noncomputable def g21T {R : Type} (kk : AV → Heap → Option R) : Ex → St → Option R := finD gtys g21res kk
theorem g21Qn {R : Type} (A : Ar) (n : Nat) (p : List Bool) (K : Ex → St → Option R) (s : St) : g21Q A n p K .normal s = g21D A n p K s := rfl
theorem g21Qr {R : Type} (A : Ar) (n : Nat) (p : List Bool) (K : Ex → St → Option R) (s : St) : g21Q A n p K .ret s = K .ret s := rfl
section
variable {R : Type} (A : Ar) (n : Nat) (K : Ex → St → Option R) (s : St)
theorem g21p : g21D A n (pth 1) K s = g21D A n (pth 2) (g21Q A n (pth 3) K) s := by kernel_rfl
theorem g21p0 (s' : St) (h : keep g21an 0 s = keep g21an 0 s') : g21D A n (pth 2) K s = g21D A n (pth 2) K s' := codeD_first (id := 0) (by kernel_rfl) h K
theorem g21p1 : g21D A n (pth 3) K s = g21D A n (pth 5) (g21Q A n (pth 7) K) s := by kernel_rfl
theorem g21p10 (s' : St) (h : keep g21an 1 s = keep g21an 1 s') : g21D A n (pth 5) K s = g21D A n (pth 5) K s' := codeD_first (id := 1) (by kernel_rfl) h K
theorem g21p11 : g21D A n (pth 7) K s = g21D A n (pth 11) (g21Q A n (pth 15) K) s := by kernel_rfl
theorem g21p110 (s' : St) (h : keep g21an 2 s = keep g21an 2 s') : g21D A n (pth 11) K s = g21D A n (pth 11) K s' := codeD_first (id := 2) (by kernel_rfl) h K
theorem g21p111 : g21D A n (pth 15) K s = g21D A n (pth 23) (g21Q A n (pth 31) K) s := by kernel_rfl
theorem g21p1110 (s' : St) (h : keep g21an 3 s = keep g21an 3 s') : g21D A n (pth 23) K s = g21D A n (pth 23) K s' := codeD_first (id := 3) (by kernel_rfl) h K
theorem g21p1111 : g21D A n (pth 31) K s = g21D A n (pth 47) (g21Q A n (pth 63) K) s := by kernel_rfl
theorem g21p11110 (s' : St) (h : keep g21an 4 s = keep g21an 4 s') : g21D A n (pth 47) K s = g21D A n (pth 47) K s' := codeD_first (id := 4) (by kernel_rfl) h K
theorem g21p11111 : g21D A n (pth 63) K s = g21D A n (pth 95) (g21Q A n (pth 127) K) s := by kernel_rfl
theorem g21p111110 : g21D A n (pth 95) K s = g21D A n (pth 159) (g21Q A n (pth 223) K) s := by kernel_rfl
theorem g21p1111100 (s' : St) (h : keep g21an 5 s = keep g21an 5 s') : g21D A n (pth 159) K s = g21D A n (pth 159) K s' := codeD_first (id := 5) (by kernel_rfl) h K
theorem g21p1111101 : g21D A n (pth 223) K s = g21D A n (pth 351) (blockK 0 K) s := by kernel_rfl
theorem g21p11111010 : g21D A n (pth 351) K s = g21D A n (pth 607) (g21Q A n (pth 863) K) s := by kernel_rfl
theorem g21p111110100 (s' : St) (h : keep g21an 7 s = keep g21an 7 s') : g21D A n (pth 607) K s = g21D A n (pth 607) K s' := codeD_first (id := 7) (by kernel_rfl) h K
theorem g21p111110101 (t : Bool) : ev s (.tmp 38) = some (.v (.cell (.bool t))) → g21D A n (pth 863) K s = (match t with
    | true => g21D A n (pth 1375) K s
    | false => g21D A n (pth 1887) K s) := codeD_cond t
theorem g21p1111101010 : g21D A n (pth 1375) K s = K .normal s := by kernel_rfl
theorem g21p1111101011 : g21D A n (pth 1887) K s = g21D A n (pth 2911) (g21Q A n (pth 3935) K) s := by kernel_rfl
theorem g21p11111010110 (s' : St) (h : keep g21an 8 s = keep g21an 8 s') : g21D A n (pth 2911) K s = g21D A n (pth 2911) K s' := codeD_first (id := 8) (by kernel_rfl) h K
theorem g21p11111010111 (t : Bool) : ev s (.tmp 41) = some (.v (.cell (.bool t))) → g21D A n (pth 3935) K s = (match t with
    | true => g21D A n (pth 5983) K s
    | false => g21D A n (pth 8031) K s) := codeD_cond t
theorem g21p111110101110 (s' : St) (h : keep g21an 9 s = keep g21an 9 s') : g21D A n (pth 5983) K s = g21D A n (pth 5983) K s' := codeD_first (id := 9) (by kernel_rfl) h K
theorem g21p111110101111 : g21D A n (pth 8031) K s = g21D A n (pth 12127) (g21Q A n (pth 16223) K) s := by kernel_rfl
theorem g21p1111101011110 (s' : St) (h : keep g21an 6 s = keep g21an 6 s') : g21D A n (pth 12127) K s = g21D A n (pth 12127) K s' := codeD_first (id := 6) (by kernel_rfl) h K
theorem g21p1111101011111 : g21D A n (pth 16223) K s = K .ret s := by kernel_rfl
theorem g21p111111 : g21D A n (pth 127) K s = g21D A n (pth 191) (g21Q A n (pth 255) K) s := by kernel_rfl
theorem g21p1111110 : g21D A n (pth 191) K s = g21D A n (pth 319) (g21Q A n (pth 447) K) s := by kernel_rfl
theorem g21p11111100 (s' : St) (h : keep g21an 10 s = keep g21an 10 s') : g21D A n (pth 319) K s = g21D A n (pth 319) K s' := codeD_first (id := 10) (by kernel_rfl) h K
theorem g21p11111101 (t : Bool) : ev s (.tmp 51) = some (.v (.cell (.bool t))) → g21D A n (pth 447) K s = (match t with
    | true => g21D A n (pth 703) K s
    | false => g21D A n (pth 959) K s) := codeD_cond t
theorem g21p111111010 (s' : St) (h : keep g21an 11 s = keep g21an 11 s') : g21D A n (pth 703) K s = g21D A n (pth 703) K s' := codeD_first (id := 11) (by kernel_rfl) h K
theorem g21p111111011 : g21D A n (pth 959) K s = K .normal s := by kernel_rfl
theorem g21p1111111 : g21D A n (pth 255) K s = g21D A n (pth 383) (g21Q A n (pth 511) K) s := by kernel_rfl
theorem g21p11111110 (s' : St) (h : keep g21an 12 s = keep g21an 12 s') : g21D A n (pth 383) K s = g21D A n (pth 383) K s' := codeD_first (id := 12) (by kernel_rfl) h K
theorem g21p11111111 : g21D A n (pth 511) K s = K .ret s := by kernel_rfl
theorem g21R10 (x0 x1 : List Nat) : g21D A n (pth 319) K ⟨[(4, (pT 1002 0)), (8, (pT 4009 0))], [(1002, (bU 4 x0 24)), (4009, (bU 4 x1 24))]⟩ = match (generalizing := false) g22ok A x1 with
    | true => K .normal ⟨[(51, (bO (g22r0 A x1))), (50, (aN .u64 4 x1)), (4, (pT 1002 0)), (8, (pT 4009 0))], [(1002, (bU 4 x0 24)), (4009, (bU 4 x1 24))]⟩
    | false => none := by kernel_rfl
theorem g21R11 (x0 x1 : List Nat) : g21D A n (pth 703) K ⟨[(4, (pT 1002 0)), (8, (pT 4009 0))], [(1002, (bU 4 x0 24)), (4009, (bU 4 x1 24))]⟩ = match (generalizing := false) g18ok A x1 with
    | true => K .normal ⟨[(53, (aN .u64 4 (g18r0 A x1))), (52, (aN .u64 4 x1)), (4, (pT 1002 0)), (8, (pT 4009 0))], [(1002, (bU 4 x0 24)), (4009, (bU 4 (g18r0 A x1) 24))]⟩
    | false => none := by kernel_rfl
theorem g21R12 (x0 x1 : List Nat) : g21D A n (pth 383) K ⟨[(4, (pT 1002 0)), (8, (pT 4009 0))], [(1002, (bU 4 x0 24)), (4009, (bU 4 x1 24))]⟩ = K .normal ⟨[(5, (bO true)), (54, (aN .u64 4 x1)), (4, (pT 1002 0)), (8, (pT 4009 0))], [(1002, (bU 4 x1 24)), (4009, (bU 4 x1 24))]⟩ := by kernel_rfl
theorem g21R0 (x0 x1 : List Nat) : g21D A n (pth 2) K ⟨[(0, (aN .u64 4 x0)), (1, (aN .u64 4 x1))], []⟩ = K .normal ⟨[(5, (bO false)), (4, (pT 1002 0)), (3, (pT 1001 0)), (2, (pT 1000 0)), (0, (aN .u64 4 x0)), (1, (aN .u64 4 x1))], [(1002, (bU 4 [0, 0, 0, 0] 24)), (1001, (bU 4 x1 24)), (1000, (bU 4 x0 24))]⟩ := by kernel_rfl
theorem g21R1 (x0 x1 x2 : List Nat) : g21D A n (pth 5) K ⟨[(2, (pT 1000 0)), (3, (pT 1001 0)), (4, (pT 1002 0))], [(1000, (bU 4 x0 24)), (1001, (bU 4 x1 24)), (1002, (bU 4 x2 24))]⟩ = match (generalizing := false) g16ok A x1 x1 with
    | true => match (generalizing := false) g16ok A x1 (g16r0 A x1 x1) with
      | true => K .normal ⟨[(6, (pT 2005 0)), (14, (aN .u64 4 (g16r0 A x1 (g16r0 A x1 x1)))), (13, (aN .u64 4 (g16r0 A x1 x1))), (12, (aN .u64 4 x1)), (11, (aN .u64 4 x1)), (10, (aN .u64 4 x1)), (2, (pT 1000 0)), (3, (pT 1001 0)), (4, (pT 1002 0))], [(2005, (bU 4 (g16r0 A x1 (g16r0 A x1 x1)) 24)), (1000, (bU 4 x0 24)), (1001, (bU 4 x1 24)), (1002, (bU 4 x2 24))]⟩
      | false => none
    | false => none := by kernel_rfl
theorem g21R2 (x0 x1 : List Nat) (x2 x3 : List Nat) : g21D A n (pth 11) K ⟨[(2, (pT 1000 0)), (3, (pT 1001 0)), (4, (pT 1002 0)), (6, (pT 2005 0))], [(1000, (bU 4 x0 24)), (1001, (bU 4 x1 24)), (1002, (bU 4 x2 24)), (2005, (bU 4 x3 24))]⟩ = match (generalizing := false) g16ok A x3 x3 with
    | true => match (generalizing := false) g16ok A x1 (g16r0 A x3 x3) with
      | true => K .normal ⟨[(7, (pT 3005 0)), (19, (aN .u64 4 (g16r0 A x1 (g16r0 A x3 x3)))), (18, (aN .u64 4 (g16r0 A x3 x3))), (17, (aN .u64 4 x3)), (16, (aN .u64 4 x3)), (15, (aN .u64 4 x1)), (2, (pT 1000 0)), (3, (pT 1001 0)), (4, (pT 1002 0)), (6, (pT 2005 0))], [(3005, (bU 4 (g16r0 A x1 (g16r0 A x3 x3)) 24)), (1000, (bU 4 x0 24)), (1001, (bU 4 x1 24)), (1002, (bU 4 x2 24)), (2005, (bU 4 x3 24))]⟩
      | false => none
    | false => none := by kernel_rfl
theorem g21R3 (x0 x1 : List Nat) (x2 x3 x4 : List Nat) : g21D A n (pth 23) K ⟨[(2, (pT 1000 0)), (3, (pT 1001 0)), (4, (pT 1002 0)), (6, (pT 2005 0)), (7, (pT 3005 0))], [(1000, (bU 4 x0 24)), (1001, (bU 4 x1 24)), (1002, (bU 4 x2 24)), (2005, (bU 4 x3 24)), (3005, (bU 4 x4 24))]⟩ = match (generalizing := false) g16ok A x0 x3 with
    | true => match (generalizing := false) g16ok A x0 x4 with
      | true => match (generalizing := false) g24ok A (g16r0 A x0 x4) (((([0, 0, 0, 0].set 0 18446744073709551613).set 1 18446744073709551615).set 2 18446744073709551615).set 3 1152921504606846975) with
        | true => match (generalizing := false) g16ok A (g16r0 A x0 x3) (g24r0 A (g16r0 A x0 x4) (((([0, 0, 0, 0].set 0 18446744073709551613).set 1 18446744073709551615).set 2 18446744073709551615).set 3 1152921504606846975)) with
          | true => K .normal ⟨[(8, (pT 4009 0)), (28, (aN .u64 4 (g16r0 A (g16r0 A x0 x3) (g24r0 A (g16r0 A x0 x4) (((([0, 0, 0, 0].set 0 18446744073709551613).set 1 18446744073709551615).set 2 18446744073709551615).set 3 1152921504606846975))))), (27, (aN .u64 4 (g24r0 A (g16r0 A x0 x4) (((([0, 0, 0, 0].set 0 18446744073709551613).set 1 18446744073709551615).set 2 18446744073709551615).set 3 1152921504606846975)))), (26, (aN .u64 4 (((([0, 0, 0, 0].set 0 18446744073709551613).set 1 18446744073709551615).set 2 18446744073709551615).set 3 1152921504606846975))), (25, (aN .u64 4 (g16r0 A x0 x4))), (24, (aN .u64 4 x4)), (23, (aN .u64 4 x0)), (22, (aN .u64 4 (g16r0 A x0 x3))), (21, (aN .u64 4 x3)), (20, (aN .u64 4 x0)), (2, (pT 1000 0)), (3, (pT 1001 0)), (4, (pT 1002 0)), (6, (pT 2005 0)), (7, (pT 3005 0))], [(4009, (bU 4 (g16r0 A (g16r0 A x0 x3) (g24r0 A (g16r0 A x0 x4) (((([0, 0, 0, 0].set 0 18446744073709551613).set 1 18446744073709551615).set 2 18446744073709551615).set 3 1152921504606846975))) 24)), (1000, (bU 4 x0 24)), (1001, (bU 4 x1 24)), (1002, (bU 4 x2 24)), (2005, (bU 4 x3 24)), (3005, (bU 4 x4 24))]⟩
          | false => none
        | false => none
      | false => none
    | false => none := by kernel_rfl
theorem g21R4 (x0 x1 : List Nat) (x2 x3 : List Nat) : g21D A n (pth 47) K ⟨[(2, (pT 1000 0)), (3, (pT 1001 0)), (4, (pT 1002 0)), (8, (pT 4009 0))], [(1000, (bU 4 x0 24)), (1001, (bU 4 x1 24)), (1002, (bU 4 x2 24)), (4009, (bU 4 x3 24))]⟩ = match (generalizing := false) g37ok A x0 with
    | true => match (generalizing := false) g38ok A (g37r0 A x0) with
      | true => K .normal ⟨[(9, (pT 5003 0)), (31, (aN .u64 4 (g38r0 A (g37r0 A x0)))), (30, (aN .u64 5 (g37r0 A x0))), (29, (aN .u64 4 x0)), (2, (pT 1000 0)), (3, (pT 1001 0)), (4, (pT 1002 0)), (8, (pT 4009 0))], [(5003, (bU 4 (g38r0 A (g37r0 A x0)) 24)), (1000, (bU 4 x0 24)), (1001, (bU 4 x1 24)), (1002, (bU 4 x2 24)), (4009, (bU 4 x3 24))]⟩
      | false => none
    | false => none := by kernel_rfl
theorem g21R5 (x0 x1 : List Nat) (x2 x3 : List Nat) : g21D A n (pth 159) K ⟨[(3, (pT 1001 0)), (4, (pT 1002 0)), (8, (pT 4009 0)), (9, (pT 5003 0))], [(1001, (bU 4 x0 24)), (1002, (bU 4 x1 24)), (4009, (bU 4 x2 24)), (5003, (bU 4 x3 24))]⟩ = match (generalizing := false) g16ok A x2 x2 with
    | true => match (generalizing := false) g16ok A x0 (g16r0 A x2 x2) with
      | true => K .normal ⟨[(36, (aN .u64 4 (g16r0 A x0 (g16r0 A x2 x2)))), (35, (aN .u64 4 (g16r0 A x2 x2))), (34, (aN .u64 4 x2)), (33, (aN .u64 4 x2)), (32, (aN .u64 4 x0)), (3, (pT 1001 0)), (4, (pT 1002 0)), (8, (pT 4009 0)), (9, (pT 5003 0))], [(1001, (bU 4 x0 24)), (1002, (bU 4 x1 24)), (4009, (bU 4 x2 24)), (5003, (bU 4 x3 24))]⟩
      | false => none
    | false => none := by kernel_rfl
theorem g21R7 (x0 x1 : List Nat) (x2 x3 : List Nat) : g21D A n (pth 607) K ⟨[(4, (pT 1002 0)), (8, (pT 4009 0)), (9, (pT 5003 0)), (36, (aN .u64 4 x0))], [(1002, (bU 4 x1 24)), (4009, (bU 4 x2 24)), (5003, (bU 4 x3 24))]⟩ = K .normal ⟨[(38, (bO ((A.lq x0 x3) && true))), (40, (bO ((A.lq x0 x3) && true))), (39, (aN .u64 4 x3)), (4, (pT 1002 0)), (8, (pT 4009 0)), (9, (pT 5003 0)), (36, (aN .u64 4 x0))], [(1002, (bU 4 x1 24)), (4009, (bU 4 x2 24)), (5003, (bU 4 x3 24))]⟩ := by kernel_rfl
theorem g21R8 (x0 x1 : List Nat) (x2 x3 : List Nat) : g21D A n (pth 2911) K ⟨[(4, (pT 1002 0)), (8, (pT 4009 0)), (9, (pT 5003 0)), (36, (aN .u64 4 x0))], [(1002, (bU 4 x1 24)), (4009, (bU 4 x2 24)), (5003, (bU 4 x3 24))]⟩ = match (generalizing := false) g18ok A x3 with
    | true => K .normal ⟨[(41, (bO ((A.lq x0 (g18r0 A x3)) && true))), (44, (bO ((A.lq x0 (g18r0 A x3)) && true))), (43, (aN .u64 4 (g18r0 A x3))), (42, (aN .u64 4 x3)), (4, (pT 1002 0)), (8, (pT 4009 0)), (9, (pT 5003 0)), (36, (aN .u64 4 x0))], [(1002, (bU 4 x1 24)), (4009, (bU 4 x2 24)), (5003, (bU 4 x3 24))]⟩
    | false => none := by kernel_rfl
theorem g21R9 (x0 x1 : List Nat) : g21D A n (pth 5983) K ⟨[(4, (pT 1002 0)), (8, (pT 4009 0))], [(1002, (bU 4 x0 24)), (4009, (bU 4 x1 24))]⟩ = match (generalizing := false) g23ok A 2 with
    | true => match (generalizing := false) g24ok A (g23r0 A 2) (((([0, 0, 0, 0].set 0 18446744073709551611).set 1 18446744073709551615).set 2 18446744073709551615).set 3 2305843009213693951) with
      | true => match (generalizing := false) g16ok A x1 (g24r0 A (g23r0 A 2) (((([0, 0, 0, 0].set 0 18446744073709551611).set 1 18446744073709551615).set 2 18446744073709551615).set 3 2305843009213693951)) with
        | true => K .normal ⟨[(49, (aN .u64 4 (g16r0 A x1 (g24r0 A (g23r0 A 2) (((([0, 0, 0, 0].set 0 18446744073709551611).set 1 18446744073709551615).set 2 18446744073709551615).set 3 2305843009213693951))))), (48, (aN .u64 4 (g24r0 A (g23r0 A 2) (((([0, 0, 0, 0].set 0 18446744073709551611).set 1 18446744073709551615).set 2 18446744073709551615).set 3 2305843009213693951)))), (47, (aN .u64 4 (((([0, 0, 0, 0].set 0 18446744073709551611).set 1 18446744073709551615).set 2 18446744073709551615).set 3 2305843009213693951))), (46, (aN .u64 4 (g23r0 A 2))), (45, (aN .u64 4 x1)), (4, (pT 1002 0)), (8, (pT 4009 0))], [(1002, (bU 4 x0 24)), (4009, (bU 4 (g16r0 A x1 (g24r0 A (g23r0 A 2) (((([0, 0, 0, 0].set 0 18446744073709551611).set 1 18446744073709551615).set 2 18446744073709551615).set 3 2305843009213693951))) 24))]⟩
        | false => none
      | false => none
    | false => none := by kernel_rfl
theorem g21R6 (x0 : List Nat) : g21D A n (pth 12127) K ⟨[(4, (pT 1002 0))], [(1002, (bU 4 x0 24))]⟩ = K .normal ⟨[(5, (bO false)), (37, (aN .u64 4 [0, 0, 0, 0])), (4, (pT 1002 0))], [(1002, (bU 4 [0, 0, 0, 0] 24))]⟩ := by kernel_rfl
end
def g21J10 {R : Type} (A : Ar) (n : Nat) (kk : AV → Heap → Option R)  (x0 x1 : List Nat) : Option R :=
  match (generalizing := false) g22ok A x1 with
  | true => match (generalizing := false) g22r0 A x1 with
    | true => match (generalizing := false) g18ok A x1 with
      | true => kk (.tup [(.agg [.nums .u64 4 (g18r0 A x1)]), (.cell (.bool true))]) [(1002, (bU 4 (g18r0 A x1) 24)), (4009, (bU 4 (g18r0 A x1) 24))]
      | false => none
    | false => kk (.tup [(.agg [.nums .u64 4 x1]), (.cell (.bool true))]) [(1002, (bU 4 x1 24)), (4009, (bU 4 x1 24))]
  | false => none
set_option maxRecDepth 100000 in
theorem g21J10_eq {R : Type} (A : Ar) (n : Nat) (kk : AV → Heap → Option R)    (s : St) (x0 x1 : List Nat) (h : keep g21an 10 s = ⟨[(4, (pT 1002 0)), (8, (pT 4009 0))], [(1002, (bU 4 x0 24)), (4009, (bU 4 x1 24))]⟩) :
    g21D A n (pth 127) (g21T kk) s = g21J10 A n kk  x0 x1 := by
  have h7 : (g21T kk) .ret ⟨[(5, (bO true)), (54, (aN .u64 4 (g18r0 A x1))), (4, (pT 1002 0)), (8, (pT 4009 0))], [(1002, (bU 4 (g18r0 A x1) 24)), (4009, (bU 4 (g18r0 A x1) 24))]⟩ = kk (.tup [(.agg [.nums .u64 4 (g18r0 A x1)]), (.cell (.bool true))]) [(1002, (bU 4 (g18r0 A x1) 24)), (4009, (bU 4 (g18r0 A x1) 24))] := by kernel_rfl
  have h8 := (g21p11111111 A n _ _).trans h7
  have h9 := (g21Qn A n _ _ _).trans h8
  have h5 := g21R12 A n (g21Q A n (pth 511) (g21T kk)) x0 (g18r0 A x1)
  have h10 := (g21p11111110 A n _ ⟨[(53, (aN .u64 4 (g18r0 A x1))), (52, (aN .u64 4 x1)), (4, (pT 1002 0)), (8, (pT 4009 0))], [(1002, (bU 4 x0 24)), (4009, (bU 4 (g18r0 A x1) 24))]⟩ _ (by kernel_rfl)).trans h5
  rw [h9] at h10
  have h11 := (g21p1111111 A n _ _).trans h10
  have h12 := (g21Qn A n _ _ _).trans h11
  have h3 := g21R11 A n (g21Q A n (pth 255) (g21T kk)) x0 x1
  have h13 := (g21p111111010 A n _ ⟨[(51, (bO (g22r0 A x1))), (50, (aN .u64 4 x1)), (4, (pT 1002 0)), (8, (pT 4009 0))], [(1002, (bU 4 x0 24)), (4009, (bU 4 x1 24))]⟩ _ (by kernel_rfl)).trans h3
  rw [h12] at h13
  have h16 : (g21T kk) .ret ⟨[(5, (bO true)), (54, (aN .u64 4 x1)), (4, (pT 1002 0)), (8, (pT 4009 0))], [(1002, (bU 4 x1 24)), (4009, (bU 4 x1 24))]⟩ = kk (.tup [(.agg [.nums .u64 4 x1]), (.cell (.bool true))]) [(1002, (bU 4 x1 24)), (4009, (bU 4 x1 24))] := by kernel_rfl
  have h17 := (g21p11111111 A n _ _).trans h16
  have h18 := (g21Qn A n _ _ _).trans h17
  have h14 := g21R12 A n (g21Q A n (pth 511) (g21T kk)) x0 x1
  have h19 := (g21p11111110 A n _ ⟨[(51, (bO (g22r0 A x1))), (50, (aN .u64 4 x1)), (4, (pT 1002 0)), (8, (pT 4009 0))], [(1002, (bU 4 x0 24)), (4009, (bU 4 x1 24))]⟩ _ (by kernel_rfl)).trans h14
  rw [h18] at h19
  have h20 := (g21p1111111 A n _ _).trans h19
  have h21 := (g21Qn A n _ _ _).trans h20
  have h22 := (g21p111111011 A n _ _).trans h21
  have h23 := g21p11111101 A n (g21Q A n (pth 255) (g21T kk)) ⟨[(51, (bO (g22r0 A x1))), (50, (aN .u64 4 x1)), (4, (pT 1002 0)), (8, (pT 4009 0))], [(1002, (bU 4 x0 24)), (4009, (bU 4 x1 24))]⟩ (g22r0 A x1) (by kernel_rfl)
  rw [h13, h22] at h23
  have h24 := (g21Qn A n _ _ _).trans h23
  have h1 := g21R10 A n (g21Q A n (pth 447) (g21Q A n (pth 255) (g21T kk))) x0 x1
  have h25 := (g21p11111100 A n _ ⟨[(4, (pT 1002 0)), (8, (pT 4009 0))], [(1002, (bU 4 x0 24)), (4009, (bU 4 x1 24))]⟩ _ (by kernel_rfl)).trans h1
  rw [h24] at h25
  have h26 := (g21p1111110 A n _ _).trans h25
  have h27 := (g21p111111 A n _ _).trans h26
  exact (codeD_first (s' := ⟨[(4, (pT 1002 0)), (8, (pT 4009 0))], [(1002, (bU 4 x0 24)), (4009, (bU 4 x1 24))]⟩) (id := 10) (by kernel_rfl) (h.trans (by kernel_rfl)) _).trans (h27.trans (by kernel_rfl))
def g21 {R : Type} (A : Ar) (n : Nat) (kk : AV → Heap → Option R) (a b : List Nat) : Option R :=
  match (generalizing := false) g16ok A b b with
  | true => match (generalizing := false) g16ok A b (g16r0 A b b) with
    | true => match (generalizing := false) g16ok A (g16r0 A b (g16r0 A b b)) (g16r0 A b (g16r0 A b b)) with
      | true => match (generalizing := false) g16ok A b (g16r0 A (g16r0 A b (g16r0 A b b)) (g16r0 A b (g16r0 A b b))) with
        | true => match (generalizing := false) g16ok A a (g16r0 A b (g16r0 A b b)) with
          | true => match (generalizing := false) g16ok A a (g16r0 A b (g16r0 A (g16r0 A b (g16r0 A b b)) (g16r0 A b (g16r0 A b b)))) with
            | true => match (generalizing := false) g24ok A (g16r0 A a (g16r0 A b (g16r0 A (g16r0 A b (g16r0 A b b)) (g16r0 A b (g16r0 A b b))))) (((([0, 0, 0, 0].set 0 18446744073709551613).set 1 18446744073709551615).set 2 18446744073709551615).set 3 1152921504606846975) with
              | true => match (generalizing := false) g16ok A (g16r0 A a (g16r0 A b (g16r0 A b b))) (g24r0 A (g16r0 A a (g16r0 A b (g16r0 A (g16r0 A b (g16r0 A b b)) (g16r0 A b (g16r0 A b b))))) (((([0, 0, 0, 0].set 0 18446744073709551613).set 1 18446744073709551615).set 2 18446744073709551615).set 3 1152921504606846975)) with
                | true => match (generalizing := false) g37ok A a with
                  | true => match (generalizing := false) g38ok A (g37r0 A a) with
                    | true => match (generalizing := false) g16ok A (g16r0 A (g16r0 A a (g16r0 A b (g16r0 A b b))) (g24r0 A (g16r0 A a (g16r0 A b (g16r0 A (g16r0 A b (g16r0 A b b)) (g16r0 A b (g16r0 A b b))))) (((([0, 0, 0, 0].set 0 18446744073709551613).set 1 18446744073709551615).set 2 18446744073709551615).set 3 1152921504606846975))) (g16r0 A (g16r0 A a (g16r0 A b (g16r0 A b b))) (g24r0 A (g16r0 A a (g16r0 A b (g16r0 A (g16r0 A b (g16r0 A b b)) (g16r0 A b (g16r0 A b b))))) (((([0, 0, 0, 0].set 0 18446744073709551613).set 1 18446744073709551615).set 2 18446744073709551615).set 3 1152921504606846975))) with
                      | true => match (generalizing := false) g16ok A b (g16r0 A (g16r0 A (g16r0 A a (g16r0 A b (g16r0 A b b))) (g24r0 A (g16r0 A a (g16r0 A b (g16r0 A (g16r0 A b (g16r0 A b b)) (g16r0 A b (g16r0 A b b))))) (((([0, 0, 0, 0].set 0 18446744073709551613).set 1 18446744073709551615).set 2 18446744073709551615).set 3 1152921504606846975))) (g16r0 A (g16r0 A a (g16r0 A b (g16r0 A b b))) (g24r0 A (g16r0 A a (g16r0 A b (g16r0 A (g16r0 A b (g16r0 A b b)) (g16r0 A b (g16r0 A b b))))) (((([0, 0, 0, 0].set 0 18446744073709551613).set 1 18446744073709551615).set 2 18446744073709551615).set 3 1152921504606846975)))) with
                        | true => match (generalizing := false) (A.lq (g16r0 A b (g16r0 A (g16r0 A (g16r0 A a (g16r0 A b (g16r0 A b b))) (g24r0 A (g16r0 A a (g16r0 A b (g16r0 A (g16r0 A b (g16r0 A b b)) (g16r0 A b (g16r0 A b b))))) (((([0, 0, 0, 0].set 0 18446744073709551613).set 1 18446744073709551615).set 2 18446744073709551615).set 3 1152921504606846975))) (g16r0 A (g16r0 A a (g16r0 A b (g16r0 A b b))) (g24r0 A (g16r0 A a (g16r0 A b (g16r0 A (g16r0 A b (g16r0 A b b)) (g16r0 A b (g16r0 A b b))))) (((([0, 0, 0, 0].set 0 18446744073709551613).set 1 18446744073709551615).set 2 18446744073709551615).set 3 1152921504606846975))))) (g38r0 A (g37r0 A a))) && true with
                          | true => g21J10 A n kk  [0, 0, 0, 0] (g16r0 A (g16r0 A a (g16r0 A b (g16r0 A b b))) (g24r0 A (g16r0 A a (g16r0 A b (g16r0 A (g16r0 A b (g16r0 A b b)) (g16r0 A b (g16r0 A b b))))) (((([0, 0, 0, 0].set 0 18446744073709551613).set 1 18446744073709551615).set 2 18446744073709551615).set 3 1152921504606846975)))
                          | false => match (generalizing := false) g18ok A (g38r0 A (g37r0 A a)) with
                            | true => match (generalizing := false) (A.lq (g16r0 A b (g16r0 A (g16r0 A (g16r0 A a (g16r0 A b (g16r0 A b b))) (g24r0 A (g16r0 A a (g16r0 A b (g16r0 A (g16r0 A b (g16r0 A b b)) (g16r0 A b (g16r0 A b b))))) (((([0, 0, 0, 0].set 0 18446744073709551613).set 1 18446744073709551615).set 2 18446744073709551615).set 3 1152921504606846975))) (g16r0 A (g16r0 A a (g16r0 A b (g16r0 A b b))) (g24r0 A (g16r0 A a (g16r0 A b (g16r0 A (g16r0 A b (g16r0 A b b)) (g16r0 A b (g16r0 A b b))))) (((([0, 0, 0, 0].set 0 18446744073709551613).set 1 18446744073709551615).set 2 18446744073709551615).set 3 1152921504606846975))))) (g18r0 A (g38r0 A (g37r0 A a)))) && true with
                              | true => match (generalizing := false) g23ok A 2 with
                                | true => match (generalizing := false) g24ok A (g23r0 A 2) (((([0, 0, 0, 0].set 0 18446744073709551611).set 1 18446744073709551615).set 2 18446744073709551615).set 3 2305843009213693951) with
                                  | true => match (generalizing := false) g16ok A (g16r0 A (g16r0 A a (g16r0 A b (g16r0 A b b))) (g24r0 A (g16r0 A a (g16r0 A b (g16r0 A (g16r0 A b (g16r0 A b b)) (g16r0 A b (g16r0 A b b))))) (((([0, 0, 0, 0].set 0 18446744073709551613).set 1 18446744073709551615).set 2 18446744073709551615).set 3 1152921504606846975))) (g24r0 A (g23r0 A 2) (((([0, 0, 0, 0].set 0 18446744073709551611).set 1 18446744073709551615).set 2 18446744073709551615).set 3 2305843009213693951)) with
                                    | true => g21J10 A n kk  [0, 0, 0, 0] (g16r0 A (g16r0 A (g16r0 A a (g16r0 A b (g16r0 A b b))) (g24r0 A (g16r0 A a (g16r0 A b (g16r0 A (g16r0 A b (g16r0 A b b)) (g16r0 A b (g16r0 A b b))))) (((([0, 0, 0, 0].set 0 18446744073709551613).set 1 18446744073709551615).set 2 18446744073709551615).set 3 1152921504606846975))) (g24r0 A (g23r0 A 2) (((([0, 0, 0, 0].set 0 18446744073709551611).set 1 18446744073709551615).set 2 18446744073709551615).set 3 2305843009213693951)))
                                    | false => none
                                  | false => none
                                | false => none
                              | false => kk (.tup [(.agg [.nums .u64 4 [0, 0, 0, 0]]), (.cell (.bool false))]) [(1002, (bU 4 [0, 0, 0, 0] 24))]
                            | false => none
                        | false => none
                      | false => none
                    | false => none
                  | false => none
                | false => none
              | false => none
            | false => none
          | false => none
        | false => none
      | false => none
    | false => none
  | false => none
set_option maxRecDepth 100000 in
theorem g21_eq {R : Type} (A : Ar) (n : Nat) (kk : AV → Heap → Option R) (a b : List Nat) :
    funD A gtys (g21O A) g21an n (bodyOf Try.f21) g21res [(aN .u64 4 a), (aN .u64 4 b)] [] kk = g21 A n kk a b := by
  have h15 := (g21Qn A n _ _ _).trans (g21J10_eq A n kk     ⟨[(38, (bO ((A.lq (g16r0 A b (g16r0 A (g16r0 A (g16r0 A a (g16r0 A b (g16r0 A b b))) (g24r0 A (g16r0 A a (g16r0 A b (g16r0 A (g16r0 A b (g16r0 A b b)) (g16r0 A b (g16r0 A b b))))) (((([0, 0, 0, 0].set 0 18446744073709551613).set 1 18446744073709551615).set 2 18446744073709551615).set 3 1152921504606846975))) (g16r0 A (g16r0 A a (g16r0 A b (g16r0 A b b))) (g24r0 A (g16r0 A a (g16r0 A b (g16r0 A (g16r0 A b (g16r0 A b b)) (g16r0 A b (g16r0 A b b))))) (((([0, 0, 0, 0].set 0 18446744073709551613).set 1 18446744073709551615).set 2 18446744073709551615).set 3 1152921504606846975))))) (g38r0 A (g37r0 A a))) && true))), (40, (bO ((A.lq (g16r0 A b (g16r0 A (g16r0 A (g16r0 A a (g16r0 A b (g16r0 A b b))) (g24r0 A (g16r0 A a (g16r0 A b (g16r0 A (g16r0 A b (g16r0 A b b)) (g16r0 A b (g16r0 A b b))))) (((([0, 0, 0, 0].set 0 18446744073709551613).set 1 18446744073709551615).set 2 18446744073709551615).set 3 1152921504606846975))) (g16r0 A (g16r0 A a (g16r0 A b (g16r0 A b b))) (g24r0 A (g16r0 A a (g16r0 A b (g16r0 A (g16r0 A b (g16r0 A b b)) (g16r0 A b (g16r0 A b b))))) (((([0, 0, 0, 0].set 0 18446744073709551613).set 1 18446744073709551615).set 2 18446744073709551615).set 3 1152921504606846975))))) (g38r0 A (g37r0 A a))) && true))), (39, (aN .u64 4 (g38r0 A (g37r0 A a)))), (4, (pT 1002 0)), (8, (pT 4009 0)), (9, (pT 5003 0)), (36, (aN .u64 4 (g16r0 A b (g16r0 A (g16r0 A (g16r0 A a (g16r0 A b (g16r0 A b b))) (g24r0 A (g16r0 A a (g16r0 A b (g16r0 A (g16r0 A b (g16r0 A b b)) (g16r0 A b (g16r0 A b b))))) (((([0, 0, 0, 0].set 0 18446744073709551613).set 1 18446744073709551615).set 2 18446744073709551615).set 3 1152921504606846975))) (g16r0 A (g16r0 A a (g16r0 A b (g16r0 A b b))) (g24r0 A (g16r0 A a (g16r0 A b (g16r0 A (g16r0 A b (g16r0 A b b)) (g16r0 A b (g16r0 A b b))))) (((([0, 0, 0, 0].set 0 18446744073709551613).set 1 18446744073709551615).set 2 18446744073709551615).set 3 1152921504606846975)))))))], [(1002, (bU 4 [0, 0, 0, 0] 24)), (4009, (bU 4 (g16r0 A (g16r0 A a (g16r0 A b (g16r0 A b b))) (g24r0 A (g16r0 A a (g16r0 A b (g16r0 A (g16r0 A b (g16r0 A b b)) (g16r0 A b (g16r0 A b b))))) (((([0, 0, 0, 0].set 0 18446744073709551613).set 1 18446744073709551615).set 2 18446744073709551615).set 3 1152921504606846975))) 24)), (5003, (bU 4 (g38r0 A (g37r0 A a)) 24))]⟩ [0, 0, 0, 0] (g16r0 A (g16r0 A a (g16r0 A b (g16r0 A b b))) (g24r0 A (g16r0 A a (g16r0 A b (g16r0 A (g16r0 A b (g16r0 A b b)) (g16r0 A b (g16r0 A b b))))) (((([0, 0, 0, 0].set 0 18446744073709551613).set 1 18446744073709551615).set 2 18446744073709551615).set 3 1152921504606846975))) (by kernel_rfl))
  have h16 := (blockK_n 0 _ _).trans h15
  have h17 := (g21p1111101010 A n _ _).trans h16
  have h22 := (g21Qn A n _ _ _).trans (g21J10_eq A n kk     ⟨[(49, (aN .u64 4 (g16r0 A (g16r0 A (g16r0 A a (g16r0 A b (g16r0 A b b))) (g24r0 A (g16r0 A a (g16r0 A b (g16r0 A (g16r0 A b (g16r0 A b b)) (g16r0 A b (g16r0 A b b))))) (((([0, 0, 0, 0].set 0 18446744073709551613).set 1 18446744073709551615).set 2 18446744073709551615).set 3 1152921504606846975))) (g24r0 A (g23r0 A 2) (((([0, 0, 0, 0].set 0 18446744073709551611).set 1 18446744073709551615).set 2 18446744073709551615).set 3 2305843009213693951))))), (48, (aN .u64 4 (g24r0 A (g23r0 A 2) (((([0, 0, 0, 0].set 0 18446744073709551611).set 1 18446744073709551615).set 2 18446744073709551615).set 3 2305843009213693951)))), (47, (aN .u64 4 (((([0, 0, 0, 0].set 0 18446744073709551611).set 1 18446744073709551615).set 2 18446744073709551615).set 3 2305843009213693951))), (46, (aN .u64 4 (g23r0 A 2))), (45, (aN .u64 4 (g16r0 A (g16r0 A a (g16r0 A b (g16r0 A b b))) (g24r0 A (g16r0 A a (g16r0 A b (g16r0 A (g16r0 A b (g16r0 A b b)) (g16r0 A b (g16r0 A b b))))) (((([0, 0, 0, 0].set 0 18446744073709551613).set 1 18446744073709551615).set 2 18446744073709551615).set 3 1152921504606846975))))), (4, (pT 1002 0)), (8, (pT 4009 0))], [(1002, (bU 4 [0, 0, 0, 0] 24)), (4009, (bU 4 (g16r0 A (g16r0 A (g16r0 A a (g16r0 A b (g16r0 A b b))) (g24r0 A (g16r0 A a (g16r0 A b (g16r0 A (g16r0 A b (g16r0 A b b)) (g16r0 A b (g16r0 A b b))))) (((([0, 0, 0, 0].set 0 18446744073709551613).set 1 18446744073709551615).set 2 18446744073709551615).set 3 1152921504606846975))) (g24r0 A (g23r0 A 2) (((([0, 0, 0, 0].set 0 18446744073709551611).set 1 18446744073709551615).set 2 18446744073709551615).set 3 2305843009213693951))) 24))]⟩ [0, 0, 0, 0] (g16r0 A (g16r0 A (g16r0 A a (g16r0 A b (g16r0 A b b))) (g24r0 A (g16r0 A a (g16r0 A b (g16r0 A (g16r0 A b (g16r0 A b b)) (g16r0 A b (g16r0 A b b))))) (((([0, 0, 0, 0].set 0 18446744073709551613).set 1 18446744073709551615).set 2 18446744073709551615).set 3 1152921504606846975))) (g24r0 A (g23r0 A 2) (((([0, 0, 0, 0].set 0 18446744073709551611).set 1 18446744073709551615).set 2 18446744073709551615).set 3 2305843009213693951))) (by kernel_rfl))
  have h23 := (blockK_n 0 _ _).trans h22
  have h20 := g21R9 A n (blockK 0 (g21Q A n (pth 127) (g21T kk))) [0, 0, 0, 0] (g16r0 A (g16r0 A a (g16r0 A b (g16r0 A b b))) (g24r0 A (g16r0 A a (g16r0 A b (g16r0 A (g16r0 A b (g16r0 A b b)) (g16r0 A b (g16r0 A b b))))) (((([0, 0, 0, 0].set 0 18446744073709551613).set 1 18446744073709551615).set 2 18446744073709551615).set 3 1152921504606846975)))
  have h24 := (g21p111110101110 A n _ ⟨[(41, (bO ((A.lq (g16r0 A b (g16r0 A (g16r0 A (g16r0 A a (g16r0 A b (g16r0 A b b))) (g24r0 A (g16r0 A a (g16r0 A b (g16r0 A (g16r0 A b (g16r0 A b b)) (g16r0 A b (g16r0 A b b))))) (((([0, 0, 0, 0].set 0 18446744073709551613).set 1 18446744073709551615).set 2 18446744073709551615).set 3 1152921504606846975))) (g16r0 A (g16r0 A a (g16r0 A b (g16r0 A b b))) (g24r0 A (g16r0 A a (g16r0 A b (g16r0 A (g16r0 A b (g16r0 A b b)) (g16r0 A b (g16r0 A b b))))) (((([0, 0, 0, 0].set 0 18446744073709551613).set 1 18446744073709551615).set 2 18446744073709551615).set 3 1152921504606846975))))) (g18r0 A (g38r0 A (g37r0 A a)))) && true))), (44, (bO ((A.lq (g16r0 A b (g16r0 A (g16r0 A (g16r0 A a (g16r0 A b (g16r0 A b b))) (g24r0 A (g16r0 A a (g16r0 A b (g16r0 A (g16r0 A b (g16r0 A b b)) (g16r0 A b (g16r0 A b b))))) (((([0, 0, 0, 0].set 0 18446744073709551613).set 1 18446744073709551615).set 2 18446744073709551615).set 3 1152921504606846975))) (g16r0 A (g16r0 A a (g16r0 A b (g16r0 A b b))) (g24r0 A (g16r0 A a (g16r0 A b (g16r0 A (g16r0 A b (g16r0 A b b)) (g16r0 A b (g16r0 A b b))))) (((([0, 0, 0, 0].set 0 18446744073709551613).set 1 18446744073709551615).set 2 18446744073709551615).set 3 1152921504606846975))))) (g18r0 A (g38r0 A (g37r0 A a)))) && true))), (43, (aN .u64 4 (g18r0 A (g38r0 A (g37r0 A a))))), (42, (aN .u64 4 (g38r0 A (g37r0 A a)))), (4, (pT 1002 0)), (8, (pT 4009 0)), (9, (pT 5003 0)), (36, (aN .u64 4 (g16r0 A b (g16r0 A (g16r0 A (g16r0 A a (g16r0 A b (g16r0 A b b))) (g24r0 A (g16r0 A a (g16r0 A b (g16r0 A (g16r0 A b (g16r0 A b b)) (g16r0 A b (g16r0 A b b))))) (((([0, 0, 0, 0].set 0 18446744073709551613).set 1 18446744073709551615).set 2 18446744073709551615).set 3 1152921504606846975))) (g16r0 A (g16r0 A a (g16r0 A b (g16r0 A b b))) (g24r0 A (g16r0 A a (g16r0 A b (g16r0 A (g16r0 A b (g16r0 A b b)) (g16r0 A b (g16r0 A b b))))) (((([0, 0, 0, 0].set 0 18446744073709551613).set 1 18446744073709551615).set 2 18446744073709551615).set 3 1152921504606846975)))))))], [(1002, (bU 4 [0, 0, 0, 0] 24)), (4009, (bU 4 (g16r0 A (g16r0 A a (g16r0 A b (g16r0 A b b))) (g24r0 A (g16r0 A a (g16r0 A b (g16r0 A (g16r0 A b (g16r0 A b b)) (g16r0 A b (g16r0 A b b))))) (((([0, 0, 0, 0].set 0 18446744073709551613).set 1 18446744073709551615).set 2 18446744073709551615).set 3 1152921504606846975))) 24)), (5003, (bU 4 (g38r0 A (g37r0 A a)) 24))]⟩ _ (by kernel_rfl)).trans h20
  rw [h23] at h24
  have h27 : (g21T kk) .ret ⟨[(5, (bO false)), (37, (aN .u64 4 [0, 0, 0, 0])), (4, (pT 1002 0))], [(1002, (bU 4 [0, 0, 0, 0] 24))]⟩ = kk (.tup [(.agg [.nums .u64 4 [0, 0, 0, 0]]), (.cell (.bool false))]) [(1002, (bU 4 [0, 0, 0, 0] 24))] := by kernel_rfl
  have h28 := (g21Qr A n (pth 127) _ _).trans h27
  have h29 := (blockK_r 0 _ _).trans h28
  have h30 := (g21p1111101011111 A n _ _).trans h29
  have h31 := (g21Qn A n _ _ _).trans h30
  have h25 := g21R6 A n (g21Q A n (pth 16223) (blockK 0 (g21Q A n (pth 127) (g21T kk)))) [0, 0, 0, 0]
  have h32 := (g21p1111101011110 A n _ ⟨[(41, (bO ((A.lq (g16r0 A b (g16r0 A (g16r0 A (g16r0 A a (g16r0 A b (g16r0 A b b))) (g24r0 A (g16r0 A a (g16r0 A b (g16r0 A (g16r0 A b (g16r0 A b b)) (g16r0 A b (g16r0 A b b))))) (((([0, 0, 0, 0].set 0 18446744073709551613).set 1 18446744073709551615).set 2 18446744073709551615).set 3 1152921504606846975))) (g16r0 A (g16r0 A a (g16r0 A b (g16r0 A b b))) (g24r0 A (g16r0 A a (g16r0 A b (g16r0 A (g16r0 A b (g16r0 A b b)) (g16r0 A b (g16r0 A b b))))) (((([0, 0, 0, 0].set 0 18446744073709551613).set 1 18446744073709551615).set 2 18446744073709551615).set 3 1152921504606846975))))) (g18r0 A (g38r0 A (g37r0 A a)))) && true))), (44, (bO ((A.lq (g16r0 A b (g16r0 A (g16r0 A (g16r0 A a (g16r0 A b (g16r0 A b b))) (g24r0 A (g16r0 A a (g16r0 A b (g16r0 A (g16r0 A b (g16r0 A b b)) (g16r0 A b (g16r0 A b b))))) (((([0, 0, 0, 0].set 0 18446744073709551613).set 1 18446744073709551615).set 2 18446744073709551615).set 3 1152921504606846975))) (g16r0 A (g16r0 A a (g16r0 A b (g16r0 A b b))) (g24r0 A (g16r0 A a (g16r0 A b (g16r0 A (g16r0 A b (g16r0 A b b)) (g16r0 A b (g16r0 A b b))))) (((([0, 0, 0, 0].set 0 18446744073709551613).set 1 18446744073709551615).set 2 18446744073709551615).set 3 1152921504606846975))))) (g18r0 A (g38r0 A (g37r0 A a)))) && true))), (43, (aN .u64 4 (g18r0 A (g38r0 A (g37r0 A a))))), (42, (aN .u64 4 (g38r0 A (g37r0 A a)))), (4, (pT 1002 0)), (8, (pT 4009 0)), (9, (pT 5003 0)), (36, (aN .u64 4 (g16r0 A b (g16r0 A (g16r0 A (g16r0 A a (g16r0 A b (g16r0 A b b))) (g24r0 A (g16r0 A a (g16r0 A b (g16r0 A (g16r0 A b (g16r0 A b b)) (g16r0 A b (g16r0 A b b))))) (((([0, 0, 0, 0].set 0 18446744073709551613).set 1 18446744073709551615).set 2 18446744073709551615).set 3 1152921504606846975))) (g16r0 A (g16r0 A a (g16r0 A b (g16r0 A b b))) (g24r0 A (g16r0 A a (g16r0 A b (g16r0 A (g16r0 A b (g16r0 A b b)) (g16r0 A b (g16r0 A b b))))) (((([0, 0, 0, 0].set 0 18446744073709551613).set 1 18446744073709551615).set 2 18446744073709551615).set 3 1152921504606846975)))))))], [(1002, (bU 4 [0, 0, 0, 0] 24)), (4009, (bU 4 (g16r0 A (g16r0 A a (g16r0 A b (g16r0 A b b))) (g24r0 A (g16r0 A a (g16r0 A b (g16r0 A (g16r0 A b (g16r0 A b b)) (g16r0 A b (g16r0 A b b))))) (((([0, 0, 0, 0].set 0 18446744073709551613).set 1 18446744073709551615).set 2 18446744073709551615).set 3 1152921504606846975))) 24)), (5003, (bU 4 (g38r0 A (g37r0 A a)) 24))]⟩ _ (by kernel_rfl)).trans h25
  rw [h31] at h32
  have h33 := (g21p111110101111 A n _ _).trans h32
  have h34 := g21p11111010111 A n (blockK 0 (g21Q A n (pth 127) (g21T kk))) ⟨[(41, (bO ((A.lq (g16r0 A b (g16r0 A (g16r0 A (g16r0 A a (g16r0 A b (g16r0 A b b))) (g24r0 A (g16r0 A a (g16r0 A b (g16r0 A (g16r0 A b (g16r0 A b b)) (g16r0 A b (g16r0 A b b))))) (((([0, 0, 0, 0].set 0 18446744073709551613).set 1 18446744073709551615).set 2 18446744073709551615).set 3 1152921504606846975))) (g16r0 A (g16r0 A a (g16r0 A b (g16r0 A b b))) (g24r0 A (g16r0 A a (g16r0 A b (g16r0 A (g16r0 A b (g16r0 A b b)) (g16r0 A b (g16r0 A b b))))) (((([0, 0, 0, 0].set 0 18446744073709551613).set 1 18446744073709551615).set 2 18446744073709551615).set 3 1152921504606846975))))) (g18r0 A (g38r0 A (g37r0 A a)))) && true))), (44, (bO ((A.lq (g16r0 A b (g16r0 A (g16r0 A (g16r0 A a (g16r0 A b (g16r0 A b b))) (g24r0 A (g16r0 A a (g16r0 A b (g16r0 A (g16r0 A b (g16r0 A b b)) (g16r0 A b (g16r0 A b b))))) (((([0, 0, 0, 0].set 0 18446744073709551613).set 1 18446744073709551615).set 2 18446744073709551615).set 3 1152921504606846975))) (g16r0 A (g16r0 A a (g16r0 A b (g16r0 A b b))) (g24r0 A (g16r0 A a (g16r0 A b (g16r0 A (g16r0 A b (g16r0 A b b)) (g16r0 A b (g16r0 A b b))))) (((([0, 0, 0, 0].set 0 18446744073709551613).set 1 18446744073709551615).set 2 18446744073709551615).set 3 1152921504606846975))))) (g18r0 A (g38r0 A (g37r0 A a)))) && true))), (43, (aN .u64 4 (g18r0 A (g38r0 A (g37r0 A a))))), (42, (aN .u64 4 (g38r0 A (g37r0 A a)))), (4, (pT 1002 0)), (8, (pT 4009 0)), (9, (pT 5003 0)), (36, (aN .u64 4 (g16r0 A b (g16r0 A (g16r0 A (g16r0 A a (g16r0 A b (g16r0 A b b))) (g24r0 A (g16r0 A a (g16r0 A b (g16r0 A (g16r0 A b (g16r0 A b b)) (g16r0 A b (g16r0 A b b))))) (((([0, 0, 0, 0].set 0 18446744073709551613).set 1 18446744073709551615).set 2 18446744073709551615).set 3 1152921504606846975))) (g16r0 A (g16r0 A a (g16r0 A b (g16r0 A b b))) (g24r0 A (g16r0 A a (g16r0 A b (g16r0 A (g16r0 A b (g16r0 A b b)) (g16r0 A b (g16r0 A b b))))) (((([0, 0, 0, 0].set 0 18446744073709551613).set 1 18446744073709551615).set 2 18446744073709551615).set 3 1152921504606846975)))))))], [(1002, (bU 4 [0, 0, 0, 0] 24)), (4009, (bU 4 (g16r0 A (g16r0 A a (g16r0 A b (g16r0 A b b))) (g24r0 A (g16r0 A a (g16r0 A b (g16r0 A (g16r0 A b (g16r0 A b b)) (g16r0 A b (g16r0 A b b))))) (((([0, 0, 0, 0].set 0 18446744073709551613).set 1 18446744073709551615).set 2 18446744073709551615).set 3 1152921504606846975))) 24)), (5003, (bU 4 (g38r0 A (g37r0 A a)) 24))]⟩ ((A.lq (g16r0 A b (g16r0 A (g16r0 A (g16r0 A a (g16r0 A b (g16r0 A b b))) (g24r0 A (g16r0 A a (g16r0 A b (g16r0 A (g16r0 A b (g16r0 A b b)) (g16r0 A b (g16r0 A b b))))) (((([0, 0, 0, 0].set 0 18446744073709551613).set 1 18446744073709551615).set 2 18446744073709551615).set 3 1152921504606846975))) (g16r0 A (g16r0 A a (g16r0 A b (g16r0 A b b))) (g24r0 A (g16r0 A a (g16r0 A b (g16r0 A (g16r0 A b (g16r0 A b b)) (g16r0 A b (g16r0 A b b))))) (((([0, 0, 0, 0].set 0 18446744073709551613).set 1 18446744073709551615).set 2 18446744073709551615).set 3 1152921504606846975))))) (g18r0 A (g38r0 A (g37r0 A a)))) && true) (by kernel_rfl)
  rw [h24, h33] at h34
  have h35 := (g21Qn A n _ _ _).trans h34
  have h18 := g21R8 A n (g21Q A n (pth 3935) (blockK 0 (g21Q A n (pth 127) (g21T kk)))) (g16r0 A b (g16r0 A (g16r0 A (g16r0 A a (g16r0 A b (g16r0 A b b))) (g24r0 A (g16r0 A a (g16r0 A b (g16r0 A (g16r0 A b (g16r0 A b b)) (g16r0 A b (g16r0 A b b))))) (((([0, 0, 0, 0].set 0 18446744073709551613).set 1 18446744073709551615).set 2 18446744073709551615).set 3 1152921504606846975))) (g16r0 A (g16r0 A a (g16r0 A b (g16r0 A b b))) (g24r0 A (g16r0 A a (g16r0 A b (g16r0 A (g16r0 A b (g16r0 A b b)) (g16r0 A b (g16r0 A b b))))) (((([0, 0, 0, 0].set 0 18446744073709551613).set 1 18446744073709551615).set 2 18446744073709551615).set 3 1152921504606846975))))) [0, 0, 0, 0] (g16r0 A (g16r0 A a (g16r0 A b (g16r0 A b b))) (g24r0 A (g16r0 A a (g16r0 A b (g16r0 A (g16r0 A b (g16r0 A b b)) (g16r0 A b (g16r0 A b b))))) (((([0, 0, 0, 0].set 0 18446744073709551613).set 1 18446744073709551615).set 2 18446744073709551615).set 3 1152921504606846975))) (g38r0 A (g37r0 A a))
  have h36 := (g21p11111010110 A n _ ⟨[(38, (bO ((A.lq (g16r0 A b (g16r0 A (g16r0 A (g16r0 A a (g16r0 A b (g16r0 A b b))) (g24r0 A (g16r0 A a (g16r0 A b (g16r0 A (g16r0 A b (g16r0 A b b)) (g16r0 A b (g16r0 A b b))))) (((([0, 0, 0, 0].set 0 18446744073709551613).set 1 18446744073709551615).set 2 18446744073709551615).set 3 1152921504606846975))) (g16r0 A (g16r0 A a (g16r0 A b (g16r0 A b b))) (g24r0 A (g16r0 A a (g16r0 A b (g16r0 A (g16r0 A b (g16r0 A b b)) (g16r0 A b (g16r0 A b b))))) (((([0, 0, 0, 0].set 0 18446744073709551613).set 1 18446744073709551615).set 2 18446744073709551615).set 3 1152921504606846975))))) (g38r0 A (g37r0 A a))) && true))), (40, (bO ((A.lq (g16r0 A b (g16r0 A (g16r0 A (g16r0 A a (g16r0 A b (g16r0 A b b))) (g24r0 A (g16r0 A a (g16r0 A b (g16r0 A (g16r0 A b (g16r0 A b b)) (g16r0 A b (g16r0 A b b))))) (((([0, 0, 0, 0].set 0 18446744073709551613).set 1 18446744073709551615).set 2 18446744073709551615).set 3 1152921504606846975))) (g16r0 A (g16r0 A a (g16r0 A b (g16r0 A b b))) (g24r0 A (g16r0 A a (g16r0 A b (g16r0 A (g16r0 A b (g16r0 A b b)) (g16r0 A b (g16r0 A b b))))) (((([0, 0, 0, 0].set 0 18446744073709551613).set 1 18446744073709551615).set 2 18446744073709551615).set 3 1152921504606846975))))) (g38r0 A (g37r0 A a))) && true))), (39, (aN .u64 4 (g38r0 A (g37r0 A a)))), (4, (pT 1002 0)), (8, (pT 4009 0)), (9, (pT 5003 0)), (36, (aN .u64 4 (g16r0 A b (g16r0 A (g16r0 A (g16r0 A a (g16r0 A b (g16r0 A b b))) (g24r0 A (g16r0 A a (g16r0 A b (g16r0 A (g16r0 A b (g16r0 A b b)) (g16r0 A b (g16r0 A b b))))) (((([0, 0, 0, 0].set 0 18446744073709551613).set 1 18446744073709551615).set 2 18446744073709551615).set 3 1152921504606846975))) (g16r0 A (g16r0 A a (g16r0 A b (g16r0 A b b))) (g24r0 A (g16r0 A a (g16r0 A b (g16r0 A (g16r0 A b (g16r0 A b b)) (g16r0 A b (g16r0 A b b))))) (((([0, 0, 0, 0].set 0 18446744073709551613).set 1 18446744073709551615).set 2 18446744073709551615).set 3 1152921504606846975)))))))], [(1002, (bU 4 [0, 0, 0, 0] 24)), (4009, (bU 4 (g16r0 A (g16r0 A a (g16r0 A b (g16r0 A b b))) (g24r0 A (g16r0 A a (g16r0 A b (g16r0 A (g16r0 A b (g16r0 A b b)) (g16r0 A b (g16r0 A b b))))) (((([0, 0, 0, 0].set 0 18446744073709551613).set 1 18446744073709551615).set 2 18446744073709551615).set 3 1152921504606846975))) 24)), (5003, (bU 4 (g38r0 A (g37r0 A a)) 24))]⟩ _ (by kernel_rfl)).trans h18
  rw [h35] at h36
  have h37 := (g21p1111101011 A n _ _).trans h36
  have h38 := g21p111110101 A n (blockK 0 (g21Q A n (pth 127) (g21T kk))) ⟨[(38, (bO ((A.lq (g16r0 A b (g16r0 A (g16r0 A (g16r0 A a (g16r0 A b (g16r0 A b b))) (g24r0 A (g16r0 A a (g16r0 A b (g16r0 A (g16r0 A b (g16r0 A b b)) (g16r0 A b (g16r0 A b b))))) (((([0, 0, 0, 0].set 0 18446744073709551613).set 1 18446744073709551615).set 2 18446744073709551615).set 3 1152921504606846975))) (g16r0 A (g16r0 A a (g16r0 A b (g16r0 A b b))) (g24r0 A (g16r0 A a (g16r0 A b (g16r0 A (g16r0 A b (g16r0 A b b)) (g16r0 A b (g16r0 A b b))))) (((([0, 0, 0, 0].set 0 18446744073709551613).set 1 18446744073709551615).set 2 18446744073709551615).set 3 1152921504606846975))))) (g38r0 A (g37r0 A a))) && true))), (40, (bO ((A.lq (g16r0 A b (g16r0 A (g16r0 A (g16r0 A a (g16r0 A b (g16r0 A b b))) (g24r0 A (g16r0 A a (g16r0 A b (g16r0 A (g16r0 A b (g16r0 A b b)) (g16r0 A b (g16r0 A b b))))) (((([0, 0, 0, 0].set 0 18446744073709551613).set 1 18446744073709551615).set 2 18446744073709551615).set 3 1152921504606846975))) (g16r0 A (g16r0 A a (g16r0 A b (g16r0 A b b))) (g24r0 A (g16r0 A a (g16r0 A b (g16r0 A (g16r0 A b (g16r0 A b b)) (g16r0 A b (g16r0 A b b))))) (((([0, 0, 0, 0].set 0 18446744073709551613).set 1 18446744073709551615).set 2 18446744073709551615).set 3 1152921504606846975))))) (g38r0 A (g37r0 A a))) && true))), (39, (aN .u64 4 (g38r0 A (g37r0 A a)))), (4, (pT 1002 0)), (8, (pT 4009 0)), (9, (pT 5003 0)), (36, (aN .u64 4 (g16r0 A b (g16r0 A (g16r0 A (g16r0 A a (g16r0 A b (g16r0 A b b))) (g24r0 A (g16r0 A a (g16r0 A b (g16r0 A (g16r0 A b (g16r0 A b b)) (g16r0 A b (g16r0 A b b))))) (((([0, 0, 0, 0].set 0 18446744073709551613).set 1 18446744073709551615).set 2 18446744073709551615).set 3 1152921504606846975))) (g16r0 A (g16r0 A a (g16r0 A b (g16r0 A b b))) (g24r0 A (g16r0 A a (g16r0 A b (g16r0 A (g16r0 A b (g16r0 A b b)) (g16r0 A b (g16r0 A b b))))) (((([0, 0, 0, 0].set 0 18446744073709551613).set 1 18446744073709551615).set 2 18446744073709551615).set 3 1152921504606846975)))))))], [(1002, (bU 4 [0, 0, 0, 0] 24)), (4009, (bU 4 (g16r0 A (g16r0 A a (g16r0 A b (g16r0 A b b))) (g24r0 A (g16r0 A a (g16r0 A b (g16r0 A (g16r0 A b (g16r0 A b b)) (g16r0 A b (g16r0 A b b))))) (((([0, 0, 0, 0].set 0 18446744073709551613).set 1 18446744073709551615).set 2 18446744073709551615).set 3 1152921504606846975))) 24)), (5003, (bU 4 (g38r0 A (g37r0 A a)) 24))]⟩ ((A.lq (g16r0 A b (g16r0 A (g16r0 A (g16r0 A a (g16r0 A b (g16r0 A b b))) (g24r0 A (g16r0 A a (g16r0 A b (g16r0 A (g16r0 A b (g16r0 A b b)) (g16r0 A b (g16r0 A b b))))) (((([0, 0, 0, 0].set 0 18446744073709551613).set 1 18446744073709551615).set 2 18446744073709551615).set 3 1152921504606846975))) (g16r0 A (g16r0 A a (g16r0 A b (g16r0 A b b))) (g24r0 A (g16r0 A a (g16r0 A b (g16r0 A (g16r0 A b (g16r0 A b b)) (g16r0 A b (g16r0 A b b))))) (((([0, 0, 0, 0].set 0 18446744073709551613).set 1 18446744073709551615).set 2 18446744073709551615).set 3 1152921504606846975))))) (g38r0 A (g37r0 A a))) && true) (by kernel_rfl)
  rw [h17, h37] at h38
  have h39 := (g21Qn A n _ _ _).trans h38
  have h13 := g21R7 A n (g21Q A n (pth 863) (blockK 0 (g21Q A n (pth 127) (g21T kk)))) (g16r0 A b (g16r0 A (g16r0 A (g16r0 A a (g16r0 A b (g16r0 A b b))) (g24r0 A (g16r0 A a (g16r0 A b (g16r0 A (g16r0 A b (g16r0 A b b)) (g16r0 A b (g16r0 A b b))))) (((([0, 0, 0, 0].set 0 18446744073709551613).set 1 18446744073709551615).set 2 18446744073709551615).set 3 1152921504606846975))) (g16r0 A (g16r0 A a (g16r0 A b (g16r0 A b b))) (g24r0 A (g16r0 A a (g16r0 A b (g16r0 A (g16r0 A b (g16r0 A b b)) (g16r0 A b (g16r0 A b b))))) (((([0, 0, 0, 0].set 0 18446744073709551613).set 1 18446744073709551615).set 2 18446744073709551615).set 3 1152921504606846975))))) [0, 0, 0, 0] (g16r0 A (g16r0 A a (g16r0 A b (g16r0 A b b))) (g24r0 A (g16r0 A a (g16r0 A b (g16r0 A (g16r0 A b (g16r0 A b b)) (g16r0 A b (g16r0 A b b))))) (((([0, 0, 0, 0].set 0 18446744073709551613).set 1 18446744073709551615).set 2 18446744073709551615).set 3 1152921504606846975))) (g38r0 A (g37r0 A a))
  have h40 := (g21p111110100 A n _ ⟨[(36, (aN .u64 4 (g16r0 A b (g16r0 A (g16r0 A (g16r0 A a (g16r0 A b (g16r0 A b b))) (g24r0 A (g16r0 A a (g16r0 A b (g16r0 A (g16r0 A b (g16r0 A b b)) (g16r0 A b (g16r0 A b b))))) (((([0, 0, 0, 0].set 0 18446744073709551613).set 1 18446744073709551615).set 2 18446744073709551615).set 3 1152921504606846975))) (g16r0 A (g16r0 A a (g16r0 A b (g16r0 A b b))) (g24r0 A (g16r0 A a (g16r0 A b (g16r0 A (g16r0 A b (g16r0 A b b)) (g16r0 A b (g16r0 A b b))))) (((([0, 0, 0, 0].set 0 18446744073709551613).set 1 18446744073709551615).set 2 18446744073709551615).set 3 1152921504606846975))))))), (35, (aN .u64 4 (g16r0 A (g16r0 A (g16r0 A a (g16r0 A b (g16r0 A b b))) (g24r0 A (g16r0 A a (g16r0 A b (g16r0 A (g16r0 A b (g16r0 A b b)) (g16r0 A b (g16r0 A b b))))) (((([0, 0, 0, 0].set 0 18446744073709551613).set 1 18446744073709551615).set 2 18446744073709551615).set 3 1152921504606846975))) (g16r0 A (g16r0 A a (g16r0 A b (g16r0 A b b))) (g24r0 A (g16r0 A a (g16r0 A b (g16r0 A (g16r0 A b (g16r0 A b b)) (g16r0 A b (g16r0 A b b))))) (((([0, 0, 0, 0].set 0 18446744073709551613).set 1 18446744073709551615).set 2 18446744073709551615).set 3 1152921504606846975)))))), (34, (aN .u64 4 (g16r0 A (g16r0 A a (g16r0 A b (g16r0 A b b))) (g24r0 A (g16r0 A a (g16r0 A b (g16r0 A (g16r0 A b (g16r0 A b b)) (g16r0 A b (g16r0 A b b))))) (((([0, 0, 0, 0].set 0 18446744073709551613).set 1 18446744073709551615).set 2 18446744073709551615).set 3 1152921504606846975))))), (33, (aN .u64 4 (g16r0 A (g16r0 A a (g16r0 A b (g16r0 A b b))) (g24r0 A (g16r0 A a (g16r0 A b (g16r0 A (g16r0 A b (g16r0 A b b)) (g16r0 A b (g16r0 A b b))))) (((([0, 0, 0, 0].set 0 18446744073709551613).set 1 18446744073709551615).set 2 18446744073709551615).set 3 1152921504606846975))))), (32, (aN .u64 4 b)), (3, (pT 1001 0)), (4, (pT 1002 0)), (8, (pT 4009 0)), (9, (pT 5003 0))], [(1001, (bU 4 b 24)), (1002, (bU 4 [0, 0, 0, 0] 24)), (4009, (bU 4 (g16r0 A (g16r0 A a (g16r0 A b (g16r0 A b b))) (g24r0 A (g16r0 A a (g16r0 A b (g16r0 A (g16r0 A b (g16r0 A b b)) (g16r0 A b (g16r0 A b b))))) (((([0, 0, 0, 0].set 0 18446744073709551613).set 1 18446744073709551615).set 2 18446744073709551615).set 3 1152921504606846975))) 24)), (5003, (bU 4 (g38r0 A (g37r0 A a)) 24))]⟩ _ (by kernel_rfl)).trans h13
  rw [h39] at h40
  have h41 := (g21p11111010 A n _ _).trans h40
  have h42 := (g21p1111101 A n _ _).trans h41
  have h43 := (g21Qn A n _ _ _).trans h42
  have h11 := g21R5 A n (g21Q A n (pth 223) (g21Q A n (pth 127) (g21T kk))) b [0, 0, 0, 0] (g16r0 A (g16r0 A a (g16r0 A b (g16r0 A b b))) (g24r0 A (g16r0 A a (g16r0 A b (g16r0 A (g16r0 A b (g16r0 A b b)) (g16r0 A b (g16r0 A b b))))) (((([0, 0, 0, 0].set 0 18446744073709551613).set 1 18446744073709551615).set 2 18446744073709551615).set 3 1152921504606846975))) (g38r0 A (g37r0 A a))
  have h44 := (g21p1111100 A n _ ⟨[(9, (pT 5003 0)), (31, (aN .u64 4 (g38r0 A (g37r0 A a)))), (30, (aN .u64 5 (g37r0 A a))), (29, (aN .u64 4 a)), (2, (pT 1000 0)), (3, (pT 1001 0)), (4, (pT 1002 0)), (8, (pT 4009 0))], [(5003, (bU 4 (g38r0 A (g37r0 A a)) 24)), (1000, (bU 4 a 24)), (1001, (bU 4 b 24)), (1002, (bU 4 [0, 0, 0, 0] 24)), (4009, (bU 4 (g16r0 A (g16r0 A a (g16r0 A b (g16r0 A b b))) (g24r0 A (g16r0 A a (g16r0 A b (g16r0 A (g16r0 A b (g16r0 A b b)) (g16r0 A b (g16r0 A b b))))) (((([0, 0, 0, 0].set 0 18446744073709551613).set 1 18446744073709551615).set 2 18446744073709551615).set 3 1152921504606846975))) 24))]⟩ _ (by kernel_rfl)).trans h11
  rw [h43] at h44
  have h45 := (g21p111110 A n _ _).trans h44
  have h46 := (g21p11111 A n _ _).trans h45
  have h47 := (g21Qn A n _ _ _).trans h46
  have h9 := g21R4 A n (g21Q A n (pth 63) (g21T kk)) a b [0, 0, 0, 0] (g16r0 A (g16r0 A a (g16r0 A b (g16r0 A b b))) (g24r0 A (g16r0 A a (g16r0 A b (g16r0 A (g16r0 A b (g16r0 A b b)) (g16r0 A b (g16r0 A b b))))) (((([0, 0, 0, 0].set 0 18446744073709551613).set 1 18446744073709551615).set 2 18446744073709551615).set 3 1152921504606846975)))
  have h48 := (g21p11110 A n _ ⟨[(8, (pT 4009 0)), (28, (aN .u64 4 (g16r0 A (g16r0 A a (g16r0 A b (g16r0 A b b))) (g24r0 A (g16r0 A a (g16r0 A b (g16r0 A (g16r0 A b (g16r0 A b b)) (g16r0 A b (g16r0 A b b))))) (((([0, 0, 0, 0].set 0 18446744073709551613).set 1 18446744073709551615).set 2 18446744073709551615).set 3 1152921504606846975))))), (27, (aN .u64 4 (g24r0 A (g16r0 A a (g16r0 A b (g16r0 A (g16r0 A b (g16r0 A b b)) (g16r0 A b (g16r0 A b b))))) (((([0, 0, 0, 0].set 0 18446744073709551613).set 1 18446744073709551615).set 2 18446744073709551615).set 3 1152921504606846975)))), (26, (aN .u64 4 (((([0, 0, 0, 0].set 0 18446744073709551613).set 1 18446744073709551615).set 2 18446744073709551615).set 3 1152921504606846975))), (25, (aN .u64 4 (g16r0 A a (g16r0 A b (g16r0 A (g16r0 A b (g16r0 A b b)) (g16r0 A b (g16r0 A b b))))))), (24, (aN .u64 4 (g16r0 A b (g16r0 A (g16r0 A b (g16r0 A b b)) (g16r0 A b (g16r0 A b b)))))), (23, (aN .u64 4 a)), (22, (aN .u64 4 (g16r0 A a (g16r0 A b (g16r0 A b b))))), (21, (aN .u64 4 (g16r0 A b (g16r0 A b b)))), (20, (aN .u64 4 a)), (2, (pT 1000 0)), (3, (pT 1001 0)), (4, (pT 1002 0)), (6, (pT 2005 0)), (7, (pT 3005 0))], [(4009, (bU 4 (g16r0 A (g16r0 A a (g16r0 A b (g16r0 A b b))) (g24r0 A (g16r0 A a (g16r0 A b (g16r0 A (g16r0 A b (g16r0 A b b)) (g16r0 A b (g16r0 A b b))))) (((([0, 0, 0, 0].set 0 18446744073709551613).set 1 18446744073709551615).set 2 18446744073709551615).set 3 1152921504606846975))) 24)), (1000, (bU 4 a 24)), (1001, (bU 4 b 24)), (1002, (bU 4 [0, 0, 0, 0] 24)), (2005, (bU 4 (g16r0 A b (g16r0 A b b)) 24)), (3005, (bU 4 (g16r0 A b (g16r0 A (g16r0 A b (g16r0 A b b)) (g16r0 A b (g16r0 A b b)))) 24))]⟩ _ (by kernel_rfl)).trans h9
  rw [h47] at h48
  have h49 := (g21p1111 A n _ _).trans h48
  have h50 := (g21Qn A n _ _ _).trans h49
  have h7 := g21R3 A n (g21Q A n (pth 31) (g21T kk)) a b [0, 0, 0, 0] (g16r0 A b (g16r0 A b b)) (g16r0 A b (g16r0 A (g16r0 A b (g16r0 A b b)) (g16r0 A b (g16r0 A b b))))
  have h51 := (g21p1110 A n _ ⟨[(7, (pT 3005 0)), (19, (aN .u64 4 (g16r0 A b (g16r0 A (g16r0 A b (g16r0 A b b)) (g16r0 A b (g16r0 A b b)))))), (18, (aN .u64 4 (g16r0 A (g16r0 A b (g16r0 A b b)) (g16r0 A b (g16r0 A b b))))), (17, (aN .u64 4 (g16r0 A b (g16r0 A b b)))), (16, (aN .u64 4 (g16r0 A b (g16r0 A b b)))), (15, (aN .u64 4 b)), (2, (pT 1000 0)), (3, (pT 1001 0)), (4, (pT 1002 0)), (6, (pT 2005 0))], [(3005, (bU 4 (g16r0 A b (g16r0 A (g16r0 A b (g16r0 A b b)) (g16r0 A b (g16r0 A b b)))) 24)), (1000, (bU 4 a 24)), (1001, (bU 4 b 24)), (1002, (bU 4 [0, 0, 0, 0] 24)), (2005, (bU 4 (g16r0 A b (g16r0 A b b)) 24))]⟩ _ (by kernel_rfl)).trans h7
  rw [h50] at h51
  have h52 := (g21p111 A n _ _).trans h51
  have h53 := (g21Qn A n _ _ _).trans h52
  have h5 := g21R2 A n (g21Q A n (pth 15) (g21T kk)) a b [0, 0, 0, 0] (g16r0 A b (g16r0 A b b))
  have h54 := (g21p110 A n _ ⟨[(6, (pT 2005 0)), (14, (aN .u64 4 (g16r0 A b (g16r0 A b b)))), (13, (aN .u64 4 (g16r0 A b b))), (12, (aN .u64 4 b)), (11, (aN .u64 4 b)), (10, (aN .u64 4 b)), (2, (pT 1000 0)), (3, (pT 1001 0)), (4, (pT 1002 0))], [(2005, (bU 4 (g16r0 A b (g16r0 A b b)) 24)), (1000, (bU 4 a 24)), (1001, (bU 4 b 24)), (1002, (bU 4 [0, 0, 0, 0] 24))]⟩ _ (by kernel_rfl)).trans h5
  rw [h53] at h54
  have h55 := (g21p11 A n _ _).trans h54
  have h56 := (g21Qn A n _ _ _).trans h55
  have h3 := g21R1 A n (g21Q A n (pth 7) (g21T kk)) a b [0, 0, 0, 0]
  have h57 := (g21p10 A n _ ⟨[(5, (bO false)), (4, (pT 1002 0)), (3, (pT 1001 0)), (2, (pT 1000 0)), (0, (aN .u64 4 a)), (1, (aN .u64 4 b))], [(1002, (bU 4 [0, 0, 0, 0] 24)), (1001, (bU 4 b 24)), (1000, (bU 4 a 24))]⟩ _ (by kernel_rfl)).trans h3
  rw [h56] at h57
  have h58 := (g21p1 A n _ _).trans h57
  have h59 := (g21Qn A n _ _ _).trans h58
  have h1 := g21R0 A n (g21Q A n (pth 3) (g21T kk)) a b
  have h60 := (g21p0 A n _ ⟨[(0, (aN .u64 4 a)), (1, (aN .u64 4 b))], []⟩ _ (by kernel_rfl)).trans h1
  rw [h59] at h60
  have h61 := (g21p A n _ _).trans h60
  exact (show funD A gtys (g21O A) g21an n (bodyOf Try.f21) g21res [(aN .u64 4 a), (aN .u64 4 b)] [] kk = g21D A n (pth 1) (g21T kk) ⟨[(0, (aN .u64 4 a)), (1, (aN .u64 4 b))], []⟩ from by kernel_rfl).trans (h61.trans (by kernel_rfl))
def g21is (o : Option AV) : Bool := match o with
  | some (.tup [.agg [.nums .u64 4 _], .cell (.bool _)]) => true
  | _ => false
def g21g0 (o : Option AV) : List Nat := match o with
  | some (.tup [.agg [.nums .u64 4 x], .cell (.bool _)]) => x
  | _ => []
def g21g1 (o : Option AV) : Bool := match o with
  | some (.tup [.agg [.nums .u64 4 _], .cell (.bool x)]) => x
  | _ => false
theorem g21is_spec {o : Option AV} (h : g21is o = true) : o = some (.tup [.agg [.nums .u64 4 (g21g0 o)], .cell (.bool (g21g1 o))]) := by
  unfold g21is at h
  split at h
  · rfl
  · cases h
def g21v (A : Ar) (a b : List Nat) : Option AV := g21 A (100000) (fun v _ => some v) a b
def g21ok (A : Ar) (a b : List Nat) : Bool := g21is (g21v A a b)
def g21r0 (A : Ar) (a b : List Nat) : List Nat := g21g0 (g21v A a b)
def g21r1 (A : Ar) (a b : List Nat) : Bool := g21g1 (g21v A a b)
theorem g21ok_spec {A : Ar} {a b} (h : g21ok A a b = true) : g21v A a b = some (.tup [.agg [.nums .u64 4 (g21r0 A a b)], .cell (.bool (g21r1 A a b))]) := g21is_spec h
def g21o (A : Ar) (args : List AV) : Option (Bool × AV) := match args with
  | [.v (.agg [.nums .u64 n0 a]), .v (.agg [.nums .u64 n1 b])] => some (Nat.beq n0 4 && (Nat.beq n1 4 && (g21ok A a b)), .tup [.agg [.nums .u64 4 (g21r0 A a b)], .cell (.bool (g21r1 A a b))])
  | _ => none
theorem g21o_sound : ∀ args v, g21o realA args = some (true, v) → Fn1 Try.prog 21 args v := by
  intro args v h
  unfold g21o at h
  split at h
  · rename_i n0 a n1 b
    simp only [Option.some.injEq, Prod.mk.injEq] at h
    obtain ⟨hc, h⟩ := h
    subst h
    · skip
      simp only [Bool.and_eq_true] at hc
      have en0 := beq_true hc.1
      subst en0
      replace hc := hc.2
      have en1 := beq_true hc.1
      subst en1
      replace hc := hc.2
      exact fn1_of mixed gtysOK g21O_sound g21O_det (an := g21an) (n := 100000) Try.func21 (c := bodyOf Try.f21) rfl (by kernel_rfl) Try.call21 (Nat.le_of_ble_eq_true rfl) (fun b => rfl) (fun _ => (g21_eq realA (100000) (fun v _ => some v) a b).trans (show g21v realA a b = _ from g21ok_spec hc))
  · cases h
/- engrosser/engrosserlaw03.last -/
def g36O (A : Ar) : Orc := orcOf []
theorem g36O_sound : OSound Try.prog (g36O realA) := orc_sound fun f g hm args v hv => by
  cases hm
theorem g36O_det : ODet (g36O realA) := orc_det _
def g36an : Ann := [(0, ([], [])), (1, ([0], [1000]))]
def g36res : List ResultVar := [.cell 0 24]
noncomputable def g36D {R : Type} (A : Ar) (n : Nat) (p : List Bool) (K : Ex → St → Option R) (s : St) : Option R := codeD A gtys (g36O A) g36an n (sub (bodyOf Try.f36) p) K s
noncomputable def g36Q {R : Type} (A : Ar) (n : Nat) (p : List Bool) (K : Ex → St → Option R) : Ex → St → Option R := seqC (g36D A n p K) K
noncomputable def g36T {R : Type} (kk : AV → Heap → Option R) : Ex → St → Option R := finD gtys g36res kk
theorem g36Qn {R : Type} (A : Ar) (n : Nat) (p : List Bool) (K : Ex → St → Option R) (s : St) : g36Q A n p K .normal s = g36D A n p K s := rfl
section
variable {R : Type} (A : Ar) (n : Nat) (K : Ex → St → Option R) (s : St)
theorem g36p : g36D A n (pth 1) K s = g36D A n (pth 2) (g36Q A n (pth 3) K) s := by kernel_rfl
theorem g36p0 (s' : St) (h : keep g36an 0 s = keep g36an 0 s') : g36D A n (pth 2) K s = g36D A n (pth 2) K s' := codeD_first (id := 0) (by kernel_rfl) h K
theorem g36p1 : g36D A n (pth 3) K s = g36D A n (pth 5) (g36Q A n (pth 7) K) s := by kernel_rfl
theorem g36p10 (s' : St) (h : keep g36an 1 s = keep g36an 1 s') : g36D A n (pth 5) K s = g36D A n (pth 5) K s' := codeD_first (id := 1) (by kernel_rfl) h K
theorem g36p11 : g36D A n (pth 7) K s = K .ret s := by kernel_rfl
theorem g36R0 : g36D A n (pth 2) K ⟨[], []⟩ = K .normal ⟨[(0, (pT 1000 0))], [(1000, (bU 4 [0, 0, 0, 0] 24))]⟩ := by kernel_rfl
theorem g36R1 (x0 : List Nat) : g36D A n (pth 5) K ⟨[(0, (pT 1000 0))], [(1000, (bU 4 x0 24))]⟩ = K .normal ⟨[(1, (aN .u64 4 (((([0, 0, 0, 0].set 0 18446744073709551596).set 1 18446744073709551615).set 2 18446744073709551615).set 3 9223372036854775807))), (0, (pT 1000 0))], [(1000, (bU 4 (((([0, 0, 0, 0].set 0 18446744073709551596).set 1 18446744073709551615).set 2 18446744073709551615).set 3 9223372036854775807) 24))]⟩ := by kernel_rfl
end
def g36 {R : Type} (A : Ar) (n : Nat) (kk : AV → Heap → Option R)  : Option R :=
  kk (aN .u64 4 (((([0, 0, 0, 0].set 0 18446744073709551596).set 1 18446744073709551615).set 2 18446744073709551615).set 3 9223372036854775807)) [(1000, (bU 4 (((([0, 0, 0, 0].set 0 18446744073709551596).set 1 18446744073709551615).set 2 18446744073709551615).set 3 9223372036854775807) 24))]
set_option maxRecDepth 100000 in
theorem g36_eq {R : Type} (A : Ar) (n : Nat) (kk : AV → Heap → Option R)  :
    funD A gtys (g36O A) g36an n (bodyOf Try.f36) g36res [] [] kk = g36 A n kk  := by
  have h5 : (g36T kk) .ret ⟨[(1, (aN .u64 4 (((([0, 0, 0, 0].set 0 18446744073709551596).set 1 18446744073709551615).set 2 18446744073709551615).set 3 9223372036854775807))), (0, (pT 1000 0))], [(1000, (bU 4 (((([0, 0, 0, 0].set 0 18446744073709551596).set 1 18446744073709551615).set 2 18446744073709551615).set 3 9223372036854775807) 24))]⟩ = kk (aN .u64 4 (((([0, 0, 0, 0].set 0 18446744073709551596).set 1 18446744073709551615).set 2 18446744073709551615).set 3 9223372036854775807)) [(1000, (bU 4 (((([0, 0, 0, 0].set 0 18446744073709551596).set 1 18446744073709551615).set 2 18446744073709551615).set 3 9223372036854775807) 24))] := by kernel_rfl
  have h6 := (g36p11 A n _ _).trans h5
  have h7 := (g36Qn A n _ _ _).trans h6
  have h3 := g36R1 A n (g36Q A n (pth 7) (g36T kk)) [0, 0, 0, 0]
  have h8 := (g36p10 A n _ ⟨[(0, (pT 1000 0))], [(1000, (bU 4 [0, 0, 0, 0] 24))]⟩ _ (by kernel_rfl)).trans h3
  rw [h7] at h8
  have h9 := (g36p1 A n _ _).trans h8
  have h10 := (g36Qn A n _ _ _).trans h9
  have h1 := g36R0 A n (g36Q A n (pth 3) (g36T kk)) 
  have h11 := (g36p0 A n _ ⟨[], []⟩ _ (by kernel_rfl)).trans h1
  rw [h10] at h11
  have h12 := (g36p A n _ _).trans h11
  exact (show funD A gtys (g36O A) g36an n (bodyOf Try.f36) g36res [] [] kk = g36D A n (pth 1) (g36T kk) ⟨[], []⟩ from by kernel_rfl).trans (h12.trans (by kernel_rfl))
def g36is (o : Option AV) : Bool := match o with
  | some (aN .u64 4 _) => true
  | _ => false
def g36g0 (o : Option AV) : List Nat := match o with
  | some (aN .u64 4 x) => x
  | _ => []
theorem g36is_spec {o : Option AV} (h : g36is o = true) : o = some (aN .u64 4 (g36g0 o)) := by
  unfold g36is at h
  split at h
  · rfl
  · cases h
def g36v (A : Ar)  : Option AV := g36 A (100000) (fun v _ => some v) 
def g36ok (A : Ar)  : Bool := g36is (g36v A )
def g36r0 (A : Ar)  : List Nat := g36g0 (g36v A )
theorem g36ok_spec {A : Ar} (h : g36ok A = true) : g36v A = some (aN .u64 4 (g36r0 A)) := g36is_spec h
def g36o (A : Ar) (args : List AV) : Option (Bool × AV) := match args with
  | [] => some (g36ok A , .v (.agg [.nums .u64 4 (g36r0 A)]))
  | _ => none
theorem g36o_sound : ∀ args v, g36o realA args = some (true, v) → Fn1 Try.prog 36 args v := by
  intro args v h
  unfold g36o at h
  split at h
  · simp only [Option.some.injEq, Prod.mk.injEq] at h
    obtain ⟨hc, h⟩ := h
    subst h
    · skip
      exact fn1_of mixed gtysOK g36O_sound g36O_det (an := g36an) (n := 100000) Try.func36 (c := bodyOf Try.f36) rfl (by kernel_rfl) Try.call36 (Nat.le_of_ble_eq_true rfl) (fun b => rfl) (fun _ => (g36_eq realA (100000) (fun v _ => some v) ).trans (show g36v realA  = _ from g36ok_spec hc))
  · cases h
end Go.Sx
