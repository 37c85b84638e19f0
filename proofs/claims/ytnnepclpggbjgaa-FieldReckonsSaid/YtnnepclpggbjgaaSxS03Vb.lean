/- printed by sxgen -/
import Derived.Test.YtnnepclpggbjgaaSxS03Va
namespace Go.Sx
open Go.Proofs
set_option linter.unusedVariables false
/- engrosser/engrosserref03.Mul -/
def g17O (A : Ar) : Orc := orcH [(39, g39o A), (40, g40o A)] [(43, ⟨[], none, (g43o A)⟩)]
theorem g17O_sound : OSound Try.prog (g17O realA) := orcH_sound (fun f g hm args v hv => by
    simp only [List.mem_cons, List.not_mem_nil, or_false, Prod.mk.injEq] at hm
    rcases hm with ⟨rfl, rfl⟩ | ⟨rfl, rfl⟩
    · exact g39o_sound _ _ hv
    · exact g40o_sound _ _ hv) (fun f e hm args h v h' hv => by
    simp only [List.mem_cons, List.not_mem_nil, or_false, Prod.mk.injEq] at hm
    rcases hm with ⟨rfl, rfl⟩
    · exact g43o_sound _ _ _ _ hv)
theorem g17O_det : ODet (g17O realA) := orcH_det _ _
def g17an : Ann := [(0, ([0, 1], [])), (1, ([2, 3, 4], [1000, 1001, 1002])), (2, ([3, 4, 5], [1001, 1002, 2002])), (3, ([4, 5, 6], [1002, 2002, 3002])), (4, ([4, 5, 6, 7], [1002, 2002, 3002, 4000])), (5, ([4, 5, 6, 7, 8], [1002, 2002, 3002, 4000])), (6, ([4, 5, 6, 7, 8], [1002, 2002, 3002, 4000])), (7, ([4, 5, 6, 7, 8], [1002, 2002, 3002, 4000])), (8, ([4, 5, 6, 7, 8, 9], [1002, 2002, 3002, 4000])), (9, ([4, 5, 6, 7, 8, 9, 10], [1002, 2002, 3002, 4000])), (10, ([4, 5, 6, 7, 8, 9, 10], [1002, 2002, 3002, 4000])), (11, ([4, 5, 6, 7, 8, 9, 10], [1002, 2002, 3002, 4000])), (12, ([4, 5, 6, 7, 8, 10, 11], [1002, 2002, 3002, 4000])), (13, ([4, 5, 6, 7, 8, 10, 11], [1002, 2002, 3002, 4000])), (14, ([4, 5, 6, 7, 8, 9], [1002, 2002, 3002, 4000])), (15, ([4, 7], [1002, 4000]))]
def g17res : List ResultVar := [.cell 4 24]
noncomputable def g17D {R : Type} (A : Ar) (n : Nat) (p : List Bool) (K : Ex → St → Option R) (s : St) : Option R := codeD A gtys (g17O A) g17an n (sub (bodyOf Try.f17) p) K s
noncomputable def g17V {R : Type} (A : Ar) (n : Nat) (p : List Bool) (m : Nat) (K : Ex → St → Option R) (s : St) : Option R := loopD (fun K' s'' => codeD A gtys (g17O A) g17an n (sub (bodyOf Try.f17) p) K' s'') m K s
noncomputable def g17Q {R : Type} (A : Ar) (n : Nat) (p : List Bool) (K : Ex → St → Option R) : Ex → St → Option R := seqC (g17D A n p K) K
noncomputable def g17W {R : Type} (A : Ar) (n : Nat) (p : List Bool) (m : Nat) (K : Ex → St → Option R) : Ex → St → Option R := seqC (g17V A n p m K) K
noncomputable def g17T {R : Type} (kk : AV → Heap → Option R) : Ex → St → Option R := finD gtys g17res kk
theorem g17Qn {R : Type} (A : Ar) (n : Nat) (p : List Bool) (K : Ex → St → Option R) (s : St) : g17Q A n p K .normal s = g17D A n p K s := rfl
theorem g17Qe {R : Type} (A : Ar) (n : Nat) (p : List Bool) (K : Ex → St → Option R) (i : Nat) (s : St) : g17Q A n p K (.exit i) s = K (.exit i) s := rfl
theorem g17Wn {R : Type} (A : Ar) (n : Nat) (p : List Bool) (m : Nat) (K : Ex → St → Option R) (s : St) : g17W A n p m K .normal s = g17V A n p m K s := rfl
theorem g17We {R : Type} (A : Ar) (n : Nat) (p : List Bool) (m : Nat) (K : Ex → St → Option R) (i : Nat) (s : St) : g17W A n p m K (.exit i) s = K (.exit i) s := rfl
theorem g17Vs {R : Type} (A : Ar) (n : Nat) (p : List Bool) (m : Nat) (K : Ex → St → Option R) (s : St) : g17V A n p (m + 1) K s = g17D A n p (g17W A n p m K) s := rfl
section
variable {R : Type} (A : Ar) (n : Nat) (K : Ex → St → Option R) (s : St)
theorem g17p : g17D A n (pth 1) K s = g17D A n (pth 2) (g17Q A n (pth 3) K) s := by kernel_rfl
theorem g17p0 (s' : St) (h : keep g17an 0 s = keep g17an 0 s') : g17D A n (pth 2) K s = g17D A n (pth 2) K s' := codeD_first (id := 0) (by kernel_rfl) h K
theorem g17p1 : g17D A n (pth 3) K s = g17D A n (pth 5) (g17Q A n (pth 7) K) s := by kernel_rfl
theorem g17p10 (s' : St) (h : keep g17an 1 s = keep g17an 1 s') : g17D A n (pth 5) K s = g17D A n (pth 5) K s' := codeD_first (id := 1) (by kernel_rfl) h K
theorem g17p11 : g17D A n (pth 7) K s = g17D A n (pth 11) (g17Q A n (pth 15) K) s := by kernel_rfl
theorem g17p110 (s' : St) (h : keep g17an 2 s = keep g17an 2 s') : g17D A n (pth 11) K s = g17D A n (pth 11) K s' := codeD_first (id := 2) (by kernel_rfl) h K
theorem g17p111 : g17D A n (pth 15) K s = g17D A n (pth 23) (g17Q A n (pth 31) K) s := by kernel_rfl
theorem g17p1110 (s' : St) (h : keep g17an 3 s = keep g17an 3 s') : g17D A n (pth 23) K s = g17D A n (pth 23) K s' := codeD_first (id := 3) (by kernel_rfl) h K
theorem g17p1111 : g17D A n (pth 31) K s = g17D A n (pth 47) (g17Q A n (pth 63) K) s := by kernel_rfl
theorem g17p11110 : g17D A n (pth 47) K s = g17D A n (pth 79) (g17Q A n (pth 111) K) s := by kernel_rfl
theorem g17p111100 (s' : St) (h : keep g17an 4 s = keep g17an 4 s') : g17D A n (pth 79) K s = g17D A n (pth 79) K s' := codeD_first (id := 4) (by kernel_rfl) h K
theorem g17p111101 : g17D A n (pth 111) K s = g17D A n (pth 175) (blockK 0 K) s := by kernel_rfl
theorem g17p1111010 : g17D A n (pth 175) K s = g17V A n (pth 303) n K s := by kernel_rfl
theorem g17p11110100 : g17D A n (pth 303) K s = g17D A n (pth 559) (g17Q A n (pth 815) K) s := by kernel_rfl
theorem g17p111101000 : g17D A n (pth 559) K s = g17D A n (pth 1071) (g17Q A n (pth 1583) K) s := by kernel_rfl
theorem g17p1111010000 (s' : St) (h : keep g17an 5 s = keep g17an 5 s') : g17D A n (pth 1071) K s = g17D A n (pth 1071) K s' := codeD_first (id := 5) (by kernel_rfl) h K
theorem g17p1111010001 (t : Bool) : ev s (.tmp 18) = some (.v (.cell (.bool t))) → g17D A n (pth 1583) K s = (match t with
    | true => g17D A n (pth 2607) K s
    | false => g17D A n (pth 3631) K s) := codeD_cond t
theorem g17p11110100010 : g17D A n (pth 2607) K s = K .normal s := by kernel_rfl
theorem g17p11110100011 : g17D A n (pth 3631) K s = K (.exit 0) s := by kernel_rfl
theorem g17p111101001 : g17D A n (pth 815) K s = g17D A n (pth 1327) (g17Q A n (pth 1839) K) s := by kernel_rfl
theorem g17p1111010010 : g17D A n (pth 1327) K s = g17D A n (pth 2351) (blockK 1 K) s := by kernel_rfl
theorem g17p11110100100 : g17D A n (pth 2351) K s = g17D A n (pth 4399) (g17Q A n (pth 6447) K) s := by kernel_rfl
theorem g17p111101001000 (s' : St) (h : keep g17an 7 s = keep g17an 7 s') : g17D A n (pth 4399) K s = g17D A n (pth 4399) K s' := codeD_first (id := 7) (by kernel_rfl) h K
theorem g17p111101001001 : g17D A n (pth 6447) K s = g17D A n (pth 10543) (g17Q A n (pth 14639) K) s := by kernel_rfl
theorem g17p1111010010010 : g17D A n (pth 10543) K s = g17D A n (pth 18735) (g17Q A n (pth 26927) K) s := by kernel_rfl
theorem g17p11110100100100 (s' : St) (h : keep g17an 8 s = keep g17an 8 s') : g17D A n (pth 18735) K s = g17D A n (pth 18735) K s' := codeD_first (id := 8) (by kernel_rfl) h K
theorem g17p11110100100101 : g17D A n (pth 26927) K s = g17D A n (pth 43311) (blockK 2 K) s := by kernel_rfl
theorem g17p111101001001010 : g17D A n (pth 43311) K s = g17V A n (pth 76079) n K s := by kernel_rfl
theorem g17p1111010010010100 : g17D A n (pth 76079) K s = g17D A n (pth 141615) (g17Q A n (pth 207151) K) s := by kernel_rfl
theorem g17p11110100100101000 : g17D A n (pth 141615) K s = g17D A n (pth 272687) (g17Q A n (pth 403759) K) s := by kernel_rfl
theorem g17p111101001001010000 (s' : St) (h : keep g17an 9 s = keep g17an 9 s') : g17D A n (pth 272687) K s = g17D A n (pth 272687) K s' := codeD_first (id := 9) (by kernel_rfl) h K
theorem g17p111101001001010001 (t : Bool) : ev s (.tmp 22) = some (.v (.cell (.bool t))) → g17D A n (pth 403759) K s = (match t with
    | true => g17D A n (pth 665903) K s
    | false => g17D A n (pth 928047) K s) := codeD_cond t
theorem g17p1111010010010100010 : g17D A n (pth 665903) K s = K .normal s := by kernel_rfl
theorem g17p1111010010010100011 : g17D A n (pth 928047) K s = K (.exit 2) s := by kernel_rfl
theorem g17p11110100100101001 : g17D A n (pth 207151) K s = g17D A n (pth 338223) (g17Q A n (pth 469295) K) s := by kernel_rfl
theorem g17p111101001001010010 : g17D A n (pth 338223) K s = g17D A n (pth 600367) (blockK 3 K) s := by kernel_rfl
theorem g17p1111010010010100100 : g17D A n (pth 600367) K s = g17D A n (pth 1124655) (g17Q A n (pth 1648943) K) s := by kernel_rfl
theorem g17p11110100100101001000 (s' : St) (h : keep g17an 11 s = keep g17an 11 s') : g17D A n (pth 1124655) K s = g17D A n (pth 1124655) K s' := codeD_first (id := 11) (by kernel_rfl) h K
theorem g17p11110100100101001001 : g17D A n (pth 1648943) K s = g17D A n (pth 2697519) (g17Q A n (pth 3746095) K) s := by kernel_rfl
theorem g17p111101001001010010010 (s' : St) (h : keep g17an 12 s = keep g17an 12 s') : g17D A n (pth 2697519) K s = g17D A n (pth 2697519) K s' := codeD_first (id := 12) (by kernel_rfl) h K
theorem g17p111101001001010010011 (s' : St) (h : keep g17an 13 s = keep g17an 13 s') : g17D A n (pth 3746095) K s = g17D A n (pth 3746095) K s' := codeD_first (id := 13) (by kernel_rfl) h K
theorem g17p111101001001010011 (s' : St) (h : keep g17an 10 s = keep g17an 10 s') : g17D A n (pth 469295) K s = g17D A n (pth 469295) K s' := codeD_first (id := 10) (by kernel_rfl) h K
theorem g17p1111010010011 (s' : St) (h : keep g17an 14 s = keep g17an 14 s') : g17D A n (pth 14639) K s = g17D A n (pth 14639) K s' := codeD_first (id := 14) (by kernel_rfl) h K
theorem g17p1111010011 (s' : St) (h : keep g17an 6 s = keep g17an 6 s') : g17D A n (pth 1839) K s = g17D A n (pth 1839) K s' := codeD_first (id := 6) (by kernel_rfl) h K
theorem g17p11111 : g17D A n (pth 63) K s = g17D A n (pth 95) (g17Q A n (pth 127) K) s := by kernel_rfl
theorem g17p111110 (s' : St) (h : keep g17an 15 s = keep g17an 15 s') : g17D A n (pth 95) K s = g17D A n (pth 95) K s' := codeD_first (id := 15) (by kernel_rfl) h K
theorem g17p111111 : g17D A n (pth 127) K s = K .ret s := by kernel_rfl
theorem g17R11 (x0 : Nat) (x1 : Int) (x2 : Nat) (x3 : Int) (x4 x5 x6 : List Nat) (x7 : Nat) (x8 : List Nat) : g17D A n (pth 1124655) K ⟨[(4, (pT 1002 0)), (5, (pT 2002 0)), (6, (pT 3002 0)), (7, (sL 4000 none x0 1)), (8, (i6 x1)), (9, (u64v x2)), (10, (i6 x3))], [(1002, (bU 4 x4 24)), (2002, (bW 8 x5 47)), (3002, (bW 8 x6 47)), (4000, ⟨[.nums .u64 x7 x8], 22, 2⟩)]⟩ = match (generalizing := false) A.neg (A.ib .add .i64 x1 x3) with
    | true => none
    | false => match (generalizing := false) A.lt (A.toN (A.ib .add .i64 x1 x3)) x0 with
      | true => match (generalizing := false) A.neg x1 with
        | true => none
        | false => match (generalizing := false) A.lt (A.toN x1) 8 with
          | true => match (generalizing := false) A.neg x3 with
            | true => none
            | false => match (generalizing := false) A.lt (A.toN x3) 8 with
              | true => K .normal ⟨[(11, (u64v (A.nb .add .u64 (A.nb .add .u64 (x8.getD (A.toN (A.ib .add .i64 x1 x3)) 0) (A.nb .mul .u64 (x5.getD (A.toN x1) 0) (x6.getD (A.toN x3) 0))) x2))), (42, (u64v (A.nb .add .u64 (A.nb .add .u64 (x8.getD (A.toN (A.ib .add .i64 x1 x3)) 0) (A.nb .mul .u64 (x5.getD (A.toN x1) 0) (x6.getD (A.toN x3) 0))) x2))), (41, (u64v x2)), (40, (u64v (A.nb .add .u64 (x8.getD (A.toN (A.ib .add .i64 x1 x3)) 0) (A.nb .mul .u64 (x5.getD (A.toN x1) 0) (x6.getD (A.toN x3) 0))))), (39, (u64v (A.nb .mul .u64 (x5.getD (A.toN x1) 0) (x6.getD (A.toN x3) 0)))), (38, (u64v (x6.getD (A.toN x3) 0))), (37, (u32v (x6.getD (A.toN x3) 0))), (36, (.v (.cell (.ptr 3002 0 (some ⟨A.toN x3, 1, 8, 0, 0, 0⟩))))), (35, (i6 x3)), (34, (u64v (x5.getD (A.toN x1) 0))), (33, (u32v (x5.getD (A.toN x1) 0))), (32, (.v (.cell (.ptr 2002 0 (some ⟨A.toN x1, 1, 8, 0, 0, 0⟩))))), (31, (i6 x1)), (30, (u64v (x8.getD (A.toN (A.ib .add .i64 x1 x3)) 0))), (29, (.v (.cell (.ptr 4000 0 (some ⟨A.toN (A.ib .add .i64 x1 x3), 1, x0, A.toN (A.ib .add .i64 x1 x3), 0, 1⟩))))), (28, (i6 (A.ib .add .i64 x1 x3))), (27, (i6 x3)), (26, (i6 x1)), (25, (sL 4000 none x0 1)), (4, (pT 1002 0)), (5, (pT 2002 0)), (6, (pT 3002 0)), (7, (sL 4000 none x0 1)), (8, (i6 x1)), (9, (u64v x2)), (10, (i6 x3))], [(1002, (bU 4 x4 24)), (2002, (bW 8 x5 47)), (3002, (bW 8 x6 47)), (4000, ⟨[.nums .u64 x7 x8], 22, 2⟩)]⟩
              | false => none
          | false => none
      | false => none := by kernel_rfl
theorem g17R12 (x0 : Nat) (x1 x2 : Int) (x3 : Nat) (x4 x5 x6 : List Nat) (x7 : Nat) (x8 : List Nat) : g17D A n (pth 2697519) K ⟨[(4, (pT 1002 0)), (5, (pT 2002 0)), (6, (pT 3002 0)), (7, (sL 4000 none x0 1)), (8, (i6 x1)), (10, (i6 x2)), (11, (u64v x3))], [(1002, (bU 4 x4 24)), (2002, (bW 8 x5 47)), (3002, (bW 8 x6 47)), (4000, ⟨[.nums .u64 x7 x8], 22, 2⟩)]⟩ = match (generalizing := false) A.neg (A.ib .add .i64 x1 x2) with
    | true => none
    | false => match (generalizing := false) A.lt (A.toN (A.ib .add .i64 x1 x2)) x0 with
      | true => K .normal ⟨[(49, (.v (.cell (.ptr 4000 0 (some ⟨A.toN (A.ib .add .i64 x1 x2), 1, x0, A.toN (A.ib .add .i64 x1 x2), 0, 1⟩))))), (48, (u64v (A.nb .and .u64 x3 4294967295))), (47, (u64v x3)), (46, (i6 (A.ib .add .i64 x1 x2))), (45, (i6 x2)), (44, (i6 x1)), (43, (sL 4000 none x0 1)), (4, (pT 1002 0)), (5, (pT 2002 0)), (6, (pT 3002 0)), (7, (sL 4000 none x0 1)), (8, (i6 x1)), (10, (i6 x2)), (11, (u64v x3))], [(1002, (bU 4 x4 24)), (2002, (bW 8 x5 47)), (3002, (bW 8 x6 47)), (4000, ⟨[.nums .u64 x7 (x8.set (A.toN (A.ib .add .i64 x1 x2)) (A.nb .and .u64 x3 4294967295))], 22, 2⟩)]⟩
      | false => none := by kernel_rfl
theorem g17R13 (x0 : Nat) (x1 x2 : Int) (x3 : Nat) (x4 x5 x6 : List Nat) (x7 : Nat) (x8 : List Nat) : g17D A n (pth 3746095) K ⟨[(4, (pT 1002 0)), (5, (pT 2002 0)), (6, (pT 3002 0)), (7, (sL 4000 none x0 1)), (8, (i6 x1)), (10, (i6 x2)), (11, (u64v x3))], [(1002, (bU 4 x4 24)), (2002, (bW 8 x5 47)), (3002, (bW 8 x6 47)), (4000, ⟨[.nums .u64 x7 x8], 22, 2⟩)]⟩ = K .normal ⟨[(9, (u64v (A.nsh .shr .u64 x3 32))), (51, (u64v (A.nsh .shr .u64 x3 32))), (50, (u64v x3)), (4, (pT 1002 0)), (5, (pT 2002 0)), (6, (pT 3002 0)), (7, (sL 4000 none x0 1)), (8, (i6 x1)), (10, (i6 x2)), (11, (u64v x3))], [(1002, (bU 4 x4 24)), (2002, (bW 8 x5 47)), (3002, (bW 8 x6 47)), (4000, ⟨[.nums .u64 x7 x8], 22, 2⟩)]⟩ := by kernel_rfl
theorem g17R10 (x0 : Nat) (x1 : Int) (x2 : Nat) (x3 : Int) (x4 x5 x6 : List Nat) (x7 : Nat) (x8 : List Nat) : g17D A n (pth 469295) K ⟨[(4, (pT 1002 0)), (5, (pT 2002 0)), (6, (pT 3002 0)), (7, (sL 4000 none x0 1)), (8, (i6 x1)), (9, (u64v x2)), (10, (i6 x3))], [(1002, (bU 4 x4 24)), (2002, (bW 8 x5 47)), (3002, (bW 8 x6 47)), (4000, ⟨[.nums .u64 x7 x8], 22, 2⟩)]⟩ = K .normal ⟨[(10, (i6 (A.ib .add .i64 x3 1))), (24, (i6 (A.ib .add .i64 x3 1))), (23, (i6 x3)), (4, (pT 1002 0)), (5, (pT 2002 0)), (6, (pT 3002 0)), (7, (sL 4000 none x0 1)), (8, (i6 x1)), (9, (u64v x2)), (10, (i6 x3))], [(1002, (bU 4 x4 24)), (2002, (bW 8 x5 47)), (3002, (bW 8 x6 47)), (4000, ⟨[.nums .u64 x7 x8], 22, 2⟩)]⟩ := by kernel_rfl
theorem g17R14 (x0 : Nat) (x1 : Int) (x2 : Nat) (x3 x4 x5 : List Nat) (x6 : Nat) (x7 : List Nat) : g17D A n (pth 14639) K ⟨[(4, (pT 1002 0)), (5, (pT 2002 0)), (6, (pT 3002 0)), (7, (sL 4000 none x0 1)), (8, (i6 x1)), (9, (u64v x2))], [(1002, (bU 4 x3 24)), (2002, (bW 8 x4 47)), (3002, (bW 8 x5 47)), (4000, ⟨[.nums .u64 x6 x7], 22, 2⟩)]⟩ = match (generalizing := false) A.neg (A.ib .add .i64 x1 8) with
    | true => none
    | false => match (generalizing := false) A.lt (A.toN (A.ib .add .i64 x1 8)) x0 with
      | true => K .normal ⟨[(56, (.v (.cell (.ptr 4000 0 (some ⟨A.toN (A.ib .add .i64 x1 8), 1, x0, A.toN (A.ib .add .i64 x1 8), 0, 1⟩))))), (55, (u64v x2)), (54, (i6 (A.ib .add .i64 x1 8))), (53, (i6 x1)), (52, (sL 4000 none x0 1)), (4, (pT 1002 0)), (5, (pT 2002 0)), (6, (pT 3002 0)), (7, (sL 4000 none x0 1)), (8, (i6 x1)), (9, (u64v x2))], [(1002, (bU 4 x3 24)), (2002, (bW 8 x4 47)), (3002, (bW 8 x5 47)), (4000, ⟨[.nums .u64 x6 (x7.set (A.toN (A.ib .add .i64 x1 8)) x2)], 22, 2⟩)]⟩
      | false => none := by kernel_rfl
theorem g17R6 (x0 : Nat) (x1 : Int) (x2 x3 x4 : List Nat) (x5 : Nat) (x6 : List Nat) : g17D A n (pth 1839) K ⟨[(4, (pT 1002 0)), (5, (pT 2002 0)), (6, (pT 3002 0)), (7, (sL 4000 none x0 1)), (8, (i6 x1))], [(1002, (bU 4 x2 24)), (2002, (bW 8 x3 47)), (3002, (bW 8 x4 47)), (4000, ⟨[.nums .u64 x5 x6], 22, 2⟩)]⟩ = K .normal ⟨[(8, (i6 (A.ib .add .i64 x1 1))), (20, (i6 (A.ib .add .i64 x1 1))), (19, (i6 x1)), (4, (pT 1002 0)), (5, (pT 2002 0)), (6, (pT 3002 0)), (7, (sL 4000 none x0 1)), (8, (i6 x1))], [(1002, (bU 4 x2 24)), (2002, (bW 8 x3 47)), (3002, (bW 8 x4 47)), (4000, ⟨[.nums .u64 x5 x6], 22, 2⟩)]⟩ := by kernel_rfl
theorem g17R9 (x0 : Nat) (x1 : Int) (x2 : Nat) (x3 : Int) (x4 x5 x6 : List Nat) (x7 : Nat) (x8 : List Nat) : g17D A n (pth 272687) K ⟨[(4, (pT 1002 0)), (5, (pT 2002 0)), (6, (pT 3002 0)), (7, (sL 4000 none x0 1)), (8, (i6 x1)), (9, (u64v x2)), (10, (i6 x3))], [(1002, (bU 4 x4 24)), (2002, (bW 8 x5 47)), (3002, (bW 8 x6 47)), (4000, ⟨[.nums .u64 x7 x8], 22, 2⟩)]⟩ = K .normal ⟨[(22, (bO (A.ic .lss x3 8))), (21, (i6 x3)), (4, (pT 1002 0)), (5, (pT 2002 0)), (6, (pT 3002 0)), (7, (sL 4000 none x0 1)), (8, (i6 x1)), (9, (u64v x2)), (10, (i6 x3))], [(1002, (bU 4 x4 24)), (2002, (bW 8 x5 47)), (3002, (bW 8 x6 47)), (4000, ⟨[.nums .u64 x7 x8], 22, 2⟩)]⟩ := by kernel_rfl
theorem g17R7 (x0 : Nat) (x1 : Int) (x2 x3 x4 : List Nat) (x5 : Nat) (x6 : List Nat) : g17D A n (pth 4399) K ⟨[(4, (pT 1002 0)), (5, (pT 2002 0)), (6, (pT 3002 0)), (7, (sL 4000 none x0 1)), (8, (i6 x1))], [(1002, (bU 4 x2 24)), (2002, (bW 8 x3 47)), (3002, (bW 8 x4 47)), (4000, ⟨[.nums .u64 x5 x6], 22, 2⟩)]⟩ = K .normal ⟨[(9, (u64v 0)), (4, (pT 1002 0)), (5, (pT 2002 0)), (6, (pT 3002 0)), (7, (sL 4000 none x0 1)), (8, (i6 x1))], [(1002, (bU 4 x2 24)), (2002, (bW 8 x3 47)), (3002, (bW 8 x4 47)), (4000, ⟨[.nums .u64 x5 x6], 22, 2⟩)]⟩ := by kernel_rfl
theorem g17R8 (x0 : Nat) (x1 : Int) (x2 : Nat) (x3 x4 x5 : List Nat) (x6 : Nat) (x7 : List Nat) : g17D A n (pth 18735) K ⟨[(4, (pT 1002 0)), (5, (pT 2002 0)), (6, (pT 3002 0)), (7, (sL 4000 none x0 1)), (8, (i6 x1)), (9, (u64v x2))], [(1002, (bU 4 x3 24)), (2002, (bW 8 x4 47)), (3002, (bW 8 x5 47)), (4000, ⟨[.nums .u64 x6 x7], 22, 2⟩)]⟩ = K .normal ⟨[(10, (i6 0)), (4, (pT 1002 0)), (5, (pT 2002 0)), (6, (pT 3002 0)), (7, (sL 4000 none x0 1)), (8, (i6 x1)), (9, (u64v x2))], [(1002, (bU 4 x3 24)), (2002, (bW 8 x4 47)), (3002, (bW 8 x5 47)), (4000, ⟨[.nums .u64 x6 x7], 22, 2⟩)]⟩ := by kernel_rfl
theorem g17R5 (x0 : Nat) (x1 : Int) (x2 x3 x4 : List Nat) (x5 : Nat) (x6 : List Nat) : g17D A n (pth 1071) K ⟨[(4, (pT 1002 0)), (5, (pT 2002 0)), (6, (pT 3002 0)), (7, (sL 4000 none x0 1)), (8, (i6 x1))], [(1002, (bU 4 x2 24)), (2002, (bW 8 x3 47)), (3002, (bW 8 x4 47)), (4000, ⟨[.nums .u64 x5 x6], 22, 2⟩)]⟩ = K .normal ⟨[(18, (bO (A.ic .lss x1 8))), (17, (i6 x1)), (4, (pT 1002 0)), (5, (pT 2002 0)), (6, (pT 3002 0)), (7, (sL 4000 none x0 1)), (8, (i6 x1))], [(1002, (bU 4 x2 24)), (2002, (bW 8 x3 47)), (3002, (bW 8 x4 47)), (4000, ⟨[.nums .u64 x5 x6], 22, 2⟩)]⟩ := by kernel_rfl
theorem g17R15 (x0 : Nat) (x1 : List Nat) (x2 : Nat) (x3 : List Nat) : g17D A n (pth 95) K ⟨[(4, (pT 1002 0)), (7, (sL 4000 none x0 1))], [(1002, (bU 4 x1 24)), (4000, ⟨[.nums .u64 x2 x3], 22, 2⟩)]⟩ = match (generalizing := false) g43ok A x0 x2 x3 with
    | true => match (generalizing := false) g40ok A (g43r0 A x0 x2 x3) with
      | true => K .normal ⟨[(59, (aN .u64 4 (g40r0 A (g43r0 A x0 x2 x3)))), (58, (aN .u32 8 (g43r0 A x0 x2 x3))), (57, (sL 4000 none x0 1)), (4, (pT 1002 0)), (7, (sL 4000 none x0 1))], [(1002, (bU 4 (g40r0 A (g43r0 A x0 x2 x3)) 24)), (4000, ⟨[.nums .u64 (g43r1 A x0 x2 x3) (g43r2 A x0 x2 x3)], 22, 2⟩)]⟩
      | false => none
    | false => none := by kernel_rfl
theorem g17R0 (x0 x1 : List Nat) : g17D A n (pth 2) K ⟨[(0, (aN .u64 4 x0)), (1, (aN .u64 4 x1))], []⟩ = K .normal ⟨[(4, (pT 1002 0)), (3, (pT 1001 0)), (2, (pT 1000 0)), (0, (aN .u64 4 x0)), (1, (aN .u64 4 x1))], [(1002, (bU 4 [0, 0, 0, 0] 24)), (1001, (bU 4 x1 24)), (1000, (bU 4 x0 24))]⟩ := by kernel_rfl
theorem g17R1 (x0 x1 x2 : List Nat) : g17D A n (pth 5) K ⟨[(2, (pT 1000 0)), (3, (pT 1001 0)), (4, (pT 1002 0))], [(1000, (bU 4 x0 24)), (1001, (bU 4 x1 24)), (1002, (bU 4 x2 24))]⟩ = match (generalizing := false) g39ok A x0 with
    | true => K .normal ⟨[(5, (pT 2002 0)), (13, (aN .u32 8 (g39r0 A x0))), (12, (aN .u64 4 x0)), (2, (pT 1000 0)), (3, (pT 1001 0)), (4, (pT 1002 0))], [(2002, (bW 8 (g39r0 A x0) 47)), (1000, (bU 4 x0 24)), (1001, (bU 4 x1 24)), (1002, (bU 4 x2 24))]⟩
    | false => none := by kernel_rfl
theorem g17R2 (x0 x1 x2 : List Nat) : g17D A n (pth 11) K ⟨[(3, (pT 1001 0)), (4, (pT 1002 0)), (5, (pT 2002 0))], [(1001, (bU 4 x0 24)), (1002, (bU 4 x1 24)), (2002, (bW 8 x2 47))]⟩ = match (generalizing := false) g39ok A x0 with
    | true => K .normal ⟨[(6, (pT 3002 0)), (15, (aN .u32 8 (g39r0 A x0))), (14, (aN .u64 4 x0)), (3, (pT 1001 0)), (4, (pT 1002 0)), (5, (pT 2002 0))], [(3002, (bW 8 (g39r0 A x0) 47)), (1001, (bU 4 x0 24)), (1002, (bU 4 x1 24)), (2002, (bW 8 x2 47))]⟩
    | false => none := by kernel_rfl
theorem g17R3 (x0 x1 x2 : List Nat) : g17D A n (pth 23) K ⟨[(4, (pT 1002 0)), (5, (pT 2002 0)), (6, (pT 3002 0))], [(1002, (bU 4 x0 24)), (2002, (bW 8 x1 47)), (3002, (bW 8 x2 47))]⟩ = match (generalizing := false) A.le 16 16 with
    | true => match (generalizing := false) A.le 128 140737488355328 with
      | true => K .normal ⟨[(7, (sL 4000 none 16 1)), (16, (sL 4000 none 16 1)), (4, (pT 1002 0)), (5, (pT 2002 0)), (6, (pT 3002 0))], [(4000, ⟨[.nums .u64 16 (List.replicate 16 0)], 22, 2⟩), (1002, (bU 4 x0 24)), (2002, (bW 8 x1 47)), (3002, (bW 8 x2 47))]⟩
      | false => none
    | false => none := by kernel_rfl
theorem g17R4 (x0 : Nat) (x1 x2 x3 : List Nat) (x4 : Nat) (x5 : List Nat) : g17D A n (pth 79) K ⟨[(4, (pT 1002 0)), (5, (pT 2002 0)), (6, (pT 3002 0)), (7, (sL 4000 none x0 1))], [(1002, (bU 4 x1 24)), (2002, (bW 8 x2 47)), (3002, (bW 8 x3 47)), (4000, ⟨[.nums .u64 x4 x5], 22, 2⟩)]⟩ = K .normal ⟨[(8, (i6 0)), (4, (pT 1002 0)), (5, (pT 2002 0)), (6, (pT 3002 0)), (7, (sL 4000 none x0 1))], [(1002, (bU 4 x1 24)), (2002, (bW 8 x2 47)), (3002, (bW 8 x3 47)), (4000, ⟨[.nums .u64 x4 x5], 22, 2⟩)]⟩ := by kernel_rfl
end
def g17J11 {R : Type} (A : Ar) (n : Nat) (kk : AV → Heap → Option R) (lg17L5 : Nat → Int → List Nat → List Nat → List Nat → Nat → List Nat → Option R) (lg17L9 : Nat → Int → Nat → Int → List Nat → List Nat → List Nat → Nat → List Nat → Option R) (x0 : Nat) (x1 : Int) (x2 : Nat) (x3 : Int) (x4 x5 x6 : List Nat) (x7 : Nat) (x8 : List Nat) : Option R :=
  match (generalizing := false) A.neg (A.ib .add .i64 x1 x3) with
  | true => none
  | false => match (generalizing := false) A.lt (A.toN (A.ib .add .i64 x1 x3)) x0 with
    | true => match (generalizing := false) A.neg x1 with
      | true => none
      | false => match (generalizing := false) A.lt (A.toN x1) 8 with
        | true => match (generalizing := false) A.neg x3 with
          | true => none
          | false => match (generalizing := false) A.lt (A.toN x3) 8 with
            | true => match (generalizing := false) A.neg (A.ib .add .i64 x1 x3) with
              | true => none
              | false => match (generalizing := false) A.lt (A.toN (A.ib .add .i64 x1 x3)) x0 with
                | true => lg17L9 x0 x1 (A.nsh .shr .u64 (A.nb .add .u64 (A.nb .add .u64 (x8.getD (A.toN (A.ib .add .i64 x1 x3)) 0) (A.nb .mul .u64 (x5.getD (A.toN x1) 0) (x6.getD (A.toN x3) 0))) x2) 32) (A.ib .add .i64 x3 1) x4 x5 x6 x7 (x8.set (A.toN (A.ib .add .i64 x1 x3)) (A.nb .and .u64 (A.nb .add .u64 (A.nb .add .u64 (x8.getD (A.toN (A.ib .add .i64 x1 x3)) 0) (A.nb .mul .u64 (x5.getD (A.toN x1) 0) (x6.getD (A.toN x3) 0))) x2) 4294967295))
                | false => none
            | false => none
        | false => none
    | false => none
set_option maxRecDepth 100000 in
theorem g17J11_eq {R : Type} (A : Ar) (n : Nat) (kk : AV → Heap → Option R) (m0 m1 : Nat) (lg17L5 : Nat → Int → List Nat → List Nat → List Nat → Nat → List Nat → Option R) (lg17L9 : Nat → Int → Nat → Int → List Nat → List Nat → List Nat → Nat → List Nat → Option R) 
    (hg17L5 : ∀ (s : St) (x0 : Nat) (x1 : Int) (x2 x3 x4 : List Nat) (x5 : Nat) (x6 : List Nat), keep g17an 5 s = ⟨[(4, (pT 1002 0)), (5, (pT 2002 0)), (6, (pT 3002 0)), (7, (sL 4000 none x0 1)), (8, (i6 x1))], [(1002, (bU 4 x2 24)), (2002, (bW 8 x3 47)), (3002, (bW 8 x4 47)), (4000, ⟨[.nums .u64 x5 x6], 22, 2⟩)]⟩ → g17V A n (pth 303) m0 (blockK 0 (g17Q A n (pth 63) (g17T kk))) s = lg17L5 x0 x1 x2 x3 x4 x5 x6)
    (hg17L9 : ∀ (s : St) (x0 : Nat) (x1 : Int) (x2 : Nat) (x3 : Int) (x4 x5 x6 : List Nat) (x7 : Nat) (x8 : List Nat), keep g17an 9 s = ⟨[(4, (pT 1002 0)), (5, (pT 2002 0)), (6, (pT 3002 0)), (7, (sL 4000 none x0 1)), (8, (i6 x1)), (9, (u64v x2)), (10, (i6 x3))], [(1002, (bU 4 x4 24)), (2002, (bW 8 x5 47)), (3002, (bW 8 x6 47)), (4000, ⟨[.nums .u64 x7 x8], 22, 2⟩)]⟩ → g17V A n (pth 76079) m1 (blockK 2 (g17Q A n (pth 14639) (blockK 1 (g17Q A n (pth 1839) (g17W A n (pth 303) m0 (blockK 0 (g17Q A n (pth 63) (g17T kk)))))))) s = lg17L9 x0 x1 x2 x3 x4 x5 x6 x7 x8) (s : St) (x0 : Nat) (x1 : Int) (x2 : Nat) (x3 : Int) (x4 x5 x6 : List Nat) (x7 : Nat) (x8 : List Nat) (h : keep g17an 11 s = ⟨[(4, (pT 1002 0)), (5, (pT 2002 0)), (6, (pT 3002 0)), (7, (sL 4000 none x0 1)), (8, (i6 x1)), (9, (u64v x2)), (10, (i6 x3))], [(1002, (bU 4 x4 24)), (2002, (bW 8 x5 47)), (3002, (bW 8 x6 47)), (4000, ⟨[.nums .u64 x7 x8], 22, 2⟩)]⟩) :
    g17D A n (pth 207151) (g17W A n (pth 76079) m1 (blockK 2 (g17Q A n (pth 14639) (blockK 1 (g17Q A n (pth 1839) (g17W A n (pth 303) m0 (blockK 0 (g17Q A n (pth 63) (g17T kk))))))))) s = g17J11 A n kk lg17L5 lg17L9 x0 x1 x2 x3 x4 x5 x6 x7 x8 := by
  have h9 := (g17Wn A n _ _ _ _).trans (hg17L9 ⟨[(10, (i6 (A.ib .add .i64 x3 1))), (24, (i6 (A.ib .add .i64 x3 1))), (23, (i6 x3)), (4, (pT 1002 0)), (5, (pT 2002 0)), (6, (pT 3002 0)), (7, (sL 4000 none x0 1)), (8, (i6 x1)), (9, (u64v (A.nsh .shr .u64 (A.nb .add .u64 (A.nb .add .u64 (x8.getD (A.toN (A.ib .add .i64 x1 x3)) 0) (A.nb .mul .u64 (x5.getD (A.toN x1) 0) (x6.getD (A.toN x3) 0))) x2) 32))), (10, (i6 x3))], [(1002, (bU 4 x4 24)), (2002, (bW 8 x5 47)), (3002, (bW 8 x6 47)), (4000, ⟨[.nums .u64 x7 (x8.set (A.toN (A.ib .add .i64 x1 x3)) (A.nb .and .u64 (A.nb .add .u64 (A.nb .add .u64 (x8.getD (A.toN (A.ib .add .i64 x1 x3)) 0) (A.nb .mul .u64 (x5.getD (A.toN x1) 0) (x6.getD (A.toN x3) 0))) x2) 4294967295))], 22, 2⟩)]⟩ x0 x1 (A.nsh .shr .u64 (A.nb .add .u64 (A.nb .add .u64 (x8.getD (A.toN (A.ib .add .i64 x1 x3)) 0) (A.nb .mul .u64 (x5.getD (A.toN x1) 0) (x6.getD (A.toN x3) 0))) x2) 32) (A.ib .add .i64 x3 1) x4 x5 x6 x7 (x8.set (A.toN (A.ib .add .i64 x1 x3)) (A.nb .and .u64 (A.nb .add .u64 (A.nb .add .u64 (x8.getD (A.toN (A.ib .add .i64 x1 x3)) 0) (A.nb .mul .u64 (x5.getD (A.toN x1) 0) (x6.getD (A.toN x3) 0))) x2) 4294967295)) (by kernel_rfl))
  have h7 := g17R10 A n (g17W A n (pth 76079) m1 (blockK 2 (g17Q A n (pth 14639) (blockK 1 (g17Q A n (pth 1839) (g17W A n (pth 303) m0 (blockK 0 (g17Q A n (pth 63) (g17T kk))))))))) x0 x1 (A.nsh .shr .u64 (A.nb .add .u64 (A.nb .add .u64 (x8.getD (A.toN (A.ib .add .i64 x1 x3)) 0) (A.nb .mul .u64 (x5.getD (A.toN x1) 0) (x6.getD (A.toN x3) 0))) x2) 32) x3 x4 x5 x6 x7 (x8.set (A.toN (A.ib .add .i64 x1 x3)) (A.nb .and .u64 (A.nb .add .u64 (A.nb .add .u64 (x8.getD (A.toN (A.ib .add .i64 x1 x3)) 0) (A.nb .mul .u64 (x5.getD (A.toN x1) 0) (x6.getD (A.toN x3) 0))) x2) 4294967295))
  have h10 := (g17p111101001001010011 A n _ ⟨[(9, (u64v (A.nsh .shr .u64 (A.nb .add .u64 (A.nb .add .u64 (x8.getD (A.toN (A.ib .add .i64 x1 x3)) 0) (A.nb .mul .u64 (x5.getD (A.toN x1) 0) (x6.getD (A.toN x3) 0))) x2) 32))), (51, (u64v (A.nsh .shr .u64 (A.nb .add .u64 (A.nb .add .u64 (x8.getD (A.toN (A.ib .add .i64 x1 x3)) 0) (A.nb .mul .u64 (x5.getD (A.toN x1) 0) (x6.getD (A.toN x3) 0))) x2) 32))), (50, (u64v (A.nb .add .u64 (A.nb .add .u64 (x8.getD (A.toN (A.ib .add .i64 x1 x3)) 0) (A.nb .mul .u64 (x5.getD (A.toN x1) 0) (x6.getD (A.toN x3) 0))) x2))), (4, (pT 1002 0)), (5, (pT 2002 0)), (6, (pT 3002 0)), (7, (sL 4000 none x0 1)), (8, (i6 x1)), (10, (i6 x3)), (11, (u64v (A.nb .add .u64 (A.nb .add .u64 (x8.getD (A.toN (A.ib .add .i64 x1 x3)) 0) (A.nb .mul .u64 (x5.getD (A.toN x1) 0) (x6.getD (A.toN x3) 0))) x2)))], [(1002, (bU 4 x4 24)), (2002, (bW 8 x5 47)), (3002, (bW 8 x6 47)), (4000, ⟨[.nums .u64 x7 (x8.set (A.toN (A.ib .add .i64 x1 x3)) (A.nb .and .u64 (A.nb .add .u64 (A.nb .add .u64 (x8.getD (A.toN (A.ib .add .i64 x1 x3)) 0) (A.nb .mul .u64 (x5.getD (A.toN x1) 0) (x6.getD (A.toN x3) 0))) x2) 4294967295))], 22, 2⟩)]⟩ _ (by kernel_rfl)).trans h7
  rw [h9] at h10
  have h11 := (g17Qn A n _ _ _).trans h10
  have h12 := (blockK_n 3 _ _).trans h11
  have h5 := g17R13 A n (blockK 3 (g17Q A n (pth 469295) (g17W A n (pth 76079) m1 (blockK 2 (g17Q A n (pth 14639) (blockK 1 (g17Q A n (pth 1839) (g17W A n (pth 303) m0 (blockK 0 (g17Q A n (pth 63) (g17T kk))))))))))) x0 x1 x3 (A.nb .add .u64 (A.nb .add .u64 (x8.getD (A.toN (A.ib .add .i64 x1 x3)) 0) (A.nb .mul .u64 (x5.getD (A.toN x1) 0) (x6.getD (A.toN x3) 0))) x2) x4 x5 x6 x7 (x8.set (A.toN (A.ib .add .i64 x1 x3)) (A.nb .and .u64 (A.nb .add .u64 (A.nb .add .u64 (x8.getD (A.toN (A.ib .add .i64 x1 x3)) 0) (A.nb .mul .u64 (x5.getD (A.toN x1) 0) (x6.getD (A.toN x3) 0))) x2) 4294967295))
  have h13 := (g17p111101001001010010011 A n _ ⟨[(49, (.v (.cell (.ptr 4000 0 (some ⟨A.toN (A.ib .add .i64 x1 x3), 1, x0, A.toN (A.ib .add .i64 x1 x3), 0, 1⟩))))), (48, (u64v (A.nb .and .u64 (A.nb .add .u64 (A.nb .add .u64 (x8.getD (A.toN (A.ib .add .i64 x1 x3)) 0) (A.nb .mul .u64 (x5.getD (A.toN x1) 0) (x6.getD (A.toN x3) 0))) x2) 4294967295))), (47, (u64v (A.nb .add .u64 (A.nb .add .u64 (x8.getD (A.toN (A.ib .add .i64 x1 x3)) 0) (A.nb .mul .u64 (x5.getD (A.toN x1) 0) (x6.getD (A.toN x3) 0))) x2))), (46, (i6 (A.ib .add .i64 x1 x3))), (45, (i6 x3)), (44, (i6 x1)), (43, (sL 4000 none x0 1)), (4, (pT 1002 0)), (5, (pT 2002 0)), (6, (pT 3002 0)), (7, (sL 4000 none x0 1)), (8, (i6 x1)), (10, (i6 x3)), (11, (u64v (A.nb .add .u64 (A.nb .add .u64 (x8.getD (A.toN (A.ib .add .i64 x1 x3)) 0) (A.nb .mul .u64 (x5.getD (A.toN x1) 0) (x6.getD (A.toN x3) 0))) x2)))], [(1002, (bU 4 x4 24)), (2002, (bW 8 x5 47)), (3002, (bW 8 x6 47)), (4000, ⟨[.nums .u64 x7 (x8.set (A.toN (A.ib .add .i64 x1 x3)) (A.nb .and .u64 (A.nb .add .u64 (A.nb .add .u64 (x8.getD (A.toN (A.ib .add .i64 x1 x3)) 0) (A.nb .mul .u64 (x5.getD (A.toN x1) 0) (x6.getD (A.toN x3) 0))) x2) 4294967295))], 22, 2⟩)]⟩ _ (by kernel_rfl)).trans h5
  rw [h12] at h13
  have h14 := (g17Qn A n _ _ _).trans h13
  have h3 := g17R12 A n (g17Q A n (pth 3746095) (blockK 3 (g17Q A n (pth 469295) (g17W A n (pth 76079) m1 (blockK 2 (g17Q A n (pth 14639) (blockK 1 (g17Q A n (pth 1839) (g17W A n (pth 303) m0 (blockK 0 (g17Q A n (pth 63) (g17T kk)))))))))))) x0 x1 x3 (A.nb .add .u64 (A.nb .add .u64 (x8.getD (A.toN (A.ib .add .i64 x1 x3)) 0) (A.nb .mul .u64 (x5.getD (A.toN x1) 0) (x6.getD (A.toN x3) 0))) x2) x4 x5 x6 x7 x8
  have h15 := (g17p111101001001010010010 A n _ ⟨[(11, (u64v (A.nb .add .u64 (A.nb .add .u64 (x8.getD (A.toN (A.ib .add .i64 x1 x3)) 0) (A.nb .mul .u64 (x5.getD (A.toN x1) 0) (x6.getD (A.toN x3) 0))) x2))), (42, (u64v (A.nb .add .u64 (A.nb .add .u64 (x8.getD (A.toN (A.ib .add .i64 x1 x3)) 0) (A.nb .mul .u64 (x5.getD (A.toN x1) 0) (x6.getD (A.toN x3) 0))) x2))), (41, (u64v x2)), (40, (u64v (A.nb .add .u64 (x8.getD (A.toN (A.ib .add .i64 x1 x3)) 0) (A.nb .mul .u64 (x5.getD (A.toN x1) 0) (x6.getD (A.toN x3) 0))))), (39, (u64v (A.nb .mul .u64 (x5.getD (A.toN x1) 0) (x6.getD (A.toN x3) 0)))), (38, (u64v (x6.getD (A.toN x3) 0))), (37, (u32v (x6.getD (A.toN x3) 0))), (36, (.v (.cell (.ptr 3002 0 (some ⟨A.toN x3, 1, 8, 0, 0, 0⟩))))), (35, (i6 x3)), (34, (u64v (x5.getD (A.toN x1) 0))), (33, (u32v (x5.getD (A.toN x1) 0))), (32, (.v (.cell (.ptr 2002 0 (some ⟨A.toN x1, 1, 8, 0, 0, 0⟩))))), (31, (i6 x1)), (30, (u64v (x8.getD (A.toN (A.ib .add .i64 x1 x3)) 0))), (29, (.v (.cell (.ptr 4000 0 (some ⟨A.toN (A.ib .add .i64 x1 x3), 1, x0, A.toN (A.ib .add .i64 x1 x3), 0, 1⟩))))), (28, (i6 (A.ib .add .i64 x1 x3))), (27, (i6 x3)), (26, (i6 x1)), (25, (sL 4000 none x0 1)), (4, (pT 1002 0)), (5, (pT 2002 0)), (6, (pT 3002 0)), (7, (sL 4000 none x0 1)), (8, (i6 x1)), (9, (u64v x2)), (10, (i6 x3))], [(1002, (bU 4 x4 24)), (2002, (bW 8 x5 47)), (3002, (bW 8 x6 47)), (4000, ⟨[.nums .u64 x7 x8], 22, 2⟩)]⟩ _ (by kernel_rfl)).trans h3
  rw [h14] at h15
  have h16 := (g17p11110100100101001001 A n _ _).trans h15
  have h17 := (g17Qn A n _ _ _).trans h16
  have h1 := g17R11 A n (g17Q A n (pth 1648943) (blockK 3 (g17Q A n (pth 469295) (g17W A n (pth 76079) m1 (blockK 2 (g17Q A n (pth 14639) (blockK 1 (g17Q A n (pth 1839) (g17W A n (pth 303) m0 (blockK 0 (g17Q A n (pth 63) (g17T kk)))))))))))) x0 x1 x2 x3 x4 x5 x6 x7 x8
  have h18 := (g17p11110100100101001000 A n _ ⟨[(4, (pT 1002 0)), (5, (pT 2002 0)), (6, (pT 3002 0)), (7, (sL 4000 none x0 1)), (8, (i6 x1)), (9, (u64v x2)), (10, (i6 x3))], [(1002, (bU 4 x4 24)), (2002, (bW 8 x5 47)), (3002, (bW 8 x6 47)), (4000, ⟨[.nums .u64 x7 x8], 22, 2⟩)]⟩ _ (by kernel_rfl)).trans h1
  rw [h17] at h18
  have h19 := (g17p1111010010010100100 A n _ _).trans h18
  have h20 := (g17p111101001001010010 A n _ _).trans h19
  have h21 := (g17p11110100100101001 A n _ _).trans h20
  exact (codeD_first (s' := ⟨[(4, (pT 1002 0)), (5, (pT 2002 0)), (6, (pT 3002 0)), (7, (sL 4000 none x0 1)), (8, (i6 x1)), (9, (u64v x2)), (10, (i6 x3))], [(1002, (bU 4 x4 24)), (2002, (bW 8 x5 47)), (3002, (bW 8 x6 47)), (4000, ⟨[.nums .u64 x7 x8], 22, 2⟩)]⟩) (id := 11) (by kernel_rfl) (h.trans (by kernel_rfl)) _).trans (h21.trans (by kernel_rfl))
def g17J14 {R : Type} (A : Ar) (n : Nat) (kk : AV → Heap → Option R) (lg17L5 : Nat → Int → List Nat → List Nat → List Nat → Nat → List Nat → Option R) (x0 : Nat) (x1 : Int) (x2 : Nat) (x3 x4 x5 : List Nat) (x6 : Nat) (x7 : List Nat) : Option R :=
  match (generalizing := false) A.neg (A.ib .add .i64 x1 8) with
  | true => none
  | false => match (generalizing := false) A.lt (A.toN (A.ib .add .i64 x1 8)) x0 with
    | true => lg17L5 x0 (A.ib .add .i64 x1 1) x3 x4 x5 x6 (x7.set (A.toN (A.ib .add .i64 x1 8)) x2)
    | false => none
set_option maxRecDepth 100000 in
theorem g17J14_eq {R : Type} (A : Ar) (n : Nat) (kk : AV → Heap → Option R) (m0 : Nat) (lg17L5 : Nat → Int → List Nat → List Nat → List Nat → Nat → List Nat → Option R) 
    (hg17L5 : ∀ (s : St) (x0 : Nat) (x1 : Int) (x2 x3 x4 : List Nat) (x5 : Nat) (x6 : List Nat), keep g17an 5 s = ⟨[(4, (pT 1002 0)), (5, (pT 2002 0)), (6, (pT 3002 0)), (7, (sL 4000 none x0 1)), (8, (i6 x1))], [(1002, (bU 4 x2 24)), (2002, (bW 8 x3 47)), (3002, (bW 8 x4 47)), (4000, ⟨[.nums .u64 x5 x6], 22, 2⟩)]⟩ → g17V A n (pth 303) m0 (blockK 0 (g17Q A n (pth 63) (g17T kk))) s = lg17L5 x0 x1 x2 x3 x4 x5 x6) (s : St) (x0 : Nat) (x1 : Int) (x2 : Nat) (x3 x4 x5 : List Nat) (x6 : Nat) (x7 : List Nat) (h : keep g17an 14 s = ⟨[(4, (pT 1002 0)), (5, (pT 2002 0)), (6, (pT 3002 0)), (7, (sL 4000 none x0 1)), (8, (i6 x1)), (9, (u64v x2))], [(1002, (bU 4 x3 24)), (2002, (bW 8 x4 47)), (3002, (bW 8 x5 47)), (4000, ⟨[.nums .u64 x6 x7], 22, 2⟩)]⟩) :
    g17D A n (pth 14639) (blockK 1 (g17Q A n (pth 1839) (g17W A n (pth 303) m0 (blockK 0 (g17Q A n (pth 63) (g17T kk)))))) s = g17J14 A n kk lg17L5 x0 x1 x2 x3 x4 x5 x6 x7 := by
  have h5 := (g17Wn A n _ _ _ _).trans (hg17L5 ⟨[(8, (i6 (A.ib .add .i64 x1 1))), (20, (i6 (A.ib .add .i64 x1 1))), (19, (i6 x1)), (4, (pT 1002 0)), (5, (pT 2002 0)), (6, (pT 3002 0)), (7, (sL 4000 none x0 1)), (8, (i6 x1))], [(1002, (bU 4 x3 24)), (2002, (bW 8 x4 47)), (3002, (bW 8 x5 47)), (4000, ⟨[.nums .u64 x6 (x7.set (A.toN (A.ib .add .i64 x1 8)) x2)], 22, 2⟩)]⟩ x0 (A.ib .add .i64 x1 1) x3 x4 x5 x6 (x7.set (A.toN (A.ib .add .i64 x1 8)) x2) (by kernel_rfl))
  have h3 := g17R6 A n (g17W A n (pth 303) m0 (blockK 0 (g17Q A n (pth 63) (g17T kk)))) x0 x1 x3 x4 x5 x6 (x7.set (A.toN (A.ib .add .i64 x1 8)) x2)
  have h6 := (g17p1111010011 A n _ ⟨[(56, (.v (.cell (.ptr 4000 0 (some ⟨A.toN (A.ib .add .i64 x1 8), 1, x0, A.toN (A.ib .add .i64 x1 8), 0, 1⟩))))), (55, (u64v x2)), (54, (i6 (A.ib .add .i64 x1 8))), (53, (i6 x1)), (52, (sL 4000 none x0 1)), (4, (pT 1002 0)), (5, (pT 2002 0)), (6, (pT 3002 0)), (7, (sL 4000 none x0 1)), (8, (i6 x1)), (9, (u64v x2))], [(1002, (bU 4 x3 24)), (2002, (bW 8 x4 47)), (3002, (bW 8 x5 47)), (4000, ⟨[.nums .u64 x6 (x7.set (A.toN (A.ib .add .i64 x1 8)) x2)], 22, 2⟩)]⟩ _ (by kernel_rfl)).trans h3
  rw [h5] at h6
  have h7 := (g17Qn A n _ _ _).trans h6
  have h8 := (blockK_n 1 _ _).trans h7
  have h1 := g17R14 A n (blockK 1 (g17Q A n (pth 1839) (g17W A n (pth 303) m0 (blockK 0 (g17Q A n (pth 63) (g17T kk)))))) x0 x1 x2 x3 x4 x5 x6 x7
  have h9 := (g17p1111010010011 A n _ ⟨[(4, (pT 1002 0)), (5, (pT 2002 0)), (6, (pT 3002 0)), (7, (sL 4000 none x0 1)), (8, (i6 x1)), (9, (u64v x2))], [(1002, (bU 4 x3 24)), (2002, (bW 8 x4 47)), (3002, (bW 8 x5 47)), (4000, ⟨[.nums .u64 x6 x7], 22, 2⟩)]⟩ _ (by kernel_rfl)).trans h1
  rw [h8] at h9
  exact (codeD_first (s' := ⟨[(4, (pT 1002 0)), (5, (pT 2002 0)), (6, (pT 3002 0)), (7, (sL 4000 none x0 1)), (8, (i6 x1)), (9, (u64v x2))], [(1002, (bU 4 x3 24)), (2002, (bW 8 x4 47)), (3002, (bW 8 x5 47)), (4000, ⟨[.nums .u64 x6 x7], 22, 2⟩)]⟩) (id := 14) (by kernel_rfl) (h.trans (by kernel_rfl)) _).trans (h9.trans (by kernel_rfl))
def g17L9 {R : Type} (A : Ar) (n : Nat) (kk : AV → Heap → Option R) (lg17L5 : Nat → Int → List Nat → List Nat → List Nat → Nat → List Nat → Option R) : Nat → Nat → Int → Nat → Int → List Nat → List Nat → List Nat → Nat → List Nat → Option R
  | 0, _, _, _, _, _, _, _, _, _ => none
  | m + 1, x0, x1, x2, x3, x4, x5, x6, x7, x8 => match (generalizing := false) A.ic .lss x3 8 with
  | true => g17J11 A n kk lg17L5 (g17L9 A n kk lg17L5 m) x0 x1 x2 x3 x4 x5 x6 x7 x8
  | false => g17J14 A n kk lg17L5 x0 x1 x2 x4 x5 x6 x7 x8
set_option maxRecDepth 100000 in
theorem g17L9_eq {R : Type} (A : Ar) (n : Nat) (kk : AV → Heap → Option R) (m0 : Nat) (lg17L5 : Nat → Int → List Nat → List Nat → List Nat → Nat → List Nat → Option R) 
    (hg17L5 : ∀ (s : St) (x0 : Nat) (x1 : Int) (x2 x3 x4 : List Nat) (x5 : Nat) (x6 : List Nat), keep g17an 5 s = ⟨[(4, (pT 1002 0)), (5, (pT 2002 0)), (6, (pT 3002 0)), (7, (sL 4000 none x0 1)), (8, (i6 x1))], [(1002, (bU 4 x2 24)), (2002, (bW 8 x3 47)), (3002, (bW 8 x4 47)), (4000, ⟨[.nums .u64 x5 x6], 22, 2⟩)]⟩ → g17V A n (pth 303) m0 (blockK 0 (g17Q A n (pth 63) (g17T kk))) s = lg17L5 x0 x1 x2 x3 x4 x5 x6) (m : Nat) (s : St) (x0 : Nat) (x1 : Int) (x2 : Nat) (x3 : Int) (x4 x5 x6 : List Nat) (x7 : Nat) (x8 : List Nat) (h : keep g17an 9 s = ⟨[(4, (pT 1002 0)), (5, (pT 2002 0)), (6, (pT 3002 0)), (7, (sL 4000 none x0 1)), (8, (i6 x1)), (9, (u64v x2)), (10, (i6 x3))], [(1002, (bU 4 x4 24)), (2002, (bW 8 x5 47)), (3002, (bW 8 x6 47)), (4000, ⟨[.nums .u64 x7 x8], 22, 2⟩)]⟩) :
    g17V A n (pth 76079) m (blockK 2 (g17Q A n (pth 14639) (blockK 1 (g17Q A n (pth 1839) (g17W A n (pth 303) m0 (blockK 0 (g17Q A n (pth 63) (g17T kk)))))))) s = g17L9 A n kk lg17L5 m x0 x1 x2 x3 x4 x5 x6 x7 x8 := by
  induction m generalizing s x0 x1 x2 x3 x4 x5 x6 x7 x8 with
  | zero => rfl
  | succ m ih =>
    have h3 := (g17Qn A n _ _ _).trans (g17J11_eq A n kk m0 m lg17L5 (g17L9 A n kk lg17L5 m) hg17L5 ih  ⟨[(22, (bO (A.ic .lss x3 8))), (21, (i6 x3)), (4, (pT 1002 0)), (5, (pT 2002 0)), (6, (pT 3002 0)), (7, (sL 4000 none x0 1)), (8, (i6 x1)), (9, (u64v x2)), (10, (i6 x3))], [(1002, (bU 4 x4 24)), (2002, (bW 8 x5 47)), (3002, (bW 8 x6 47)), (4000, ⟨[.nums .u64 x7 x8], 22, 2⟩)]⟩ x0 x1 x2 x3 x4 x5 x6 x7 x8 (by kernel_rfl))
    have h4 := (g17p1111010010010100010 A n _ _).trans h3
    have h5 := (g17Qn A n _ _ _).trans (g17J14_eq A n kk m0 lg17L5 hg17L5  ⟨[(22, (bO (A.ic .lss x3 8))), (21, (i6 x3)), (4, (pT 1002 0)), (5, (pT 2002 0)), (6, (pT 3002 0)), (7, (sL 4000 none x0 1)), (8, (i6 x1)), (9, (u64v x2)), (10, (i6 x3))], [(1002, (bU 4 x4 24)), (2002, (bW 8 x5 47)), (3002, (bW 8 x6 47)), (4000, ⟨[.nums .u64 x7 x8], 22, 2⟩)]⟩ x0 x1 x2 x4 x5 x6 x7 x8 (by kernel_rfl))
    have h6 := (blockK_hit 2 _ _).trans h5
    have h7 := (g17We A n (pth 76079) m _ _ _).trans h6
    have h8 := (g17Qe A n (pth 207151) _ _ _).trans h7
    have h9 := (g17p1111010010010100011 A n _ _).trans h8
    have h10 := g17p111101001001010001 A n (g17Q A n (pth 207151) (g17W A n (pth 76079) m (blockK 2 (g17Q A n (pth 14639) (blockK 1 (g17Q A n (pth 1839) (g17W A n (pth 303) m0 (blockK 0 (g17Q A n (pth 63) (g17T kk)))))))))) ⟨[(22, (bO (A.ic .lss x3 8))), (21, (i6 x3)), (4, (pT 1002 0)), (5, (pT 2002 0)), (6, (pT 3002 0)), (7, (sL 4000 none x0 1)), (8, (i6 x1)), (9, (u64v x2)), (10, (i6 x3))], [(1002, (bU 4 x4 24)), (2002, (bW 8 x5 47)), (3002, (bW 8 x6 47)), (4000, ⟨[.nums .u64 x7 x8], 22, 2⟩)]⟩ (A.ic .lss x3 8) (by kernel_rfl)
    rw [h4, h9] at h10
    have h11 := (g17Qn A n _ _ _).trans h10
    have h1 := g17R9 A n (g17Q A n (pth 403759) (g17Q A n (pth 207151) (g17W A n (pth 76079) m (blockK 2 (g17Q A n (pth 14639) (blockK 1 (g17Q A n (pth 1839) (g17W A n (pth 303) m0 (blockK 0 (g17Q A n (pth 63) (g17T kk))))))))))) x0 x1 x2 x3 x4 x5 x6 x7 x8
    have h12 := (g17p111101001001010000 A n _ ⟨[(4, (pT 1002 0)), (5, (pT 2002 0)), (6, (pT 3002 0)), (7, (sL 4000 none x0 1)), (8, (i6 x1)), (9, (u64v x2)), (10, (i6 x3))], [(1002, (bU 4 x4 24)), (2002, (bW 8 x5 47)), (3002, (bW 8 x6 47)), (4000, ⟨[.nums .u64 x7 x8], 22, 2⟩)]⟩ _ (by kernel_rfl)).trans h1
    rw [h11] at h12
    have h13 := (g17p11110100100101000 A n _ _).trans h12
    have h14 := (g17p1111010010010100 A n _ _).trans h13
    exact (loopD_first (s' := ⟨[(4, (pT 1002 0)), (5, (pT 2002 0)), (6, (pT 3002 0)), (7, (sL 4000 none x0 1)), (8, (i6 x1)), (9, (u64v x2)), (10, (i6 x3))], [(1002, (bU 4 x4 24)), (2002, (bW 8 x5 47)), (3002, (bW 8 x6 47)), (4000, ⟨[.nums .u64 x7 x8], 22, 2⟩)]⟩) (id := 9) (by kernel_rfl) (h.trans (by kernel_rfl)) _).trans ((g17Vs A n _ m _ _).trans (h14.trans (by kernel_rfl)))
def g17J7 {R : Type} (A : Ar) (n : Nat) (kk : AV → Heap → Option R) (lg17L5 : Nat → Int → List Nat → List Nat → List Nat → Nat → List Nat → Option R) (x0 : Nat) (x1 : Int) (x2 x3 x4 : List Nat) (x5 : Nat) (x6 : List Nat) : Option R :=
  g17L9 A n kk lg17L5 n x0 x1 0 0 x2 x3 x4 x5 x6
set_option maxRecDepth 100000 in
theorem g17J7_eq {R : Type} (A : Ar) (n : Nat) (kk : AV → Heap → Option R) (m0 : Nat) (lg17L5 : Nat → Int → List Nat → List Nat → List Nat → Nat → List Nat → Option R) 
    (hg17L5 : ∀ (s : St) (x0 : Nat) (x1 : Int) (x2 x3 x4 : List Nat) (x5 : Nat) (x6 : List Nat), keep g17an 5 s = ⟨[(4, (pT 1002 0)), (5, (pT 2002 0)), (6, (pT 3002 0)), (7, (sL 4000 none x0 1)), (8, (i6 x1))], [(1002, (bU 4 x2 24)), (2002, (bW 8 x3 47)), (3002, (bW 8 x4 47)), (4000, ⟨[.nums .u64 x5 x6], 22, 2⟩)]⟩ → g17V A n (pth 303) m0 (blockK 0 (g17Q A n (pth 63) (g17T kk))) s = lg17L5 x0 x1 x2 x3 x4 x5 x6) (s : St) (x0 : Nat) (x1 : Int) (x2 x3 x4 : List Nat) (x5 : Nat) (x6 : List Nat) (h : keep g17an 7 s = ⟨[(4, (pT 1002 0)), (5, (pT 2002 0)), (6, (pT 3002 0)), (7, (sL 4000 none x0 1)), (8, (i6 x1))], [(1002, (bU 4 x2 24)), (2002, (bW 8 x3 47)), (3002, (bW 8 x4 47)), (4000, ⟨[.nums .u64 x5 x6], 22, 2⟩)]⟩) :
    g17D A n (pth 815) (g17W A n (pth 303) m0 (blockK 0 (g17Q A n (pth 63) (g17T kk)))) s = g17J7 A n kk lg17L5 x0 x1 x2 x3 x4 x5 x6 := by
  have h5 := (g17p111101001001010 A n _ _).trans (g17L9_eq A n kk m0 lg17L5 hg17L5 n ⟨[(10, (i6 0)), (4, (pT 1002 0)), (5, (pT 2002 0)), (6, (pT 3002 0)), (7, (sL 4000 none x0 1)), (8, (i6 x1)), (9, (u64v 0))], [(1002, (bU 4 x2 24)), (2002, (bW 8 x3 47)), (3002, (bW 8 x4 47)), (4000, ⟨[.nums .u64 x5 x6], 22, 2⟩)]⟩ x0 x1 0 0 x2 x3 x4 x5 x6 (by kernel_rfl))
  have h6 := (g17p11110100100101 A n _ _).trans h5
  have h7 := (g17Qn A n _ _ _).trans h6
  have h3 := g17R8 A n (g17Q A n (pth 26927) (g17Q A n (pth 14639) (blockK 1 (g17Q A n (pth 1839) (g17W A n (pth 303) m0 (blockK 0 (g17Q A n (pth 63) (g17T kk)))))))) x0 x1 0 x2 x3 x4 x5 x6
  have h8 := (g17p11110100100100 A n _ ⟨[(9, (u64v 0)), (4, (pT 1002 0)), (5, (pT 2002 0)), (6, (pT 3002 0)), (7, (sL 4000 none x0 1)), (8, (i6 x1))], [(1002, (bU 4 x2 24)), (2002, (bW 8 x3 47)), (3002, (bW 8 x4 47)), (4000, ⟨[.nums .u64 x5 x6], 22, 2⟩)]⟩ _ (by kernel_rfl)).trans h3
  rw [h7] at h8
  have h9 := (g17p1111010010010 A n _ _).trans h8
  have h10 := (g17p111101001001 A n _ _).trans h9
  have h11 := (g17Qn A n _ _ _).trans h10
  have h1 := g17R7 A n (g17Q A n (pth 6447) (blockK 1 (g17Q A n (pth 1839) (g17W A n (pth 303) m0 (blockK 0 (g17Q A n (pth 63) (g17T kk))))))) x0 x1 x2 x3 x4 x5 x6
  have h12 := (g17p111101001000 A n _ ⟨[(4, (pT 1002 0)), (5, (pT 2002 0)), (6, (pT 3002 0)), (7, (sL 4000 none x0 1)), (8, (i6 x1))], [(1002, (bU 4 x2 24)), (2002, (bW 8 x3 47)), (3002, (bW 8 x4 47)), (4000, ⟨[.nums .u64 x5 x6], 22, 2⟩)]⟩ _ (by kernel_rfl)).trans h1
  rw [h11] at h12
  have h13 := (g17p11110100100 A n _ _).trans h12
  have h14 := (g17p1111010010 A n _ _).trans h13
  have h15 := (g17p111101001 A n _ _).trans h14
  exact (codeD_first (s' := ⟨[(4, (pT 1002 0)), (5, (pT 2002 0)), (6, (pT 3002 0)), (7, (sL 4000 none x0 1)), (8, (i6 x1))], [(1002, (bU 4 x2 24)), (2002, (bW 8 x3 47)), (3002, (bW 8 x4 47)), (4000, ⟨[.nums .u64 x5 x6], 22, 2⟩)]⟩) (id := 7) (by kernel_rfl) (h.trans (by kernel_rfl)) _).trans (h15.trans (by kernel_rfl))
def g17L5 {R : Type} (A : Ar) (n : Nat) (kk : AV → Heap → Option R)  : Nat → Nat → Int → List Nat → List Nat → List Nat → Nat → List Nat → Option R
  | 0, _, _, _, _, _, _, _ => none
  | m + 1, x0, x1, x2, x3, x4, x5, x6 => match (generalizing := false) A.ic .lss x1 8 with
  | true => g17J7 A n kk (g17L5 A n kk  m) x0 x1 x2 x3 x4 x5 x6
  | false => match (generalizing := false) g43ok A x0 x5 x6 with
    | true => match (generalizing := false) g40ok A (g43r0 A x0 x5 x6) with
      | true => kk (aN .u64 4 (g40r0 A (g43r0 A x0 x5 x6))) [(1002, (bU 4 (g40r0 A (g43r0 A x0 x5 x6)) 24)), (4000, ⟨[.nums .u64 (g43r1 A x0 x5 x6) (g43r2 A x0 x5 x6)], 22, 2⟩)]
      | false => none
    | false => none
set_option maxRecDepth 100000 in
theorem g17L5_eq {R : Type} (A : Ar) (n : Nat) (kk : AV → Heap → Option R)    (m : Nat) (s : St) (x0 : Nat) (x1 : Int) (x2 x3 x4 : List Nat) (x5 : Nat) (x6 : List Nat) (h : keep g17an 5 s = ⟨[(4, (pT 1002 0)), (5, (pT 2002 0)), (6, (pT 3002 0)), (7, (sL 4000 none x0 1)), (8, (i6 x1))], [(1002, (bU 4 x2 24)), (2002, (bW 8 x3 47)), (3002, (bW 8 x4 47)), (4000, ⟨[.nums .u64 x5 x6], 22, 2⟩)]⟩) :
    g17V A n (pth 303) m (blockK 0 (g17Q A n (pth 63) (g17T kk))) s = g17L5 A n kk  m x0 x1 x2 x3 x4 x5 x6 := by
  induction m generalizing s x0 x1 x2 x3 x4 x5 x6 with
  | zero => rfl
  | succ m ih =>
    have h3 := (g17Qn A n _ _ _).trans (g17J7_eq A n kk m (g17L5 A n kk  m) ih  ⟨[(18, (bO (A.ic .lss x1 8))), (17, (i6 x1)), (4, (pT 1002 0)), (5, (pT 2002 0)), (6, (pT 3002 0)), (7, (sL 4000 none x0 1)), (8, (i6 x1))], [(1002, (bU 4 x2 24)), (2002, (bW 8 x3 47)), (3002, (bW 8 x4 47)), (4000, ⟨[.nums .u64 x5 x6], 22, 2⟩)]⟩ x0 x1 x2 x3 x4 x5 x6 (by kernel_rfl))
    have h4 := (g17p11110100010 A n _ _).trans h3
    have h7 : (g17T kk) .ret ⟨[(59, (aN .u64 4 (g40r0 A (g43r0 A x0 x5 x6)))), (58, (aN .u32 8 (g43r0 A x0 x5 x6))), (57, (sL 4000 none x0 1)), (4, (pT 1002 0)), (7, (sL 4000 none x0 1))], [(1002, (bU 4 (g40r0 A (g43r0 A x0 x5 x6)) 24)), (4000, ⟨[.nums .u64 (g43r1 A x0 x5 x6) (g43r2 A x0 x5 x6)], 22, 2⟩)]⟩ = kk (aN .u64 4 (g40r0 A (g43r0 A x0 x5 x6))) [(1002, (bU 4 (g40r0 A (g43r0 A x0 x5 x6)) 24)), (4000, ⟨[.nums .u64 (g43r1 A x0 x5 x6) (g43r2 A x0 x5 x6)], 22, 2⟩)] := by kernel_rfl
    have h8 := (g17p111111 A n _ _).trans h7
    have h9 := (g17Qn A n _ _ _).trans h8
    have h5 := g17R15 A n (g17Q A n (pth 127) (g17T kk)) x0 x2 x5 x6
    have h10 := (g17p111110 A n _ ⟨[(18, (bO (A.ic .lss x1 8))), (17, (i6 x1)), (4, (pT 1002 0)), (5, (pT 2002 0)), (6, (pT 3002 0)), (7, (sL 4000 none x0 1)), (8, (i6 x1))], [(1002, (bU 4 x2 24)), (2002, (bW 8 x3 47)), (3002, (bW 8 x4 47)), (4000, ⟨[.nums .u64 x5 x6], 22, 2⟩)]⟩ _ (by kernel_rfl)).trans h5
    rw [h9] at h10
    have h11 := (g17p11111 A n _ _).trans h10
    have h12 := (g17Qn A n _ _ _).trans h11
    have h13 := (blockK_hit 0 _ _).trans h12
    have h14 := (g17We A n (pth 303) m _ _ _).trans h13
    have h15 := (g17Qe A n (pth 815) _ _ _).trans h14
    have h16 := (g17p11110100011 A n _ _).trans h15
    have h17 := g17p1111010001 A n (g17Q A n (pth 815) (g17W A n (pth 303) m (blockK 0 (g17Q A n (pth 63) (g17T kk))))) ⟨[(18, (bO (A.ic .lss x1 8))), (17, (i6 x1)), (4, (pT 1002 0)), (5, (pT 2002 0)), (6, (pT 3002 0)), (7, (sL 4000 none x0 1)), (8, (i6 x1))], [(1002, (bU 4 x2 24)), (2002, (bW 8 x3 47)), (3002, (bW 8 x4 47)), (4000, ⟨[.nums .u64 x5 x6], 22, 2⟩)]⟩ (A.ic .lss x1 8) (by kernel_rfl)
    rw [h4, h16] at h17
    have h18 := (g17Qn A n _ _ _).trans h17
    have h1 := g17R5 A n (g17Q A n (pth 1583) (g17Q A n (pth 815) (g17W A n (pth 303) m (blockK 0 (g17Q A n (pth 63) (g17T kk)))))) x0 x1 x2 x3 x4 x5 x6
    have h19 := (g17p1111010000 A n _ ⟨[(4, (pT 1002 0)), (5, (pT 2002 0)), (6, (pT 3002 0)), (7, (sL 4000 none x0 1)), (8, (i6 x1))], [(1002, (bU 4 x2 24)), (2002, (bW 8 x3 47)), (3002, (bW 8 x4 47)), (4000, ⟨[.nums .u64 x5 x6], 22, 2⟩)]⟩ _ (by kernel_rfl)).trans h1
    rw [h18] at h19
    have h20 := (g17p111101000 A n _ _).trans h19
    have h21 := (g17p11110100 A n _ _).trans h20
    exact (loopD_first (s' := ⟨[(4, (pT 1002 0)), (5, (pT 2002 0)), (6, (pT 3002 0)), (7, (sL 4000 none x0 1)), (8, (i6 x1))], [(1002, (bU 4 x2 24)), (2002, (bW 8 x3 47)), (3002, (bW 8 x4 47)), (4000, ⟨[.nums .u64 x5 x6], 22, 2⟩)]⟩) (id := 5) (by kernel_rfl) (h.trans (by kernel_rfl)) _).trans ((g17Vs A n _ m _ _).trans (h21.trans (by kernel_rfl)))
def g17 {R : Type} (A : Ar) (n : Nat) (kk : AV → Heap → Option R) (a b : List Nat) : Option R :=
  match (generalizing := false) g39ok A a with
  | true => match (generalizing := false) g39ok A b with
    | true => match (generalizing := false) A.le 16 16 with
      | true => match (generalizing := false) A.le 128 140737488355328 with
        | true => g17L5 A n kk  n 16 0 [0, 0, 0, 0] (g39r0 A a) (g39r0 A b) 16 (List.replicate 16 0)
        | false => none
      | false => none
    | false => none
  | false => none
set_option maxRecDepth 100000 in
theorem g17_eq {R : Type} (A : Ar) (n : Nat) (kk : AV → Heap → Option R) (a b : List Nat) :
    funD A gtys (g17O A) g17an n (bodyOf Try.f17) g17res [(aN .u64 4 a), (aN .u64 4 b)] [] kk = g17 A n kk a b := by
  have h11 := (g17p1111010 A n _ _).trans (g17L5_eq A n kk    n ⟨[(8, (i6 0)), (4, (pT 1002 0)), (5, (pT 2002 0)), (6, (pT 3002 0)), (7, (sL 4000 none 16 1))], [(1002, (bU 4 [0, 0, 0, 0] 24)), (2002, (bW 8 (g39r0 A a) 47)), (3002, (bW 8 (g39r0 A b) 47)), (4000, ⟨[.nums .u64 16 (List.replicate 16 0)], 22, 2⟩)]⟩ 16 0 [0, 0, 0, 0] (g39r0 A a) (g39r0 A b) 16 (List.replicate 16 0) (by kernel_rfl))
  have h12 := (g17p111101 A n _ _).trans h11
  have h13 := (g17Qn A n _ _ _).trans h12
  have h9 := g17R4 A n (g17Q A n (pth 111) (g17Q A n (pth 63) (g17T kk))) 16 [0, 0, 0, 0] (g39r0 A a) (g39r0 A b) 16 (List.replicate 16 0)
  have h14 := (g17p111100 A n _ ⟨[(7, (sL 4000 none 16 1)), (16, (sL 4000 none 16 1)), (4, (pT 1002 0)), (5, (pT 2002 0)), (6, (pT 3002 0))], [(4000, ⟨[.nums .u64 16 (List.replicate 16 0)], 22, 2⟩), (1002, (bU 4 [0, 0, 0, 0] 24)), (2002, (bW 8 (g39r0 A a) 47)), (3002, (bW 8 (g39r0 A b) 47))]⟩ _ (by kernel_rfl)).trans h9
  rw [h13] at h14
  have h15 := (g17p11110 A n _ _).trans h14
  have h16 := (g17p1111 A n _ _).trans h15
  have h17 := (g17Qn A n _ _ _).trans h16
  have h7 := g17R3 A n (g17Q A n (pth 31) (g17T kk)) [0, 0, 0, 0] (g39r0 A a) (g39r0 A b)
  have h18 := (g17p1110 A n _ ⟨[(6, (pT 3002 0)), (15, (aN .u32 8 (g39r0 A b))), (14, (aN .u64 4 b)), (3, (pT 1001 0)), (4, (pT 1002 0)), (5, (pT 2002 0))], [(3002, (bW 8 (g39r0 A b) 47)), (1001, (bU 4 b 24)), (1002, (bU 4 [0, 0, 0, 0] 24)), (2002, (bW 8 (g39r0 A a) 47))]⟩ _ (by kernel_rfl)).trans h7
  rw [h17] at h18
  have h19 := (g17p111 A n _ _).trans h18
  have h20 := (g17Qn A n _ _ _).trans h19
  have h5 := g17R2 A n (g17Q A n (pth 15) (g17T kk)) b [0, 0, 0, 0] (g39r0 A a)
  have h21 := (g17p110 A n _ ⟨[(5, (pT 2002 0)), (13, (aN .u32 8 (g39r0 A a))), (12, (aN .u64 4 a)), (2, (pT 1000 0)), (3, (pT 1001 0)), (4, (pT 1002 0))], [(2002, (bW 8 (g39r0 A a) 47)), (1000, (bU 4 a 24)), (1001, (bU 4 b 24)), (1002, (bU 4 [0, 0, 0, 0] 24))]⟩ _ (by kernel_rfl)).trans h5
  rw [h20] at h21
  have h22 := (g17p11 A n _ _).trans h21
  have h23 := (g17Qn A n _ _ _).trans h22
  have h3 := g17R1 A n (g17Q A n (pth 7) (g17T kk)) a b [0, 0, 0, 0]
  have h24 := (g17p10 A n _ ⟨[(4, (pT 1002 0)), (3, (pT 1001 0)), (2, (pT 1000 0)), (0, (aN .u64 4 a)), (1, (aN .u64 4 b))], [(1002, (bU 4 [0, 0, 0, 0] 24)), (1001, (bU 4 b 24)), (1000, (bU 4 a 24))]⟩ _ (by kernel_rfl)).trans h3
  rw [h23] at h24
  have h25 := (g17p1 A n _ _).trans h24
  have h26 := (g17Qn A n _ _ _).trans h25
  have h1 := g17R0 A n (g17Q A n (pth 3) (g17T kk)) a b
  have h27 := (g17p0 A n _ ⟨[(0, (aN .u64 4 a)), (1, (aN .u64 4 b))], []⟩ _ (by kernel_rfl)).trans h1
  rw [h26] at h27
  have h28 := (g17p A n _ _).trans h27
  exact (show funD A gtys (g17O A) g17an n (bodyOf Try.f17) g17res [(aN .u64 4 a), (aN .u64 4 b)] [] kk = g17D A n (pth 1) (g17T kk) ⟨[(0, (aN .u64 4 a)), (1, (aN .u64 4 b))], []⟩ from by kernel_rfl).trans (h28.trans (by kernel_rfl))
def g17is (o : Option AV) : Bool := match o with
  | some (aN .u64 4 _) => true
  | _ => false
def g17g0 (o : Option AV) : List Nat := match o with
  | some (aN .u64 4 x) => x
  | _ => []
theorem g17is_spec {o : Option AV} (h : g17is o = true) : o = some (aN .u64 4 (g17g0 o)) := by
  unfold g17is at h
  split at h
  · rfl
  · cases h
def g17v (A : Ar) (a b : List Nat) : Option AV := g17 A (100000) (fun v _ => some v) a b
def g17ok (A : Ar) (a b : List Nat) : Bool := g17is (g17v A a b)
def g17r0 (A : Ar) (a b : List Nat) : List Nat := g17g0 (g17v A a b)
theorem g17ok_spec {A : Ar} {a b} (h : g17ok A a b = true) : g17v A a b = some (aN .u64 4 (g17r0 A a b)) := g17is_spec h
def g17o (A : Ar) (args : List AV) : Option (Bool × AV) := match args with
  | [.v (.agg [.nums .u64 n0 a]), .v (.agg [.nums .u64 n1 b])] => some (Nat.beq n0 4 && (Nat.beq n1 4 && (g17ok A a b)), .v (.agg [.nums .u64 4 (g17r0 A a b)]))
  | _ => none
theorem g17o_sound : ∀ args v, g17o realA args = some (true, v) → Fn1 Try.prog 17 args v := by
  intro args v h
  unfold g17o at h
  split at h
  · rename_i n0 a n1 b
    simp only [Option.some.injEq, Prod.mk.injEq] at h
    obtain ⟨hc, h⟩ := h
    subst h
    · skip
      simp only [Bool.and_eq_true] at hc
      have en0 := beq_true hc.1
      subst en0
      replace hc := hc.2
      have en1 := beq_true hc.1
      subst en1
      replace hc := hc.2
      exact fn1_of mixed gtysOK g17O_sound g17O_det (an := g17an) (n := 100000) Try.func17 (c := bodyOf Try.f17) rfl (by kernel_rfl) Try.call17 (Nat.le_of_ble_eq_true rfl) (fun b => rfl) (fun _ => (g17_eq realA (100000) (fun v _ => some v) a b).trans (show g17v realA a b = _ from g17ok_spec hc))
  · cases h
end Go.Sx
