import Derived.Test.YtaiehobmadflkaaSxR02a
namespace Go.Sx
open Go.Proofs
set_option linter.unusedVariables false
set_option maxRecDepth 100000
def g20O (A : Ar) : Orc := orcOf [(27, g27o A)]
theorem g20O_sound : OSound Try.prog (g20O realA) := orc_sound fun f g hm args v hv => by
  simp only [List.mem_cons, List.not_mem_nil, or_false, Prod.mk.injEq] at hm
  rcases hm with ⟨rfl, rfl⟩
  · exact g27o_sound _ _ hv
theorem g20O_det : ODet (g20O realA) := orc_det _
def g20an : Ann := [(0, ([0, 1], [0, 1])), (1, ([0, 1, 4], [0, 1, 1000])), (2, ([0, 1, 4, 16], [0, 1, 1000])), (3, ([0, 1, 4, 16], [0, 1, 1000])), (4, ([0, 1, 4, 5, 16], [0, 1, 1000])), (5, ([0, 1, 4, 16], [0, 1, 1000])), (6, ([0, 4], [0, 1, 1000])), (7, ([0, 4, 6], [0, 1, 1000])), (8, ([0, 4, 6], [0, 1, 1000])), (9, ([0, 4, 6], [0, 1, 1000])), (10, ([0, 4, 6, 7, 8], [0, 1, 1000])), (11, ([0, 4, 6, 7, 8], [0, 1, 1000])), (12, ([0, 4, 6, 8], [0, 1, 1000])), (13, ([0, 4], [0, 1, 1000])), (14, ([0, 4, 9], [0, 1, 1000, 14004])), (15, ([0, 4, 9, 87], [0, 1, 1000, 14004])), (16, ([0, 4, 9, 87], [0, 1, 1000, 14004])), (17, ([0, 4, 9, 10, 87], [0, 1, 1000, 14004])), (18, ([0, 4, 9, 10, 11, 12, 87], [0, 1, 1000, 14004])), (19, ([0, 4, 9, 11, 12, 13, 87], [0, 1, 1000, 14004])), (20, ([0, 4, 9, 12, 13, 87], [0, 1, 1000, 14004])), (21, ([0, 4, 9, 12, 13, 14, 87], [0, 1, 1000, 14004])), (22, ([0, 4, 9, 13, 14, 87], [0, 1, 1000, 14004])), (23, ([0, 4, 9, 87], [0, 1, 1000, 14004])), (24, ([0, 9], [0, 1, 14004])), (25, ([0, 9, 171], [0, 1, 14004])), (26, ([0, 9, 171], [0, 1, 14004])), (27, ([0, 9, 15, 171], [0, 1, 14004])), (28, ([0, 9, 171], [0, 1, 14004]))]
def g20res : List ResultVar := []
noncomputable def g20D {R : Type} (A : Ar) (n : Nat) (p : List Bool) (K : Ex → St → Option R) (s : St) : Option R := codeD A gtys (g20O A) g20an n (sub (bodyOf Try.f20) p) K s
noncomputable def g20V {R : Type} (A : Ar) (n : Nat) (p : List Bool) (m : Nat) (K : Ex → St → Option R) (s : St) : Option R := loopD (fun K' s'' => codeD A gtys (g20O A) g20an n (sub (bodyOf Try.f20) p) K' s'') m K s
noncomputable def g20Q {R : Type} (A : Ar) (n : Nat) (p : List Bool) (K : Ex → St → Option R) : Ex → St → Option R := seqC (g20D A n p K) K
noncomputable def g20W {R : Type} (A : Ar) (n : Nat) (p : List Bool) (m : Nat) (K : Ex → St → Option R) : Ex → St → Option R := seqC (g20V A n p m K) K
noncomputable def g20T {R : Type} (kk : KK R) : Ex → St → Option R := finD gtys g20res kk
theorem g20Qn {R : Type} (A : Ar) (n : Nat) (p : List Bool) (K : Ex → St → Option R) (s : St) : g20Q A n p K .normal s = g20D A n p K s := rfl
theorem g20Qe {R : Type} (A : Ar) (n : Nat) (p : List Bool) (K : Ex → St → Option R) (i : Nat) (s : St) : g20Q A n p K (.exit i) s = K (.exit i) s := rfl
theorem g20Wn {R : Type} (A : Ar) (n : Nat) (p : List Bool) (m : Nat) (K : Ex → St → Option R) (s : St) : g20W A n p m K .normal s = g20V A n p m K s := rfl
theorem g20We {R : Type} (A : Ar) (n : Nat) (p : List Bool) (m : Nat) (K : Ex → St → Option R) (i : Nat) (s : St) : g20W A n p m K (.exit i) s = K (.exit i) s := rfl
theorem g20Vs {R : Type} (A : Ar) (n : Nat) (p : List Bool) (m : Nat) (K : Ex → St → Option R) (s : St) : g20V A n p (m + 1) K s = g20D A n p (g20W A n p m K) s := rfl
theorem g20F {R : Type} (A : Ar) (n : Nat) (p : List Bool) (i : Nat) (K : Ex → St → Option R) (s s' : St) (hf : firstReg (sub (bodyOf Try.f20) p) = some i) (h : keep g20an i s = keep g20an i s') : g20D A n p K s = g20D A n p K s' := codeD_first hf h K
section
variable {R : Type} (A : Ar) (n : Nat) (K : Ex → St → Option R) (s : St)
theorem g20p1 : g20D A n (pth 1) K s = g20D A n (pth 2) (g20Q A n (pth 3) K) s := by kernel_rfl
theorem g20p3 : g20D A n (pth 3) K s = g20D A n (pth 5) (g20Q A n (pth 7) K) s := by kernel_rfl
theorem g20p5 : g20D A n (pth 5) K s = g20D A n (pth 9) (g20Q A n (pth 13) K) s := by kernel_rfl
theorem g20p13 : g20D A n (pth 13) K s = g20D A n (pth 21) (blockK 0 K) s := by kernel_rfl
theorem g20p21 : g20D A n (pth 21) K s = g20V A n (pth 37) n K s := by kernel_rfl
theorem g20p37 : g20D A n (pth 37) K s = g20D A n (pth 69) (g20Q A n (pth 101) K) s := by kernel_rfl
theorem g20p101 : g20D A n (pth 101) K s = g20D A n (pth 165) (g20Q A n (pth 229) K) s := by kernel_rfl
theorem g20p165 (t : Bool) : ev s (.tmp 17) = some (.v (.cell (.bool t))) → g20D A n (pth 165) K s = (match t with
    | true => g20D A n (pth 293) K s
    | false => g20D A n (pth 421) K s) := codeD_cond t
theorem g20p293 : g20D A n (pth 293) K s = K .normal s := by kernel_rfl
theorem g20p421 : g20D A n (pth 421) K s = K (.exit 0) s := by kernel_rfl
theorem g20p229 : g20D A n (pth 229) K s = g20D A n (pth 357) (g20Q A n (pth 485) K) s := by kernel_rfl
theorem g20p357 : g20D A n (pth 357) K s = g20D A n (pth 613) (blockK 1 K) s := by kernel_rfl
theorem g20p613 : g20D A n (pth 613) K s = g20D A n (pth 1125) (g20Q A n (pth 1637) K) s := by kernel_rfl
theorem g20p7 : g20D A n (pth 7) K s = g20D A n (pth 11) (g20Q A n (pth 15) K) s := by kernel_rfl
theorem g20p11 : g20D A n (pth 11) K s = g20D A n (pth 19) (g20Q A n (pth 27) K) s := by kernel_rfl
theorem g20p27 : g20D A n (pth 27) K s = g20D A n (pth 43) (blockK 2 K) s := by kernel_rfl
theorem g20p43 : g20D A n (pth 43) K s = g20V A n (pth 75) n K s := by kernel_rfl
theorem g20p75 : g20D A n (pth 75) K s = g20D A n (pth 139) (g20Q A n (pth 203) K) s := by kernel_rfl
theorem g20p139 : g20D A n (pth 139) K s = g20D A n (pth 267) (g20Q A n (pth 395) K) s := by kernel_rfl
theorem g20p395 (t : Bool) : ev s (.tmp 35) = some (.v (.cell (.bool t))) → g20D A n (pth 395) K s = (match t with
    | true => g20D A n (pth 651) K s
    | false => g20D A n (pth 907) K s) := codeD_cond t
theorem g20p651 : g20D A n (pth 651) K s = K .normal s := by kernel_rfl
theorem g20p907 : g20D A n (pth 907) K s = K (.exit 2) s := by kernel_rfl
theorem g20p203 : g20D A n (pth 203) K s = g20D A n (pth 331) (g20Q A n (pth 459) K) s := by kernel_rfl
theorem g20p331 : g20D A n (pth 331) K s = g20D A n (pth 587) (blockK 3 K) s := by kernel_rfl
theorem g20p587 : g20D A n (pth 587) K s = g20D A n (pth 1099) (g20Q A n (pth 1611) K) s := by kernel_rfl
theorem g20p1611 : g20D A n (pth 1611) K s = g20D A n (pth 2635) (g20Q A n (pth 3659) K) s := by kernel_rfl
theorem g20p3659 : g20D A n (pth 3659) K s = g20D A n (pth 5707) (g20Q A n (pth 7755) K) s := by kernel_rfl
theorem g20p15 : g20D A n (pth 15) K s = g20D A n (pth 23) (g20Q A n (pth 31) K) s := by kernel_rfl
theorem g20p31 : g20D A n (pth 31) K s = g20D A n (pth 47) (g20Q A n (pth 63) K) s := by kernel_rfl
theorem g20p47 : g20D A n (pth 47) K s = g20D A n (pth 79) (g20Q A n (pth 111) K) s := by kernel_rfl
theorem g20p111 : g20D A n (pth 111) K s = g20D A n (pth 175) (blockK 4 K) s := by kernel_rfl
theorem g20p175 : g20D A n (pth 175) K s = g20V A n (pth 303) n K s := by kernel_rfl
theorem g20p303 : g20D A n (pth 303) K s = g20D A n (pth 559) (g20Q A n (pth 815) K) s := by kernel_rfl
theorem g20p815 : g20D A n (pth 815) K s = g20D A n (pth 1327) (g20Q A n (pth 1839) K) s := by kernel_rfl
theorem g20p1327 (t : Bool) : ev s (.tmp 88) = some (.v (.cell (.bool t))) → g20D A n (pth 1327) K s = (match t with
    | true => g20D A n (pth 2351) K s
    | false => g20D A n (pth 3375) K s) := codeD_cond t
theorem g20p2351 : g20D A n (pth 2351) K s = K .normal s := by kernel_rfl
theorem g20p3375 : g20D A n (pth 3375) K s = K (.exit 4) s := by kernel_rfl
theorem g20p1839 : g20D A n (pth 1839) K s = g20D A n (pth 2863) (g20Q A n (pth 3887) K) s := by kernel_rfl
theorem g20p2863 : g20D A n (pth 2863) K s = g20D A n (pth 4911) (blockK 5 K) s := by kernel_rfl
theorem g20p4911 : g20D A n (pth 4911) K s = g20D A n (pth 9007) (g20Q A n (pth 13103) K) s := by kernel_rfl
theorem g20p13103 : g20D A n (pth 13103) K s = g20D A n (pth 21295) (g20Q A n (pth 29487) K) s := by kernel_rfl
theorem g20p29487 : g20D A n (pth 29487) K s = g20D A n (pth 45871) (g20Q A n (pth 62255) K) s := by kernel_rfl
theorem g20p62255 : g20D A n (pth 62255) K s = g20D A n (pth 95023) (g20Q A n (pth 127791) K) s := by kernel_rfl
theorem g20p127791 : g20D A n (pth 127791) K s = g20D A n (pth 193327) (g20Q A n (pth 258863) K) s := by kernel_rfl
theorem g20p258863 : g20D A n (pth 258863) K s = g20D A n (pth 389935) (g20Q A n (pth 521007) K) s := by kernel_rfl
theorem g20p63 : g20D A n (pth 63) K s = g20D A n (pth 95) (g20Q A n (pth 127) K) s := by kernel_rfl
theorem g20p127 : g20D A n (pth 127) K s = g20D A n (pth 191) (blockK 6 K) s := by kernel_rfl
theorem g20p191 : g20D A n (pth 191) K s = g20V A n (pth 319) n K s := by kernel_rfl
theorem g20p319 : g20D A n (pth 319) K s = g20D A n (pth 575) (g20Q A n (pth 831) K) s := by kernel_rfl
theorem g20p831 : g20D A n (pth 831) K s = g20D A n (pth 1343) (g20Q A n (pth 1855) K) s := by kernel_rfl
theorem g20p1343 (t : Bool) : ev s (.tmp 172) = some (.v (.cell (.bool t))) → g20D A n (pth 1343) K s = (match t with
    | true => g20D A n (pth 2367) K s
    | false => g20D A n (pth 3391) K s) := codeD_cond t
theorem g20p2367 : g20D A n (pth 2367) K s = K .normal s := by kernel_rfl
theorem g20p3391 : g20D A n (pth 3391) K s = K (.exit 6) s := by kernel_rfl
theorem g20p1855 : g20D A n (pth 1855) K s = g20D A n (pth 2879) (g20Q A n (pth 3903) K) s := by kernel_rfl
theorem g20p2879 : g20D A n (pth 2879) K s = g20D A n (pth 4927) (blockK 7 K) s := by kernel_rfl
theorem g20p4927 : g20D A n (pth 4927) K s = g20D A n (pth 9023) (g20Q A n (pth 13119) K) s := by kernel_rfl
def g20R3s0 (A : Ar) (x0 : Nat) (x1 : Int) (x2 : LN) (x3 : Nat) (x4 : Int) (x5 : Nat) (x6 x7 : LN) : St := ⟨[(5, i6 x1), (18, i6 x1), (0, pT 0 0), (1, sL 1 none x0 1), (4, pT 1000 0), (16, i6 x1)], [(0, bH 1 x2 none x3 x4), (1, bY x5 x6), (1000, bU 80 x7 43)]⟩
theorem g20R3 (x0 : Nat) (x1 : Int) (x2 : LN) (x3 : Nat) (x4 : Int) (x5 : Nat) (x6 x7 : LN) : g20D A n (pth 1125) K ⟨[(0, pT 0 0), (1, sL 1 none x0 1), (4, pT 1000 0), (16, i6 x1)], [(0, bH 1 x2 none x3 x4), (1, bY x5 x6), (1000, bU 80 x7 43)]⟩ = K .normal (g20R3s0 A x0 x1 x2 x3 x4 x5 x6 x7) := by kernel_rfl
def g20R4s0 (A : Ar) (x0 : Nat) (x1 x2 : Int) (x3 : LN) (x4 : Nat) (x5 : Int) (x6 : Nat) (x7 x8 : LN) : St := ⟨[(32, (.v (.cell (.ptr 1000 0 (some ⟨A.toN (A.ib .quo .i64 x1 8), 1, 80, 0, 0, 0⟩))))), (31, u64v (A.nb .or .u64 (A.nsh .shl .u64 (x8.getD (A.toN (A.ib .quo .i64 x1 8)) 0) 8) (x7.getD (A.toN x1) 0))), (30, u64v (x7.getD (A.toN x1) 0)), (29, u8v (x7.getD (A.toN x1) 0)), (28, (.v (.cell (.ptr 1 0 (some ⟨A.toN x1, 1, x0, A.toN x1, 0, 1⟩))))), (27, i6 x1), (26, sL 1 none x0 1), (25, u64v (A.nsh .shl .u64 (x8.getD (A.toN (A.ib .quo .i64 x1 8)) 0) 8)), (24, u64v (x8.getD (A.toN (A.ib .quo .i64 x1 8)) 0)), (23, (.v (.cell (.ptr 1000 0 (some ⟨A.toN (A.ib .quo .i64 x1 8), 1, 80, 0, 0, 0⟩))))), (22, i6 (A.ib .quo .i64 x1 8)), (21, i6 x1), (20, i6 (A.ib .quo .i64 x1 8)), (19, i6 x1), (0, pT 0 0), (1, sL 1 none x0 1), (4, pT 1000 0), (5, i6 x1), (16, i6 x2)], [(0, bH 1 x3 none x4 x5), (1, bY x6 x7), (1000, bU 80 (x8.set (A.toN (A.ib .quo .i64 x1 8)) (A.nb .or .u64 (A.nsh .shl .u64 (x8.getD (A.toN (A.ib .quo .i64 x1 8)) 0) 8) (x7.getD (A.toN x1) 0))) 43)]⟩
theorem g20R4 (x0 : Nat) (x1 x2 : Int) (x3 : LN) (x4 : Nat) (x5 : Int) (x6 : Nat) (x7 x8 : LN) : g20D A n (pth 1637) K ⟨[(0, pT 0 0), (1, sL 1 none x0 1), (4, pT 1000 0), (5, i6 x1), (16, i6 x2)], [(0, bH 1 x3 none x4 x5), (1, bY x6 x7), (1000, bU 80 x8 43)]⟩ = match A.neg (A.ib .quo .i64 x1 8) with
    | true => none
    | false => match A.lt (A.toN (A.ib .quo .i64 x1 8)) 80 with
      | true => match A.neg x1 with
        | true => none
        | false => match A.lt (A.toN x1) x0 with
          | true => match A.neg (A.ib .quo .i64 x1 8) with
            | true => none
            | false => match A.lt (A.toN (A.ib .quo .i64 x1 8)) 80 with
              | true => K .normal (g20R4s0 A x0 x1 x2 x3 x4 x5 x6 x7 x8)
              | false => none
          | false => none
      | false => none := by kernel_rfl
def g20R5s0 (A : Ar) (x0 : Nat) (x1 : Int) (x2 : LN) (x3 : Nat) (x4 : Int) (x5 : Nat) (x6 x7 : LN) : St := ⟨[(16, i6 (A.ib .add .i64 x1 1)), (33, i6 (A.ib .add .i64 x1 1)), (0, pT 0 0), (1, sL 1 none x0 1), (4, pT 1000 0), (16, i6 x1)], [(0, bH 1 x2 none x3 x4), (1, bY x5 x6), (1000, bU 80 x7 43)]⟩
theorem g20R5 (x0 : Nat) (x1 : Int) (x2 : LN) (x3 : Nat) (x4 : Int) (x5 : Nat) (x6 x7 : LN) : g20D A n (pth 485) K ⟨[(0, pT 0 0), (1, sL 1 none x0 1), (4, pT 1000 0), (16, i6 x1)], [(0, bH 1 x2 none x3 x4), (1, bY x5 x6), (1000, bU 80 x7 43)]⟩ = K .normal (g20R5s0 A x0 x1 x2 x3 x4 x5 x6 x7) := by kernel_rfl
def g20R9s0 (A : Ar) (x0 : Int) (x1 : LN) (x2 : Nat) (x3 : Int) (x4 : Nat) (x5 x6 : LN) : St := ⟨[(8, u64v (x6.getD (A.toN (A.ib .sub .i64 x0 15)) 0)), (7, u64v (x6.getD (A.toN (A.ib .sub .i64 x0 2)) 0)), (45, u64v (x6.getD (A.toN (A.ib .sub .i64 x0 15)) 0)), (44, (.v (.cell (.ptr 1000 0 (some ⟨A.toN (A.ib .sub .i64 x0 15), 1, 80, 0, 0, 0⟩))))), (43, i6 (A.ib .sub .i64 x0 15)), (42, i6 x0), (41, u64v (x6.getD (A.toN (A.ib .sub .i64 x0 2)) 0)), (40, (.v (.cell (.ptr 1000 0 (some ⟨A.toN (A.ib .sub .i64 x0 2), 1, 80, 0, 0, 0⟩))))), (39, i6 (A.ib .sub .i64 x0 2)), (38, i6 x0), (0, pT 0 0), (4, pT 1000 0), (6, i6 x0)], [(0, bH 1 x1 none x2 x3), (1, bY x4 x5), (1000, bU 80 x6 43)]⟩
theorem g20R9 (x0 : Int) (x1 : LN) (x2 : Nat) (x3 : Int) (x4 : Nat) (x5 x6 : LN) : g20D A n (pth 1099) K ⟨[(0, pT 0 0), (4, pT 1000 0), (6, i6 x0)], [(0, bH 1 x1 none x2 x3), (1, bY x4 x5), (1000, bU 80 x6 43)]⟩ = match A.neg (A.ib .sub .i64 x0 2) with
    | true => none
    | false => match A.lt (A.toN (A.ib .sub .i64 x0 2)) 80 with
      | true => match A.neg (A.ib .sub .i64 x0 15) with
        | true => none
        | false => match A.lt (A.toN (A.ib .sub .i64 x0 15)) 80 with
          | true => K .normal (g20R9s0 A x0 x1 x2 x3 x4 x5 x6)
          | false => none
      | false => none := by kernel_rfl
def g20R10s0 (A : Ar) (x0 : Int) (x1 x2 : Nat) (x3 : LN) (x4 : Nat) (x5 : Int) (x6 : Nat) (x7 x8 : LN) : St := ⟨[(56, (.v (.cell (.ptr 1000 0 (some ⟨A.toN x0, 1, 80, 0, 0, 0⟩))))), (55, u64v (A.nb .add .u64 (x8.getD (A.toN (A.ib .sub .i64 x0 7)) 0) (x8.getD (A.toN (A.ib .sub .i64 x0 16)) 0))), (54, u64v (x8.getD (A.toN (A.ib .sub .i64 x0 16)) 0)), (53, (.v (.cell (.ptr 1000 0 (some ⟨A.toN (A.ib .sub .i64 x0 16), 1, 80, 0, 0, 0⟩))))), (52, i6 (A.ib .sub .i64 x0 16)), (51, i6 x0), (50, u64v (x8.getD (A.toN (A.ib .sub .i64 x0 7)) 0)), (49, (.v (.cell (.ptr 1000 0 (some ⟨A.toN (A.ib .sub .i64 x0 7), 1, 80, 0, 0, 0⟩))))), (48, i6 (A.ib .sub .i64 x0 7)), (47, i6 x0), (46, i6 x0), (0, pT 0 0), (4, pT 1000 0), (6, i6 x0), (7, u64v x1), (8, u64v x2)], [(0, bH 1 x3 none x4 x5), (1, bY x6 x7), (1000, bU 80 (x8.set (A.toN x0) (A.nb .add .u64 (x8.getD (A.toN (A.ib .sub .i64 x0 7)) 0) (x8.getD (A.toN (A.ib .sub .i64 x0 16)) 0))) 43)]⟩
theorem g20R10 (x0 : Int) (x1 x2 : Nat) (x3 : LN) (x4 : Nat) (x5 : Int) (x6 : Nat) (x7 x8 : LN) : g20D A n (pth 2635) K ⟨[(0, pT 0 0), (4, pT 1000 0), (6, i6 x0), (7, u64v x1), (8, u64v x2)], [(0, bH 1 x3 none x4 x5), (1, bY x6 x7), (1000, bU 80 x8 43)]⟩ = match A.neg (A.ib .sub .i64 x0 7) with
    | true => none
    | false => match A.lt (A.toN (A.ib .sub .i64 x0 7)) 80 with
      | true => match A.neg (A.ib .sub .i64 x0 16) with
        | true => none
        | false => match A.lt (A.toN (A.ib .sub .i64 x0 16)) 80 with
          | true => match A.neg x0 with
            | true => none
            | false => match A.lt (A.toN x0) 80 with
              | true => K .normal (g20R10s0 A x0 x1 x2 x3 x4 x5 x6 x7 x8)
              | false => none
          | false => none
      | false => none := by kernel_rfl
def g20R11s0 (A : Ar) (x0 : Int) (x1 x2 : Nat) (x3 : LN) (x4 : Nat) (x5 : Int) (x6 : Nat) (x7 x8 : LN) : St := ⟨[(69, (.v (.cell (.ptr 1000 0 (some ⟨A.toN x0, 1, 80, 0, 0, 0⟩))))), (68, u64v (A.nb .add .u64 (x8.getD (A.toN x0) 0) (A.nb .xor .u64 (A.nb .xor .u64 (g27r0 A x1 (-19)) (g27r0 A x1 (-61))) (A.nsh .shr .u64 x1 6)))), (67, u64v (A.nb .xor .u64 (A.nb .xor .u64 (g27r0 A x1 (-19)) (g27r0 A x1 (-61))) (A.nsh .shr .u64 x1 6))), (66, u64v (A.nsh .shr .u64 x1 6)), (65, u64v x1), (64, u64v (A.nb .xor .u64 (g27r0 A x1 (-19)) (g27r0 A x1 (-61)))), (63, u64v (g27r0 A x1 (-61))), (62, u64v x1), (61, u64v (g27r0 A x1 (-19))), (60, u64v x1), (59, u64v (x8.getD (A.toN x0) 0)), (58, (.v (.cell (.ptr 1000 0 (some ⟨A.toN x0, 1, 80, 0, 0, 0⟩))))), (57, i6 x0), (0, pT 0 0), (4, pT 1000 0), (6, i6 x0), (7, u64v x1), (8, u64v x2)], [(0, bH 1 x3 none x4 x5), (1, bY x6 x7), (1000, bU 80 (x8.set (A.toN x0) (A.nb .add .u64 (x8.getD (A.toN x0) 0) (A.nb .xor .u64 (A.nb .xor .u64 (g27r0 A x1 (-19)) (g27r0 A x1 (-61))) (A.nsh .shr .u64 x1 6)))) 43)]⟩
theorem g20R11 (x0 : Int) (x1 x2 : Nat) (x3 : LN) (x4 : Nat) (x5 : Int) (x6 : Nat) (x7 x8 : LN) : g20D A n (pth 5707) K ⟨[(0, pT 0 0), (4, pT 1000 0), (6, i6 x0), (7, u64v x1), (8, u64v x2)], [(0, bH 1 x3 none x4 x5), (1, bY x6 x7), (1000, bU 80 x8 43)]⟩ = match A.neg x0 with
    | true => none
    | false => match A.lt (A.toN x0) 80 with
      | true => match g27ok A x1 (-19) with
        | true => match g27ok A x1 (-61) with
          | true => match A.neg x0 with
            | true => none
            | false => match A.lt (A.toN x0) 80 with
              | true => K .normal (g20R11s0 A x0 x1 x2 x3 x4 x5 x6 x7 x8)
              | false => none
          | false => none
        | false => none
      | false => none := by kernel_rfl
def g20R12s0 (A : Ar) (x0 : Int) (x1 : Nat) (x2 : LN) (x3 : Nat) (x4 : Int) (x5 : Nat) (x6 x7 : LN) : St := ⟨[(82, (.v (.cell (.ptr 1000 0 (some ⟨A.toN x0, 1, 80, 0, 0, 0⟩))))), (81, u64v (A.nb .add .u64 (x7.getD (A.toN x0) 0) (A.nb .xor .u64 (A.nb .xor .u64 (g27r0 A x1 (-1)) (g27r0 A x1 (-8))) (A.nsh .shr .u64 x1 7)))), (80, u64v (A.nb .xor .u64 (A.nb .xor .u64 (g27r0 A x1 (-1)) (g27r0 A x1 (-8))) (A.nsh .shr .u64 x1 7))), (79, u64v (A.nsh .shr .u64 x1 7)), (78, u64v x1), (77, u64v (A.nb .xor .u64 (g27r0 A x1 (-1)) (g27r0 A x1 (-8)))), (76, u64v (g27r0 A x1 (-8))), (75, u64v x1), (74, u64v (g27r0 A x1 (-1))), (73, u64v x1), (72, u64v (x7.getD (A.toN x0) 0)), (71, (.v (.cell (.ptr 1000 0 (some ⟨A.toN x0, 1, 80, 0, 0, 0⟩))))), (70, i6 x0), (0, pT 0 0), (4, pT 1000 0), (6, i6 x0), (8, u64v x1)], [(0, bH 1 x2 none x3 x4), (1, bY x5 x6), (1000, bU 80 (x7.set (A.toN x0) (A.nb .add .u64 (x7.getD (A.toN x0) 0) (A.nb .xor .u64 (A.nb .xor .u64 (g27r0 A x1 (-1)) (g27r0 A x1 (-8))) (A.nsh .shr .u64 x1 7)))) 43)]⟩
theorem g20R12 (x0 : Int) (x1 : Nat) (x2 : LN) (x3 : Nat) (x4 : Int) (x5 : Nat) (x6 x7 : LN) : g20D A n (pth 7755) K ⟨[(0, pT 0 0), (4, pT 1000 0), (6, i6 x0), (8, u64v x1)], [(0, bH 1 x2 none x3 x4), (1, bY x5 x6), (1000, bU 80 x7 43)]⟩ = match A.neg x0 with
    | true => none
    | false => match A.lt (A.toN x0) 80 with
      | true => match g27ok A x1 (-1) with
        | true => match g27ok A x1 (-8) with
          | true => match A.neg x0 with
            | true => none
            | false => match A.lt (A.toN x0) 80 with
              | true => K .normal (g20R12s0 A x0 x1 x2 x3 x4 x5 x6 x7)
              | false => none
          | false => none
        | false => none
      | false => none := by kernel_rfl
def g20R8s0 (A : Ar) (x0 : Int) (x1 : LN) (x2 : Nat) (x3 : Int) (x4 : Nat) (x5 x6 : LN) : St := ⟨[(6, i6 (A.ib .add .i64 x0 1)), (37, i6 (A.ib .add .i64 x0 1)), (36, i6 x0), (0, pT 0 0), (4, pT 1000 0), (6, i6 x0)], [(0, bH 1 x1 none x2 x3), (1, bY x4 x5), (1000, bU 80 x6 43)]⟩
theorem g20R8 (x0 : Int) (x1 : LN) (x2 : Nat) (x3 : Int) (x4 : Nat) (x5 x6 : LN) : g20D A n (pth 459) K ⟨[(0, pT 0 0), (4, pT 1000 0), (6, i6 x0)], [(0, bH 1 x1 none x2 x3), (1, bY x4 x5), (1000, bU 80 x6 43)]⟩ = K .normal (g20R8s0 A x0 x1 x2 x3 x4 x5 x6) := by kernel_rfl
def g20R16s0 (A : Ar) (x0 : Int) (x1 : LN) (x2 : Nat) (x3 : Int) (x4 : Nat) (x5 x6 x7 : LN) : St := ⟨[(10, i6 x0), (89, i6 x0), (0, pT 0 0), (4, pT 1000 0), (9, pT 14004 0), (87, i6 x0)], [(0, bH 1 x1 none x2 x3), (1, bY x4 x5), (1000, bU 80 x6 43), (14004, bU 8 x7 42)]⟩
theorem g20R16 (x0 : Int) (x1 : LN) (x2 : Nat) (x3 : Int) (x4 : Nat) (x5 x6 x7 : LN) : g20D A n (pth 9007) K ⟨[(0, pT 0 0), (4, pT 1000 0), (9, pT 14004 0), (87, i6 x0)], [(0, bH 1 x1 none x2 x3), (1, bY x4 x5), (1000, bU 80 x6 43), (14004, bU 8 x7 42)]⟩ = K .normal (g20R16s0 A x0 x1 x2 x3 x4 x5 x6 x7) := by kernel_rfl
def g20R17s0 (A : Ar) (x0 x1 : Int) (x2 : LN) (x3 : Nat) (x4 : Int) (x5 : Nat) (x6 x7 x8 : LN) : St := ⟨[(12, u64v (x8.getD 0 0)), (11, u64v (x8.getD 4 0)), (93, u64v (x8.getD 0 0)), (92, pT 14004 0), (91, u64v (x8.getD 4 0)), (90, pT 14004 4), (0, pT 0 0), (4, pT 1000 0), (9, pT 14004 0), (10, i6 x0), (87, i6 x1)], [(0, bH 1 x2 none x3 x4), (1, bY x5 x6), (1000, bU 80 x7 43), (14004, bU 8 x8 42)]⟩
theorem g20R17 (x0 x1 : Int) (x2 : LN) (x3 : Nat) (x4 : Int) (x5 : Nat) (x6 x7 x8 : LN) : g20D A n (pth 21295) K ⟨[(0, pT 0 0), (4, pT 1000 0), (9, pT 14004 0), (10, i6 x0), (87, i6 x1)], [(0, bH 1 x2 none x3 x4), (1, bY x5 x6), (1000, bU 80 x7 43), (14004, bU 8 x8 42)]⟩ = K .normal (g20R17s0 A x0 x1 x2 x3 x4 x5 x6 x7 x8) := by kernel_rfl
def g20R18s0 (A : Ar) (x0 : Int) (x1 x2 : Nat) (x3 : Int) (x4 : LN) (x5 : Nat) (x6 : Int) (x7 : Nat) (x8 x9 x10 : LN) : St := ⟨[(13, u64v (A.nb .add .u64 (A.nb .add .u64 (A.nb .add .u64 (x10.getD 7 0) (x4.getD (8 + (A.toN x0)) 0)) (x9.getD (A.toN x0) 0)) (A.nb .xor .u64 (x10.getD 6 0) (A.nb .and .u64 x1 (A.nb .xor .u64 (x10.getD 5 0) (x10.getD 6 0)))))), (117, u64v (A.nb .add .u64 (A.nb .add .u64 (A.nb .add .u64 (x10.getD 7 0) (x4.getD (8 + (A.toN x0)) 0)) (x9.getD (A.toN x0) 0)) (A.nb .xor .u64 (x10.getD 6 0) (A.nb .and .u64 x1 (A.nb .xor .u64 (x10.getD 5 0) (x10.getD 6 0)))))), (116, u64v (A.nb .xor .u64 (x10.getD 6 0) (A.nb .and .u64 x1 (A.nb .xor .u64 (x10.getD 5 0) (x10.getD 6 0))))), (115, u64v (A.nb .and .u64 x1 (A.nb .xor .u64 (x10.getD 5 0) (x10.getD 6 0)))), (114, u64v (A.nb .xor .u64 (x10.getD 5 0) (x10.getD 6 0))), (113, u64v (x10.getD 6 0)), (112, pT 14004 6), (111, u64v (x10.getD 5 0)), (110, pT 14004 5), (109, u64v x1), (108, u64v (x10.getD 6 0)), (107, pT 14004 6), (106, u64v (A.nb .add .u64 (A.nb .add .u64 (x10.getD 7 0) (x4.getD (8 + (A.toN x0)) 0)) (x9.getD (A.toN x0) 0))), (105, u64v (x9.getD (A.toN x0) 0)), (104, (.v (.cell (.ptr 1000 0 (some ⟨A.toN x0, 1, 80, 0, 0, 0⟩))))), (103, i6 x0), (102, u64v (A.nb .add .u64 (x10.getD 7 0) (x4.getD (8 + (A.toN x0)) 0))), (101, u64v (x4.getD (8 + (A.toN x0)) 0)), (100, (.v (.cell (.ptr 0 8 (some ⟨A.toN x0, 1, 80, 0, 0, 0⟩))))), (99, pT 0 8), (98, pT 0 0), (97, i6 x0), (96, pT 0 0), (95, u64v (x10.getD 7 0)), (94, pT 14004 7), (0, pT 0 0), (4, pT 1000 0), (9, pT 14004 0), (10, i6 x0), (11, u64v x1), (12, u64v x2), (87, i6 x3)], [(0, bH 1 x4 none x5 x6), (1, bY x7 x8), (1000, bU 80 x9 43), (14004, bU 8 x10 42)]⟩
theorem g20R18 (x0 : Int) (x1 x2 : Nat) (x3 : Int) (x4 : LN) (x5 : Nat) (x6 : Int) (x7 : Nat) (x8 x9 x10 : LN) : g20D A n (pth 45871) K ⟨[(0, pT 0 0), (4, pT 1000 0), (9, pT 14004 0), (10, i6 x0), (11, u64v x1), (12, u64v x2), (87, i6 x3)], [(0, bH 1 x4 none x5 x6), (1, bY x7 x8), (1000, bU 80 x9 43), (14004, bU 8 x10 42)]⟩ = match A.neg x0 with
    | true => none
    | false => match A.lt (A.toN x0) 80 with
      | true => match A.neg x0 with
        | true => none
        | false => match A.lt (A.toN x0) 80 with
          | true => K .normal (g20R18s0 A x0 x1 x2 x3 x4 x5 x6 x7 x8 x9 x10)
          | false => none
      | false => none := by kernel_rfl
def g20R19s0 (A : Ar) (x0 x1 x2 : Nat) (x3 : Int) (x4 : LN) (x5 : Nat) (x6 : Int) (x7 : Nat) (x8 x9 x10 : LN) : St := ⟨[(13, u64v (A.nb .add .u64 x2 (A.nb .xor .u64 (A.nb .xor .u64 (g27r0 A x0 (-14)) (g27r0 A x0 (-18))) (g27r0 A x0 (-41))))), (127, u64v (A.nb .add .u64 x2 (A.nb .xor .u64 (A.nb .xor .u64 (g27r0 A x0 (-14)) (g27r0 A x0 (-18))) (g27r0 A x0 (-41))))), (126, u64v (A.nb .xor .u64 (A.nb .xor .u64 (g27r0 A x0 (-14)) (g27r0 A x0 (-18))) (g27r0 A x0 (-41)))), (125, u64v (g27r0 A x0 (-41))), (124, u64v x0), (123, u64v (A.nb .xor .u64 (g27r0 A x0 (-14)) (g27r0 A x0 (-18)))), (122, u64v (g27r0 A x0 (-18))), (121, u64v x0), (120, u64v (g27r0 A x0 (-14))), (119, u64v x0), (118, u64v x2), (0, pT 0 0), (4, pT 1000 0), (9, pT 14004 0), (11, u64v x0), (12, u64v x1), (13, u64v x2), (87, i6 x3)], [(0, bH 1 x4 none x5 x6), (1, bY x7 x8), (1000, bU 80 x9 43), (14004, bU 8 x10 42)]⟩
theorem g20R19 (x0 x1 x2 : Nat) (x3 : Int) (x4 : LN) (x5 : Nat) (x6 : Int) (x7 : Nat) (x8 x9 x10 : LN) : g20D A n (pth 95023) K ⟨[(0, pT 0 0), (4, pT 1000 0), (9, pT 14004 0), (11, u64v x0), (12, u64v x1), (13, u64v x2), (87, i6 x3)], [(0, bH 1 x4 none x5 x6), (1, bY x7 x8), (1000, bU 80 x9 43), (14004, bU 8 x10 42)]⟩ = match g27ok A x0 (-14) with
    | true => match g27ok A x0 (-18) with
      | true => match g27ok A x0 (-41) with
        | true => K .normal (g20R19s0 A x0 x1 x2 x3 x4 x5 x6 x7 x8 x9 x10)
        | false => none
      | false => none
    | false => none := by kernel_rfl
def g20R20s0 (A : Ar) (x0 x1 : Nat) (x2 : Int) (x3 : LN) (x4 : Nat) (x5 : Int) (x6 : Nat) (x7 x8 x9 : LN) : St := ⟨[(14, u64v (A.nb .or .u64 (A.nb .and .u64 x0 (x9.getD 1 0)) (A.nb .and .u64 (x9.getD 2 0) (A.nb .or .u64 x0 (x9.getD 1 0))))), (139, u64v (A.nb .or .u64 (A.nb .and .u64 x0 (x9.getD 1 0)) (A.nb .and .u64 (x9.getD 2 0) (A.nb .or .u64 x0 (x9.getD 1 0))))), (138, u64v (A.nb .and .u64 (x9.getD 2 0) (A.nb .or .u64 x0 (x9.getD 1 0)))), (137, u64v (A.nb .or .u64 x0 (x9.getD 1 0))), (136, u64v (x9.getD 1 0)), (135, pT 14004 1), (134, u64v x0), (133, u64v (x9.getD 2 0)), (132, pT 14004 2), (131, u64v (A.nb .and .u64 x0 (x9.getD 1 0))), (130, u64v (x9.getD 1 0)), (129, pT 14004 1), (128, u64v x0), (0, pT 0 0), (4, pT 1000 0), (9, pT 14004 0), (12, u64v x0), (13, u64v x1), (87, i6 x2)], [(0, bH 1 x3 none x4 x5), (1, bY x6 x7), (1000, bU 80 x8 43), (14004, bU 8 x9 42)]⟩
theorem g20R20 (x0 x1 : Nat) (x2 : Int) (x3 : LN) (x4 : Nat) (x5 : Int) (x6 : Nat) (x7 x8 x9 : LN) : g20D A n (pth 193327) K ⟨[(0, pT 0 0), (4, pT 1000 0), (9, pT 14004 0), (12, u64v x0), (13, u64v x1), (87, i6 x2)], [(0, bH 1 x3 none x4 x5), (1, bY x6 x7), (1000, bU 80 x8 43), (14004, bU 8 x9 42)]⟩ = K .normal (g20R20s0 A x0 x1 x2 x3 x4 x5 x6 x7 x8 x9) := by kernel_rfl
def g20R21s0 (A : Ar) (x0 x1 x2 : Nat) (x3 : Int) (x4 : LN) (x5 : Nat) (x6 : Int) (x7 : Nat) (x8 x9 x10 : LN) : St := ⟨[(14, u64v (A.nb .add .u64 x2 (A.nb .xor .u64 (A.nb .xor .u64 (g27r0 A x0 (-28)) (g27r0 A x0 (-34))) (g27r0 A x0 (-39))))), (149, u64v (A.nb .add .u64 x2 (A.nb .xor .u64 (A.nb .xor .u64 (g27r0 A x0 (-28)) (g27r0 A x0 (-34))) (g27r0 A x0 (-39))))), (148, u64v (A.nb .xor .u64 (A.nb .xor .u64 (g27r0 A x0 (-28)) (g27r0 A x0 (-34))) (g27r0 A x0 (-39)))), (147, u64v (g27r0 A x0 (-39))), (146, u64v x0), (145, u64v (A.nb .xor .u64 (g27r0 A x0 (-28)) (g27r0 A x0 (-34)))), (144, u64v (g27r0 A x0 (-34))), (143, u64v x0), (142, u64v (g27r0 A x0 (-28))), (141, u64v x0), (140, u64v x2), (0, pT 0 0), (4, pT 1000 0), (9, pT 14004 0), (12, u64v x0), (13, u64v x1), (14, u64v x2), (87, i6 x3)], [(0, bH 1 x4 none x5 x6), (1, bY x7 x8), (1000, bU 80 x9 43), (14004, bU 8 x10 42)]⟩
theorem g20R21 (x0 x1 x2 : Nat) (x3 : Int) (x4 : LN) (x5 : Nat) (x6 : Int) (x7 : Nat) (x8 x9 x10 : LN) : g20D A n (pth 389935) K ⟨[(0, pT 0 0), (4, pT 1000 0), (9, pT 14004 0), (12, u64v x0), (13, u64v x1), (14, u64v x2), (87, i6 x3)], [(0, bH 1 x4 none x5 x6), (1, bY x7 x8), (1000, bU 80 x9 43), (14004, bU 8 x10 42)]⟩ = match g27ok A x0 (-28) with
    | true => match g27ok A x0 (-34) with
      | true => match g27ok A x0 (-39) with
        | true => K .normal (g20R21s0 A x0 x1 x2 x3 x4 x5 x6 x7 x8 x9 x10)
        | false => none
      | false => none
    | false => none := by kernel_rfl
def g20R22s0 (A : Ar) (x0 x1 : Nat) (x2 : Int) (x3 : LN) (x4 : Nat) (x5 : Int) (x6 : Nat) (x7 x8 x9 : LN) : St := ⟨[(169, aN .u64 8 (((((((([0, 0, 0, 0, 0, 0, 0, 0].set 0 (A.nb .add .u64 x0 x1)).set 1 (x9.getD 0 0)).set 2 (x9.getD 1 0)).set 3 (x9.getD 2 0)).set 4 (A.nb .add .u64 (x9.getD 3 0) x0)).set 5 (x9.getD 4 0)).set 6 (x9.getD 5 0)).set 7 (x9.getD 6 0))), (168, u64v (x9.getD 6 0)), (167, pT 14004 6), (166, u64v (x9.getD 5 0)), (165, pT 14004 5), (164, u64v (x9.getD 4 0)), (163, pT 14004 4), (162, u64v (A.nb .add .u64 (x9.getD 3 0) x0)), (161, u64v x0), (160, u64v (x9.getD 3 0)), (159, pT 14004 3), (158, u64v (x9.getD 2 0)), (157, pT 14004 2), (156, u64v (x9.getD 1 0)), (155, pT 14004 1), (154, u64v (x9.getD 0 0)), (153, pT 14004 0), (152, u64v (A.nb .add .u64 x0 x1)), (151, u64v x1), (150, u64v x0), (0, pT 0 0), (4, pT 1000 0), (9, pT 14004 0), (13, u64v x0), (14, u64v x1), (87, i6 x2)], [(0, bH 1 x3 none x4 x5), (1, bY x6 x7), (1000, bU 80 x8 43), (14004, bU 8 (((((((([0, 0, 0, 0, 0, 0, 0, 0].set 0 (A.nb .add .u64 x0 x1)).set 1 (x9.getD 0 0)).set 2 (x9.getD 1 0)).set 3 (x9.getD 2 0)).set 4 (A.nb .add .u64 (x9.getD 3 0) x0)).set 5 (x9.getD 4 0)).set 6 (x9.getD 5 0)).set 7 (x9.getD 6 0)) 42)]⟩
theorem g20R22 (x0 x1 : Nat) (x2 : Int) (x3 : LN) (x4 : Nat) (x5 : Int) (x6 : Nat) (x7 x8 x9 : LN) : g20D A n (pth 521007) K ⟨[(0, pT 0 0), (4, pT 1000 0), (9, pT 14004 0), (13, u64v x0), (14, u64v x1), (87, i6 x2)], [(0, bH 1 x3 none x4 x5), (1, bY x6 x7), (1000, bU 80 x8 43), (14004, bU 8 x9 42)]⟩ = K .normal (g20R22s0 A x0 x1 x2 x3 x4 x5 x6 x7 x8 x9) := by kernel_rfl
def g20R23s0 (A : Ar) (x0 : Int) (x1 : LN) (x2 : Nat) (x3 : Int) (x4 : Nat) (x5 x6 x7 : LN) : St := ⟨[(87, i6 (A.ib .add .i64 x0 1)), (170, i6 (A.ib .add .i64 x0 1)), (0, pT 0 0), (4, pT 1000 0), (9, pT 14004 0), (87, i6 x0)], [(0, bH 1 x1 none x2 x3), (1, bY x4 x5), (1000, bU 80 x6 43), (14004, bU 8 x7 42)]⟩
theorem g20R23 (x0 : Int) (x1 : LN) (x2 : Nat) (x3 : Int) (x4 : Nat) (x5 x6 x7 : LN) : g20D A n (pth 3887) K ⟨[(0, pT 0 0), (4, pT 1000 0), (9, pT 14004 0), (87, i6 x0)], [(0, bH 1 x1 none x2 x3), (1, bY x4 x5), (1000, bU 80 x6 43), (14004, bU 8 x7 42)]⟩ = K .normal (g20R23s0 A x0 x1 x2 x3 x4 x5 x6 x7) := by kernel_rfl
def g20R26s0 (A : Ar) (x0 : Int) (x1 : LN) (x2 : Nat) (x3 : Int) (x4 : Nat) (x5 x6 : LN) : St := ⟨[(15, i6 x0), (173, i6 x0), (0, pT 0 0), (9, pT 14004 0), (171, i6 x0)], [(0, bH 1 x1 none x2 x3), (1, bY x4 x5), (14004, bU 8 x6 42)]⟩
theorem g20R26 (x0 : Int) (x1 : LN) (x2 : Nat) (x3 : Int) (x4 : Nat) (x5 x6 : LN) : g20D A n (pth 9023) K ⟨[(0, pT 0 0), (9, pT 14004 0), (171, i6 x0)], [(0, bH 1 x1 none x2 x3), (1, bY x4 x5), (14004, bU 8 x6 42)]⟩ = K .normal (g20R26s0 A x0 x1 x2 x3 x4 x5 x6) := by kernel_rfl
def g20R27s0 (A : Ar) (x0 x1 : Int) (x2 : LN) (x3 : Nat) (x4 : Int) (x5 : Nat) (x6 x7 : LN) : St := ⟨[(186, (.v (.cell (.ptr 0 0 (some ⟨A.toN x0, 1, 8, 0, 0, 0⟩))))), (185, pT 0 0), (184, pT 0 0), (183, u64v (A.nb .add .u64 (x2.getD (A.toN x0) 0) (x7.getD (A.toN x0) 0))), (182, u64v (x7.getD (A.toN x0) 0)), (181, (.v (.cell (.ptr 14004 0 (some ⟨A.toN x0, 1, 8, 0, 0, 0⟩))))), (180, i6 x0), (179, u64v (x2.getD (A.toN x0) 0)), (178, (.v (.cell (.ptr 0 0 (some ⟨A.toN x0, 1, 8, 0, 0, 0⟩))))), (177, pT 0 0), (176, pT 0 0), (175, i6 x0), (174, pT 0 0), (0, pT 0 0), (9, pT 14004 0), (15, i6 x0), (171, i6 x1)], [(0, bH 1 (x2.set (A.toN x0) (A.nb .add .u64 (x2.getD (A.toN x0) 0) (x7.getD (A.toN x0) 0))) none x3 x4), (1, bY x5 x6), (14004, bU 8 x7 42)]⟩
theorem g20R27 (x0 x1 : Int) (x2 : LN) (x3 : Nat) (x4 : Int) (x5 : Nat) (x6 x7 : LN) : g20D A n (pth 13119) K ⟨[(0, pT 0 0), (9, pT 14004 0), (15, i6 x0), (171, i6 x1)], [(0, bH 1 x2 none x3 x4), (1, bY x5 x6), (14004, bU 8 x7 42)]⟩ = match A.neg x0 with
    | true => none
    | false => match A.lt (A.toN x0) 8 with
      | true => match A.neg x0 with
        | true => none
        | false => match A.lt (A.toN x0) 8 with
          | true => match A.neg x0 with
            | true => none
            | false => match A.lt (A.toN x0) 8 with
              | true => K .normal (g20R27s0 A x0 x1 x2 x3 x4 x5 x6 x7)
              | false => none
          | false => none
      | false => none := by kernel_rfl
def g20R28s0 (A : Ar) (x0 : Int) (x1 : LN) (x2 : Nat) (x3 : Int) (x4 : Nat) (x5 x6 : LN) : St := ⟨[(171, i6 (A.ib .add .i64 x0 1)), (187, i6 (A.ib .add .i64 x0 1)), (0, pT 0 0), (9, pT 14004 0), (171, i6 x0)], [(0, bH 1 x1 none x2 x3), (1, bY x4 x5), (14004, bU 8 x6 42)]⟩
theorem g20R28 (x0 : Int) (x1 : LN) (x2 : Nat) (x3 : Int) (x4 : Nat) (x5 x6 : LN) : g20D A n (pth 3903) K ⟨[(0, pT 0 0), (9, pT 14004 0), (171, i6 x0)], [(0, bH 1 x1 none x2 x3), (1, bY x4 x5), (14004, bU 8 x6 42)]⟩ = K .normal (g20R28s0 A x0 x1 x2 x3 x4 x5 x6) := by kernel_rfl
def g20R25s0 (A : Ar) (x0 : Int) (x1 : LN) (x2 : Nat) (x3 : Int) (x4 : Nat) (x5 x6 : LN) : St := ⟨[(172, bO (A.ic .lss x0 8)), (0, pT 0 0), (9, pT 14004 0), (171, i6 x0)], [(0, bH 1 x1 none x2 x3), (1, bY x4 x5), (14004, bU 8 x6 42)]⟩
theorem g20R25 (x0 : Int) (x1 : LN) (x2 : Nat) (x3 : Int) (x4 : Nat) (x5 x6 : LN) : g20D A n (pth 575) K ⟨[(0, pT 0 0), (9, pT 14004 0), (171, i6 x0)], [(0, bH 1 x1 none x2 x3), (1, bY x4 x5), (14004, bU 8 x6 42)]⟩ = K .normal (g20R25s0 A x0 x1 x2 x3 x4 x5 x6) := by kernel_rfl
def g20R24s0 (A : Ar) (x0 : LN) (x1 : Nat) (x2 : Int) (x3 : Nat) (x4 x5 : LN) : St := ⟨[(171, i6 0), (0, pT 0 0), (9, pT 14004 0)], [(0, bH 1 x0 none x1 x2), (1, bY x3 x4), (14004, bU 8 x5 42)]⟩
theorem g20R24 (x0 : LN) (x1 : Nat) (x2 : Int) (x3 : Nat) (x4 x5 : LN) : g20D A n (pth 95) K ⟨[(0, pT 0 0), (9, pT 14004 0)], [(0, bH 1 x0 none x1 x2), (1, bY x3 x4), (14004, bU 8 x5 42)]⟩ = K .normal (g20R24s0 A x0 x1 x2 x3 x4 x5) := by kernel_rfl
def g20R15s0 (A : Ar) (x0 : Int) (x1 : LN) (x2 : Nat) (x3 : Int) (x4 : Nat) (x5 x6 x7 : LN) : St := ⟨[(88, bO (A.ic .lss x0 80)), (0, pT 0 0), (4, pT 1000 0), (9, pT 14004 0), (87, i6 x0)], [(0, bH 1 x1 none x2 x3), (1, bY x4 x5), (1000, bU 80 x6 43), (14004, bU 8 x7 42)]⟩
theorem g20R15 (x0 : Int) (x1 : LN) (x2 : Nat) (x3 : Int) (x4 : Nat) (x5 x6 x7 : LN) : g20D A n (pth 559) K ⟨[(0, pT 0 0), (4, pT 1000 0), (9, pT 14004 0), (87, i6 x0)], [(0, bH 1 x1 none x2 x3), (1, bY x4 x5), (1000, bU 80 x6 43), (14004, bU 8 x7 42)]⟩ = K .normal (g20R15s0 A x0 x1 x2 x3 x4 x5 x6 x7) := by kernel_rfl
def g20R13s0 (A : Ar) (x0 : LN) (x1 : Nat) (x2 : Int) (x3 : Nat) (x4 x5 : LN) : St := ⟨[(9, pT 14004 0), (86, aN .u64 8 ((x0.drop 0).take 8)), (85, pT 0 0), (84, pT 0 0), (83, pT 0 0), (0, pT 0 0), (4, pT 1000 0)], [(14004, bU 8 ((x0.drop 0).take 8) 42), (0, bH 1 x0 none x1 x2), (1, bY x3 x4), (1000, bU 80 x5 43)]⟩
theorem g20R13 (x0 : LN) (x1 : Nat) (x2 : Int) (x3 : Nat) (x4 x5 : LN) : g20D A n (pth 23) K ⟨[(0, pT 0 0), (4, pT 1000 0)], [(0, bH 1 x0 none x1 x2), (1, bY x3 x4), (1000, bU 80 x5 43)]⟩ = K .normal (g20R13s0 A x0 x1 x2 x3 x4 x5) := by kernel_rfl
def g20R14s0 (A : Ar) (x0 : LN) (x1 : Nat) (x2 : Int) (x3 : Nat) (x4 x5 x6 : LN) : St := ⟨[(87, i6 0), (0, pT 0 0), (4, pT 1000 0), (9, pT 14004 0)], [(0, bH 1 x0 none x1 x2), (1, bY x3 x4), (1000, bU 80 x5 43), (14004, bU 8 x6 42)]⟩
theorem g20R14 (x0 : LN) (x1 : Nat) (x2 : Int) (x3 : Nat) (x4 x5 x6 : LN) : g20D A n (pth 79) K ⟨[(0, pT 0 0), (4, pT 1000 0), (9, pT 14004 0)], [(0, bH 1 x0 none x1 x2), (1, bY x3 x4), (1000, bU 80 x5 43), (14004, bU 8 x6 42)]⟩ = K .normal (g20R14s0 A x0 x1 x2 x3 x4 x5 x6) := by kernel_rfl
def g20R7s0 (A : Ar) (x0 : Int) (x1 : LN) (x2 : Nat) (x3 : Int) (x4 : Nat) (x5 x6 : LN) : St := ⟨[(35, bO (A.ic .lss x0 80)), (34, i6 x0), (0, pT 0 0), (4, pT 1000 0), (6, i6 x0)], [(0, bH 1 x1 none x2 x3), (1, bY x4 x5), (1000, bU 80 x6 43)]⟩
theorem g20R7 (x0 : Int) (x1 : LN) (x2 : Nat) (x3 : Int) (x4 : Nat) (x5 x6 : LN) : g20D A n (pth 267) K ⟨[(0, pT 0 0), (4, pT 1000 0), (6, i6 x0)], [(0, bH 1 x1 none x2 x3), (1, bY x4 x5), (1000, bU 80 x6 43)]⟩ = K .normal (g20R7s0 A x0 x1 x2 x3 x4 x5 x6) := by kernel_rfl
def g20R6s0 (A : Ar) (x0 : LN) (x1 : Nat) (x2 : Int) (x3 : Nat) (x4 x5 : LN) : St := ⟨[(6, i6 16), (0, pT 0 0), (4, pT 1000 0)], [(0, bH 1 x0 none x1 x2), (1, bY x3 x4), (1000, bU 80 x5 43)]⟩
theorem g20R6 (x0 : LN) (x1 : Nat) (x2 : Int) (x3 : Nat) (x4 x5 : LN) : g20D A n (pth 19) K ⟨[(0, pT 0 0), (4, pT 1000 0)], [(0, bH 1 x0 none x1 x2), (1, bY x3 x4), (1000, bU 80 x5 43)]⟩ = K .normal (g20R6s0 A x0 x1 x2 x3 x4 x5) := by kernel_rfl
def g20R2s0 (A : Ar) (x0 : Nat) (x1 : Int) (x2 : LN) (x3 : Nat) (x4 : Int) (x5 : Nat) (x6 x7 : LN) : St := ⟨[(17, bO (A.ic .lss x1 128)), (0, pT 0 0), (1, sL 1 none x0 1), (4, pT 1000 0), (16, i6 x1)], [(0, bH 1 x2 none x3 x4), (1, bY x5 x6), (1000, bU 80 x7 43)]⟩
theorem g20R2 (x0 : Nat) (x1 : Int) (x2 : LN) (x3 : Nat) (x4 : Int) (x5 : Nat) (x6 x7 : LN) : g20D A n (pth 69) K ⟨[(0, pT 0 0), (1, sL 1 none x0 1), (4, pT 1000 0), (16, i6 x1)], [(0, bH 1 x2 none x3 x4), (1, bY x5 x6), (1000, bU 80 x7 43)]⟩ = K .normal (g20R2s0 A x0 x1 x2 x3 x4 x5 x6 x7) := by kernel_rfl
def g20R0s0 (A : Ar) (x0 : Nat) (x1 : LN) (x2 : Nat) (x3 : Int) (x4 : Nat) (x5 : LN) : St := ⟨[(4, pT 1000 0), (0, pT 0 0), (1, sL 1 none x0 1)], [(1000, bU 80 [0, 0, 0, 0, 0, 0, 0, 0, 0, 0, 0, 0, 0, 0, 0, 0, 0, 0, 0, 0, 0, 0, 0, 0, 0, 0, 0, 0, 0, 0, 0, 0, 0, 0, 0, 0, 0, 0, 0, 0, 0, 0, 0, 0, 0, 0, 0, 0, 0, 0, 0, 0, 0, 0, 0, 0, 0, 0, 0, 0, 0, 0, 0, 0, 0, 0, 0, 0, 0, 0, 0, 0, 0, 0, 0, 0, 0, 0, 0, 0] 43), (0, bH 1 x1 none x2 x3), (1, bY x4 x5)]⟩
theorem g20R0 (x0 : Nat) (x1 : LN) (x2 : Nat) (x3 : Int) (x4 : Nat) (x5 : LN) : g20D A n (pth 2) K ⟨[(0, pT 0 0), (1, sL 1 none x0 1)], [(0, bH 1 x1 none x2 x3), (1, bY x4 x5)]⟩ = K .normal (g20R0s0 A x0 x1 x2 x3 x4 x5) := by kernel_rfl
def g20R1s0 (A : Ar) (x0 : Nat) (x1 : LN) (x2 : Nat) (x3 : Int) (x4 : Nat) (x5 x6 : LN) : St := ⟨[(16, i6 0), (0, pT 0 0), (1, sL 1 none x0 1), (4, pT 1000 0)], [(0, bH 1 x1 none x2 x3), (1, bY x4 x5), (1000, bU 80 x6 43)]⟩
theorem g20R1 (x0 : Nat) (x1 : LN) (x2 : Nat) (x3 : Int) (x4 : Nat) (x5 x6 : LN) : g20D A n (pth 9) K ⟨[(0, pT 0 0), (1, sL 1 none x0 1), (4, pT 1000 0)], [(0, bH 1 x1 none x2 x3), (1, bY x4 x5), (1000, bU 80 x6 43)]⟩ = K .normal (g20R1s0 A x0 x1 x2 x3 x4 x5 x6) := by kernel_rfl
end
def g20J3 {R : Type} (A : Ar) (n : Nat) (kk : KK R) (lg20L2 : Nat → Int → LN → Nat → Int → Nat → LN → LN → Option R) (x0 : Nat) (x1 : Int) (x2 : LN) (x3 : Nat) (x4 : Int) (x5 : Nat) (x6 x7 : LN) : Option R :=
  match A.neg (A.ib .quo .i64 x1 8) with
  | true => none
  | false => match A.lt (A.toN (A.ib .quo .i64 x1 8)) 80 with
    | true => match A.neg x1 with
      | true => none
      | false => match A.lt (A.toN x1) x0 with
        | true => match A.neg (A.ib .quo .i64 x1 8) with
          | true => none
          | false => match A.lt (A.toN (A.ib .quo .i64 x1 8)) 80 with
            | true => lg20L2 x0 (A.ib .add .i64 x1 1) x2 x3 x4 x5 x6 (x7.set (A.toN (A.ib .quo .i64 x1 8)) (A.nb .or .u64 (A.nsh .shl .u64 (x7.getD (A.toN (A.ib .quo .i64 x1 8)) 0) 8) (x6.getD (A.toN x1) 0)))
            | false => none
        | false => none
    | false => none
abbrev u19 (A : Ar) (x7 : LN) (x1 : Int) (x6 : LN) := x7.set (A.toN (A.ib .quo .i64 x1 8)) (A.nb .or .u64 (A.nsh .shl .u64 (x7.getD (A.toN (A.ib .quo .i64 x1 8)) 0) 8) (x6.getD (A.toN x1) 0))
theorem g20J3_eq {R : Type} (A : Ar) (n : Nat) (kk : KK R) (m0 : Nat) (lg20L2 : Nat → Int → LN → Nat → Int → Nat → LN → LN → Option R)
    (hg20L2 : ∀ (s : St) (x0 : Nat) (x1 : Int) (x2 : LN) (x3 : Nat) (x4 : Int) (x5 : Nat) (x6 x7 : LN), keep g20an 2 s = ⟨[(0, pT 0 0), (1, sL 1 none x0 1), (4, pT 1000 0), (16, i6 x1)], [(0, bH 1 x2 none x3 x4), (1, bY x5 x6), (1000, bU 80 x7 43)]⟩ → g20V A n (pth 37) m0 (blockK 0 (g20Q A n (pth 7) (g20T kk))) s = lg20L2 x0 x1 x2 x3 x4 x5 x6 x7) (s : St) (x0 : Nat) (x1 : Int) (x2 : LN) (x3 : Nat) (x4 : Int) (x5 : Nat) (x6 x7 : LN) (h : keep g20an 3 s = ⟨[(0, pT 0 0), (1, sL 1 none x0 1), (4, pT 1000 0), (16, i6 x1)], [(0, bH 1 x2 none x3 x4), (1, bY x5 x6), (1000, bU 80 x7 43)]⟩) :
    g20D A n (pth 229) (g20W A n (pth 37) m0 (blockK 0 (g20Q A n (pth 7) (g20T kk)))) s = g20J3 A n kk lg20L2 x0 x1 x2 x3 x4 x5 x6 x7 := by
  have h1 := (g20Wn A n _ _ _ _).trans (hg20L2 (g20R5s0 A x0 x1 x2 x3 x4 x5 x6 (u19 A x7 x1 x6)) x0 (A.ib .add .i64 x1 1) x2 x3 x4 x5 x6 (u19 A x7 x1 x6) (by kernel_rfl))
  have h2 := (g20F A n _ 5 _ (g20R4s0 A x0 x1 x1 x2 x3 x4 x5 x6 x7) _ (by kernel_rfl) (by kernel_rfl)).trans (g20R5 A n (g20W A n (pth 37) m0 (blockK 0 (g20Q A n (pth 7) (g20T kk)))) x0 x1 x2 x3 x4 x5 x6 (u19 A x7 x1 x6))
  rw [h1] at h2
  have h3 := (g20Qn A n _ _ _).trans h2
  have h4 := (blockK_n 1 _ _).trans h3
  have h5 := (g20F A n _ 4 _ (g20R3s0 A x0 x1 x2 x3 x4 x5 x6 x7) _ (by kernel_rfl) (by kernel_rfl)).trans (g20R4 A n (blockK 1 (g20Q A n (pth 485) (g20W A n (pth 37) m0 (blockK 0 (g20Q A n (pth 7) (g20T kk)))))) x0 x1 x1 x2 x3 x4 x5 x6 x7)
  rw [h4] at h5
  have h6 := (g20Qn A n _ _ _).trans h5
  have h7 := (g20F A n _ 3 _ ⟨[(0, pT 0 0), (1, sL 1 none x0 1), (4, pT 1000 0), (16, i6 x1)], [(0, bH 1 x2 none x3 x4), (1, bY x5 x6), (1000, bU 80 x7 43)]⟩ _ (by kernel_rfl) (by kernel_rfl)).trans (g20R3 A n (g20Q A n (pth 1637) (blockK 1 (g20Q A n (pth 485) (g20W A n (pth 37) m0 (blockK 0 (g20Q A n (pth 7) (g20T kk))))))) x0 x1 x2 x3 x4 x5 x6 x7)
  rw [h6] at h7
  have h8 := (g20p613 A n _ _).trans h7
  have h9 := (g20p357 A n _ _).trans h8
  have h10 := (g20p229 A n _ _).trans h9
  exact (g20F A n _ 3 _ _ ⟨[(0, pT 0 0), (1, sL 1 none x0 1), (4, pT 1000 0), (16, i6 x1)], [(0, bH 1 x2 none x3 x4), (1, bY x5 x6), (1000, bU 80 x7 43)]⟩ (by kernel_rfl) (h.trans (by kernel_rfl))).trans (h10.trans (by kernel_rfl))
def g20J9 {R : Type} (A : Ar) (n : Nat) (kk : KK R) (lg20L7 : Int → LN → Nat → Int → Nat → LN → LN → Option R) (x0 : Int) (x1 : LN) (x2 : Nat) (x3 : Int) (x4 : Nat) (x5 x6 : LN) : Option R :=
  match A.neg (A.ib .sub .i64 x0 2) with
  | true => none
  | false => match A.lt (A.toN (A.ib .sub .i64 x0 2)) 80 with
    | true => match A.neg (A.ib .sub .i64 x0 15) with
      | true => none
      | false => match A.lt (A.toN (A.ib .sub .i64 x0 15)) 80 with
        | true => match A.neg (A.ib .sub .i64 x0 7) with
          | true => none
          | false => match A.lt (A.toN (A.ib .sub .i64 x0 7)) 80 with
            | true => match A.neg (A.ib .sub .i64 x0 16) with
              | true => none
              | false => match A.lt (A.toN (A.ib .sub .i64 x0 16)) 80 with
                | true => match A.neg x0 with
                  | true => none
                  | false => match A.lt (A.toN x0) 80 with
                    | true => match A.neg x0 with
                      | true => none
                      | false => match A.lt (A.toN x0) 80 with
                        | true => match g27ok A (x6.getD (A.toN (A.ib .sub .i64 x0 2)) 0) (-19) with
                          | true => match g27ok A (x6.getD (A.toN (A.ib .sub .i64 x0 2)) 0) (-61) with
                            | true => match A.neg x0 with
                              | true => none
                              | false => match A.lt (A.toN x0) 80 with
                                | true => match A.neg x0 with
                                  | true => none
                                  | false => match A.lt (A.toN x0) 80 with
                                    | true => match g27ok A (x6.getD (A.toN (A.ib .sub .i64 x0 15)) 0) (-1) with
                                      | true => match g27ok A (x6.getD (A.toN (A.ib .sub .i64 x0 15)) 0) (-8) with
                                        | true => match A.neg x0 with
                                          | true => none
                                          | false => match A.lt (A.toN x0) 80 with
                                            | true => lg20L7 (A.ib .add .i64 x0 1) x1 x2 x3 x4 x5 (((x6.set (A.toN x0) (A.nb .add .u64 (x6.getD (A.toN (A.ib .sub .i64 x0 7)) 0) (x6.getD (A.toN (A.ib .sub .i64 x0 16)) 0))).set (A.toN x0) (A.nb .add .u64 ((x6.set (A.toN x0) (A.nb .add .u64 (x6.getD (A.toN (A.ib .sub .i64 x0 7)) 0) (x6.getD (A.toN (A.ib .sub .i64 x0 16)) 0))).getD (A.toN x0) 0) (A.nb .xor .u64 (A.nb .xor .u64 (g27r0 A (x6.getD (A.toN (A.ib .sub .i64 x0 2)) 0) (-19)) (g27r0 A (x6.getD (A.toN (A.ib .sub .i64 x0 2)) 0) (-61))) (A.nsh .shr .u64 (x6.getD (A.toN (A.ib .sub .i64 x0 2)) 0) 6)))).set (A.toN x0) (A.nb .add .u64 (((x6.set (A.toN x0) (A.nb .add .u64 (x6.getD (A.toN (A.ib .sub .i64 x0 7)) 0) (x6.getD (A.toN (A.ib .sub .i64 x0 16)) 0))).set (A.toN x0) (A.nb .add .u64 ((x6.set (A.toN x0) (A.nb .add .u64 (x6.getD (A.toN (A.ib .sub .i64 x0 7)) 0) (x6.getD (A.toN (A.ib .sub .i64 x0 16)) 0))).getD (A.toN x0) 0) (A.nb .xor .u64 (A.nb .xor .u64 (g27r0 A (x6.getD (A.toN (A.ib .sub .i64 x0 2)) 0) (-19)) (g27r0 A (x6.getD (A.toN (A.ib .sub .i64 x0 2)) 0) (-61))) (A.nsh .shr .u64 (x6.getD (A.toN (A.ib .sub .i64 x0 2)) 0) 6)))).getD (A.toN x0) 0) (A.nb .xor .u64 (A.nb .xor .u64 (g27r0 A (x6.getD (A.toN (A.ib .sub .i64 x0 15)) 0) (-1)) (g27r0 A (x6.getD (A.toN (A.ib .sub .i64 x0 15)) 0) (-8))) (A.nsh .shr .u64 (x6.getD (A.toN (A.ib .sub .i64 x0 15)) 0) 7))))
                                            | false => none
                                        | false => none
                                      | false => none
                                    | false => none
                                | false => none
                            | false => none
                          | false => none
                        | false => none
                    | false => none
                | false => none
            | false => none
        | false => none
    | false => none
abbrev u20 (A : Ar) (x6 : LN) (x0 : Int) := (x6.set (A.toN x0) (A.nb .add .u64 (x6.getD (A.toN (A.ib .sub .i64 x0 7)) 0) (x6.getD (A.toN (A.ib .sub .i64 x0 16)) 0))).set (A.toN x0) (A.nb .add .u64 ((x6.set (A.toN x0) (A.nb .add .u64 (x6.getD (A.toN (A.ib .sub .i64 x0 7)) 0) (x6.getD (A.toN (A.ib .sub .i64 x0 16)) 0))).getD (A.toN x0) 0) (A.nb .xor .u64 (A.nb .xor .u64 (g27r0 A (x6.getD (A.toN (A.ib .sub .i64 x0 2)) 0) (-19)) (g27r0 A (x6.getD (A.toN (A.ib .sub .i64 x0 2)) 0) (-61))) (A.nsh .shr .u64 (x6.getD (A.toN (A.ib .sub .i64 x0 2)) 0) 6)))
abbrev u21 (A : Ar) (x6 : LN) (x0 : Int) := (u20 A x6 x0).set (A.toN x0) (A.nb .add .u64 ((u20 A x6 x0).getD (A.toN x0) 0) (A.nb .xor .u64 (A.nb .xor .u64 (g27r0 A (x6.getD (A.toN (A.ib .sub .i64 x0 15)) 0) (-1)) (g27r0 A (x6.getD (A.toN (A.ib .sub .i64 x0 15)) 0) (-8))) (A.nsh .shr .u64 (x6.getD (A.toN (A.ib .sub .i64 x0 15)) 0) 7)))
abbrev u22 (A : Ar) (x6 : LN) (x0 : Int) := x6.getD (A.toN (A.ib .sub .i64 x0 15)) 0
abbrev u23 (A : Ar) (x6 : LN) (x0 : Int) := x6.set (A.toN x0) (A.nb .add .u64 (x6.getD (A.toN (A.ib .sub .i64 x0 7)) 0) (x6.getD (A.toN (A.ib .sub .i64 x0 16)) 0))
abbrev u24 (A : Ar) (x6 : LN) (x0 : Int) := x6.getD (A.toN (A.ib .sub .i64 x0 2)) 0
theorem g20J9_eq {R : Type} (A : Ar) (n : Nat) (kk : KK R) (m0 : Nat) (lg20L7 : Int → LN → Nat → Int → Nat → LN → LN → Option R)
    (hg20L7 : ∀ (s : St) (x0 : Int) (x1 : LN) (x2 : Nat) (x3 : Int) (x4 : Nat) (x5 x6 : LN), keep g20an 7 s = ⟨[(0, pT 0 0), (4, pT 1000 0), (6, i6 x0)], [(0, bH 1 x1 none x2 x3), (1, bY x4 x5), (1000, bU 80 x6 43)]⟩ → g20V A n (pth 75) m0 (blockK 2 (g20Q A n (pth 15) (g20T kk))) s = lg20L7 x0 x1 x2 x3 x4 x5 x6) (s : St) (x0 : Int) (x1 : LN) (x2 : Nat) (x3 : Int) (x4 : Nat) (x5 x6 : LN) (h : keep g20an 9 s = ⟨[(0, pT 0 0), (4, pT 1000 0), (6, i6 x0)], [(0, bH 1 x1 none x2 x3), (1, bY x4 x5), (1000, bU 80 x6 43)]⟩) :
    g20D A n (pth 203) (g20W A n (pth 75) m0 (blockK 2 (g20Q A n (pth 15) (g20T kk)))) s = g20J9 A n kk lg20L7 x0 x1 x2 x3 x4 x5 x6 := by
  have h1 := (g20Wn A n _ _ _ _).trans (hg20L7 (g20R8s0 A x0 x1 x2 x3 x4 x5 (u21 A x6 x0)) (A.ib .add .i64 x0 1) x1 x2 x3 x4 x5 (u21 A x6 x0) (by kernel_rfl))
  have h2 := (g20F A n _ 8 _ (g20R12s0 A x0 (u22 A x6 x0) x1 x2 x3 x4 x5 (u20 A x6 x0)) _ (by kernel_rfl) (by kernel_rfl)).trans (g20R8 A n (g20W A n (pth 75) m0 (blockK 2 (g20Q A n (pth 15) (g20T kk)))) x0 x1 x2 x3 x4 x5 (u21 A x6 x0))
  rw [h1] at h2
  have h3 := (g20Qn A n _ _ _).trans h2
  have h4 := (blockK_n 3 _ _).trans h3
  have h5 := (g20F A n _ 12 _ (g20R11s0 A x0 (u24 A x6 x0) (u22 A x6 x0) x1 x2 x3 x4 x5 (u23 A x6 x0)) _ (by kernel_rfl) (by kernel_rfl)).trans (g20R12 A n (blockK 3 (g20Q A n (pth 459) (g20W A n (pth 75) m0 (blockK 2 (g20Q A n (pth 15) (g20T kk)))))) x0 (u22 A x6 x0) x1 x2 x3 x4 x5 (u20 A x6 x0))
  rw [h4] at h5
  have h6 := (g20Qn A n _ _ _).trans h5
  have h7 := (g20F A n _ 11 _ (g20R10s0 A x0 (u24 A x6 x0) (u22 A x6 x0) x1 x2 x3 x4 x5 x6) _ (by kernel_rfl) (by kernel_rfl)).trans (g20R11 A n (g20Q A n (pth 7755) (blockK 3 (g20Q A n (pth 459) (g20W A n (pth 75) m0 (blockK 2 (g20Q A n (pth 15) (g20T kk))))))) x0 (u24 A x6 x0) (u22 A x6 x0) x1 x2 x3 x4 x5 (u23 A x6 x0))
  rw [h6] at h7
  have h8 := (g20p3659 A n _ _).trans h7
  have h9 := (g20Qn A n _ _ _).trans h8
  have h10 := (g20F A n _ 10 _ (g20R9s0 A x0 x1 x2 x3 x4 x5 x6) _ (by kernel_rfl) (by kernel_rfl)).trans (g20R10 A n (g20Q A n (pth 3659) (blockK 3 (g20Q A n (pth 459) (g20W A n (pth 75) m0 (blockK 2 (g20Q A n (pth 15) (g20T kk))))))) x0 (u24 A x6 x0) (u22 A x6 x0) x1 x2 x3 x4 x5 x6)
  rw [h9] at h10
  have h11 := (g20p1611 A n _ _).trans h10
  have h12 := (g20Qn A n _ _ _).trans h11
  have h13 := (g20F A n _ 9 _ ⟨[(0, pT 0 0), (4, pT 1000 0), (6, i6 x0)], [(0, bH 1 x1 none x2 x3), (1, bY x4 x5), (1000, bU 80 x6 43)]⟩ _ (by kernel_rfl) (by kernel_rfl)).trans (g20R9 A n (g20Q A n (pth 1611) (blockK 3 (g20Q A n (pth 459) (g20W A n (pth 75) m0 (blockK 2 (g20Q A n (pth 15) (g20T kk))))))) x0 x1 x2 x3 x4 x5 x6)
  rw [h12] at h13
  have h14 := (g20p587 A n _ _).trans h13
  have h15 := (g20p331 A n _ _).trans h14
  have h16 := (g20p203 A n _ _).trans h15
  exact (g20F A n _ 9 _ _ ⟨[(0, pT 0 0), (4, pT 1000 0), (6, i6 x0)], [(0, bH 1 x1 none x2 x3), (1, bY x4 x5), (1000, bU 80 x6 43)]⟩ (by kernel_rfl) (h.trans (by kernel_rfl))).trans (h16.trans (by kernel_rfl))
def g20J16 {R : Type} (A : Ar) (n : Nat) (kk : KK R) (lg20L15 : Int → LN → Nat → Int → Nat → LN → LN → LN → Option R) (x0 : Int) (x1 : LN) (x2 : Nat) (x3 : Int) (x4 : Nat) (x5 x6 x7 : LN) : Option R :=
  match A.neg x0 with
  | true => none
  | false => match A.lt (A.toN x0) 80 with
    | true => match A.neg x0 with
      | true => none
      | false => match A.lt (A.toN x0) 80 with
        | true => match g27ok A (x7.getD 4 0) (-14) with
          | true => match g27ok A (x7.getD 4 0) (-18) with
            | true => match g27ok A (x7.getD 4 0) (-41) with
              | true => match g27ok A (x7.getD 0 0) (-28) with
                | true => match g27ok A (x7.getD 0 0) (-34) with
                  | true => match g27ok A (x7.getD 0 0) (-39) with
                    | true => lg20L15 (A.ib .add .i64 x0 1) x1 x2 x3 x4 x5 x6 (((((((([0, 0, 0, 0, 0, 0, 0, 0].set 0 (A.nb .add .u64 (A.nb .add .u64 (A.nb .add .u64 (A.nb .add .u64 (A.nb .add .u64 (x7.getD 7 0) (x1.getD (8 + (A.toN x0)) 0)) (x6.getD (A.toN x0) 0)) (A.nb .xor .u64 (x7.getD 6 0) (A.nb .and .u64 (x7.getD 4 0) (A.nb .xor .u64 (x7.getD 5 0) (x7.getD 6 0))))) (A.nb .xor .u64 (A.nb .xor .u64 (g27r0 A (x7.getD 4 0) (-14)) (g27r0 A (x7.getD 4 0) (-18))) (g27r0 A (x7.getD 4 0) (-41)))) (A.nb .add .u64 (A.nb .or .u64 (A.nb .and .u64 (x7.getD 0 0) (x7.getD 1 0)) (A.nb .and .u64 (x7.getD 2 0) (A.nb .or .u64 (x7.getD 0 0) (x7.getD 1 0)))) (A.nb .xor .u64 (A.nb .xor .u64 (g27r0 A (x7.getD 0 0) (-28)) (g27r0 A (x7.getD 0 0) (-34))) (g27r0 A (x7.getD 0 0) (-39)))))).set 1 (x7.getD 0 0)).set 2 (x7.getD 1 0)).set 3 (x7.getD 2 0)).set 4 (A.nb .add .u64 (x7.getD 3 0) (A.nb .add .u64 (A.nb .add .u64 (A.nb .add .u64 (A.nb .add .u64 (x7.getD 7 0) (x1.getD (8 + (A.toN x0)) 0)) (x6.getD (A.toN x0) 0)) (A.nb .xor .u64 (x7.getD 6 0) (A.nb .and .u64 (x7.getD 4 0) (A.nb .xor .u64 (x7.getD 5 0) (x7.getD 6 0))))) (A.nb .xor .u64 (A.nb .xor .u64 (g27r0 A (x7.getD 4 0) (-14)) (g27r0 A (x7.getD 4 0) (-18))) (g27r0 A (x7.getD 4 0) (-41)))))).set 5 (x7.getD 4 0)).set 6 (x7.getD 5 0)).set 7 (x7.getD 6 0))
                    | false => none
                  | false => none
                | false => none
              | false => none
            | false => none
          | false => none
        | false => none
    | false => none
abbrev u25 (A : Ar) (x7 : LN) (x1 : LN) (x0 : Int) (x6 : LN) := A.nb .add .u64 (A.nb .add .u64 (A.nb .add .u64 (A.nb .add .u64 (x7.getD 7 0) (x1.getD (8 + (A.toN x0)) 0)) (x6.getD (A.toN x0) 0)) (A.nb .xor .u64 (x7.getD 6 0) (A.nb .and .u64 (x7.getD 4 0) (A.nb .xor .u64 (x7.getD 5 0) (x7.getD 6 0))))) (A.nb .xor .u64 (A.nb .xor .u64 (g27r0 A (x7.getD 4 0) (-14)) (g27r0 A (x7.getD 4 0) (-18))) (g27r0 A (x7.getD 4 0) (-41)))
abbrev u26 (A : Ar) (x7 : LN) := A.nb .add .u64 (A.nb .or .u64 (A.nb .and .u64 (x7.getD 0 0) (x7.getD 1 0)) (A.nb .and .u64 (x7.getD 2 0) (A.nb .or .u64 (x7.getD 0 0) (x7.getD 1 0)))) (A.nb .xor .u64 (A.nb .xor .u64 (g27r0 A (x7.getD 0 0) (-28)) (g27r0 A (x7.getD 0 0) (-34))) (g27r0 A (x7.getD 0 0) (-39)))
abbrev u27 (A : Ar) (x7 : LN) (x1 : LN) (x0 : Int) (x6 : LN) := ((((((([0, 0, 0, 0, 0, 0, 0, 0].set 0 (A.nb .add .u64 (u25 A x7 x1 x0 x6) (u26 A x7))).set 1 (x7.getD 0 0)).set 2 (x7.getD 1 0)).set 3 (x7.getD 2 0)).set 4 (A.nb .add .u64 (x7.getD 3 0) (u25 A x7 x1 x0 x6))).set 5 (x7.getD 4 0)).set 6 (x7.getD 5 0)).set 7 (x7.getD 6 0)
abbrev u28 (A : Ar) (x7 : LN) (x1 : LN) (x0 : Int) (x6 : LN) := A.nb .add .u64 (A.nb .add .u64 (A.nb .add .u64 (x7.getD 7 0) (x1.getD (8 + (A.toN x0)) 0)) (x6.getD (A.toN x0) 0)) (A.nb .xor .u64 (x7.getD 6 0) (A.nb .and .u64 (x7.getD 4 0) (A.nb .xor .u64 (x7.getD 5 0) (x7.getD 6 0))))
abbrev u29 (A : Ar) (x7 : LN) := A.nb .or .u64 (A.nb .and .u64 (x7.getD 0 0) (x7.getD 1 0)) (A.nb .and .u64 (x7.getD 2 0) (A.nb .or .u64 (x7.getD 0 0) (x7.getD 1 0)))
theorem g20J16_eq {R : Type} (A : Ar) (n : Nat) (kk : KK R) (m0 : Nat) (lg20L15 : Int → LN → Nat → Int → Nat → LN → LN → LN → Option R)
    (hg20L15 : ∀ (s : St) (x0 : Int) (x1 : LN) (x2 : Nat) (x3 : Int) (x4 : Nat) (x5 x6 x7 : LN), keep g20an 15 s = ⟨[(0, pT 0 0), (4, pT 1000 0), (9, pT 14004 0), (87, i6 x0)], [(0, bH 1 x1 none x2 x3), (1, bY x4 x5), (1000, bU 80 x6 43), (14004, bU 8 x7 42)]⟩ → g20V A n (pth 303) m0 (blockK 4 (g20Q A n (pth 63) (g20T kk))) s = lg20L15 x0 x1 x2 x3 x4 x5 x6 x7) (s : St) (x0 : Int) (x1 : LN) (x2 : Nat) (x3 : Int) (x4 : Nat) (x5 x6 x7 : LN) (h : keep g20an 16 s = ⟨[(0, pT 0 0), (4, pT 1000 0), (9, pT 14004 0), (87, i6 x0)], [(0, bH 1 x1 none x2 x3), (1, bY x4 x5), (1000, bU 80 x6 43), (14004, bU 8 x7 42)]⟩) :
    g20D A n (pth 1839) (g20W A n (pth 303) m0 (blockK 4 (g20Q A n (pth 63) (g20T kk)))) s = g20J16 A n kk lg20L15 x0 x1 x2 x3 x4 x5 x6 x7 := by
  have h1 := (g20Wn A n _ _ _ _).trans (hg20L15 (g20R23s0 A x0 x1 x2 x3 x4 x5 x6 (u27 A x7 x1 x0 x6)) (A.ib .add .i64 x0 1) x1 x2 x3 x4 x5 x6 (u27 A x7 x1 x0 x6) (by kernel_rfl))
  have h2 := (g20F A n _ 23 _ (g20R22s0 A (u25 A x7 x1 x0 x6) (u26 A x7) x0 x1 x2 x3 x4 x5 x6 x7) _ (by kernel_rfl) (by kernel_rfl)).trans (g20R23 A n (g20W A n (pth 303) m0 (blockK 4 (g20Q A n (pth 63) (g20T kk)))) x0 x1 x2 x3 x4 x5 x6 (u27 A x7 x1 x0 x6))
  rw [h1] at h2
  have h3 := (g20Qn A n _ _ _).trans h2
  have h4 := (blockK_n 5 _ _).trans h3
  have h5 := (g20F A n _ 22 _ (g20R21s0 A (x7.getD 0 0) (u25 A x7 x1 x0 x6) (u29 A x7) x0 x1 x2 x3 x4 x5 x6 x7) _ (by kernel_rfl) (by kernel_rfl)).trans (g20R22 A n (blockK 5 (g20Q A n (pth 3887) (g20W A n (pth 303) m0 (blockK 4 (g20Q A n (pth 63) (g20T kk)))))) (u25 A x7 x1 x0 x6) (u26 A x7) x0 x1 x2 x3 x4 x5 x6 x7)
  rw [h4] at h5
  have h6 := (g20Qn A n _ _ _).trans h5
  have h7 := (g20F A n _ 21 _ (g20R20s0 A (x7.getD 0 0) (u25 A x7 x1 x0 x6) x0 x1 x2 x3 x4 x5 x6 x7) _ (by kernel_rfl) (by kernel_rfl)).trans (g20R21 A n (g20Q A n (pth 521007) (blockK 5 (g20Q A n (pth 3887) (g20W A n (pth 303) m0 (blockK 4 (g20Q A n (pth 63) (g20T kk))))))) (x7.getD 0 0) (u25 A x7 x1 x0 x6) (u29 A x7) x0 x1 x2 x3 x4 x5 x6 x7)
  rw [h6] at h7
  have h8 := (g20p258863 A n _ _).trans h7
  have h9 := (g20Qn A n _ _ _).trans h8
  have h10 := (g20F A n _ 20 _ (g20R19s0 A (x7.getD 4 0) (x7.getD 0 0) (u28 A x7 x1 x0 x6) x0 x1 x2 x3 x4 x5 x6 x7) _ (by kernel_rfl) (by kernel_rfl)).trans (g20R20 A n (g20Q A n (pth 258863) (blockK 5 (g20Q A n (pth 3887) (g20W A n (pth 303) m0 (blockK 4 (g20Q A n (pth 63) (g20T kk))))))) (x7.getD 0 0) (u25 A x7 x1 x0 x6) x0 x1 x2 x3 x4 x5 x6 x7)
  rw [h9] at h10
  have h11 := (g20p127791 A n _ _).trans h10
  have h12 := (g20Qn A n _ _ _).trans h11
  have h13 := (g20F A n _ 19 _ (g20R18s0 A x0 (x7.getD 4 0) (x7.getD 0 0) x0 x1 x2 x3 x4 x5 x6 x7) _ (by kernel_rfl) (by kernel_rfl)).trans (g20R19 A n (g20Q A n (pth 127791) (blockK 5 (g20Q A n (pth 3887) (g20W A n (pth 303) m0 (blockK 4 (g20Q A n (pth 63) (g20T kk))))))) (x7.getD 4 0) (x7.getD 0 0) (u28 A x7 x1 x0 x6) x0 x1 x2 x3 x4 x5 x6 x7)
  rw [h12] at h13
  have h14 := (g20p62255 A n _ _).trans h13
  have h15 := (g20Qn A n _ _ _).trans h14
  have h16 := (g20F A n _ 18 _ (g20R17s0 A x0 x0 x1 x2 x3 x4 x5 x6 x7) _ (by kernel_rfl) (by kernel_rfl)).trans (g20R18 A n (g20Q A n (pth 62255) (blockK 5 (g20Q A n (pth 3887) (g20W A n (pth 303) m0 (blockK 4 (g20Q A n (pth 63) (g20T kk))))))) x0 (x7.getD 4 0) (x7.getD 0 0) x0 x1 x2 x3 x4 x5 x6 x7)
  rw [h15] at h16
  have h17 := (g20p29487 A n _ _).trans h16
  have h18 := (g20Qn A n _ _ _).trans h17
  have h19 := (g20F A n _ 17 _ (g20R16s0 A x0 x1 x2 x3 x4 x5 x6 x7) _ (by kernel_rfl) (by kernel_rfl)).trans (g20R17 A n (g20Q A n (pth 29487) (blockK 5 (g20Q A n (pth 3887) (g20W A n (pth 303) m0 (blockK 4 (g20Q A n (pth 63) (g20T kk))))))) x0 x0 x1 x2 x3 x4 x5 x6 x7)
  rw [h18] at h19
  have h20 := (g20p13103 A n _ _).trans h19
  have h21 := (g20Qn A n _ _ _).trans h20
  have h22 := (g20F A n _ 16 _ ⟨[(0, pT 0 0), (4, pT 1000 0), (9, pT 14004 0), (87, i6 x0)], [(0, bH 1 x1 none x2 x3), (1, bY x4 x5), (1000, bU 80 x6 43), (14004, bU 8 x7 42)]⟩ _ (by kernel_rfl) (by kernel_rfl)).trans (g20R16 A n (g20Q A n (pth 13103) (blockK 5 (g20Q A n (pth 3887) (g20W A n (pth 303) m0 (blockK 4 (g20Q A n (pth 63) (g20T kk))))))) x0 x1 x2 x3 x4 x5 x6 x7)
  rw [h21] at h22
  have h23 := (g20p4911 A n _ _).trans h22
  have h24 := (g20p2863 A n _ _).trans h23
  have h25 := (g20p1839 A n _ _).trans h24
  exact (g20F A n _ 16 _ _ ⟨[(0, pT 0 0), (4, pT 1000 0), (9, pT 14004 0), (87, i6 x0)], [(0, bH 1 x1 none x2 x3), (1, bY x4 x5), (1000, bU 80 x6 43), (14004, bU 8 x7 42)]⟩ (by kernel_rfl) (h.trans (by kernel_rfl))).trans (h25.trans (by kernel_rfl))
def g20J26 {R : Type} (A : Ar) (n : Nat) (kk : KK R) (lg20L25 : Int → LN → Nat → Int → Nat → LN → LN → Option R) (x0 : Int) (x1 : LN) (x2 : Nat) (x3 : Int) (x4 : Nat) (x5 x6 : LN) : Option R :=
  match A.neg x0 with
  | true => none
  | false => match A.lt (A.toN x0) 8 with
    | true => match A.neg x0 with
      | true => none
      | false => match A.lt (A.toN x0) 8 with
        | true => match A.neg x0 with
          | true => none
          | false => match A.lt (A.toN x0) 8 with
            | true => lg20L25 (A.ib .add .i64 x0 1) (x1.set (A.toN x0) (A.nb .add .u64 (x1.getD (A.toN x0) 0) (x6.getD (A.toN x0) 0))) x2 x3 x4 x5 x6
            | false => none
        | false => none
    | false => none
abbrev u30 (A : Ar) (x1 : LN) (x0 : Int) (x6 : LN) := x1.set (A.toN x0) (A.nb .add .u64 (x1.getD (A.toN x0) 0) (x6.getD (A.toN x0) 0))
theorem g20J26_eq {R : Type} (A : Ar) (n : Nat) (kk : KK R) (m0 : Nat) (lg20L25 : Int → LN → Nat → Int → Nat → LN → LN → Option R)
    (hg20L25 : ∀ (s : St) (x0 : Int) (x1 : LN) (x2 : Nat) (x3 : Int) (x4 : Nat) (x5 x6 : LN), keep g20an 25 s = ⟨[(0, pT 0 0), (9, pT 14004 0), (171, i6 x0)], [(0, bH 1 x1 none x2 x3), (1, bY x4 x5), (14004, bU 8 x6 42)]⟩ → g20V A n (pth 319) m0 (blockK 6 (g20T kk)) s = lg20L25 x0 x1 x2 x3 x4 x5 x6) (s : St) (x0 : Int) (x1 : LN) (x2 : Nat) (x3 : Int) (x4 : Nat) (x5 x6 : LN) (h : keep g20an 26 s = ⟨[(0, pT 0 0), (9, pT 14004 0), (171, i6 x0)], [(0, bH 1 x1 none x2 x3), (1, bY x4 x5), (14004, bU 8 x6 42)]⟩) :
    g20D A n (pth 1855) (g20W A n (pth 319) m0 (blockK 6 (g20T kk))) s = g20J26 A n kk lg20L25 x0 x1 x2 x3 x4 x5 x6 := by
  have h1 := (g20Wn A n _ _ _ _).trans (hg20L25 (g20R28s0 A x0 (u30 A x1 x0 x6) x2 x3 x4 x5 x6) (A.ib .add .i64 x0 1) (u30 A x1 x0 x6) x2 x3 x4 x5 x6 (by kernel_rfl))
  have h2 := (g20F A n _ 28 _ (g20R27s0 A x0 x0 x1 x2 x3 x4 x5 x6) _ (by kernel_rfl) (by kernel_rfl)).trans (g20R28 A n (g20W A n (pth 319) m0 (blockK 6 (g20T kk))) x0 (u30 A x1 x0 x6) x2 x3 x4 x5 x6)
  rw [h1] at h2
  have h3 := (g20Qn A n _ _ _).trans h2
  have h4 := (blockK_n 7 _ _).trans h3
  have h5 := (g20F A n _ 27 _ (g20R26s0 A x0 x1 x2 x3 x4 x5 x6) _ (by kernel_rfl) (by kernel_rfl)).trans (g20R27 A n (blockK 7 (g20Q A n (pth 3903) (g20W A n (pth 319) m0 (blockK 6 (g20T kk))))) x0 x0 x1 x2 x3 x4 x5 x6)
  rw [h4] at h5
  have h6 := (g20Qn A n _ _ _).trans h5
  have h7 := (g20F A n _ 26 _ ⟨[(0, pT 0 0), (9, pT 14004 0), (171, i6 x0)], [(0, bH 1 x1 none x2 x3), (1, bY x4 x5), (14004, bU 8 x6 42)]⟩ _ (by kernel_rfl) (by kernel_rfl)).trans (g20R26 A n (g20Q A n (pth 13119) (blockK 7 (g20Q A n (pth 3903) (g20W A n (pth 319) m0 (blockK 6 (g20T kk)))))) x0 x1 x2 x3 x4 x5 x6)
  rw [h6] at h7
  have h8 := (g20p4927 A n _ _).trans h7
  have h9 := (g20p2879 A n _ _).trans h8
  have h10 := (g20p1855 A n _ _).trans h9
  exact (g20F A n _ 26 _ _ ⟨[(0, pT 0 0), (9, pT 14004 0), (171, i6 x0)], [(0, bH 1 x1 none x2 x3), (1, bY x4 x5), (14004, bU 8 x6 42)]⟩ (by kernel_rfl) (h.trans (by kernel_rfl))).trans (h10.trans (by kernel_rfl))
def g20L25 {R : Type} (A : Ar) (n : Nat) (kk : KK R) : Nat → Int → LN → Nat → Int → Nat → LN → LN → Option R
  | 0, _, _, _, _, _, _, _ => none
  | m + 1, x0, x1, x2, x3, x4, x5, x6 => match A.ic .lss x0 8 with
  | true => g20J26 A n kk (g20L25 A n kk m) x0 x1 x2 x3 x4 x5 x6
  | false => kk (.tup []) [(0, ⟨[.nums .u64 88 x1, .one (.sl 1 none x2 1), .one (.int .i64 x3)], 45, 1⟩), (1, ⟨[.nums .u8 x4 x5], 5, 2⟩), (14004, bU 8 x6 42)]
theorem g20L25_eq {R : Type} (A : Ar) (n : Nat) (kk : KK R) (m : Nat) (s : St) (x0 : Int) (x1 : LN) (x2 : Nat) (x3 : Int) (x4 : Nat) (x5 x6 : LN) (h : keep g20an 25 s = ⟨[(0, pT 0 0), (9, pT 14004 0), (171, i6 x0)], [(0, bH 1 x1 none x2 x3), (1, bY x4 x5), (14004, bU 8 x6 42)]⟩) :
    g20V A n (pth 319) m (blockK 6 (g20T kk)) s = g20L25 A n kk m x0 x1 x2 x3 x4 x5 x6 := by
  induction m generalizing s x0 x1 x2 x3 x4 x5 x6 with
  | zero => rfl
  | succ m ih =>
    have h1 := (g20Qn A n _ _ _).trans (g20J26_eq A n kk m (g20L25 A n kk m) ih (g20R25s0 A x0 x1 x2 x3 x4 x5 x6) x0 x1 x2 x3 x4 x5 x6 (by kernel_rfl))
    have h2 := (g20p2367 A n _ _).trans h1
    have h3 : (g20T kk) .normal (g20R25s0 A x0 x1 x2 x3 x4 x5 x6) = kk (.tup []) [(0, bH 1 x1 none x2 x3), (1, bY x4 x5), (14004, bU 8 x6 42)] := by kernel_rfl
    have h4 := (blockK_hit 6 _ _).trans h3
    have h5 := (g20We A n (pth 319) m _ _ _).trans h4
    have h6 := (g20Qe A n (pth 1855) _ _ _).trans h5
    have h7 := (g20p3391 A n _ _).trans h6
    have h8 := g20p1343 A n (g20Q A n (pth 1855) (g20W A n (pth 319) m (blockK 6 (g20T kk)))) (g20R25s0 A x0 x1 x2 x3 x4 x5 x6) (A.ic .lss x0 8) (by kernel_rfl)
    rw [h2, h7] at h8
    have h9 := (g20p831 A n _ _).trans h8
    have h10 := (g20Qn A n _ _ _).trans h9
    have h11 := (g20F A n _ 25 _ ⟨[(0, pT 0 0), (9, pT 14004 0), (171, i6 x0)], [(0, bH 1 x1 none x2 x3), (1, bY x4 x5), (14004, bU 8 x6 42)]⟩ _ (by kernel_rfl) (by kernel_rfl)).trans (g20R25 A n (g20Q A n (pth 831) (g20W A n (pth 319) m (blockK 6 (g20T kk)))) x0 x1 x2 x3 x4 x5 x6)
    rw [h10] at h11
    have h12 := (g20p319 A n _ _).trans h11
    exact (loopD_first (s' := ⟨[(0, pT 0 0), (9, pT 14004 0), (171, i6 x0)], [(0, bH 1 x1 none x2 x3), (1, bY x4 x5), (14004, bU 8 x6 42)]⟩) (id := 25) (by kernel_rfl) (h.trans (by kernel_rfl)) _).trans ((g20Vs A n _ m _ _).trans (h12.trans (by kernel_rfl)))
def g20J24 {R : Type} (A : Ar) (n : Nat) (kk : KK R) (x0 : LN) (x1 : Nat) (x2 : Int) (x3 : Nat) (x4 x5 : LN) : Option R :=
  g20L25 A n kk n 0 x0 x1 x2 x3 x4 x5
theorem g20J24_eq {R : Type} (A : Ar) (n : Nat) (kk : KK R) (s : St) (x0 : LN) (x1 : Nat) (x2 : Int) (x3 : Nat) (x4 x5 : LN) (h : keep g20an 24 s = ⟨[(0, pT 0 0), (9, pT 14004 0)], [(0, bH 1 x0 none x1 x2), (1, bY x3 x4), (14004, bU 8 x5 42)]⟩) :
    g20D A n (pth 63) (g20T kk) s = g20J24 A n kk x0 x1 x2 x3 x4 x5 := by
  have h1 := (g20p191 A n _ _).trans (g20L25_eq A n kk n (g20R24s0 A x0 x1 x2 x3 x4 x5) 0 x0 x1 x2 x3 x4 x5 (by kernel_rfl))
  have h2 := (g20p127 A n _ _).trans h1
  have h3 := (g20Qn A n _ _ _).trans h2
  have h4 := (g20F A n _ 24 _ ⟨[(0, pT 0 0), (9, pT 14004 0)], [(0, bH 1 x0 none x1 x2), (1, bY x3 x4), (14004, bU 8 x5 42)]⟩ _ (by kernel_rfl) (by kernel_rfl)).trans (g20R24 A n (g20Q A n (pth 127) (g20T kk)) x0 x1 x2 x3 x4 x5)
  rw [h3] at h4
  have h5 := (g20p63 A n _ _).trans h4
  exact (g20F A n _ 24 _ _ ⟨[(0, pT 0 0), (9, pT 14004 0)], [(0, bH 1 x0 none x1 x2), (1, bY x3 x4), (14004, bU 8 x5 42)]⟩ (by kernel_rfl) (h.trans (by kernel_rfl))).trans (h5.trans (by kernel_rfl))
def g20L15 {R : Type} (A : Ar) (n : Nat) (kk : KK R) : Nat → Int → LN → Nat → Int → Nat → LN → LN → LN → Option R
  | 0, _, _, _, _, _, _, _, _ => none
  | m + 1, x0, x1, x2, x3, x4, x5, x6, x7 => match A.ic .lss x0 80 with
  | true => g20J16 A n kk (g20L15 A n kk m) x0 x1 x2 x3 x4 x5 x6 x7
  | false => g20J24 A n kk x1 x2 x3 x4 x5 x7
theorem g20L15_eq {R : Type} (A : Ar) (n : Nat) (kk : KK R) (m : Nat) (s : St) (x0 : Int) (x1 : LN) (x2 : Nat) (x3 : Int) (x4 : Nat) (x5 x6 x7 : LN) (h : keep g20an 15 s = ⟨[(0, pT 0 0), (4, pT 1000 0), (9, pT 14004 0), (87, i6 x0)], [(0, bH 1 x1 none x2 x3), (1, bY x4 x5), (1000, bU 80 x6 43), (14004, bU 8 x7 42)]⟩) :
    g20V A n (pth 303) m (blockK 4 (g20Q A n (pth 63) (g20T kk))) s = g20L15 A n kk m x0 x1 x2 x3 x4 x5 x6 x7 := by
  induction m generalizing s x0 x1 x2 x3 x4 x5 x6 x7 with
  | zero => rfl
  | succ m ih =>
    have h1 := (g20Qn A n _ _ _).trans (g20J16_eq A n kk m (g20L15 A n kk m) ih (g20R15s0 A x0 x1 x2 x3 x4 x5 x6 x7) x0 x1 x2 x3 x4 x5 x6 x7 (by kernel_rfl))
    have h2 := (g20p2351 A n _ _).trans h1
    have h3 := (g20Qn A n _ _ _).trans (g20J24_eq A n kk (g20R15s0 A x0 x1 x2 x3 x4 x5 x6 x7) x1 x2 x3 x4 x5 x7 (by kernel_rfl))
    have h4 := (blockK_hit 4 _ _).trans h3
    have h5 := (g20We A n (pth 303) m _ _ _).trans h4
    have h6 := (g20Qe A n (pth 1839) _ _ _).trans h5
    have h7 := (g20p3375 A n _ _).trans h6
    have h8 := g20p1327 A n (g20Q A n (pth 1839) (g20W A n (pth 303) m (blockK 4 (g20Q A n (pth 63) (g20T kk))))) (g20R15s0 A x0 x1 x2 x3 x4 x5 x6 x7) (A.ic .lss x0 80) (by kernel_rfl)
    rw [h2, h7] at h8
    have h9 := (g20p815 A n _ _).trans h8
    have h10 := (g20Qn A n _ _ _).trans h9
    have h11 := (g20F A n _ 15 _ ⟨[(0, pT 0 0), (4, pT 1000 0), (9, pT 14004 0), (87, i6 x0)], [(0, bH 1 x1 none x2 x3), (1, bY x4 x5), (1000, bU 80 x6 43), (14004, bU 8 x7 42)]⟩ _ (by kernel_rfl) (by kernel_rfl)).trans (g20R15 A n (g20Q A n (pth 815) (g20W A n (pth 303) m (blockK 4 (g20Q A n (pth 63) (g20T kk))))) x0 x1 x2 x3 x4 x5 x6 x7)
    rw [h10] at h11
    have h12 := (g20p303 A n _ _).trans h11
    exact (loopD_first (s' := ⟨[(0, pT 0 0), (4, pT 1000 0), (9, pT 14004 0), (87, i6 x0)], [(0, bH 1 x1 none x2 x3), (1, bY x4 x5), (1000, bU 80 x6 43), (14004, bU 8 x7 42)]⟩) (id := 15) (by kernel_rfl) (h.trans (by kernel_rfl)) _).trans ((g20Vs A n _ m _ _).trans (h12.trans (by kernel_rfl)))
def g20J13 {R : Type} (A : Ar) (n : Nat) (kk : KK R) (x0 : LN) (x1 : Nat) (x2 : Int) (x3 : Nat) (x4 x5 : LN) : Option R :=
  g20L15 A n kk n 0 x0 x1 x2 x3 x4 x5 ((x0.drop 0).take 8)
theorem g20J13_eq {R : Type} (A : Ar) (n : Nat) (kk : KK R) (s : St) (x0 : LN) (x1 : Nat) (x2 : Int) (x3 : Nat) (x4 x5 : LN) (h : keep g20an 13 s = ⟨[(0, pT 0 0), (4, pT 1000 0)], [(0, bH 1 x0 none x1 x2), (1, bY x3 x4), (1000, bU 80 x5 43)]⟩) :
    g20D A n (pth 15) (g20T kk) s = g20J13 A n kk x0 x1 x2 x3 x4 x5 := by
  have h1 := (g20p175 A n _ _).trans (g20L15_eq A n kk n (g20R14s0 A x0 x1 x2 x3 x4 x5 ((x0.drop 0).take 8)) 0 x0 x1 x2 x3 x4 x5 ((x0.drop 0).take 8) (by kernel_rfl))
  have h2 := (g20p111 A n _ _).trans h1
  have h3 := (g20Qn A n _ _ _).trans h2
  have h4 := (g20F A n _ 14 _ (g20R13s0 A x0 x1 x2 x3 x4 x5) _ (by kernel_rfl) (by kernel_rfl)).trans (g20R14 A n (g20Q A n (pth 111) (g20Q A n (pth 63) (g20T kk))) x0 x1 x2 x3 x4 x5 ((x0.drop 0).take 8))
  rw [h3] at h4
  have h5 := (g20p47 A n _ _).trans h4
  have h6 := (g20p31 A n _ _).trans h5
  have h7 := (g20Qn A n _ _ _).trans h6
  have h8 := (g20F A n _ 13 _ ⟨[(0, pT 0 0), (4, pT 1000 0)], [(0, bH 1 x0 none x1 x2), (1, bY x3 x4), (1000, bU 80 x5 43)]⟩ _ (by kernel_rfl) (by kernel_rfl)).trans (g20R13 A n (g20Q A n (pth 31) (g20T kk)) x0 x1 x2 x3 x4 x5)
  rw [h7] at h8
  have h9 := (g20p15 A n _ _).trans h8
  exact (g20F A n _ 13 _ _ ⟨[(0, pT 0 0), (4, pT 1000 0)], [(0, bH 1 x0 none x1 x2), (1, bY x3 x4), (1000, bU 80 x5 43)]⟩ (by kernel_rfl) (h.trans (by kernel_rfl))).trans (h9.trans (by kernel_rfl))
def g20L7 {R : Type} (A : Ar) (n : Nat) (kk : KK R) : Nat → Int → LN → Nat → Int → Nat → LN → LN → Option R
  | 0, _, _, _, _, _, _, _ => none
  | m + 1, x0, x1, x2, x3, x4, x5, x6 => match A.ic .lss x0 80 with
  | true => g20J9 A n kk (g20L7 A n kk m) x0 x1 x2 x3 x4 x5 x6
  | false => g20J13 A n kk x1 x2 x3 x4 x5 x6
theorem g20L7_eq {R : Type} (A : Ar) (n : Nat) (kk : KK R) (m : Nat) (s : St) (x0 : Int) (x1 : LN) (x2 : Nat) (x3 : Int) (x4 : Nat) (x5 x6 : LN) (h : keep g20an 7 s = ⟨[(0, pT 0 0), (4, pT 1000 0), (6, i6 x0)], [(0, bH 1 x1 none x2 x3), (1, bY x4 x5), (1000, bU 80 x6 43)]⟩) :
    g20V A n (pth 75) m (blockK 2 (g20Q A n (pth 15) (g20T kk))) s = g20L7 A n kk m x0 x1 x2 x3 x4 x5 x6 := by
  induction m generalizing s x0 x1 x2 x3 x4 x5 x6 with
  | zero => rfl
  | succ m ih =>
    have h1 := (g20Qn A n _ _ _).trans (g20J9_eq A n kk m (g20L7 A n kk m) ih (g20R7s0 A x0 x1 x2 x3 x4 x5 x6) x0 x1 x2 x3 x4 x5 x6 (by kernel_rfl))
    have h2 := (g20p651 A n _ _).trans h1
    have h3 := (g20Qn A n _ _ _).trans (g20J13_eq A n kk (g20R7s0 A x0 x1 x2 x3 x4 x5 x6) x1 x2 x3 x4 x5 x6 (by kernel_rfl))
    have h4 := (blockK_hit 2 _ _).trans h3
    have h5 := (g20We A n (pth 75) m _ _ _).trans h4
    have h6 := (g20Qe A n (pth 203) _ _ _).trans h5
    have h7 := (g20p907 A n _ _).trans h6
    have h8 := g20p395 A n (g20Q A n (pth 203) (g20W A n (pth 75) m (blockK 2 (g20Q A n (pth 15) (g20T kk))))) (g20R7s0 A x0 x1 x2 x3 x4 x5 x6) (A.ic .lss x0 80) (by kernel_rfl)
    rw [h2, h7] at h8
    have h9 := (g20Qn A n _ _ _).trans h8
    have h10 := (g20F A n _ 7 _ ⟨[(0, pT 0 0), (4, pT 1000 0), (6, i6 x0)], [(0, bH 1 x1 none x2 x3), (1, bY x4 x5), (1000, bU 80 x6 43)]⟩ _ (by kernel_rfl) (by kernel_rfl)).trans (g20R7 A n (g20Q A n (pth 395) (g20Q A n (pth 203) (g20W A n (pth 75) m (blockK 2 (g20Q A n (pth 15) (g20T kk)))))) x0 x1 x2 x3 x4 x5 x6)
    rw [h9] at h10
    have h11 := (g20p139 A n _ _).trans h10
    have h12 := (g20p75 A n _ _).trans h11
    exact (loopD_first (s' := ⟨[(0, pT 0 0), (4, pT 1000 0), (6, i6 x0)], [(0, bH 1 x1 none x2 x3), (1, bY x4 x5), (1000, bU 80 x6 43)]⟩) (id := 7) (by kernel_rfl) (h.trans (by kernel_rfl)) _).trans ((g20Vs A n _ m _ _).trans (h12.trans (by kernel_rfl)))
def g20J6 {R : Type} (A : Ar) (n : Nat) (kk : KK R) (x0 : LN) (x1 : Nat) (x2 : Int) (x3 : Nat) (x4 x5 : LN) : Option R :=
  g20L7 A n kk n 16 x0 x1 x2 x3 x4 x5
theorem g20J6_eq {R : Type} (A : Ar) (n : Nat) (kk : KK R) (s : St) (x0 : LN) (x1 : Nat) (x2 : Int) (x3 : Nat) (x4 x5 : LN) (h : keep g20an 6 s = ⟨[(0, pT 0 0), (4, pT 1000 0)], [(0, bH 1 x0 none x1 x2), (1, bY x3 x4), (1000, bU 80 x5 43)]⟩) :
    g20D A n (pth 7) (g20T kk) s = g20J6 A n kk x0 x1 x2 x3 x4 x5 := by
  have h1 := (g20p43 A n _ _).trans (g20L7_eq A n kk n (g20R6s0 A x0 x1 x2 x3 x4 x5) 16 x0 x1 x2 x3 x4 x5 (by kernel_rfl))
  have h2 := (g20p27 A n _ _).trans h1
  have h3 := (g20Qn A n _ _ _).trans h2
  have h4 := (g20F A n _ 6 _ ⟨[(0, pT 0 0), (4, pT 1000 0)], [(0, bH 1 x0 none x1 x2), (1, bY x3 x4), (1000, bU 80 x5 43)]⟩ _ (by kernel_rfl) (by kernel_rfl)).trans (g20R6 A n (g20Q A n (pth 27) (g20Q A n (pth 15) (g20T kk))) x0 x1 x2 x3 x4 x5)
  rw [h3] at h4
  have h5 := (g20p11 A n _ _).trans h4
  have h6 := (g20p7 A n _ _).trans h5
  exact (g20F A n _ 6 _ _ ⟨[(0, pT 0 0), (4, pT 1000 0)], [(0, bH 1 x0 none x1 x2), (1, bY x3 x4), (1000, bU 80 x5 43)]⟩ (by kernel_rfl) (h.trans (by kernel_rfl))).trans (h6.trans (by kernel_rfl))
def g20L2 {R : Type} (A : Ar) (n : Nat) (kk : KK R) : Nat → Nat → Int → LN → Nat → Int → Nat → LN → LN → Option R
  | 0, _, _, _, _, _, _, _, _ => none
  | m + 1, x0, x1, x2, x3, x4, x5, x6, x7 => match A.ic .lss x1 128 with
  | true => g20J3 A n kk (g20L2 A n kk m) x0 x1 x2 x3 x4 x5 x6 x7
  | false => g20J6 A n kk x2 x3 x4 x5 x6 x7
theorem g20L2_eq {R : Type} (A : Ar) (n : Nat) (kk : KK R) (m : Nat) (s : St) (x0 : Nat) (x1 : Int) (x2 : LN) (x3 : Nat) (x4 : Int) (x5 : Nat) (x6 x7 : LN) (h : keep g20an 2 s = ⟨[(0, pT 0 0), (1, sL 1 none x0 1), (4, pT 1000 0), (16, i6 x1)], [(0, bH 1 x2 none x3 x4), (1, bY x5 x6), (1000, bU 80 x7 43)]⟩) :
    g20V A n (pth 37) m (blockK 0 (g20Q A n (pth 7) (g20T kk))) s = g20L2 A n kk m x0 x1 x2 x3 x4 x5 x6 x7 := by
  induction m generalizing s x0 x1 x2 x3 x4 x5 x6 x7 with
  | zero => rfl
  | succ m ih =>
    have h1 := (g20Qn A n _ _ _).trans (g20J3_eq A n kk m (g20L2 A n kk m) ih (g20R2s0 A x0 x1 x2 x3 x4 x5 x6 x7) x0 x1 x2 x3 x4 x5 x6 x7 (by kernel_rfl))
    have h2 := (g20p293 A n _ _).trans h1
    have h3 := (g20Qn A n _ _ _).trans (g20J6_eq A n kk (g20R2s0 A x0 x1 x2 x3 x4 x5 x6 x7) x2 x3 x4 x5 x6 x7 (by kernel_rfl))
    have h4 := (blockK_hit 0 _ _).trans h3
    have h5 := (g20We A n (pth 37) m _ _ _).trans h4
    have h6 := (g20Qe A n (pth 229) _ _ _).trans h5
    have h7 := (g20p421 A n _ _).trans h6
    have h8 := g20p165 A n (g20Q A n (pth 229) (g20W A n (pth 37) m (blockK 0 (g20Q A n (pth 7) (g20T kk))))) (g20R2s0 A x0 x1 x2 x3 x4 x5 x6 x7) (A.ic .lss x1 128) (by kernel_rfl)
    rw [h2, h7] at h8
    have h9 := (g20p101 A n _ _).trans h8
    have h10 := (g20Qn A n _ _ _).trans h9
    have h11 := (g20F A n _ 2 _ ⟨[(0, pT 0 0), (1, sL 1 none x0 1), (4, pT 1000 0), (16, i6 x1)], [(0, bH 1 x2 none x3 x4), (1, bY x5 x6), (1000, bU 80 x7 43)]⟩ _ (by kernel_rfl) (by kernel_rfl)).trans (g20R2 A n (g20Q A n (pth 101) (g20W A n (pth 37) m (blockK 0 (g20Q A n (pth 7) (g20T kk))))) x0 x1 x2 x3 x4 x5 x6 x7)
    rw [h10] at h11
    have h12 := (g20p37 A n _ _).trans h11
    exact (loopD_first (s' := ⟨[(0, pT 0 0), (1, sL 1 none x0 1), (4, pT 1000 0), (16, i6 x1)], [(0, bH 1 x2 none x3 x4), (1, bY x5 x6), (1000, bU 80 x7 43)]⟩) (id := 2) (by kernel_rfl) (h.trans (by kernel_rfl)) _).trans ((g20Vs A n _ m _ _).trans (h12.trans (by kernel_rfl)))
def g20 {R : Type} (A : Ar) (n : Nat) (kk : KK R) (x0 : Nat) (x1 : LN) (x2 : Nat) (x3 : Int) (x4 : Nat) (x5 : LN) : Option R :=
  g20L2 A n kk n x0 0 x1 x2 x3 x4 x5 [0, 0, 0, 0, 0, 0, 0, 0, 0, 0, 0, 0, 0, 0, 0, 0, 0, 0, 0, 0, 0, 0, 0, 0, 0, 0, 0, 0, 0, 0, 0, 0, 0, 0, 0, 0, 0, 0, 0, 0, 0, 0, 0, 0, 0, 0, 0, 0, 0, 0, 0, 0, 0, 0, 0, 0, 0, 0, 0, 0, 0, 0, 0, 0, 0, 0, 0, 0, 0, 0, 0, 0, 0, 0, 0, 0, 0, 0, 0, 0]
abbrev z80 : LN := [0, 0, 0, 0, 0, 0, 0, 0, 0, 0, 0, 0, 0, 0, 0, 0, 0, 0, 0, 0, 0, 0, 0, 0, 0, 0, 0, 0, 0, 0, 0, 0, 0, 0, 0, 0, 0, 0, 0, 0, 0, 0, 0, 0, 0, 0, 0, 0, 0, 0, 0, 0, 0, 0, 0, 0, 0, 0, 0, 0, 0, 0, 0, 0, 0, 0, 0, 0, 0, 0, 0, 0, 0, 0, 0, 0, 0, 0, 0, 0]
theorem g20_eq {R : Type} (A : Ar) (n : Nat) (kk : KK R) (x0 : Nat) (x1 : LN) (x2 : Nat) (x3 : Int) (x4 : Nat) (x5 : LN) :
    funD A gtys (g20O A) g20an n (bodyOf Try.f20) g20res [(pT 0 0), (sL 1 none x0 1)] [(0, bH 1 x1 none x2 x3), (1, bY x4 x5)] kk = g20 A n kk x0 x1 x2 x3 x4 x5 := by
  have h1 := (g20p21 A n _ _).trans (g20L2_eq A n kk n (g20R1s0 A x0 x1 x2 x3 x4 x5 z80) x0 0 x1 x2 x3 x4 x5 z80 (by kernel_rfl))
  have h2 := (g20p13 A n _ _).trans h1
  have h3 := (g20Qn A n _ _ _).trans h2
  have h4 := (g20F A n _ 1 _ (g20R0s0 A x0 x1 x2 x3 x4 x5) _ (by kernel_rfl) (by kernel_rfl)).trans (g20R1 A n (g20Q A n (pth 13) (g20Q A n (pth 7) (g20T kk))) x0 x1 x2 x3 x4 x5 z80)
  rw [h3] at h4
  have h5 := (g20p5 A n _ _).trans h4
  have h6 := (g20p3 A n _ _).trans h5
  have h7 := (g20Qn A n _ _ _).trans h6
  have h8 := (g20F A n _ 0 _ ⟨[(0, pT 0 0), (1, sL 1 none x0 1)], [(0, bH 1 x1 none x2 x3), (1, bY x4 x5)]⟩ _ (by kernel_rfl) (by kernel_rfl)).trans (g20R0 A n (g20Q A n (pth 3) (g20T kk)) x0 x1 x2 x3 x4 x5)
  rw [h7] at h8
  have h9 := (g20p1 A n _ _).trans h8
  exact (show funD A gtys (g20O A) g20an n (bodyOf Try.f20) g20res [(pT 0 0), (sL 1 none x0 1)] [(0, bH 1 x1 none x2 x3), (1, bY x4 x5)] kk = g20D A n (pth 1) (g20T kk) ⟨[(0, pT 0 0), (1, sL 1 none x0 1)], [(0, bH 1 x1 none x2 x3), (1, bY x4 x5)]⟩ from by kernel_rfl).trans (h9.trans (by kernel_rfl))
def g20is (o : Option (AV × Heap)) : Bool := match o with
  | some (.tup [], [(n0, ⟨[.nums .u64 n1 _, .one (.sl n2 none _ n3), .one (.int .i64 _)], n4, n5⟩), (n6, ⟨[.nums .u8 _ _], n7, n8⟩)]) => Nat.beq n0 0 && (Nat.beq n1 88 && (Nat.beq n2 1 && (Nat.beq n3 1 && (Nat.beq n4 45 && (Nat.beq n5 1 && (Nat.beq n6 1 && (Nat.beq n7 5 && (Nat.beq n8 2))))))))
  | _ => false
def g20g0 (o : Option (AV × Heap)) : LN := match o with
  | some (.tup [], [(_, ⟨[.nums .u64 _ x, .one (.sl _ none _ _), .one (.int .i64 _)], _, _⟩), (_, ⟨[.nums .u8 _ _], _, _⟩)]) => x
  | _ => []
def g20g1 (o : Option (AV × Heap)) : Nat := match o with
  | some (.tup [], [(_, ⟨[.nums .u64 _ _, .one (.sl _ none x _), .one (.int .i64 _)], _, _⟩), (_, ⟨[.nums .u8 _ _], _, _⟩)]) => x
  | _ => 0
def g20g2 (o : Option (AV × Heap)) : Int := match o with
  | some (.tup [], [(_, ⟨[.nums .u64 _ _, .one (.sl _ none _ _), .one (.int .i64 x)], _, _⟩), (_, ⟨[.nums .u8 _ _], _, _⟩)]) => x
  | _ => 0
def g20g3 (o : Option (AV × Heap)) : Nat := match o with
  | some (.tup [], [(_, ⟨[.nums .u64 _ _, .one (.sl _ none _ _), .one (.int .i64 _)], _, _⟩), (_, ⟨[.nums .u8 x _], _, _⟩)]) => x
  | _ => 0
def g20g4 (o : Option (AV × Heap)) : LN := match o with
  | some (.tup [], [(_, ⟨[.nums .u64 _ _, .one (.sl _ none _ _), .one (.int .i64 _)], _, _⟩), (_, ⟨[.nums .u8 _ x], _, _⟩)]) => x
  | _ => []
theorem g20is_spec {o : Option (AV × Heap)} (h : g20is o = true) : o = some ((.tup []), [(0, ⟨[.nums .u64 88 (g20g0 o), .one (.sl 1 none (g20g1 o) 1), .one (.int .i64 (g20g2 o))], 45, 1⟩), (1, ⟨[.nums .u8 (g20g3 o) (g20g4 o)], 5, 2⟩)]) := by
  unfold g20is at h
  split at h
  · rename_i n0 n1 z2 n2 z4 n3 z6 n4 n5 n6 z10 z11 n7 n8
    simp only [Bool.and_eq_true] at h
    have en0 := beq_true h.1
    subst en0
    replace h := h.2
    have en1 := beq_true h.1
    subst en1
    replace h := h.2
    have en2 := beq_true h.1
    subst en2
    replace h := h.2
    have en3 := beq_true h.1
    subst en3
    replace h := h.2
    have en4 := beq_true h.1
    subst en4
    replace h := h.2
    have en5 := beq_true h.1
    subst en5
    replace h := h.2
    have en6 := beq_true h.1
    subst en6
    replace h := h.2
    have en7 := beq_true h.1
    subst en7
    replace h := h.2
    have en8 := beq_true h
    subst en8
    rfl
  · cases h
def g20v (A : Ar) (x0 : Nat) (x1 : LN) (x2 : Nat) (x3 : Int) (x4 : Nat) (x5 : LN) : Option (AV × Heap) := g20 A (100000) (outH [0, 1] none) x0 x1 x2 x3 x4 x5
def g20ok (A : Ar) (x0 : Nat) (x1 : LN) (x2 : Nat) (x3 : Int) (x4 : Nat) (x5 : LN) : Bool := g20is (g20v A x0 x1 x2 x3 x4 x5)
def g20r0 (A : Ar) (x0 : Nat) (x1 : LN) (x2 : Nat) (x3 : Int) (x4 : Nat) (x5 : LN) : LN := g20g0 (g20v A x0 x1 x2 x3 x4 x5)
def g20r1 (A : Ar) (x0 : Nat) (x1 : LN) (x2 : Nat) (x3 : Int) (x4 : Nat) (x5 : LN) : Nat := g20g1 (g20v A x0 x1 x2 x3 x4 x5)
def g20r2 (A : Ar) (x0 : Nat) (x1 : LN) (x2 : Nat) (x3 : Int) (x4 : Nat) (x5 : LN) : Int := g20g2 (g20v A x0 x1 x2 x3 x4 x5)
def g20r3 (A : Ar) (x0 : Nat) (x1 : LN) (x2 : Nat) (x3 : Int) (x4 : Nat) (x5 : LN) : Nat := g20g3 (g20v A x0 x1 x2 x3 x4 x5)
def g20r4 (A : Ar) (x0 : Nat) (x1 : LN) (x2 : Nat) (x3 : Int) (x4 : Nat) (x5 : LN) : LN := g20g4 (g20v A x0 x1 x2 x3 x4 x5)
theorem g20ok_spec {A : Ar} {x0 x1 x2 x3 x4 x5} (h : g20ok A x0 x1 x2 x3 x4 x5 = true) : g20v A x0 x1 x2 x3 x4 x5 = some ((.tup []), [(0, ⟨[.nums .u64 88 (g20r0 A x0 x1 x2 x3 x4 x5), .one (.sl 1 none (g20r1 A x0 x1 x2 x3 x4 x5) 1), .one (.int .i64 (g20r2 A x0 x1 x2 x3 x4 x5))], 45, 1⟩), (1, ⟨[.nums .u8 (g20r3 A x0 x1 x2 x3 x4 x5) (g20r4 A x0 x1 x2 x3 x4 x5)], 5, 2⟩)]) := g20is_spec h
def g20o (A : Ar) (args : List AV) (h : Heap) : Option (Bool × AV × Heap) := match args, h with
  | [.v (.cell (.ptr n0 n1 none)), .v (.cell (.sl n2 none x0 n3))], [(n4, ⟨[.nums .u64 n5 x1, .one (.sl n6 none x2 n7), .one (.int .i64 x3)], n8, n9⟩), (n10, ⟨[.nums .u8 x4 x5], n11, n12⟩)] => match Nat.beq n0 0 && (Nat.beq n1 0 && (Nat.beq n2 1 && (Nat.beq n3 1 && (Nat.beq n4 0 && (Nat.beq n5 88 && (Nat.beq n6 1 && (Nat.beq n7 1 && (Nat.beq n8 45 && (Nat.beq n9 1 && (Nat.beq n10 1 && (Nat.beq n11 5 && (Nat.beq n12 2)))))))))))) with
    | true => some (g20ok A x0 x1 x2 x3 x4 x5, (.tup []), [(0, ⟨[.nums .u64 88 (g20r0 A x0 x1 x2 x3 x4 x5), .one (.sl 1 none (g20r1 A x0 x1 x2 x3 x4 x5) 1), .one (.int .i64 (g20r2 A x0 x1 x2 x3 x4 x5))], 45, 1⟩), (1, ⟨[.nums .u8 (g20r3 A x0 x1 x2 x3 x4 x5) (g20r4 A x0 x1 x2 x3 x4 x5)], 5, 2⟩)])
    | false => none
  | _, _ => none
theorem g20o_sound : ∀ args h v h', g20o realA args h = some (true, v, h') → FnH Try.prog 20 args h v h' := by
  intro args h v h' hh
  unfold g20o at hh
  split at hh
  · rename_i n0 n1 n2 x0 n3 n4 n5 x1 n6 x2 n7 x3 n8 n9 n10 x4 x5 n11 n12
    split at hh
    case h_2 => cases hh
    rename_i hc0
    simp only [Option.some.injEq, Prod.mk.injEq] at hh
    obtain ⟨hc, hv, hh⟩ := hh
    subst hv
    subst hh
    simp only [Bool.and_eq_true] at hc0
    have en0 := beq_true hc0.1
    subst en0
    replace hc0 := hc0.2
    have en1 := beq_true hc0.1
    subst en1
    replace hc0 := hc0.2
    have en2 := beq_true hc0.1
    subst en2
    replace hc0 := hc0.2
    have en3 := beq_true hc0.1
    subst en3
    replace hc0 := hc0.2
    have en4 := beq_true hc0.1
    subst en4
    replace hc0 := hc0.2
    have en5 := beq_true hc0.1
    subst en5
    replace hc0 := hc0.2
    have en6 := beq_true hc0.1
    subst en6
    replace hc0 := hc0.2
    have en7 := beq_true hc0.1
    subst en7
    replace hc0 := hc0.2
    have en8 := beq_true hc0.1
    subst en8
    replace hc0 := hc0.2
    have en9 := beq_true hc0.1
    subst en9
    replace hc0 := hc0.2
    have en10 := beq_true hc0.1
    subst en10
    replace hc0 := hc0.2
    have en11 := beq_true hc0.1
    subst en11
    replace hc0 := hc0.2
    have en12 := beq_true hc0
    subst en12
    exact fnh_of mixed gtysOK g20O_sound g20O_det (an := g20an) (n := 100000) Try.func20 (c := bodyOf Try.f20) rfl (by kernel_rfl) Try.call20 (Nat.le_of_ble_eq_true rfl) (pins := [0, 1]) (nilr := none) (fun _ => (g20_eq realA (100000) (outH [0, 1] none) x0 x1 x2 x3 x4 x5).trans (show g20v realA x0 x1 x2 x3 x4 x5 = _ from g20ok_spec hc))
  · cases hh
def g20a_O (A : Ar) : Orc := orcOf [(27, g27o A)]
theorem g20a_O_sound : OSound Try.prog (g20a_O realA) := orc_sound fun f g hm args v hv => by
  simp only [List.mem_cons, List.not_mem_nil, or_false, Prod.mk.injEq] at hm
  rcases hm with ⟨rfl, rfl⟩
  · exact g27o_sound _ _ hv
theorem g20a_O_det : ODet (g20a_O realA) := orc_det _
def g20a_an : Ann := [(0, ([0, 1], [0, 1])), (1, ([0, 1, 4], [0, 1, 1000])), (2, ([0, 1, 4, 16], [0, 1, 1000])), (3, ([0, 1, 4, 16], [0, 1, 1000])), (4, ([0, 1, 4, 5, 16], [0, 1, 1000])), (5, ([0, 1, 4, 16], [0, 1, 1000])), (6, ([0, 4], [0, 1, 1000])), (7, ([0, 4, 6], [0, 1, 1000])), (8, ([0, 4, 6], [0, 1, 1000])), (9, ([0, 4, 6], [0, 1, 1000])), (10, ([0, 4, 6, 7, 8], [0, 1, 1000])), (11, ([0, 4, 6, 7, 8], [0, 1, 1000])), (12, ([0, 4, 6, 8], [0, 1, 1000])), (13, ([0, 4], [0, 1, 1000])), (14, ([0, 4, 9], [0, 1, 1000, 14004])), (15, ([0, 4, 9, 87], [0, 1, 1000, 14004])), (16, ([0, 4, 9, 87], [0, 1, 1000, 14004])), (17, ([0, 4, 9, 10, 87], [0, 1, 1000, 14004])), (18, ([0, 4, 9, 10, 11, 12, 87], [0, 1, 1000, 14004])), (19, ([0, 4, 9, 11, 12, 13, 87], [0, 1, 1000, 14004])), (20, ([0, 4, 9, 12, 13, 87], [0, 1, 1000, 14004])), (21, ([0, 4, 9, 12, 13, 14, 87], [0, 1, 1000, 14004])), (22, ([0, 4, 9, 13, 14, 87], [0, 1, 1000, 14004])), (23, ([0, 4, 9, 87], [0, 1, 1000, 14004])), (24, ([0, 9], [0, 1, 14004])), (25, ([0, 9, 171], [0, 1, 14004])), (26, ([0, 9, 171], [0, 1, 14004])), (27, ([0, 9, 15, 171], [0, 1, 14004])), (28, ([0, 9, 171], [0, 1, 14004]))]
def g20a_res : List ResultVar := []
noncomputable def g20a_D {R : Type} (A : Ar) (n : Nat) (p : List Bool) (K : Ex → St → Option R) (s : St) : Option R := codeD A gtys (g20a_O A) g20a_an n (sub (bodyOf Try.f20) p) K s
noncomputable def g20a_V {R : Type} (A : Ar) (n : Nat) (p : List Bool) (m : Nat) (K : Ex → St → Option R) (s : St) : Option R := loopD (fun K' s'' => codeD A gtys (g20a_O A) g20a_an n (sub (bodyOf Try.f20) p) K' s'') m K s
noncomputable def g20a_Q {R : Type} (A : Ar) (n : Nat) (p : List Bool) (K : Ex → St → Option R) : Ex → St → Option R := seqC (g20a_D A n p K) K
noncomputable def g20a_W {R : Type} (A : Ar) (n : Nat) (p : List Bool) (m : Nat) (K : Ex → St → Option R) : Ex → St → Option R := seqC (g20a_V A n p m K) K
noncomputable def g20a_T {R : Type} (kk : KK R) : Ex → St → Option R := finD gtys g20a_res kk
theorem g20a_Qn {R : Type} (A : Ar) (n : Nat) (p : List Bool) (K : Ex → St → Option R) (s : St) : g20a_Q A n p K .normal s = g20a_D A n p K s := rfl
theorem g20a_Qe {R : Type} (A : Ar) (n : Nat) (p : List Bool) (K : Ex → St → Option R) (i : Nat) (s : St) : g20a_Q A n p K (.exit i) s = K (.exit i) s := rfl
theorem g20a_Wn {R : Type} (A : Ar) (n : Nat) (p : List Bool) (m : Nat) (K : Ex → St → Option R) (s : St) : g20a_W A n p m K .normal s = g20a_V A n p m K s := rfl
theorem g20a_We {R : Type} (A : Ar) (n : Nat) (p : List Bool) (m : Nat) (K : Ex → St → Option R) (i : Nat) (s : St) : g20a_W A n p m K (.exit i) s = K (.exit i) s := rfl
theorem g20a_Vs {R : Type} (A : Ar) (n : Nat) (p : List Bool) (m : Nat) (K : Ex → St → Option R) (s : St) : g20a_V A n p (m + 1) K s = g20a_D A n p (g20a_W A n p m K) s := rfl
theorem g20a_F {R : Type} (A : Ar) (n : Nat) (p : List Bool) (i : Nat) (K : Ex → St → Option R) (s s' : St) (hf : firstReg (sub (bodyOf Try.f20) p) = some i) (h : keep g20a_an i s = keep g20a_an i s') : g20a_D A n p K s = g20a_D A n p K s' := codeD_first hf h K
section
variable {R : Type} (A : Ar) (n : Nat) (K : Ex → St → Option R) (s : St)
theorem g20a_p1 : g20a_D A n (pth 1) K s = g20a_D A n (pth 2) (g20a_Q A n (pth 3) K) s := by kernel_rfl
theorem g20a_p3 : g20a_D A n (pth 3) K s = g20a_D A n (pth 5) (g20a_Q A n (pth 7) K) s := by kernel_rfl
theorem g20a_p5 : g20a_D A n (pth 5) K s = g20a_D A n (pth 9) (g20a_Q A n (pth 13) K) s := by kernel_rfl
theorem g20a_p13 : g20a_D A n (pth 13) K s = g20a_D A n (pth 21) (blockK 0 K) s := by kernel_rfl
theorem g20a_p21 : g20a_D A n (pth 21) K s = g20a_V A n (pth 37) n K s := by kernel_rfl
theorem g20a_p37 : g20a_D A n (pth 37) K s = g20a_D A n (pth 69) (g20a_Q A n (pth 101) K) s := by kernel_rfl
theorem g20a_p101 : g20a_D A n (pth 101) K s = g20a_D A n (pth 165) (g20a_Q A n (pth 229) K) s := by kernel_rfl
theorem g20a_p165 (t : Bool) : ev s (.tmp 17) = some (.v (.cell (.bool t))) → g20a_D A n (pth 165) K s = (match t with
    | true => g20a_D A n (pth 293) K s
    | false => g20a_D A n (pth 421) K s) := codeD_cond t
theorem g20a_p293 : g20a_D A n (pth 293) K s = K .normal s := by kernel_rfl
theorem g20a_p421 : g20a_D A n (pth 421) K s = K (.exit 0) s := by kernel_rfl
theorem g20a_p229 : g20a_D A n (pth 229) K s = g20a_D A n (pth 357) (g20a_Q A n (pth 485) K) s := by kernel_rfl
theorem g20a_p357 : g20a_D A n (pth 357) K s = g20a_D A n (pth 613) (blockK 1 K) s := by kernel_rfl
theorem g20a_p613 : g20a_D A n (pth 613) K s = g20a_D A n (pth 1125) (g20a_Q A n (pth 1637) K) s := by kernel_rfl
theorem g20a_p7 : g20a_D A n (pth 7) K s = g20a_D A n (pth 11) (g20a_Q A n (pth 15) K) s := by kernel_rfl
theorem g20a_p11 : g20a_D A n (pth 11) K s = g20a_D A n (pth 19) (g20a_Q A n (pth 27) K) s := by kernel_rfl
theorem g20a_p27 : g20a_D A n (pth 27) K s = g20a_D A n (pth 43) (blockK 2 K) s := by kernel_rfl
theorem g20a_p43 : g20a_D A n (pth 43) K s = g20a_V A n (pth 75) n K s := by kernel_rfl
theorem g20a_p75 : g20a_D A n (pth 75) K s = g20a_D A n (pth 139) (g20a_Q A n (pth 203) K) s := by kernel_rfl
theorem g20a_p139 : g20a_D A n (pth 139) K s = g20a_D A n (pth 267) (g20a_Q A n (pth 395) K) s := by kernel_rfl
theorem g20a_p395 (t : Bool) : ev s (.tmp 35) = some (.v (.cell (.bool t))) → g20a_D A n (pth 395) K s = (match t with
    | true => g20a_D A n (pth 651) K s
    | false => g20a_D A n (pth 907) K s) := codeD_cond t
theorem g20a_p651 : g20a_D A n (pth 651) K s = K .normal s := by kernel_rfl
theorem g20a_p907 : g20a_D A n (pth 907) K s = K (.exit 2) s := by kernel_rfl
theorem g20a_p203 : g20a_D A n (pth 203) K s = g20a_D A n (pth 331) (g20a_Q A n (pth 459) K) s := by kernel_rfl
theorem g20a_p331 : g20a_D A n (pth 331) K s = g20a_D A n (pth 587) (blockK 3 K) s := by kernel_rfl
theorem g20a_p587 : g20a_D A n (pth 587) K s = g20a_D A n (pth 1099) (g20a_Q A n (pth 1611) K) s := by kernel_rfl
theorem g20a_p1611 : g20a_D A n (pth 1611) K s = g20a_D A n (pth 2635) (g20a_Q A n (pth 3659) K) s := by kernel_rfl
theorem g20a_p3659 : g20a_D A n (pth 3659) K s = g20a_D A n (pth 5707) (g20a_Q A n (pth 7755) K) s := by kernel_rfl
theorem g20a_p15 : g20a_D A n (pth 15) K s = g20a_D A n (pth 23) (g20a_Q A n (pth 31) K) s := by kernel_rfl
theorem g20a_p31 : g20a_D A n (pth 31) K s = g20a_D A n (pth 47) (g20a_Q A n (pth 63) K) s := by kernel_rfl
theorem g20a_p47 : g20a_D A n (pth 47) K s = g20a_D A n (pth 79) (g20a_Q A n (pth 111) K) s := by kernel_rfl
theorem g20a_p111 : g20a_D A n (pth 111) K s = g20a_D A n (pth 175) (blockK 4 K) s := by kernel_rfl
theorem g20a_p175 : g20a_D A n (pth 175) K s = g20a_V A n (pth 303) n K s := by kernel_rfl
theorem g20a_p303 : g20a_D A n (pth 303) K s = g20a_D A n (pth 559) (g20a_Q A n (pth 815) K) s := by kernel_rfl
theorem g20a_p815 : g20a_D A n (pth 815) K s = g20a_D A n (pth 1327) (g20a_Q A n (pth 1839) K) s := by kernel_rfl
theorem g20a_p1327 (t : Bool) : ev s (.tmp 88) = some (.v (.cell (.bool t))) → g20a_D A n (pth 1327) K s = (match t with
    | true => g20a_D A n (pth 2351) K s
    | false => g20a_D A n (pth 3375) K s) := codeD_cond t
theorem g20a_p2351 : g20a_D A n (pth 2351) K s = K .normal s := by kernel_rfl
theorem g20a_p3375 : g20a_D A n (pth 3375) K s = K (.exit 4) s := by kernel_rfl
theorem g20a_p1839 : g20a_D A n (pth 1839) K s = g20a_D A n (pth 2863) (g20a_Q A n (pth 3887) K) s := by kernel_rfl
theorem g20a_p2863 : g20a_D A n (pth 2863) K s = g20a_D A n (pth 4911) (blockK 5 K) s := by kernel_rfl
theorem g20a_p4911 : g20a_D A n (pth 4911) K s = g20a_D A n (pth 9007) (g20a_Q A n (pth 13103) K) s := by kernel_rfl
theorem g20a_p13103 : g20a_D A n (pth 13103) K s = g20a_D A n (pth 21295) (g20a_Q A n (pth 29487) K) s := by kernel_rfl
theorem g20a_p29487 : g20a_D A n (pth 29487) K s = g20a_D A n (pth 45871) (g20a_Q A n (pth 62255) K) s := by kernel_rfl
theorem g20a_p62255 : g20a_D A n (pth 62255) K s = g20a_D A n (pth 95023) (g20a_Q A n (pth 127791) K) s := by kernel_rfl
theorem g20a_p127791 : g20a_D A n (pth 127791) K s = g20a_D A n (pth 193327) (g20a_Q A n (pth 258863) K) s := by kernel_rfl
theorem g20a_p258863 : g20a_D A n (pth 258863) K s = g20a_D A n (pth 389935) (g20a_Q A n (pth 521007) K) s := by kernel_rfl
theorem g20a_p63 : g20a_D A n (pth 63) K s = g20a_D A n (pth 95) (g20a_Q A n (pth 127) K) s := by kernel_rfl
theorem g20a_p127 : g20a_D A n (pth 127) K s = g20a_D A n (pth 191) (blockK 6 K) s := by kernel_rfl
theorem g20a_p191 : g20a_D A n (pth 191) K s = g20a_V A n (pth 319) n K s := by kernel_rfl
theorem g20a_p319 : g20a_D A n (pth 319) K s = g20a_D A n (pth 575) (g20a_Q A n (pth 831) K) s := by kernel_rfl
theorem g20a_p831 : g20a_D A n (pth 831) K s = g20a_D A n (pth 1343) (g20a_Q A n (pth 1855) K) s := by kernel_rfl
theorem g20a_p1343 (t : Bool) : ev s (.tmp 172) = some (.v (.cell (.bool t))) → g20a_D A n (pth 1343) K s = (match t with
    | true => g20a_D A n (pth 2367) K s
    | false => g20a_D A n (pth 3391) K s) := codeD_cond t
theorem g20a_p2367 : g20a_D A n (pth 2367) K s = K .normal s := by kernel_rfl
theorem g20a_p3391 : g20a_D A n (pth 3391) K s = K (.exit 6) s := by kernel_rfl
theorem g20a_p1855 : g20a_D A n (pth 1855) K s = g20a_D A n (pth 2879) (g20a_Q A n (pth 3903) K) s := by kernel_rfl
theorem g20a_p2879 : g20a_D A n (pth 2879) K s = g20a_D A n (pth 4927) (blockK 7 K) s := by kernel_rfl
theorem g20a_p4927 : g20a_D A n (pth 4927) K s = g20a_D A n (pth 9023) (g20a_Q A n (pth 13119) K) s := by kernel_rfl
def g20a_R3s0 (A : Ar) (x0 x1 : Nat) (x2 : Int) (x3 : LN) (x4 x5 : Nat) (x6 : Int) (x7 : Nat) (x8 x9 : LN) : St := ⟨[(5, i6 x2), (18, i6 x2), (0, pT 0 0), (1, sL 1 (some x0) x1 1), (4, pT 1000 0), (16, i6 x2)], [(0, bH 1 x3 (some x4) x5 x6), (1, bY x7 x8), (1000, bU 80 x9 43)]⟩
theorem g20a_R3 (x0 x1 : Nat) (x2 : Int) (x3 : LN) (x4 x5 : Nat) (x6 : Int) (x7 : Nat) (x8 x9 : LN) : g20a_D A n (pth 1125) K ⟨[(0, pT 0 0), (1, sL 1 (some x0) x1 1), (4, pT 1000 0), (16, i6 x2)], [(0, bH 1 x3 (some x4) x5 x6), (1, bY x7 x8), (1000, bU 80 x9 43)]⟩ = K .normal (g20a_R3s0 A x0 x1 x2 x3 x4 x5 x6 x7 x8 x9) := by kernel_rfl
def g20a_R4s0 (A : Ar) (x0 x1 : Nat) (x2 x3 : Int) (x4 : LN) (x5 x6 : Nat) (x7 : Int) (x8 : Nat) (x9 x10 : LN) : St := ⟨[(32, (.v (.cell (.ptr 1000 0 (some ⟨A.toN (A.ib .quo .i64 x2 8), 1, 80, 0, 0, 0⟩))))), (31, u64v (A.nb .or .u64 (A.nsh .shl .u64 (x10.getD (A.toN (A.ib .quo .i64 x2 8)) 0) 8) (x9.getD (x0 + (A.toN x2)) 0))), (30, u64v (x9.getD (x0 + (A.toN x2)) 0)), (29, u8v (x9.getD (x0 + (A.toN x2)) 0)), (28, (.v (.cell (.ptr 1 0 (some ⟨x0 + (A.toN x2), 1, x0 + x1, 0, 0, 0⟩))))), (27, i6 x2), (26, sL 1 (some x0) x1 1), (25, u64v (A.nsh .shl .u64 (x10.getD (A.toN (A.ib .quo .i64 x2 8)) 0) 8)), (24, u64v (x10.getD (A.toN (A.ib .quo .i64 x2 8)) 0)), (23, (.v (.cell (.ptr 1000 0 (some ⟨A.toN (A.ib .quo .i64 x2 8), 1, 80, 0, 0, 0⟩))))), (22, i6 (A.ib .quo .i64 x2 8)), (21, i6 x2), (20, i6 (A.ib .quo .i64 x2 8)), (19, i6 x2), (0, pT 0 0), (1, sL 1 (some x0) x1 1), (4, pT 1000 0), (5, i6 x2), (16, i6 x3)], [(0, bH 1 x4 (some x5) x6 x7), (1, bY x8 x9), (1000, bU 80 (x10.set (A.toN (A.ib .quo .i64 x2 8)) (A.nb .or .u64 (A.nsh .shl .u64 (x10.getD (A.toN (A.ib .quo .i64 x2 8)) 0) 8) (x9.getD (x0 + (A.toN x2)) 0))) 43)]⟩
theorem g20a_R4 (x0 x1 : Nat) (x2 x3 : Int) (x4 : LN) (x5 x6 : Nat) (x7 : Int) (x8 : Nat) (x9 x10 : LN) : g20a_D A n (pth 1637) K ⟨[(0, pT 0 0), (1, sL 1 (some x0) x1 1), (4, pT 1000 0), (5, i6 x2), (16, i6 x3)], [(0, bH 1 x4 (some x5) x6 x7), (1, bY x8 x9), (1000, bU 80 x10 43)]⟩ = match A.neg (A.ib .quo .i64 x2 8) with
    | true => none
    | false => match A.lt (A.toN (A.ib .quo .i64 x2 8)) 80 with
      | true => match A.neg x2 with
        | true => none
        | false => match A.lt (A.toN x2) x1 with
          | true => match A.neg (A.ib .quo .i64 x2 8) with
            | true => none
            | false => match A.lt (A.toN (A.ib .quo .i64 x2 8)) 80 with
              | true => K .normal (g20a_R4s0 A x0 x1 x2 x3 x4 x5 x6 x7 x8 x9 x10)
              | false => none
          | false => none
      | false => none := by kernel_rfl
def g20a_R5s0 (A : Ar) (x0 x1 : Nat) (x2 : Int) (x3 : LN) (x4 x5 : Nat) (x6 : Int) (x7 : Nat) (x8 x9 : LN) : St := ⟨[(16, i6 (A.ib .add .i64 x2 1)), (33, i6 (A.ib .add .i64 x2 1)), (0, pT 0 0), (1, sL 1 (some x0) x1 1), (4, pT 1000 0), (16, i6 x2)], [(0, bH 1 x3 (some x4) x5 x6), (1, bY x7 x8), (1000, bU 80 x9 43)]⟩
theorem g20a_R5 (x0 x1 : Nat) (x2 : Int) (x3 : LN) (x4 x5 : Nat) (x6 : Int) (x7 : Nat) (x8 x9 : LN) : g20a_D A n (pth 485) K ⟨[(0, pT 0 0), (1, sL 1 (some x0) x1 1), (4, pT 1000 0), (16, i6 x2)], [(0, bH 1 x3 (some x4) x5 x6), (1, bY x7 x8), (1000, bU 80 x9 43)]⟩ = K .normal (g20a_R5s0 A x0 x1 x2 x3 x4 x5 x6 x7 x8 x9) := by kernel_rfl
def g20a_R9s0 (A : Ar) (x0 : Int) (x1 : LN) (x2 x3 : Nat) (x4 : Int) (x5 : Nat) (x6 x7 : LN) : St := ⟨[(8, u64v (x7.getD (A.toN (A.ib .sub .i64 x0 15)) 0)), (7, u64v (x7.getD (A.toN (A.ib .sub .i64 x0 2)) 0)), (45, u64v (x7.getD (A.toN (A.ib .sub .i64 x0 15)) 0)), (44, (.v (.cell (.ptr 1000 0 (some ⟨A.toN (A.ib .sub .i64 x0 15), 1, 80, 0, 0, 0⟩))))), (43, i6 (A.ib .sub .i64 x0 15)), (42, i6 x0), (41, u64v (x7.getD (A.toN (A.ib .sub .i64 x0 2)) 0)), (40, (.v (.cell (.ptr 1000 0 (some ⟨A.toN (A.ib .sub .i64 x0 2), 1, 80, 0, 0, 0⟩))))), (39, i6 (A.ib .sub .i64 x0 2)), (38, i6 x0), (0, pT 0 0), (4, pT 1000 0), (6, i6 x0)], [(0, bH 1 x1 (some x2) x3 x4), (1, bY x5 x6), (1000, bU 80 x7 43)]⟩
theorem g20a_R9 (x0 : Int) (x1 : LN) (x2 x3 : Nat) (x4 : Int) (x5 : Nat) (x6 x7 : LN) : g20a_D A n (pth 1099) K ⟨[(0, pT 0 0), (4, pT 1000 0), (6, i6 x0)], [(0, bH 1 x1 (some x2) x3 x4), (1, bY x5 x6), (1000, bU 80 x7 43)]⟩ = match A.neg (A.ib .sub .i64 x0 2) with
    | true => none
    | false => match A.lt (A.toN (A.ib .sub .i64 x0 2)) 80 with
      | true => match A.neg (A.ib .sub .i64 x0 15) with
        | true => none
        | false => match A.lt (A.toN (A.ib .sub .i64 x0 15)) 80 with
          | true => K .normal (g20a_R9s0 A x0 x1 x2 x3 x4 x5 x6 x7)
          | false => none
      | false => none := by kernel_rfl
def g20a_R10s0 (A : Ar) (x0 : Int) (x1 x2 : Nat) (x3 : LN) (x4 x5 : Nat) (x6 : Int) (x7 : Nat) (x8 x9 : LN) : St := ⟨[(56, (.v (.cell (.ptr 1000 0 (some ⟨A.toN x0, 1, 80, 0, 0, 0⟩))))), (55, u64v (A.nb .add .u64 (x9.getD (A.toN (A.ib .sub .i64 x0 7)) 0) (x9.getD (A.toN (A.ib .sub .i64 x0 16)) 0))), (54, u64v (x9.getD (A.toN (A.ib .sub .i64 x0 16)) 0)), (53, (.v (.cell (.ptr 1000 0 (some ⟨A.toN (A.ib .sub .i64 x0 16), 1, 80, 0, 0, 0⟩))))), (52, i6 (A.ib .sub .i64 x0 16)), (51, i6 x0), (50, u64v (x9.getD (A.toN (A.ib .sub .i64 x0 7)) 0)), (49, (.v (.cell (.ptr 1000 0 (some ⟨A.toN (A.ib .sub .i64 x0 7), 1, 80, 0, 0, 0⟩))))), (48, i6 (A.ib .sub .i64 x0 7)), (47, i6 x0), (46, i6 x0), (0, pT 0 0), (4, pT 1000 0), (6, i6 x0), (7, u64v x1), (8, u64v x2)], [(0, bH 1 x3 (some x4) x5 x6), (1, bY x7 x8), (1000, bU 80 (x9.set (A.toN x0) (A.nb .add .u64 (x9.getD (A.toN (A.ib .sub .i64 x0 7)) 0) (x9.getD (A.toN (A.ib .sub .i64 x0 16)) 0))) 43)]⟩
theorem g20a_R10 (x0 : Int) (x1 x2 : Nat) (x3 : LN) (x4 x5 : Nat) (x6 : Int) (x7 : Nat) (x8 x9 : LN) : g20a_D A n (pth 2635) K ⟨[(0, pT 0 0), (4, pT 1000 0), (6, i6 x0), (7, u64v x1), (8, u64v x2)], [(0, bH 1 x3 (some x4) x5 x6), (1, bY x7 x8), (1000, bU 80 x9 43)]⟩ = match A.neg (A.ib .sub .i64 x0 7) with
    | true => none
    | false => match A.lt (A.toN (A.ib .sub .i64 x0 7)) 80 with
      | true => match A.neg (A.ib .sub .i64 x0 16) with
        | true => none
        | false => match A.lt (A.toN (A.ib .sub .i64 x0 16)) 80 with
          | true => match A.neg x0 with
            | true => none
            | false => match A.lt (A.toN x0) 80 with
              | true => K .normal (g20a_R10s0 A x0 x1 x2 x3 x4 x5 x6 x7 x8 x9)
              | false => none
          | false => none
      | false => none := by kernel_rfl
def g20a_R11s0 (A : Ar) (x0 : Int) (x1 x2 : Nat) (x3 : LN) (x4 x5 : Nat) (x6 : Int) (x7 : Nat) (x8 x9 : LN) : St := ⟨[(69, (.v (.cell (.ptr 1000 0 (some ⟨A.toN x0, 1, 80, 0, 0, 0⟩))))), (68, u64v (A.nb .add .u64 (x9.getD (A.toN x0) 0) (A.nb .xor .u64 (A.nb .xor .u64 (g27r0 A x1 (-19)) (g27r0 A x1 (-61))) (A.nsh .shr .u64 x1 6)))), (67, u64v (A.nb .xor .u64 (A.nb .xor .u64 (g27r0 A x1 (-19)) (g27r0 A x1 (-61))) (A.nsh .shr .u64 x1 6))), (66, u64v (A.nsh .shr .u64 x1 6)), (65, u64v x1), (64, u64v (A.nb .xor .u64 (g27r0 A x1 (-19)) (g27r0 A x1 (-61)))), (63, u64v (g27r0 A x1 (-61))), (62, u64v x1), (61, u64v (g27r0 A x1 (-19))), (60, u64v x1), (59, u64v (x9.getD (A.toN x0) 0)), (58, (.v (.cell (.ptr 1000 0 (some ⟨A.toN x0, 1, 80, 0, 0, 0⟩))))), (57, i6 x0), (0, pT 0 0), (4, pT 1000 0), (6, i6 x0), (7, u64v x1), (8, u64v x2)], [(0, bH 1 x3 (some x4) x5 x6), (1, bY x7 x8), (1000, bU 80 (x9.set (A.toN x0) (A.nb .add .u64 (x9.getD (A.toN x0) 0) (A.nb .xor .u64 (A.nb .xor .u64 (g27r0 A x1 (-19)) (g27r0 A x1 (-61))) (A.nsh .shr .u64 x1 6)))) 43)]⟩
theorem g20a_R11 (x0 : Int) (x1 x2 : Nat) (x3 : LN) (x4 x5 : Nat) (x6 : Int) (x7 : Nat) (x8 x9 : LN) : g20a_D A n (pth 5707) K ⟨[(0, pT 0 0), (4, pT 1000 0), (6, i6 x0), (7, u64v x1), (8, u64v x2)], [(0, bH 1 x3 (some x4) x5 x6), (1, bY x7 x8), (1000, bU 80 x9 43)]⟩ = match A.neg x0 with
    | true => none
    | false => match A.lt (A.toN x0) 80 with
      | true => match g27ok A x1 (-19) with
        | true => match g27ok A x1 (-61) with
          | true => match A.neg x0 with
            | true => none
            | false => match A.lt (A.toN x0) 80 with
              | true => K .normal (g20a_R11s0 A x0 x1 x2 x3 x4 x5 x6 x7 x8 x9)
              | false => none
          | false => none
        | false => none
      | false => none := by kernel_rfl
def g20a_R12s0 (A : Ar) (x0 : Int) (x1 : Nat) (x2 : LN) (x3 x4 : Nat) (x5 : Int) (x6 : Nat) (x7 x8 : LN) : St := ⟨[(82, (.v (.cell (.ptr 1000 0 (some ⟨A.toN x0, 1, 80, 0, 0, 0⟩))))), (81, u64v (A.nb .add .u64 (x8.getD (A.toN x0) 0) (A.nb .xor .u64 (A.nb .xor .u64 (g27r0 A x1 (-1)) (g27r0 A x1 (-8))) (A.nsh .shr .u64 x1 7)))), (80, u64v (A.nb .xor .u64 (A.nb .xor .u64 (g27r0 A x1 (-1)) (g27r0 A x1 (-8))) (A.nsh .shr .u64 x1 7))), (79, u64v (A.nsh .shr .u64 x1 7)), (78, u64v x1), (77, u64v (A.nb .xor .u64 (g27r0 A x1 (-1)) (g27r0 A x1 (-8)))), (76, u64v (g27r0 A x1 (-8))), (75, u64v x1), (74, u64v (g27r0 A x1 (-1))), (73, u64v x1), (72, u64v (x8.getD (A.toN x0) 0)), (71, (.v (.cell (.ptr 1000 0 (some ⟨A.toN x0, 1, 80, 0, 0, 0⟩))))), (70, i6 x0), (0, pT 0 0), (4, pT 1000 0), (6, i6 x0), (8, u64v x1)], [(0, bH 1 x2 (some x3) x4 x5), (1, bY x6 x7), (1000, bU 80 (x8.set (A.toN x0) (A.nb .add .u64 (x8.getD (A.toN x0) 0) (A.nb .xor .u64 (A.nb .xor .u64 (g27r0 A x1 (-1)) (g27r0 A x1 (-8))) (A.nsh .shr .u64 x1 7)))) 43)]⟩
theorem g20a_R12 (x0 : Int) (x1 : Nat) (x2 : LN) (x3 x4 : Nat) (x5 : Int) (x6 : Nat) (x7 x8 : LN) : g20a_D A n (pth 7755) K ⟨[(0, pT 0 0), (4, pT 1000 0), (6, i6 x0), (8, u64v x1)], [(0, bH 1 x2 (some x3) x4 x5), (1, bY x6 x7), (1000, bU 80 x8 43)]⟩ = match A.neg x0 with
    | true => none
    | false => match A.lt (A.toN x0) 80 with
      | true => match g27ok A x1 (-1) with
        | true => match g27ok A x1 (-8) with
          | true => match A.neg x0 with
            | true => none
            | false => match A.lt (A.toN x0) 80 with
              | true => K .normal (g20a_R12s0 A x0 x1 x2 x3 x4 x5 x6 x7 x8)
              | false => none
          | false => none
        | false => none
      | false => none := by kernel_rfl
def g20a_R8s0 (A : Ar) (x0 : Int) (x1 : LN) (x2 x3 : Nat) (x4 : Int) (x5 : Nat) (x6 x7 : LN) : St := ⟨[(6, i6 (A.ib .add .i64 x0 1)), (37, i6 (A.ib .add .i64 x0 1)), (36, i6 x0), (0, pT 0 0), (4, pT 1000 0), (6, i6 x0)], [(0, bH 1 x1 (some x2) x3 x4), (1, bY x5 x6), (1000, bU 80 x7 43)]⟩
theorem g20a_R8 (x0 : Int) (x1 : LN) (x2 x3 : Nat) (x4 : Int) (x5 : Nat) (x6 x7 : LN) : g20a_D A n (pth 459) K ⟨[(0, pT 0 0), (4, pT 1000 0), (6, i6 x0)], [(0, bH 1 x1 (some x2) x3 x4), (1, bY x5 x6), (1000, bU 80 x7 43)]⟩ = K .normal (g20a_R8s0 A x0 x1 x2 x3 x4 x5 x6 x7) := by kernel_rfl
def g20a_R16s0 (A : Ar) (x0 : Int) (x1 : LN) (x2 x3 : Nat) (x4 : Int) (x5 : Nat) (x6 x7 x8 : LN) : St := ⟨[(10, i6 x0), (89, i6 x0), (0, pT 0 0), (4, pT 1000 0), (9, pT 14004 0), (87, i6 x0)], [(0, bH 1 x1 (some x2) x3 x4), (1, bY x5 x6), (1000, bU 80 x7 43), (14004, bU 8 x8 42)]⟩
theorem g20a_R16 (x0 : Int) (x1 : LN) (x2 x3 : Nat) (x4 : Int) (x5 : Nat) (x6 x7 x8 : LN) : g20a_D A n (pth 9007) K ⟨[(0, pT 0 0), (4, pT 1000 0), (9, pT 14004 0), (87, i6 x0)], [(0, bH 1 x1 (some x2) x3 x4), (1, bY x5 x6), (1000, bU 80 x7 43), (14004, bU 8 x8 42)]⟩ = K .normal (g20a_R16s0 A x0 x1 x2 x3 x4 x5 x6 x7 x8) := by kernel_rfl
def g20a_R17s0 (A : Ar) (x0 x1 : Int) (x2 : LN) (x3 x4 : Nat) (x5 : Int) (x6 : Nat) (x7 x8 x9 : LN) : St := ⟨[(12, u64v (x9.getD 0 0)), (11, u64v (x9.getD 4 0)), (93, u64v (x9.getD 0 0)), (92, pT 14004 0), (91, u64v (x9.getD 4 0)), (90, pT 14004 4), (0, pT 0 0), (4, pT 1000 0), (9, pT 14004 0), (10, i6 x0), (87, i6 x1)], [(0, bH 1 x2 (some x3) x4 x5), (1, bY x6 x7), (1000, bU 80 x8 43), (14004, bU 8 x9 42)]⟩
theorem g20a_R17 (x0 x1 : Int) (x2 : LN) (x3 x4 : Nat) (x5 : Int) (x6 : Nat) (x7 x8 x9 : LN) : g20a_D A n (pth 21295) K ⟨[(0, pT 0 0), (4, pT 1000 0), (9, pT 14004 0), (10, i6 x0), (87, i6 x1)], [(0, bH 1 x2 (some x3) x4 x5), (1, bY x6 x7), (1000, bU 80 x8 43), (14004, bU 8 x9 42)]⟩ = K .normal (g20a_R17s0 A x0 x1 x2 x3 x4 x5 x6 x7 x8 x9) := by kernel_rfl
def g20a_R18s0 (A : Ar) (x0 : Int) (x1 x2 : Nat) (x3 : Int) (x4 : LN) (x5 x6 : Nat) (x7 : Int) (x8 : Nat) (x9 x10 x11 : LN) : St := ⟨[(13, u64v (A.nb .add .u64 (A.nb .add .u64 (A.nb .add .u64 (x11.getD 7 0) (x4.getD (8 + (A.toN x0)) 0)) (x10.getD (A.toN x0) 0)) (A.nb .xor .u64 (x11.getD 6 0) (A.nb .and .u64 x1 (A.nb .xor .u64 (x11.getD 5 0) (x11.getD 6 0)))))), (117, u64v (A.nb .add .u64 (A.nb .add .u64 (A.nb .add .u64 (x11.getD 7 0) (x4.getD (8 + (A.toN x0)) 0)) (x10.getD (A.toN x0) 0)) (A.nb .xor .u64 (x11.getD 6 0) (A.nb .and .u64 x1 (A.nb .xor .u64 (x11.getD 5 0) (x11.getD 6 0)))))), (116, u64v (A.nb .xor .u64 (x11.getD 6 0) (A.nb .and .u64 x1 (A.nb .xor .u64 (x11.getD 5 0) (x11.getD 6 0))))), (115, u64v (A.nb .and .u64 x1 (A.nb .xor .u64 (x11.getD 5 0) (x11.getD 6 0)))), (114, u64v (A.nb .xor .u64 (x11.getD 5 0) (x11.getD 6 0))), (113, u64v (x11.getD 6 0)), (112, pT 14004 6), (111, u64v (x11.getD 5 0)), (110, pT 14004 5), (109, u64v x1), (108, u64v (x11.getD 6 0)), (107, pT 14004 6), (106, u64v (A.nb .add .u64 (A.nb .add .u64 (x11.getD 7 0) (x4.getD (8 + (A.toN x0)) 0)) (x10.getD (A.toN x0) 0))), (105, u64v (x10.getD (A.toN x0) 0)), (104, (.v (.cell (.ptr 1000 0 (some ⟨A.toN x0, 1, 80, 0, 0, 0⟩))))), (103, i6 x0), (102, u64v (A.nb .add .u64 (x11.getD 7 0) (x4.getD (8 + (A.toN x0)) 0))), (101, u64v (x4.getD (8 + (A.toN x0)) 0)), (100, (.v (.cell (.ptr 0 8 (some ⟨A.toN x0, 1, 80, 0, 0, 0⟩))))), (99, pT 0 8), (98, pT 0 0), (97, i6 x0), (96, pT 0 0), (95, u64v (x11.getD 7 0)), (94, pT 14004 7), (0, pT 0 0), (4, pT 1000 0), (9, pT 14004 0), (10, i6 x0), (11, u64v x1), (12, u64v x2), (87, i6 x3)], [(0, bH 1 x4 (some x5) x6 x7), (1, bY x8 x9), (1000, bU 80 x10 43), (14004, bU 8 x11 42)]⟩
theorem g20a_R18 (x0 : Int) (x1 x2 : Nat) (x3 : Int) (x4 : LN) (x5 x6 : Nat) (x7 : Int) (x8 : Nat) (x9 x10 x11 : LN) : g20a_D A n (pth 45871) K ⟨[(0, pT 0 0), (4, pT 1000 0), (9, pT 14004 0), (10, i6 x0), (11, u64v x1), (12, u64v x2), (87, i6 x3)], [(0, bH 1 x4 (some x5) x6 x7), (1, bY x8 x9), (1000, bU 80 x10 43), (14004, bU 8 x11 42)]⟩ = match A.neg x0 with
    | true => none
    | false => match A.lt (A.toN x0) 80 with
      | true => match A.neg x0 with
        | true => none
        | false => match A.lt (A.toN x0) 80 with
          | true => K .normal (g20a_R18s0 A x0 x1 x2 x3 x4 x5 x6 x7 x8 x9 x10 x11)
          | false => none
      | false => none := by kernel_rfl
def g20a_R19s0 (A : Ar) (x0 x1 x2 : Nat) (x3 : Int) (x4 : LN) (x5 x6 : Nat) (x7 : Int) (x8 : Nat) (x9 x10 x11 : LN) : St := ⟨[(13, u64v (A.nb .add .u64 x2 (A.nb .xor .u64 (A.nb .xor .u64 (g27r0 A x0 (-14)) (g27r0 A x0 (-18))) (g27r0 A x0 (-41))))), (127, u64v (A.nb .add .u64 x2 (A.nb .xor .u64 (A.nb .xor .u64 (g27r0 A x0 (-14)) (g27r0 A x0 (-18))) (g27r0 A x0 (-41))))), (126, u64v (A.nb .xor .u64 (A.nb .xor .u64 (g27r0 A x0 (-14)) (g27r0 A x0 (-18))) (g27r0 A x0 (-41)))), (125, u64v (g27r0 A x0 (-41))), (124, u64v x0), (123, u64v (A.nb .xor .u64 (g27r0 A x0 (-14)) (g27r0 A x0 (-18)))), (122, u64v (g27r0 A x0 (-18))), (121, u64v x0), (120, u64v (g27r0 A x0 (-14))), (119, u64v x0), (118, u64v x2), (0, pT 0 0), (4, pT 1000 0), (9, pT 14004 0), (11, u64v x0), (12, u64v x1), (13, u64v x2), (87, i6 x3)], [(0, bH 1 x4 (some x5) x6 x7), (1, bY x8 x9), (1000, bU 80 x10 43), (14004, bU 8 x11 42)]⟩
theorem g20a_R19 (x0 x1 x2 : Nat) (x3 : Int) (x4 : LN) (x5 x6 : Nat) (x7 : Int) (x8 : Nat) (x9 x10 x11 : LN) : g20a_D A n (pth 95023) K ⟨[(0, pT 0 0), (4, pT 1000 0), (9, pT 14004 0), (11, u64v x0), (12, u64v x1), (13, u64v x2), (87, i6 x3)], [(0, bH 1 x4 (some x5) x6 x7), (1, bY x8 x9), (1000, bU 80 x10 43), (14004, bU 8 x11 42)]⟩ = match g27ok A x0 (-14) with
    | true => match g27ok A x0 (-18) with
      | true => match g27ok A x0 (-41) with
        | true => K .normal (g20a_R19s0 A x0 x1 x2 x3 x4 x5 x6 x7 x8 x9 x10 x11)
        | false => none
      | false => none
    | false => none := by kernel_rfl
def g20a_R20s0 (A : Ar) (x0 x1 : Nat) (x2 : Int) (x3 : LN) (x4 x5 : Nat) (x6 : Int) (x7 : Nat) (x8 x9 x10 : LN) : St := ⟨[(14, u64v (A.nb .or .u64 (A.nb .and .u64 x0 (x10.getD 1 0)) (A.nb .and .u64 (x10.getD 2 0) (A.nb .or .u64 x0 (x10.getD 1 0))))), (139, u64v (A.nb .or .u64 (A.nb .and .u64 x0 (x10.getD 1 0)) (A.nb .and .u64 (x10.getD 2 0) (A.nb .or .u64 x0 (x10.getD 1 0))))), (138, u64v (A.nb .and .u64 (x10.getD 2 0) (A.nb .or .u64 x0 (x10.getD 1 0)))), (137, u64v (A.nb .or .u64 x0 (x10.getD 1 0))), (136, u64v (x10.getD 1 0)), (135, pT 14004 1), (134, u64v x0), (133, u64v (x10.getD 2 0)), (132, pT 14004 2), (131, u64v (A.nb .and .u64 x0 (x10.getD 1 0))), (130, u64v (x10.getD 1 0)), (129, pT 14004 1), (128, u64v x0), (0, pT 0 0), (4, pT 1000 0), (9, pT 14004 0), (12, u64v x0), (13, u64v x1), (87, i6 x2)], [(0, bH 1 x3 (some x4) x5 x6), (1, bY x7 x8), (1000, bU 80 x9 43), (14004, bU 8 x10 42)]⟩
theorem g20a_R20 (x0 x1 : Nat) (x2 : Int) (x3 : LN) (x4 x5 : Nat) (x6 : Int) (x7 : Nat) (x8 x9 x10 : LN) : g20a_D A n (pth 193327) K ⟨[(0, pT 0 0), (4, pT 1000 0), (9, pT 14004 0), (12, u64v x0), (13, u64v x1), (87, i6 x2)], [(0, bH 1 x3 (some x4) x5 x6), (1, bY x7 x8), (1000, bU 80 x9 43), (14004, bU 8 x10 42)]⟩ = K .normal (g20a_R20s0 A x0 x1 x2 x3 x4 x5 x6 x7 x8 x9 x10) := by kernel_rfl
def g20a_R21s0 (A : Ar) (x0 x1 x2 : Nat) (x3 : Int) (x4 : LN) (x5 x6 : Nat) (x7 : Int) (x8 : Nat) (x9 x10 x11 : LN) : St := ⟨[(14, u64v (A.nb .add .u64 x2 (A.nb .xor .u64 (A.nb .xor .u64 (g27r0 A x0 (-28)) (g27r0 A x0 (-34))) (g27r0 A x0 (-39))))), (149, u64v (A.nb .add .u64 x2 (A.nb .xor .u64 (A.nb .xor .u64 (g27r0 A x0 (-28)) (g27r0 A x0 (-34))) (g27r0 A x0 (-39))))), (148, u64v (A.nb .xor .u64 (A.nb .xor .u64 (g27r0 A x0 (-28)) (g27r0 A x0 (-34))) (g27r0 A x0 (-39)))), (147, u64v (g27r0 A x0 (-39))), (146, u64v x0), (145, u64v (A.nb .xor .u64 (g27r0 A x0 (-28)) (g27r0 A x0 (-34)))), (144, u64v (g27r0 A x0 (-34))), (143, u64v x0), (142, u64v (g27r0 A x0 (-28))), (141, u64v x0), (140, u64v x2), (0, pT 0 0), (4, pT 1000 0), (9, pT 14004 0), (12, u64v x0), (13, u64v x1), (14, u64v x2), (87, i6 x3)], [(0, bH 1 x4 (some x5) x6 x7), (1, bY x8 x9), (1000, bU 80 x10 43), (14004, bU 8 x11 42)]⟩
theorem g20a_R21 (x0 x1 x2 : Nat) (x3 : Int) (x4 : LN) (x5 x6 : Nat) (x7 : Int) (x8 : Nat) (x9 x10 x11 : LN) : g20a_D A n (pth 389935) K ⟨[(0, pT 0 0), (4, pT 1000 0), (9, pT 14004 0), (12, u64v x0), (13, u64v x1), (14, u64v x2), (87, i6 x3)], [(0, bH 1 x4 (some x5) x6 x7), (1, bY x8 x9), (1000, bU 80 x10 43), (14004, bU 8 x11 42)]⟩ = match g27ok A x0 (-28) with
    | true => match g27ok A x0 (-34) with
      | true => match g27ok A x0 (-39) with
        | true => K .normal (g20a_R21s0 A x0 x1 x2 x3 x4 x5 x6 x7 x8 x9 x10 x11)
        | false => none
      | false => none
    | false => none := by kernel_rfl
def g20a_R22s0 (A : Ar) (x0 x1 : Nat) (x2 : Int) (x3 : LN) (x4 x5 : Nat) (x6 : Int) (x7 : Nat) (x8 x9 x10 : LN) : St := ⟨[(169, aN .u64 8 (((((((([0, 0, 0, 0, 0, 0, 0, 0].set 0 (A.nb .add .u64 x0 x1)).set 1 (x10.getD 0 0)).set 2 (x10.getD 1 0)).set 3 (x10.getD 2 0)).set 4 (A.nb .add .u64 (x10.getD 3 0) x0)).set 5 (x10.getD 4 0)).set 6 (x10.getD 5 0)).set 7 (x10.getD 6 0))), (168, u64v (x10.getD 6 0)), (167, pT 14004 6), (166, u64v (x10.getD 5 0)), (165, pT 14004 5), (164, u64v (x10.getD 4 0)), (163, pT 14004 4), (162, u64v (A.nb .add .u64 (x10.getD 3 0) x0)), (161, u64v x0), (160, u64v (x10.getD 3 0)), (159, pT 14004 3), (158, u64v (x10.getD 2 0)), (157, pT 14004 2), (156, u64v (x10.getD 1 0)), (155, pT 14004 1), (154, u64v (x10.getD 0 0)), (153, pT 14004 0), (152, u64v (A.nb .add .u64 x0 x1)), (151, u64v x1), (150, u64v x0), (0, pT 0 0), (4, pT 1000 0), (9, pT 14004 0), (13, u64v x0), (14, u64v x1), (87, i6 x2)], [(0, bH 1 x3 (some x4) x5 x6), (1, bY x7 x8), (1000, bU 80 x9 43), (14004, bU 8 (((((((([0, 0, 0, 0, 0, 0, 0, 0].set 0 (A.nb .add .u64 x0 x1)).set 1 (x10.getD 0 0)).set 2 (x10.getD 1 0)).set 3 (x10.getD 2 0)).set 4 (A.nb .add .u64 (x10.getD 3 0) x0)).set 5 (x10.getD 4 0)).set 6 (x10.getD 5 0)).set 7 (x10.getD 6 0)) 42)]⟩
theorem g20a_R22 (x0 x1 : Nat) (x2 : Int) (x3 : LN) (x4 x5 : Nat) (x6 : Int) (x7 : Nat) (x8 x9 x10 : LN) : g20a_D A n (pth 521007) K ⟨[(0, pT 0 0), (4, pT 1000 0), (9, pT 14004 0), (13, u64v x0), (14, u64v x1), (87, i6 x2)], [(0, bH 1 x3 (some x4) x5 x6), (1, bY x7 x8), (1000, bU 80 x9 43), (14004, bU 8 x10 42)]⟩ = K .normal (g20a_R22s0 A x0 x1 x2 x3 x4 x5 x6 x7 x8 x9 x10) := by kernel_rfl
def g20a_R23s0 (A : Ar) (x0 : Int) (x1 : LN) (x2 x3 : Nat) (x4 : Int) (x5 : Nat) (x6 x7 x8 : LN) : St := ⟨[(87, i6 (A.ib .add .i64 x0 1)), (170, i6 (A.ib .add .i64 x0 1)), (0, pT 0 0), (4, pT 1000 0), (9, pT 14004 0), (87, i6 x0)], [(0, bH 1 x1 (some x2) x3 x4), (1, bY x5 x6), (1000, bU 80 x7 43), (14004, bU 8 x8 42)]⟩
theorem g20a_R23 (x0 : Int) (x1 : LN) (x2 x3 : Nat) (x4 : Int) (x5 : Nat) (x6 x7 x8 : LN) : g20a_D A n (pth 3887) K ⟨[(0, pT 0 0), (4, pT 1000 0), (9, pT 14004 0), (87, i6 x0)], [(0, bH 1 x1 (some x2) x3 x4), (1, bY x5 x6), (1000, bU 80 x7 43), (14004, bU 8 x8 42)]⟩ = K .normal (g20a_R23s0 A x0 x1 x2 x3 x4 x5 x6 x7 x8) := by kernel_rfl
def g20a_R26s0 (A : Ar) (x0 : Int) (x1 : LN) (x2 x3 : Nat) (x4 : Int) (x5 : Nat) (x6 x7 : LN) : St := ⟨[(15, i6 x0), (173, i6 x0), (0, pT 0 0), (9, pT 14004 0), (171, i6 x0)], [(0, bH 1 x1 (some x2) x3 x4), (1, bY x5 x6), (14004, bU 8 x7 42)]⟩
theorem g20a_R26 (x0 : Int) (x1 : LN) (x2 x3 : Nat) (x4 : Int) (x5 : Nat) (x6 x7 : LN) : g20a_D A n (pth 9023) K ⟨[(0, pT 0 0), (9, pT 14004 0), (171, i6 x0)], [(0, bH 1 x1 (some x2) x3 x4), (1, bY x5 x6), (14004, bU 8 x7 42)]⟩ = K .normal (g20a_R26s0 A x0 x1 x2 x3 x4 x5 x6 x7) := by kernel_rfl
def g20a_R27s0 (A : Ar) (x0 x1 : Int) (x2 : LN) (x3 x4 : Nat) (x5 : Int) (x6 : Nat) (x7 x8 : LN) : St := ⟨[(186, (.v (.cell (.ptr 0 0 (some ⟨A.toN x0, 1, 8, 0, 0, 0⟩))))), (185, pT 0 0), (184, pT 0 0), (183, u64v (A.nb .add .u64 (x2.getD (A.toN x0) 0) (x8.getD (A.toN x0) 0))), (182, u64v (x8.getD (A.toN x0) 0)), (181, (.v (.cell (.ptr 14004 0 (some ⟨A.toN x0, 1, 8, 0, 0, 0⟩))))), (180, i6 x0), (179, u64v (x2.getD (A.toN x0) 0)), (178, (.v (.cell (.ptr 0 0 (some ⟨A.toN x0, 1, 8, 0, 0, 0⟩))))), (177, pT 0 0), (176, pT 0 0), (175, i6 x0), (174, pT 0 0), (0, pT 0 0), (9, pT 14004 0), (15, i6 x0), (171, i6 x1)], [(0, bH 1 (x2.set (A.toN x0) (A.nb .add .u64 (x2.getD (A.toN x0) 0) (x8.getD (A.toN x0) 0))) (some x3) x4 x5), (1, bY x6 x7), (14004, bU 8 x8 42)]⟩
theorem g20a_R27 (x0 x1 : Int) (x2 : LN) (x3 x4 : Nat) (x5 : Int) (x6 : Nat) (x7 x8 : LN) : g20a_D A n (pth 13119) K ⟨[(0, pT 0 0), (9, pT 14004 0), (15, i6 x0), (171, i6 x1)], [(0, bH 1 x2 (some x3) x4 x5), (1, bY x6 x7), (14004, bU 8 x8 42)]⟩ = match A.neg x0 with
    | true => none
    | false => match A.lt (A.toN x0) 8 with
      | true => match A.neg x0 with
        | true => none
        | false => match A.lt (A.toN x0) 8 with
          | true => match A.neg x0 with
            | true => none
            | false => match A.lt (A.toN x0) 8 with
              | true => K .normal (g20a_R27s0 A x0 x1 x2 x3 x4 x5 x6 x7 x8)
              | false => none
          | false => none
      | false => none := by kernel_rfl
def g20a_R28s0 (A : Ar) (x0 : Int) (x1 : LN) (x2 x3 : Nat) (x4 : Int) (x5 : Nat) (x6 x7 : LN) : St := ⟨[(171, i6 (A.ib .add .i64 x0 1)), (187, i6 (A.ib .add .i64 x0 1)), (0, pT 0 0), (9, pT 14004 0), (171, i6 x0)], [(0, bH 1 x1 (some x2) x3 x4), (1, bY x5 x6), (14004, bU 8 x7 42)]⟩
theorem g20a_R28 (x0 : Int) (x1 : LN) (x2 x3 : Nat) (x4 : Int) (x5 : Nat) (x6 x7 : LN) : g20a_D A n (pth 3903) K ⟨[(0, pT 0 0), (9, pT 14004 0), (171, i6 x0)], [(0, bH 1 x1 (some x2) x3 x4), (1, bY x5 x6), (14004, bU 8 x7 42)]⟩ = K .normal (g20a_R28s0 A x0 x1 x2 x3 x4 x5 x6 x7) := by kernel_rfl
def g20a_R25s0 (A : Ar) (x0 : Int) (x1 : LN) (x2 x3 : Nat) (x4 : Int) (x5 : Nat) (x6 x7 : LN) : St := ⟨[(172, bO (A.ic .lss x0 8)), (0, pT 0 0), (9, pT 14004 0), (171, i6 x0)], [(0, bH 1 x1 (some x2) x3 x4), (1, bY x5 x6), (14004, bU 8 x7 42)]⟩
theorem g20a_R25 (x0 : Int) (x1 : LN) (x2 x3 : Nat) (x4 : Int) (x5 : Nat) (x6 x7 : LN) : g20a_D A n (pth 575) K ⟨[(0, pT 0 0), (9, pT 14004 0), (171, i6 x0)], [(0, bH 1 x1 (some x2) x3 x4), (1, bY x5 x6), (14004, bU 8 x7 42)]⟩ = K .normal (g20a_R25s0 A x0 x1 x2 x3 x4 x5 x6 x7) := by kernel_rfl
def g20a_R24s0 (A : Ar) (x0 : LN) (x1 x2 : Nat) (x3 : Int) (x4 : Nat) (x5 x6 : LN) : St := ⟨[(171, i6 0), (0, pT 0 0), (9, pT 14004 0)], [(0, bH 1 x0 (some x1) x2 x3), (1, bY x4 x5), (14004, bU 8 x6 42)]⟩
theorem g20a_R24 (x0 : LN) (x1 x2 : Nat) (x3 : Int) (x4 : Nat) (x5 x6 : LN) : g20a_D A n (pth 95) K ⟨[(0, pT 0 0), (9, pT 14004 0)], [(0, bH 1 x0 (some x1) x2 x3), (1, bY x4 x5), (14004, bU 8 x6 42)]⟩ = K .normal (g20a_R24s0 A x0 x1 x2 x3 x4 x5 x6) := by kernel_rfl
def g20a_R15s0 (A : Ar) (x0 : Int) (x1 : LN) (x2 x3 : Nat) (x4 : Int) (x5 : Nat) (x6 x7 x8 : LN) : St := ⟨[(88, bO (A.ic .lss x0 80)), (0, pT 0 0), (4, pT 1000 0), (9, pT 14004 0), (87, i6 x0)], [(0, bH 1 x1 (some x2) x3 x4), (1, bY x5 x6), (1000, bU 80 x7 43), (14004, bU 8 x8 42)]⟩
theorem g20a_R15 (x0 : Int) (x1 : LN) (x2 x3 : Nat) (x4 : Int) (x5 : Nat) (x6 x7 x8 : LN) : g20a_D A n (pth 559) K ⟨[(0, pT 0 0), (4, pT 1000 0), (9, pT 14004 0), (87, i6 x0)], [(0, bH 1 x1 (some x2) x3 x4), (1, bY x5 x6), (1000, bU 80 x7 43), (14004, bU 8 x8 42)]⟩ = K .normal (g20a_R15s0 A x0 x1 x2 x3 x4 x5 x6 x7 x8) := by kernel_rfl
def g20a_R13s0 (A : Ar) (x0 : LN) (x1 x2 : Nat) (x3 : Int) (x4 : Nat) (x5 x6 : LN) : St := ⟨[(9, pT 14004 0), (86, aN .u64 8 ((x0.drop 0).take 8)), (85, pT 0 0), (84, pT 0 0), (83, pT 0 0), (0, pT 0 0), (4, pT 1000 0)], [(14004, bU 8 ((x0.drop 0).take 8) 42), (0, bH 1 x0 (some x1) x2 x3), (1, bY x4 x5), (1000, bU 80 x6 43)]⟩
theorem g20a_R13 (x0 : LN) (x1 x2 : Nat) (x3 : Int) (x4 : Nat) (x5 x6 : LN) : g20a_D A n (pth 23) K ⟨[(0, pT 0 0), (4, pT 1000 0)], [(0, bH 1 x0 (some x1) x2 x3), (1, bY x4 x5), (1000, bU 80 x6 43)]⟩ = K .normal (g20a_R13s0 A x0 x1 x2 x3 x4 x5 x6) := by kernel_rfl
def g20a_R14s0 (A : Ar) (x0 : LN) (x1 x2 : Nat) (x3 : Int) (x4 : Nat) (x5 x6 x7 : LN) : St := ⟨[(87, i6 0), (0, pT 0 0), (4, pT 1000 0), (9, pT 14004 0)], [(0, bH 1 x0 (some x1) x2 x3), (1, bY x4 x5), (1000, bU 80 x6 43), (14004, bU 8 x7 42)]⟩
theorem g20a_R14 (x0 : LN) (x1 x2 : Nat) (x3 : Int) (x4 : Nat) (x5 x6 x7 : LN) : g20a_D A n (pth 79) K ⟨[(0, pT 0 0), (4, pT 1000 0), (9, pT 14004 0)], [(0, bH 1 x0 (some x1) x2 x3), (1, bY x4 x5), (1000, bU 80 x6 43), (14004, bU 8 x7 42)]⟩ = K .normal (g20a_R14s0 A x0 x1 x2 x3 x4 x5 x6 x7) := by kernel_rfl
def g20a_R7s0 (A : Ar) (x0 : Int) (x1 : LN) (x2 x3 : Nat) (x4 : Int) (x5 : Nat) (x6 x7 : LN) : St := ⟨[(35, bO (A.ic .lss x0 80)), (34, i6 x0), (0, pT 0 0), (4, pT 1000 0), (6, i6 x0)], [(0, bH 1 x1 (some x2) x3 x4), (1, bY x5 x6), (1000, bU 80 x7 43)]⟩
theorem g20a_R7 (x0 : Int) (x1 : LN) (x2 x3 : Nat) (x4 : Int) (x5 : Nat) (x6 x7 : LN) : g20a_D A n (pth 267) K ⟨[(0, pT 0 0), (4, pT 1000 0), (6, i6 x0)], [(0, bH 1 x1 (some x2) x3 x4), (1, bY x5 x6), (1000, bU 80 x7 43)]⟩ = K .normal (g20a_R7s0 A x0 x1 x2 x3 x4 x5 x6 x7) := by kernel_rfl
def g20a_R6s0 (A : Ar) (x0 : LN) (x1 x2 : Nat) (x3 : Int) (x4 : Nat) (x5 x6 : LN) : St := ⟨[(6, i6 16), (0, pT 0 0), (4, pT 1000 0)], [(0, bH 1 x0 (some x1) x2 x3), (1, bY x4 x5), (1000, bU 80 x6 43)]⟩
theorem g20a_R6 (x0 : LN) (x1 x2 : Nat) (x3 : Int) (x4 : Nat) (x5 x6 : LN) : g20a_D A n (pth 19) K ⟨[(0, pT 0 0), (4, pT 1000 0)], [(0, bH 1 x0 (some x1) x2 x3), (1, bY x4 x5), (1000, bU 80 x6 43)]⟩ = K .normal (g20a_R6s0 A x0 x1 x2 x3 x4 x5 x6) := by kernel_rfl
def g20a_R2s0 (A : Ar) (x0 x1 : Nat) (x2 : Int) (x3 : LN) (x4 x5 : Nat) (x6 : Int) (x7 : Nat) (x8 x9 : LN) : St := ⟨[(17, bO (A.ic .lss x2 128)), (0, pT 0 0), (1, sL 1 (some x0) x1 1), (4, pT 1000 0), (16, i6 x2)], [(0, bH 1 x3 (some x4) x5 x6), (1, bY x7 x8), (1000, bU 80 x9 43)]⟩
theorem g20a_R2 (x0 x1 : Nat) (x2 : Int) (x3 : LN) (x4 x5 : Nat) (x6 : Int) (x7 : Nat) (x8 x9 : LN) : g20a_D A n (pth 69) K ⟨[(0, pT 0 0), (1, sL 1 (some x0) x1 1), (4, pT 1000 0), (16, i6 x2)], [(0, bH 1 x3 (some x4) x5 x6), (1, bY x7 x8), (1000, bU 80 x9 43)]⟩ = K .normal (g20a_R2s0 A x0 x1 x2 x3 x4 x5 x6 x7 x8 x9) := by kernel_rfl
def g20a_R0s0 (A : Ar) (x0 x1 : Nat) (x2 : LN) (x3 x4 : Nat) (x5 : Int) (x6 : Nat) (x7 : LN) : St := ⟨[(4, pT 1000 0), (0, pT 0 0), (1, sL 1 (some x0) x1 1)], [(1000, bU 80 [0, 0, 0, 0, 0, 0, 0, 0, 0, 0, 0, 0, 0, 0, 0, 0, 0, 0, 0, 0, 0, 0, 0, 0, 0, 0, 0, 0, 0, 0, 0, 0, 0, 0, 0, 0, 0, 0, 0, 0, 0, 0, 0, 0, 0, 0, 0, 0, 0, 0, 0, 0, 0, 0, 0, 0, 0, 0, 0, 0, 0, 0, 0, 0, 0, 0, 0, 0, 0, 0, 0, 0, 0, 0, 0, 0, 0, 0, 0, 0] 43), (0, bH 1 x2 (some x3) x4 x5), (1, bY x6 x7)]⟩
theorem g20a_R0 (x0 x1 : Nat) (x2 : LN) (x3 x4 : Nat) (x5 : Int) (x6 : Nat) (x7 : LN) : g20a_D A n (pth 2) K ⟨[(0, pT 0 0), (1, sL 1 (some x0) x1 1)], [(0, bH 1 x2 (some x3) x4 x5), (1, bY x6 x7)]⟩ = K .normal (g20a_R0s0 A x0 x1 x2 x3 x4 x5 x6 x7) := by kernel_rfl
def g20a_R1s0 (A : Ar) (x0 x1 : Nat) (x2 : LN) (x3 x4 : Nat) (x5 : Int) (x6 : Nat) (x7 x8 : LN) : St := ⟨[(16, i6 0), (0, pT 0 0), (1, sL 1 (some x0) x1 1), (4, pT 1000 0)], [(0, bH 1 x2 (some x3) x4 x5), (1, bY x6 x7), (1000, bU 80 x8 43)]⟩
theorem g20a_R1 (x0 x1 : Nat) (x2 : LN) (x3 x4 : Nat) (x5 : Int) (x6 : Nat) (x7 x8 : LN) : g20a_D A n (pth 9) K ⟨[(0, pT 0 0), (1, sL 1 (some x0) x1 1), (4, pT 1000 0)], [(0, bH 1 x2 (some x3) x4 x5), (1, bY x6 x7), (1000, bU 80 x8 43)]⟩ = K .normal (g20a_R1s0 A x0 x1 x2 x3 x4 x5 x6 x7 x8) := by kernel_rfl
end
def g20a_J3 {R : Type} (A : Ar) (n : Nat) (kk : KK R) (lg20a_L2 : Nat → Nat → Int → LN → Nat → Nat → Int → Nat → LN → LN → Option R) (x0 x1 : Nat) (x2 : Int) (x3 : LN) (x4 x5 : Nat) (x6 : Int) (x7 : Nat) (x8 x9 : LN) : Option R :=
  match A.neg (A.ib .quo .i64 x2 8) with
  | true => none
  | false => match A.lt (A.toN (A.ib .quo .i64 x2 8)) 80 with
    | true => match A.neg x2 with
      | true => none
      | false => match A.lt (A.toN x2) x1 with
        | true => match A.neg (A.ib .quo .i64 x2 8) with
          | true => none
          | false => match A.lt (A.toN (A.ib .quo .i64 x2 8)) 80 with
            | true => lg20a_L2 x0 x1 (A.ib .add .i64 x2 1) x3 x4 x5 x6 x7 x8 (x9.set (A.toN (A.ib .quo .i64 x2 8)) (A.nb .or .u64 (A.nsh .shl .u64 (x9.getD (A.toN (A.ib .quo .i64 x2 8)) 0) 8) (x8.getD (x0 + (A.toN x2)) 0)))
            | false => none
        | false => none
    | false => none
abbrev u31 (A : Ar) (x9 : LN) (x2 : Int) (x8 : LN) (x0 : Nat) := x9.set (A.toN (A.ib .quo .i64 x2 8)) (A.nb .or .u64 (A.nsh .shl .u64 (x9.getD (A.toN (A.ib .quo .i64 x2 8)) 0) 8) (x8.getD (x0 + (A.toN x2)) 0))
theorem g20a_J3_eq {R : Type} (A : Ar) (n : Nat) (kk : KK R) (m0 : Nat) (lg20a_L2 : Nat → Nat → Int → LN → Nat → Nat → Int → Nat → LN → LN → Option R)
    (hg20a_L2 : ∀ (s : St) (x0 x1 : Nat) (x2 : Int) (x3 : LN) (x4 x5 : Nat) (x6 : Int) (x7 : Nat) (x8 x9 : LN), keep g20a_an 2 s = ⟨[(0, pT 0 0), (1, sL 1 (some x0) x1 1), (4, pT 1000 0), (16, i6 x2)], [(0, bH 1 x3 (some x4) x5 x6), (1, bY x7 x8), (1000, bU 80 x9 43)]⟩ → g20a_V A n (pth 37) m0 (blockK 0 (g20a_Q A n (pth 7) (g20a_T kk))) s = lg20a_L2 x0 x1 x2 x3 x4 x5 x6 x7 x8 x9) (s : St) (x0 x1 : Nat) (x2 : Int) (x3 : LN) (x4 x5 : Nat) (x6 : Int) (x7 : Nat) (x8 x9 : LN) (h : keep g20a_an 3 s = ⟨[(0, pT 0 0), (1, sL 1 (some x0) x1 1), (4, pT 1000 0), (16, i6 x2)], [(0, bH 1 x3 (some x4) x5 x6), (1, bY x7 x8), (1000, bU 80 x9 43)]⟩) :
    g20a_D A n (pth 229) (g20a_W A n (pth 37) m0 (blockK 0 (g20a_Q A n (pth 7) (g20a_T kk)))) s = g20a_J3 A n kk lg20a_L2 x0 x1 x2 x3 x4 x5 x6 x7 x8 x9 := by
  have h1 := (g20a_Wn A n _ _ _ _).trans (hg20a_L2 (g20a_R5s0 A x0 x1 x2 x3 x4 x5 x6 x7 x8 (u31 A x9 x2 x8 x0)) x0 x1 (A.ib .add .i64 x2 1) x3 x4 x5 x6 x7 x8 (u31 A x9 x2 x8 x0) (by kernel_rfl))
  have h2 := (g20a_F A n _ 5 _ (g20a_R4s0 A x0 x1 x2 x2 x3 x4 x5 x6 x7 x8 x9) _ (by kernel_rfl) (by kernel_rfl)).trans (g20a_R5 A n (g20a_W A n (pth 37) m0 (blockK 0 (g20a_Q A n (pth 7) (g20a_T kk)))) x0 x1 x2 x3 x4 x5 x6 x7 x8 (u31 A x9 x2 x8 x0))
  rw [h1] at h2
  have h3 := (g20a_Qn A n _ _ _).trans h2
  have h4 := (blockK_n 1 _ _).trans h3
  have h5 := (g20a_F A n _ 4 _ (g20a_R3s0 A x0 x1 x2 x3 x4 x5 x6 x7 x8 x9) _ (by kernel_rfl) (by kernel_rfl)).trans (g20a_R4 A n (blockK 1 (g20a_Q A n (pth 485) (g20a_W A n (pth 37) m0 (blockK 0 (g20a_Q A n (pth 7) (g20a_T kk)))))) x0 x1 x2 x2 x3 x4 x5 x6 x7 x8 x9)
  rw [h4] at h5
  have h6 := (g20a_Qn A n _ _ _).trans h5
  have h7 := (g20a_F A n _ 3 _ ⟨[(0, pT 0 0), (1, sL 1 (some x0) x1 1), (4, pT 1000 0), (16, i6 x2)], [(0, bH 1 x3 (some x4) x5 x6), (1, bY x7 x8), (1000, bU 80 x9 43)]⟩ _ (by kernel_rfl) (by kernel_rfl)).trans (g20a_R3 A n (g20a_Q A n (pth 1637) (blockK 1 (g20a_Q A n (pth 485) (g20a_W A n (pth 37) m0 (blockK 0 (g20a_Q A n (pth 7) (g20a_T kk))))))) x0 x1 x2 x3 x4 x5 x6 x7 x8 x9)
  rw [h6] at h7
  have h8 := (g20a_p613 A n _ _).trans h7
  have h9 := (g20a_p357 A n _ _).trans h8
  have h10 := (g20a_p229 A n _ _).trans h9
  exact (g20a_F A n _ 3 _ _ ⟨[(0, pT 0 0), (1, sL 1 (some x0) x1 1), (4, pT 1000 0), (16, i6 x2)], [(0, bH 1 x3 (some x4) x5 x6), (1, bY x7 x8), (1000, bU 80 x9 43)]⟩ (by kernel_rfl) (h.trans (by kernel_rfl))).trans (h10.trans (by kernel_rfl))
def g20a_J9 {R : Type} (A : Ar) (n : Nat) (kk : KK R) (lg20a_L7 : Int → LN → Nat → Nat → Int → Nat → LN → LN → Option R) (x0 : Int) (x1 : LN) (x2 x3 : Nat) (x4 : Int) (x5 : Nat) (x6 x7 : LN) : Option R :=
  match A.neg (A.ib .sub .i64 x0 2) with
  | true => none
  | false => match A.lt (A.toN (A.ib .sub .i64 x0 2)) 80 with
    | true => match A.neg (A.ib .sub .i64 x0 15) with
      | true => none
      | false => match A.lt (A.toN (A.ib .sub .i64 x0 15)) 80 with
        | true => match A.neg (A.ib .sub .i64 x0 7) with
          | true => none
          | false => match A.lt (A.toN (A.ib .sub .i64 x0 7)) 80 with
            | true => match A.neg (A.ib .sub .i64 x0 16) with
              | true => none
              | false => match A.lt (A.toN (A.ib .sub .i64 x0 16)) 80 with
                | true => match A.neg x0 with
                  | true => none
                  | false => match A.lt (A.toN x0) 80 with
                    | true => match A.neg x0 with
                      | true => none
                      | false => match A.lt (A.toN x0) 80 with
                        | true => match g27ok A (x7.getD (A.toN (A.ib .sub .i64 x0 2)) 0) (-19) with
                          | true => match g27ok A (x7.getD (A.toN (A.ib .sub .i64 x0 2)) 0) (-61) with
                            | true => match A.neg x0 with
                              | true => none
                              | false => match A.lt (A.toN x0) 80 with
                                | true => match A.neg x0 with
                                  | true => none
                                  | false => match A.lt (A.toN x0) 80 with
                                    | true => match g27ok A (x7.getD (A.toN (A.ib .sub .i64 x0 15)) 0) (-1) with
                                      | true => match g27ok A (x7.getD (A.toN (A.ib .sub .i64 x0 15)) 0) (-8) with
                                        | true => match A.neg x0 with
                                          | true => none
                                          | false => match A.lt (A.toN x0) 80 with
                                            | true => lg20a_L7 (A.ib .add .i64 x0 1) x1 x2 x3 x4 x5 x6 (((x7.set (A.toN x0) (A.nb .add .u64 (x7.getD (A.toN (A.ib .sub .i64 x0 7)) 0) (x7.getD (A.toN (A.ib .sub .i64 x0 16)) 0))).set (A.toN x0) (A.nb .add .u64 ((x7.set (A.toN x0) (A.nb .add .u64 (x7.getD (A.toN (A.ib .sub .i64 x0 7)) 0) (x7.getD (A.toN (A.ib .sub .i64 x0 16)) 0))).getD (A.toN x0) 0) (A.nb .xor .u64 (A.nb .xor .u64 (g27r0 A (x7.getD (A.toN (A.ib .sub .i64 x0 2)) 0) (-19)) (g27r0 A (x7.getD (A.toN (A.ib .sub .i64 x0 2)) 0) (-61))) (A.nsh .shr .u64 (x7.getD (A.toN (A.ib .sub .i64 x0 2)) 0) 6)))).set (A.toN x0) (A.nb .add .u64 (((x7.set (A.toN x0) (A.nb .add .u64 (x7.getD (A.toN (A.ib .sub .i64 x0 7)) 0) (x7.getD (A.toN (A.ib .sub .i64 x0 16)) 0))).set (A.toN x0) (A.nb .add .u64 ((x7.set (A.toN x0) (A.nb .add .u64 (x7.getD (A.toN (A.ib .sub .i64 x0 7)) 0) (x7.getD (A.toN (A.ib .sub .i64 x0 16)) 0))).getD (A.toN x0) 0) (A.nb .xor .u64 (A.nb .xor .u64 (g27r0 A (x7.getD (A.toN (A.ib .sub .i64 x0 2)) 0) (-19)) (g27r0 A (x7.getD (A.toN (A.ib .sub .i64 x0 2)) 0) (-61))) (A.nsh .shr .u64 (x7.getD (A.toN (A.ib .sub .i64 x0 2)) 0) 6)))).getD (A.toN x0) 0) (A.nb .xor .u64 (A.nb .xor .u64 (g27r0 A (x7.getD (A.toN (A.ib .sub .i64 x0 15)) 0) (-1)) (g27r0 A (x7.getD (A.toN (A.ib .sub .i64 x0 15)) 0) (-8))) (A.nsh .shr .u64 (x7.getD (A.toN (A.ib .sub .i64 x0 15)) 0) 7))))
                                            | false => none
                                        | false => none
                                      | false => none
                                    | false => none
                                | false => none
                            | false => none
                          | false => none
                        | false => none
                    | false => none
                | false => none
            | false => none
        | false => none
    | false => none
abbrev u32 (A : Ar) (x7 : LN) (x0 : Int) := (x7.set (A.toN x0) (A.nb .add .u64 (x7.getD (A.toN (A.ib .sub .i64 x0 7)) 0) (x7.getD (A.toN (A.ib .sub .i64 x0 16)) 0))).set (A.toN x0) (A.nb .add .u64 ((x7.set (A.toN x0) (A.nb .add .u64 (x7.getD (A.toN (A.ib .sub .i64 x0 7)) 0) (x7.getD (A.toN (A.ib .sub .i64 x0 16)) 0))).getD (A.toN x0) 0) (A.nb .xor .u64 (A.nb .xor .u64 (g27r0 A (x7.getD (A.toN (A.ib .sub .i64 x0 2)) 0) (-19)) (g27r0 A (x7.getD (A.toN (A.ib .sub .i64 x0 2)) 0) (-61))) (A.nsh .shr .u64 (x7.getD (A.toN (A.ib .sub .i64 x0 2)) 0) 6)))
abbrev u33 (A : Ar) (x7 : LN) (x0 : Int) := (u32 A x7 x0).set (A.toN x0) (A.nb .add .u64 ((u32 A x7 x0).getD (A.toN x0) 0) (A.nb .xor .u64 (A.nb .xor .u64 (g27r0 A (x7.getD (A.toN (A.ib .sub .i64 x0 15)) 0) (-1)) (g27r0 A (x7.getD (A.toN (A.ib .sub .i64 x0 15)) 0) (-8))) (A.nsh .shr .u64 (x7.getD (A.toN (A.ib .sub .i64 x0 15)) 0) 7)))
abbrev u34 (A : Ar) (x7 : LN) (x0 : Int) := x7.getD (A.toN (A.ib .sub .i64 x0 15)) 0
abbrev u35 (A : Ar) (x7 : LN) (x0 : Int) := x7.set (A.toN x0) (A.nb .add .u64 (x7.getD (A.toN (A.ib .sub .i64 x0 7)) 0) (x7.getD (A.toN (A.ib .sub .i64 x0 16)) 0))
abbrev u36 (A : Ar) (x7 : LN) (x0 : Int) := x7.getD (A.toN (A.ib .sub .i64 x0 2)) 0
theorem g20a_J9_eq {R : Type} (A : Ar) (n : Nat) (kk : KK R) (m0 : Nat) (lg20a_L7 : Int → LN → Nat → Nat → Int → Nat → LN → LN → Option R)
    (hg20a_L7 : ∀ (s : St) (x0 : Int) (x1 : LN) (x2 x3 : Nat) (x4 : Int) (x5 : Nat) (x6 x7 : LN), keep g20a_an 7 s = ⟨[(0, pT 0 0), (4, pT 1000 0), (6, i6 x0)], [(0, bH 1 x1 (some x2) x3 x4), (1, bY x5 x6), (1000, bU 80 x7 43)]⟩ → g20a_V A n (pth 75) m0 (blockK 2 (g20a_Q A n (pth 15) (g20a_T kk))) s = lg20a_L7 x0 x1 x2 x3 x4 x5 x6 x7) (s : St) (x0 : Int) (x1 : LN) (x2 x3 : Nat) (x4 : Int) (x5 : Nat) (x6 x7 : LN) (h : keep g20a_an 9 s = ⟨[(0, pT 0 0), (4, pT 1000 0), (6, i6 x0)], [(0, bH 1 x1 (some x2) x3 x4), (1, bY x5 x6), (1000, bU 80 x7 43)]⟩) :
    g20a_D A n (pth 203) (g20a_W A n (pth 75) m0 (blockK 2 (g20a_Q A n (pth 15) (g20a_T kk)))) s = g20a_J9 A n kk lg20a_L7 x0 x1 x2 x3 x4 x5 x6 x7 := by
  have h1 := (g20a_Wn A n _ _ _ _).trans (hg20a_L7 (g20a_R8s0 A x0 x1 x2 x3 x4 x5 x6 (u33 A x7 x0)) (A.ib .add .i64 x0 1) x1 x2 x3 x4 x5 x6 (u33 A x7 x0) (by kernel_rfl))
  have h2 := (g20a_F A n _ 8 _ (g20a_R12s0 A x0 (u34 A x7 x0) x1 x2 x3 x4 x5 x6 (u32 A x7 x0)) _ (by kernel_rfl) (by kernel_rfl)).trans (g20a_R8 A n (g20a_W A n (pth 75) m0 (blockK 2 (g20a_Q A n (pth 15) (g20a_T kk)))) x0 x1 x2 x3 x4 x5 x6 (u33 A x7 x0))
  rw [h1] at h2
  have h3 := (g20a_Qn A n _ _ _).trans h2
  have h4 := (blockK_n 3 _ _).trans h3
  have h5 := (g20a_F A n _ 12 _ (g20a_R11s0 A x0 (u36 A x7 x0) (u34 A x7 x0) x1 x2 x3 x4 x5 x6 (u35 A x7 x0)) _ (by kernel_rfl) (by kernel_rfl)).trans (g20a_R12 A n (blockK 3 (g20a_Q A n (pth 459) (g20a_W A n (pth 75) m0 (blockK 2 (g20a_Q A n (pth 15) (g20a_T kk)))))) x0 (u34 A x7 x0) x1 x2 x3 x4 x5 x6 (u32 A x7 x0))
  rw [h4] at h5
  have h6 := (g20a_Qn A n _ _ _).trans h5
  have h7 := (g20a_F A n _ 11 _ (g20a_R10s0 A x0 (u36 A x7 x0) (u34 A x7 x0) x1 x2 x3 x4 x5 x6 x7) _ (by kernel_rfl) (by kernel_rfl)).trans (g20a_R11 A n (g20a_Q A n (pth 7755) (blockK 3 (g20a_Q A n (pth 459) (g20a_W A n (pth 75) m0 (blockK 2 (g20a_Q A n (pth 15) (g20a_T kk))))))) x0 (u36 A x7 x0) (u34 A x7 x0) x1 x2 x3 x4 x5 x6 (u35 A x7 x0))
  rw [h6] at h7
  have h8 := (g20a_p3659 A n _ _).trans h7
  have h9 := (g20a_Qn A n _ _ _).trans h8
  have h10 := (g20a_F A n _ 10 _ (g20a_R9s0 A x0 x1 x2 x3 x4 x5 x6 x7) _ (by kernel_rfl) (by kernel_rfl)).trans (g20a_R10 A n (g20a_Q A n (pth 3659) (blockK 3 (g20a_Q A n (pth 459) (g20a_W A n (pth 75) m0 (blockK 2 (g20a_Q A n (pth 15) (g20a_T kk))))))) x0 (u36 A x7 x0) (u34 A x7 x0) x1 x2 x3 x4 x5 x6 x7)
  rw [h9] at h10
  have h11 := (g20a_p1611 A n _ _).trans h10
  have h12 := (g20a_Qn A n _ _ _).trans h11
  have h13 := (g20a_F A n _ 9 _ ⟨[(0, pT 0 0), (4, pT 1000 0), (6, i6 x0)], [(0, bH 1 x1 (some x2) x3 x4), (1, bY x5 x6), (1000, bU 80 x7 43)]⟩ _ (by kernel_rfl) (by kernel_rfl)).trans (g20a_R9 A n (g20a_Q A n (pth 1611) (blockK 3 (g20a_Q A n (pth 459) (g20a_W A n (pth 75) m0 (blockK 2 (g20a_Q A n (pth 15) (g20a_T kk))))))) x0 x1 x2 x3 x4 x5 x6 x7)
  rw [h12] at h13
  have h14 := (g20a_p587 A n _ _).trans h13
  have h15 := (g20a_p331 A n _ _).trans h14
  have h16 := (g20a_p203 A n _ _).trans h15
  exact (g20a_F A n _ 9 _ _ ⟨[(0, pT 0 0), (4, pT 1000 0), (6, i6 x0)], [(0, bH 1 x1 (some x2) x3 x4), (1, bY x5 x6), (1000, bU 80 x7 43)]⟩ (by kernel_rfl) (h.trans (by kernel_rfl))).trans (h16.trans (by kernel_rfl))
def g20a_J16 {R : Type} (A : Ar) (n : Nat) (kk : KK R) (lg20a_L15 : Int → LN → Nat → Nat → Int → Nat → LN → LN → LN → Option R) (x0 : Int) (x1 : LN) (x2 x3 : Nat) (x4 : Int) (x5 : Nat) (x6 x7 x8 : LN) : Option R :=
  match A.neg x0 with
  | true => none
  | false => match A.lt (A.toN x0) 80 with
    | true => match A.neg x0 with
      | true => none
      | false => match A.lt (A.toN x0) 80 with
        | true => match g27ok A (x8.getD 4 0) (-14) with
          | true => match g27ok A (x8.getD 4 0) (-18) with
            | true => match g27ok A (x8.getD 4 0) (-41) with
              | true => match g27ok A (x8.getD 0 0) (-28) with
                | true => match g27ok A (x8.getD 0 0) (-34) with
                  | true => match g27ok A (x8.getD 0 0) (-39) with
                    | true => lg20a_L15 (A.ib .add .i64 x0 1) x1 x2 x3 x4 x5 x6 x7 (((((((([0, 0, 0, 0, 0, 0, 0, 0].set 0 (A.nb .add .u64 (A.nb .add .u64 (A.nb .add .u64 (A.nb .add .u64 (A.nb .add .u64 (x8.getD 7 0) (x1.getD (8 + (A.toN x0)) 0)) (x7.getD (A.toN x0) 0)) (A.nb .xor .u64 (x8.getD 6 0) (A.nb .and .u64 (x8.getD 4 0) (A.nb .xor .u64 (x8.getD 5 0) (x8.getD 6 0))))) (A.nb .xor .u64 (A.nb .xor .u64 (g27r0 A (x8.getD 4 0) (-14)) (g27r0 A (x8.getD 4 0) (-18))) (g27r0 A (x8.getD 4 0) (-41)))) (A.nb .add .u64 (A.nb .or .u64 (A.nb .and .u64 (x8.getD 0 0) (x8.getD 1 0)) (A.nb .and .u64 (x8.getD 2 0) (A.nb .or .u64 (x8.getD 0 0) (x8.getD 1 0)))) (A.nb .xor .u64 (A.nb .xor .u64 (g27r0 A (x8.getD 0 0) (-28)) (g27r0 A (x8.getD 0 0) (-34))) (g27r0 A (x8.getD 0 0) (-39)))))).set 1 (x8.getD 0 0)).set 2 (x8.getD 1 0)).set 3 (x8.getD 2 0)).set 4 (A.nb .add .u64 (x8.getD 3 0) (A.nb .add .u64 (A.nb .add .u64 (A.nb .add .u64 (A.nb .add .u64 (x8.getD 7 0) (x1.getD (8 + (A.toN x0)) 0)) (x7.getD (A.toN x0) 0)) (A.nb .xor .u64 (x8.getD 6 0) (A.nb .and .u64 (x8.getD 4 0) (A.nb .xor .u64 (x8.getD 5 0) (x8.getD 6 0))))) (A.nb .xor .u64 (A.nb .xor .u64 (g27r0 A (x8.getD 4 0) (-14)) (g27r0 A (x8.getD 4 0) (-18))) (g27r0 A (x8.getD 4 0) (-41)))))).set 5 (x8.getD 4 0)).set 6 (x8.getD 5 0)).set 7 (x8.getD 6 0))
                    | false => none
                  | false => none
                | false => none
              | false => none
            | false => none
          | false => none
        | false => none
    | false => none
abbrev u37 (A : Ar) (x8 : LN) (x1 : LN) (x0 : Int) (x7 : LN) := A.nb .add .u64 (A.nb .add .u64 (A.nb .add .u64 (A.nb .add .u64 (x8.getD 7 0) (x1.getD (8 + (A.toN x0)) 0)) (x7.getD (A.toN x0) 0)) (A.nb .xor .u64 (x8.getD 6 0) (A.nb .and .u64 (x8.getD 4 0) (A.nb .xor .u64 (x8.getD 5 0) (x8.getD 6 0))))) (A.nb .xor .u64 (A.nb .xor .u64 (g27r0 A (x8.getD 4 0) (-14)) (g27r0 A (x8.getD 4 0) (-18))) (g27r0 A (x8.getD 4 0) (-41)))
abbrev u38 (A : Ar) (x8 : LN) := A.nb .add .u64 (A.nb .or .u64 (A.nb .and .u64 (x8.getD 0 0) (x8.getD 1 0)) (A.nb .and .u64 (x8.getD 2 0) (A.nb .or .u64 (x8.getD 0 0) (x8.getD 1 0)))) (A.nb .xor .u64 (A.nb .xor .u64 (g27r0 A (x8.getD 0 0) (-28)) (g27r0 A (x8.getD 0 0) (-34))) (g27r0 A (x8.getD 0 0) (-39)))
abbrev u39 (A : Ar) (x8 : LN) (x1 : LN) (x0 : Int) (x7 : LN) := ((((((([0, 0, 0, 0, 0, 0, 0, 0].set 0 (A.nb .add .u64 (u37 A x8 x1 x0 x7) (u38 A x8))).set 1 (x8.getD 0 0)).set 2 (x8.getD 1 0)).set 3 (x8.getD 2 0)).set 4 (A.nb .add .u64 (x8.getD 3 0) (u37 A x8 x1 x0 x7))).set 5 (x8.getD 4 0)).set 6 (x8.getD 5 0)).set 7 (x8.getD 6 0)
abbrev u40 (A : Ar) (x8 : LN) (x1 : LN) (x0 : Int) (x7 : LN) := A.nb .add .u64 (A.nb .add .u64 (A.nb .add .u64 (x8.getD 7 0) (x1.getD (8 + (A.toN x0)) 0)) (x7.getD (A.toN x0) 0)) (A.nb .xor .u64 (x8.getD 6 0) (A.nb .and .u64 (x8.getD 4 0) (A.nb .xor .u64 (x8.getD 5 0) (x8.getD 6 0))))
abbrev u41 (A : Ar) (x8 : LN) := A.nb .or .u64 (A.nb .and .u64 (x8.getD 0 0) (x8.getD 1 0)) (A.nb .and .u64 (x8.getD 2 0) (A.nb .or .u64 (x8.getD 0 0) (x8.getD 1 0)))
theorem g20a_J16_eq {R : Type} (A : Ar) (n : Nat) (kk : KK R) (m0 : Nat) (lg20a_L15 : Int → LN → Nat → Nat → Int → Nat → LN → LN → LN → Option R)
    (hg20a_L15 : ∀ (s : St) (x0 : Int) (x1 : LN) (x2 x3 : Nat) (x4 : Int) (x5 : Nat) (x6 x7 x8 : LN), keep g20a_an 15 s = ⟨[(0, pT 0 0), (4, pT 1000 0), (9, pT 14004 0), (87, i6 x0)], [(0, bH 1 x1 (some x2) x3 x4), (1, bY x5 x6), (1000, bU 80 x7 43), (14004, bU 8 x8 42)]⟩ → g20a_V A n (pth 303) m0 (blockK 4 (g20a_Q A n (pth 63) (g20a_T kk))) s = lg20a_L15 x0 x1 x2 x3 x4 x5 x6 x7 x8) (s : St) (x0 : Int) (x1 : LN) (x2 x3 : Nat) (x4 : Int) (x5 : Nat) (x6 x7 x8 : LN) (h : keep g20a_an 16 s = ⟨[(0, pT 0 0), (4, pT 1000 0), (9, pT 14004 0), (87, i6 x0)], [(0, bH 1 x1 (some x2) x3 x4), (1, bY x5 x6), (1000, bU 80 x7 43), (14004, bU 8 x8 42)]⟩) :
    g20a_D A n (pth 1839) (g20a_W A n (pth 303) m0 (blockK 4 (g20a_Q A n (pth 63) (g20a_T kk)))) s = g20a_J16 A n kk lg20a_L15 x0 x1 x2 x3 x4 x5 x6 x7 x8 := by
  have h1 := (g20a_Wn A n _ _ _ _).trans (hg20a_L15 (g20a_R23s0 A x0 x1 x2 x3 x4 x5 x6 x7 (u39 A x8 x1 x0 x7)) (A.ib .add .i64 x0 1) x1 x2 x3 x4 x5 x6 x7 (u39 A x8 x1 x0 x7) (by kernel_rfl))
  have h2 := (g20a_F A n _ 23 _ (g20a_R22s0 A (u37 A x8 x1 x0 x7) (u38 A x8) x0 x1 x2 x3 x4 x5 x6 x7 x8) _ (by kernel_rfl) (by kernel_rfl)).trans (g20a_R23 A n (g20a_W A n (pth 303) m0 (blockK 4 (g20a_Q A n (pth 63) (g20a_T kk)))) x0 x1 x2 x3 x4 x5 x6 x7 (u39 A x8 x1 x0 x7))
  rw [h1] at h2
  have h3 := (g20a_Qn A n _ _ _).trans h2
  have h4 := (blockK_n 5 _ _).trans h3
  have h5 := (g20a_F A n _ 22 _ (g20a_R21s0 A (x8.getD 0 0) (u37 A x8 x1 x0 x7) (u41 A x8) x0 x1 x2 x3 x4 x5 x6 x7 x8) _ (by kernel_rfl) (by kernel_rfl)).trans (g20a_R22 A n (blockK 5 (g20a_Q A n (pth 3887) (g20a_W A n (pth 303) m0 (blockK 4 (g20a_Q A n (pth 63) (g20a_T kk)))))) (u37 A x8 x1 x0 x7) (u38 A x8) x0 x1 x2 x3 x4 x5 x6 x7 x8)
  rw [h4] at h5
  have h6 := (g20a_Qn A n _ _ _).trans h5
  have h7 := (g20a_F A n _ 21 _ (g20a_R20s0 A (x8.getD 0 0) (u37 A x8 x1 x0 x7) x0 x1 x2 x3 x4 x5 x6 x7 x8) _ (by kernel_rfl) (by kernel_rfl)).trans (g20a_R21 A n (g20a_Q A n (pth 521007) (blockK 5 (g20a_Q A n (pth 3887) (g20a_W A n (pth 303) m0 (blockK 4 (g20a_Q A n (pth 63) (g20a_T kk))))))) (x8.getD 0 0) (u37 A x8 x1 x0 x7) (u41 A x8) x0 x1 x2 x3 x4 x5 x6 x7 x8)
  rw [h6] at h7
  have h8 := (g20a_p258863 A n _ _).trans h7
  have h9 := (g20a_Qn A n _ _ _).trans h8
  have h10 := (g20a_F A n _ 20 _ (g20a_R19s0 A (x8.getD 4 0) (x8.getD 0 0) (u40 A x8 x1 x0 x7) x0 x1 x2 x3 x4 x5 x6 x7 x8) _ (by kernel_rfl) (by kernel_rfl)).trans (g20a_R20 A n (g20a_Q A n (pth 258863) (blockK 5 (g20a_Q A n (pth 3887) (g20a_W A n (pth 303) m0 (blockK 4 (g20a_Q A n (pth 63) (g20a_T kk))))))) (x8.getD 0 0) (u37 A x8 x1 x0 x7) x0 x1 x2 x3 x4 x5 x6 x7 x8)
  rw [h9] at h10
  have h11 := (g20a_p127791 A n _ _).trans h10
  have h12 := (g20a_Qn A n _ _ _).trans h11
  have h13 := (g20a_F A n _ 19 _ (g20a_R18s0 A x0 (x8.getD 4 0) (x8.getD 0 0) x0 x1 x2 x3 x4 x5 x6 x7 x8) _ (by kernel_rfl) (by kernel_rfl)).trans (g20a_R19 A n (g20a_Q A n (pth 127791) (blockK 5 (g20a_Q A n (pth 3887) (g20a_W A n (pth 303) m0 (blockK 4 (g20a_Q A n (pth 63) (g20a_T kk))))))) (x8.getD 4 0) (x8.getD 0 0) (u40 A x8 x1 x0 x7) x0 x1 x2 x3 x4 x5 x6 x7 x8)
  rw [h12] at h13
  have h14 := (g20a_p62255 A n _ _).trans h13
  have h15 := (g20a_Qn A n _ _ _).trans h14
  have h16 := (g20a_F A n _ 18 _ (g20a_R17s0 A x0 x0 x1 x2 x3 x4 x5 x6 x7 x8) _ (by kernel_rfl) (by kernel_rfl)).trans (g20a_R18 A n (g20a_Q A n (pth 62255) (blockK 5 (g20a_Q A n (pth 3887) (g20a_W A n (pth 303) m0 (blockK 4 (g20a_Q A n (pth 63) (g20a_T kk))))))) x0 (x8.getD 4 0) (x8.getD 0 0) x0 x1 x2 x3 x4 x5 x6 x7 x8)
  rw [h15] at h16
  have h17 := (g20a_p29487 A n _ _).trans h16
  have h18 := (g20a_Qn A n _ _ _).trans h17
  have h19 := (g20a_F A n _ 17 _ (g20a_R16s0 A x0 x1 x2 x3 x4 x5 x6 x7 x8) _ (by kernel_rfl) (by kernel_rfl)).trans (g20a_R17 A n (g20a_Q A n (pth 29487) (blockK 5 (g20a_Q A n (pth 3887) (g20a_W A n (pth 303) m0 (blockK 4 (g20a_Q A n (pth 63) (g20a_T kk))))))) x0 x0 x1 x2 x3 x4 x5 x6 x7 x8)
  rw [h18] at h19
  have h20 := (g20a_p13103 A n _ _).trans h19
  have h21 := (g20a_Qn A n _ _ _).trans h20
  have h22 := (g20a_F A n _ 16 _ ⟨[(0, pT 0 0), (4, pT 1000 0), (9, pT 14004 0), (87, i6 x0)], [(0, bH 1 x1 (some x2) x3 x4), (1, bY x5 x6), (1000, bU 80 x7 43), (14004, bU 8 x8 42)]⟩ _ (by kernel_rfl) (by kernel_rfl)).trans (g20a_R16 A n (g20a_Q A n (pth 13103) (blockK 5 (g20a_Q A n (pth 3887) (g20a_W A n (pth 303) m0 (blockK 4 (g20a_Q A n (pth 63) (g20a_T kk))))))) x0 x1 x2 x3 x4 x5 x6 x7 x8)
  rw [h21] at h22
  have h23 := (g20a_p4911 A n _ _).trans h22
  have h24 := (g20a_p2863 A n _ _).trans h23
  have h25 := (g20a_p1839 A n _ _).trans h24
  exact (g20a_F A n _ 16 _ _ ⟨[(0, pT 0 0), (4, pT 1000 0), (9, pT 14004 0), (87, i6 x0)], [(0, bH 1 x1 (some x2) x3 x4), (1, bY x5 x6), (1000, bU 80 x7 43), (14004, bU 8 x8 42)]⟩ (by kernel_rfl) (h.trans (by kernel_rfl))).trans (h25.trans (by kernel_rfl))
def g20a_J26 {R : Type} (A : Ar) (n : Nat) (kk : KK R) (lg20a_L25 : Int → LN → Nat → Nat → Int → Nat → LN → LN → Option R) (x0 : Int) (x1 : LN) (x2 x3 : Nat) (x4 : Int) (x5 : Nat) (x6 x7 : LN) : Option R :=
  match A.neg x0 with
  | true => none
  | false => match A.lt (A.toN x0) 8 with
    | true => match A.neg x0 with
      | true => none
      | false => match A.lt (A.toN x0) 8 with
        | true => match A.neg x0 with
          | true => none
          | false => match A.lt (A.toN x0) 8 with
            | true => lg20a_L25 (A.ib .add .i64 x0 1) (x1.set (A.toN x0) (A.nb .add .u64 (x1.getD (A.toN x0) 0) (x7.getD (A.toN x0) 0))) x2 x3 x4 x5 x6 x7
            | false => none
        | false => none
    | false => none
abbrev u42 (A : Ar) (x1 : LN) (x0 : Int) (x7 : LN) := x1.set (A.toN x0) (A.nb .add .u64 (x1.getD (A.toN x0) 0) (x7.getD (A.toN x0) 0))
theorem g20a_J26_eq {R : Type} (A : Ar) (n : Nat) (kk : KK R) (m0 : Nat) (lg20a_L25 : Int → LN → Nat → Nat → Int → Nat → LN → LN → Option R)
    (hg20a_L25 : ∀ (s : St) (x0 : Int) (x1 : LN) (x2 x3 : Nat) (x4 : Int) (x5 : Nat) (x6 x7 : LN), keep g20a_an 25 s = ⟨[(0, pT 0 0), (9, pT 14004 0), (171, i6 x0)], [(0, bH 1 x1 (some x2) x3 x4), (1, bY x5 x6), (14004, bU 8 x7 42)]⟩ → g20a_V A n (pth 319) m0 (blockK 6 (g20a_T kk)) s = lg20a_L25 x0 x1 x2 x3 x4 x5 x6 x7) (s : St) (x0 : Int) (x1 : LN) (x2 x3 : Nat) (x4 : Int) (x5 : Nat) (x6 x7 : LN) (h : keep g20a_an 26 s = ⟨[(0, pT 0 0), (9, pT 14004 0), (171, i6 x0)], [(0, bH 1 x1 (some x2) x3 x4), (1, bY x5 x6), (14004, bU 8 x7 42)]⟩) :
    g20a_D A n (pth 1855) (g20a_W A n (pth 319) m0 (blockK 6 (g20a_T kk))) s = g20a_J26 A n kk lg20a_L25 x0 x1 x2 x3 x4 x5 x6 x7 := by
  have h1 := (g20a_Wn A n _ _ _ _).trans (hg20a_L25 (g20a_R28s0 A x0 (u42 A x1 x0 x7) x2 x3 x4 x5 x6 x7) (A.ib .add .i64 x0 1) (u42 A x1 x0 x7) x2 x3 x4 x5 x6 x7 (by kernel_rfl))
  have h2 := (g20a_F A n _ 28 _ (g20a_R27s0 A x0 x0 x1 x2 x3 x4 x5 x6 x7) _ (by kernel_rfl) (by kernel_rfl)).trans (g20a_R28 A n (g20a_W A n (pth 319) m0 (blockK 6 (g20a_T kk))) x0 (u42 A x1 x0 x7) x2 x3 x4 x5 x6 x7)
  rw [h1] at h2
  have h3 := (g20a_Qn A n _ _ _).trans h2
  have h4 := (blockK_n 7 _ _).trans h3
  have h5 := (g20a_F A n _ 27 _ (g20a_R26s0 A x0 x1 x2 x3 x4 x5 x6 x7) _ (by kernel_rfl) (by kernel_rfl)).trans (g20a_R27 A n (blockK 7 (g20a_Q A n (pth 3903) (g20a_W A n (pth 319) m0 (blockK 6 (g20a_T kk))))) x0 x0 x1 x2 x3 x4 x5 x6 x7)
  rw [h4] at h5
  have h6 := (g20a_Qn A n _ _ _).trans h5
  have h7 := (g20a_F A n _ 26 _ ⟨[(0, pT 0 0), (9, pT 14004 0), (171, i6 x0)], [(0, bH 1 x1 (some x2) x3 x4), (1, bY x5 x6), (14004, bU 8 x7 42)]⟩ _ (by kernel_rfl) (by kernel_rfl)).trans (g20a_R26 A n (g20a_Q A n (pth 13119) (blockK 7 (g20a_Q A n (pth 3903) (g20a_W A n (pth 319) m0 (blockK 6 (g20a_T kk)))))) x0 x1 x2 x3 x4 x5 x6 x7)
  rw [h6] at h7
  have h8 := (g20a_p4927 A n _ _).trans h7
  have h9 := (g20a_p2879 A n _ _).trans h8
  have h10 := (g20a_p1855 A n _ _).trans h9
  exact (g20a_F A n _ 26 _ _ ⟨[(0, pT 0 0), (9, pT 14004 0), (171, i6 x0)], [(0, bH 1 x1 (some x2) x3 x4), (1, bY x5 x6), (14004, bU 8 x7 42)]⟩ (by kernel_rfl) (h.trans (by kernel_rfl))).trans (h10.trans (by kernel_rfl))
def g20a_L25 {R : Type} (A : Ar) (n : Nat) (kk : KK R) : Nat → Int → LN → Nat → Nat → Int → Nat → LN → LN → Option R
  | 0, _, _, _, _, _, _, _, _ => none
  | m + 1, x0, x1, x2, x3, x4, x5, x6, x7 => match A.ic .lss x0 8 with
  | true => g20a_J26 A n kk (g20a_L25 A n kk m) x0 x1 x2 x3 x4 x5 x6 x7
  | false => kk (.tup []) [(0, ⟨[.nums .u64 88 x1, .one (.sl 1 (some x2) x3 1), .one (.int .i64 x4)], 45, 1⟩), (1, ⟨[.nums .u8 x5 x6], 5, 2⟩), (14004, bU 8 x7 42)]
theorem g20a_L25_eq {R : Type} (A : Ar) (n : Nat) (kk : KK R) (m : Nat) (s : St) (x0 : Int) (x1 : LN) (x2 x3 : Nat) (x4 : Int) (x5 : Nat) (x6 x7 : LN) (h : keep g20a_an 25 s = ⟨[(0, pT 0 0), (9, pT 14004 0), (171, i6 x0)], [(0, bH 1 x1 (some x2) x3 x4), (1, bY x5 x6), (14004, bU 8 x7 42)]⟩) :
    g20a_V A n (pth 319) m (blockK 6 (g20a_T kk)) s = g20a_L25 A n kk m x0 x1 x2 x3 x4 x5 x6 x7 := by
  induction m generalizing s x0 x1 x2 x3 x4 x5 x6 x7 with
  | zero => rfl
  | succ m ih =>
    have h1 := (g20a_Qn A n _ _ _).trans (g20a_J26_eq A n kk m (g20a_L25 A n kk m) ih (g20a_R25s0 A x0 x1 x2 x3 x4 x5 x6 x7) x0 x1 x2 x3 x4 x5 x6 x7 (by kernel_rfl))
    have h2 := (g20a_p2367 A n _ _).trans h1
    have h3 : (g20a_T kk) .normal (g20a_R25s0 A x0 x1 x2 x3 x4 x5 x6 x7) = kk (.tup []) [(0, bH 1 x1 (some x2) x3 x4), (1, bY x5 x6), (14004, bU 8 x7 42)] := by kernel_rfl
    have h4 := (blockK_hit 6 _ _).trans h3
    have h5 := (g20a_We A n (pth 319) m _ _ _).trans h4
    have h6 := (g20a_Qe A n (pth 1855) _ _ _).trans h5
    have h7 := (g20a_p3391 A n _ _).trans h6
    have h8 := g20a_p1343 A n (g20a_Q A n (pth 1855) (g20a_W A n (pth 319) m (blockK 6 (g20a_T kk)))) (g20a_R25s0 A x0 x1 x2 x3 x4 x5 x6 x7) (A.ic .lss x0 8) (by kernel_rfl)
    rw [h2, h7] at h8
    have h9 := (g20a_p831 A n _ _).trans h8
    have h10 := (g20a_Qn A n _ _ _).trans h9
    have h11 := (g20a_F A n _ 25 _ ⟨[(0, pT 0 0), (9, pT 14004 0), (171, i6 x0)], [(0, bH 1 x1 (some x2) x3 x4), (1, bY x5 x6), (14004, bU 8 x7 42)]⟩ _ (by kernel_rfl) (by kernel_rfl)).trans (g20a_R25 A n (g20a_Q A n (pth 831) (g20a_W A n (pth 319) m (blockK 6 (g20a_T kk)))) x0 x1 x2 x3 x4 x5 x6 x7)
    rw [h10] at h11
    have h12 := (g20a_p319 A n _ _).trans h11
    exact (loopD_first (s' := ⟨[(0, pT 0 0), (9, pT 14004 0), (171, i6 x0)], [(0, bH 1 x1 (some x2) x3 x4), (1, bY x5 x6), (14004, bU 8 x7 42)]⟩) (id := 25) (by kernel_rfl) (h.trans (by kernel_rfl)) _).trans ((g20a_Vs A n _ m _ _).trans (h12.trans (by kernel_rfl)))
def g20a_J24 {R : Type} (A : Ar) (n : Nat) (kk : KK R) (x0 : LN) (x1 x2 : Nat) (x3 : Int) (x4 : Nat) (x5 x6 : LN) : Option R :=
  g20a_L25 A n kk n 0 x0 x1 x2 x3 x4 x5 x6
theorem g20a_J24_eq {R : Type} (A : Ar) (n : Nat) (kk : KK R) (s : St) (x0 : LN) (x1 x2 : Nat) (x3 : Int) (x4 : Nat) (x5 x6 : LN) (h : keep g20a_an 24 s = ⟨[(0, pT 0 0), (9, pT 14004 0)], [(0, bH 1 x0 (some x1) x2 x3), (1, bY x4 x5), (14004, bU 8 x6 42)]⟩) :
    g20a_D A n (pth 63) (g20a_T kk) s = g20a_J24 A n kk x0 x1 x2 x3 x4 x5 x6 := by
  have h1 := (g20a_p191 A n _ _).trans (g20a_L25_eq A n kk n (g20a_R24s0 A x0 x1 x2 x3 x4 x5 x6) 0 x0 x1 x2 x3 x4 x5 x6 (by kernel_rfl))
  have h2 := (g20a_p127 A n _ _).trans h1
  have h3 := (g20a_Qn A n _ _ _).trans h2
  have h4 := (g20a_F A n _ 24 _ ⟨[(0, pT 0 0), (9, pT 14004 0)], [(0, bH 1 x0 (some x1) x2 x3), (1, bY x4 x5), (14004, bU 8 x6 42)]⟩ _ (by kernel_rfl) (by kernel_rfl)).trans (g20a_R24 A n (g20a_Q A n (pth 127) (g20a_T kk)) x0 x1 x2 x3 x4 x5 x6)
  rw [h3] at h4
  have h5 := (g20a_p63 A n _ _).trans h4
  exact (g20a_F A n _ 24 _ _ ⟨[(0, pT 0 0), (9, pT 14004 0)], [(0, bH 1 x0 (some x1) x2 x3), (1, bY x4 x5), (14004, bU 8 x6 42)]⟩ (by kernel_rfl) (h.trans (by kernel_rfl))).trans (h5.trans (by kernel_rfl))
def g20a_L15 {R : Type} (A : Ar) (n : Nat) (kk : KK R) : Nat → Int → LN → Nat → Nat → Int → Nat → LN → LN → LN → Option R
  | 0, _, _, _, _, _, _, _, _, _ => none
  | m + 1, x0, x1, x2, x3, x4, x5, x6, x7, x8 => match A.ic .lss x0 80 with
  | true => g20a_J16 A n kk (g20a_L15 A n kk m) x0 x1 x2 x3 x4 x5 x6 x7 x8
  | false => g20a_J24 A n kk x1 x2 x3 x4 x5 x6 x8
theorem g20a_L15_eq {R : Type} (A : Ar) (n : Nat) (kk : KK R) (m : Nat) (s : St) (x0 : Int) (x1 : LN) (x2 x3 : Nat) (x4 : Int) (x5 : Nat) (x6 x7 x8 : LN) (h : keep g20a_an 15 s = ⟨[(0, pT 0 0), (4, pT 1000 0), (9, pT 14004 0), (87, i6 x0)], [(0, bH 1 x1 (some x2) x3 x4), (1, bY x5 x6), (1000, bU 80 x7 43), (14004, bU 8 x8 42)]⟩) :
    g20a_V A n (pth 303) m (blockK 4 (g20a_Q A n (pth 63) (g20a_T kk))) s = g20a_L15 A n kk m x0 x1 x2 x3 x4 x5 x6 x7 x8 := by
  induction m generalizing s x0 x1 x2 x3 x4 x5 x6 x7 x8 with
  | zero => rfl
  | succ m ih =>
    have h1 := (g20a_Qn A n _ _ _).trans (g20a_J16_eq A n kk m (g20a_L15 A n kk m) ih (g20a_R15s0 A x0 x1 x2 x3 x4 x5 x6 x7 x8) x0 x1 x2 x3 x4 x5 x6 x7 x8 (by kernel_rfl))
    have h2 := (g20a_p2351 A n _ _).trans h1
    have h3 := (g20a_Qn A n _ _ _).trans (g20a_J24_eq A n kk (g20a_R15s0 A x0 x1 x2 x3 x4 x5 x6 x7 x8) x1 x2 x3 x4 x5 x6 x8 (by kernel_rfl))
    have h4 := (blockK_hit 4 _ _).trans h3
    have h5 := (g20a_We A n (pth 303) m _ _ _).trans h4
    have h6 := (g20a_Qe A n (pth 1839) _ _ _).trans h5
    have h7 := (g20a_p3375 A n _ _).trans h6
    have h8 := g20a_p1327 A n (g20a_Q A n (pth 1839) (g20a_W A n (pth 303) m (blockK 4 (g20a_Q A n (pth 63) (g20a_T kk))))) (g20a_R15s0 A x0 x1 x2 x3 x4 x5 x6 x7 x8) (A.ic .lss x0 80) (by kernel_rfl)
    rw [h2, h7] at h8
    have h9 := (g20a_p815 A n _ _).trans h8
    have h10 := (g20a_Qn A n _ _ _).trans h9
    have h11 := (g20a_F A n _ 15 _ ⟨[(0, pT 0 0), (4, pT 1000 0), (9, pT 14004 0), (87, i6 x0)], [(0, bH 1 x1 (some x2) x3 x4), (1, bY x5 x6), (1000, bU 80 x7 43), (14004, bU 8 x8 42)]⟩ _ (by kernel_rfl) (by kernel_rfl)).trans (g20a_R15 A n (g20a_Q A n (pth 815) (g20a_W A n (pth 303) m (blockK 4 (g20a_Q A n (pth 63) (g20a_T kk))))) x0 x1 x2 x3 x4 x5 x6 x7 x8)
    rw [h10] at h11
    have h12 := (g20a_p303 A n _ _).trans h11
    exact (loopD_first (s' := ⟨[(0, pT 0 0), (4, pT 1000 0), (9, pT 14004 0), (87, i6 x0)], [(0, bH 1 x1 (some x2) x3 x4), (1, bY x5 x6), (1000, bU 80 x7 43), (14004, bU 8 x8 42)]⟩) (id := 15) (by kernel_rfl) (h.trans (by kernel_rfl)) _).trans ((g20a_Vs A n _ m _ _).trans (h12.trans (by kernel_rfl)))
def g20a_J13 {R : Type} (A : Ar) (n : Nat) (kk : KK R) (x0 : LN) (x1 x2 : Nat) (x3 : Int) (x4 : Nat) (x5 x6 : LN) : Option R :=
  g20a_L15 A n kk n 0 x0 x1 x2 x3 x4 x5 x6 ((x0.drop 0).take 8)
theorem g20a_J13_eq {R : Type} (A : Ar) (n : Nat) (kk : KK R) (s : St) (x0 : LN) (x1 x2 : Nat) (x3 : Int) (x4 : Nat) (x5 x6 : LN) (h : keep g20a_an 13 s = ⟨[(0, pT 0 0), (4, pT 1000 0)], [(0, bH 1 x0 (some x1) x2 x3), (1, bY x4 x5), (1000, bU 80 x6 43)]⟩) :
    g20a_D A n (pth 15) (g20a_T kk) s = g20a_J13 A n kk x0 x1 x2 x3 x4 x5 x6 := by
  have h1 := (g20a_p175 A n _ _).trans (g20a_L15_eq A n kk n (g20a_R14s0 A x0 x1 x2 x3 x4 x5 x6 ((x0.drop 0).take 8)) 0 x0 x1 x2 x3 x4 x5 x6 ((x0.drop 0).take 8) (by kernel_rfl))
  have h2 := (g20a_p111 A n _ _).trans h1
  have h3 := (g20a_Qn A n _ _ _).trans h2
  have h4 := (g20a_F A n _ 14 _ (g20a_R13s0 A x0 x1 x2 x3 x4 x5 x6) _ (by kernel_rfl) (by kernel_rfl)).trans (g20a_R14 A n (g20a_Q A n (pth 111) (g20a_Q A n (pth 63) (g20a_T kk))) x0 x1 x2 x3 x4 x5 x6 ((x0.drop 0).take 8))
  rw [h3] at h4
  have h5 := (g20a_p47 A n _ _).trans h4
  have h6 := (g20a_p31 A n _ _).trans h5
  have h7 := (g20a_Qn A n _ _ _).trans h6
  have h8 := (g20a_F A n _ 13 _ ⟨[(0, pT 0 0), (4, pT 1000 0)], [(0, bH 1 x0 (some x1) x2 x3), (1, bY x4 x5), (1000, bU 80 x6 43)]⟩ _ (by kernel_rfl) (by kernel_rfl)).trans (g20a_R13 A n (g20a_Q A n (pth 31) (g20a_T kk)) x0 x1 x2 x3 x4 x5 x6)
  rw [h7] at h8
  have h9 := (g20a_p15 A n _ _).trans h8
  exact (g20a_F A n _ 13 _ _ ⟨[(0, pT 0 0), (4, pT 1000 0)], [(0, bH 1 x0 (some x1) x2 x3), (1, bY x4 x5), (1000, bU 80 x6 43)]⟩ (by kernel_rfl) (h.trans (by kernel_rfl))).trans (h9.trans (by kernel_rfl))
def g20a_L7 {R : Type} (A : Ar) (n : Nat) (kk : KK R) : Nat → Int → LN → Nat → Nat → Int → Nat → LN → LN → Option R
  | 0, _, _, _, _, _, _, _, _ => none
  | m + 1, x0, x1, x2, x3, x4, x5, x6, x7 => match A.ic .lss x0 80 with
  | true => g20a_J9 A n kk (g20a_L7 A n kk m) x0 x1 x2 x3 x4 x5 x6 x7
  | false => g20a_J13 A n kk x1 x2 x3 x4 x5 x6 x7
theorem g20a_L7_eq {R : Type} (A : Ar) (n : Nat) (kk : KK R) (m : Nat) (s : St) (x0 : Int) (x1 : LN) (x2 x3 : Nat) (x4 : Int) (x5 : Nat) (x6 x7 : LN) (h : keep g20a_an 7 s = ⟨[(0, pT 0 0), (4, pT 1000 0), (6, i6 x0)], [(0, bH 1 x1 (some x2) x3 x4), (1, bY x5 x6), (1000, bU 80 x7 43)]⟩) :
    g20a_V A n (pth 75) m (blockK 2 (g20a_Q A n (pth 15) (g20a_T kk))) s = g20a_L7 A n kk m x0 x1 x2 x3 x4 x5 x6 x7 := by
  induction m generalizing s x0 x1 x2 x3 x4 x5 x6 x7 with
  | zero => rfl
  | succ m ih =>
    have h1 := (g20a_Qn A n _ _ _).trans (g20a_J9_eq A n kk m (g20a_L7 A n kk m) ih (g20a_R7s0 A x0 x1 x2 x3 x4 x5 x6 x7) x0 x1 x2 x3 x4 x5 x6 x7 (by kernel_rfl))
    have h2 := (g20a_p651 A n _ _).trans h1
    have h3 := (g20a_Qn A n _ _ _).trans (g20a_J13_eq A n kk (g20a_R7s0 A x0 x1 x2 x3 x4 x5 x6 x7) x1 x2 x3 x4 x5 x6 x7 (by kernel_rfl))
    have h4 := (blockK_hit 2 _ _).trans h3
    have h5 := (g20a_We A n (pth 75) m _ _ _).trans h4
    have h6 := (g20a_Qe A n (pth 203) _ _ _).trans h5
    have h7 := (g20a_p907 A n _ _).trans h6
    have h8 := g20a_p395 A n (g20a_Q A n (pth 203) (g20a_W A n (pth 75) m (blockK 2 (g20a_Q A n (pth 15) (g20a_T kk))))) (g20a_R7s0 A x0 x1 x2 x3 x4 x5 x6 x7) (A.ic .lss x0 80) (by kernel_rfl)
    rw [h2, h7] at h8
    have h9 := (g20a_Qn A n _ _ _).trans h8
    have h10 := (g20a_F A n _ 7 _ ⟨[(0, pT 0 0), (4, pT 1000 0), (6, i6 x0)], [(0, bH 1 x1 (some x2) x3 x4), (1, bY x5 x6), (1000, bU 80 x7 43)]⟩ _ (by kernel_rfl) (by kernel_rfl)).trans (g20a_R7 A n (g20a_Q A n (pth 395) (g20a_Q A n (pth 203) (g20a_W A n (pth 75) m (blockK 2 (g20a_Q A n (pth 15) (g20a_T kk)))))) x0 x1 x2 x3 x4 x5 x6 x7)
    rw [h9] at h10
    have h11 := (g20a_p139 A n _ _).trans h10
    have h12 := (g20a_p75 A n _ _).trans h11
    exact (loopD_first (s' := ⟨[(0, pT 0 0), (4, pT 1000 0), (6, i6 x0)], [(0, bH 1 x1 (some x2) x3 x4), (1, bY x5 x6), (1000, bU 80 x7 43)]⟩) (id := 7) (by kernel_rfl) (h.trans (by kernel_rfl)) _).trans ((g20a_Vs A n _ m _ _).trans (h12.trans (by kernel_rfl)))
def g20a_J6 {R : Type} (A : Ar) (n : Nat) (kk : KK R) (x0 : LN) (x1 x2 : Nat) (x3 : Int) (x4 : Nat) (x5 x6 : LN) : Option R :=
  g20a_L7 A n kk n 16 x0 x1 x2 x3 x4 x5 x6
theorem g20a_J6_eq {R : Type} (A : Ar) (n : Nat) (kk : KK R) (s : St) (x0 : LN) (x1 x2 : Nat) (x3 : Int) (x4 : Nat) (x5 x6 : LN) (h : keep g20a_an 6 s = ⟨[(0, pT 0 0), (4, pT 1000 0)], [(0, bH 1 x0 (some x1) x2 x3), (1, bY x4 x5), (1000, bU 80 x6 43)]⟩) :
    g20a_D A n (pth 7) (g20a_T kk) s = g20a_J6 A n kk x0 x1 x2 x3 x4 x5 x6 := by
  have h1 := (g20a_p43 A n _ _).trans (g20a_L7_eq A n kk n (g20a_R6s0 A x0 x1 x2 x3 x4 x5 x6) 16 x0 x1 x2 x3 x4 x5 x6 (by kernel_rfl))
  have h2 := (g20a_p27 A n _ _).trans h1
  have h3 := (g20a_Qn A n _ _ _).trans h2
  have h4 := (g20a_F A n _ 6 _ ⟨[(0, pT 0 0), (4, pT 1000 0)], [(0, bH 1 x0 (some x1) x2 x3), (1, bY x4 x5), (1000, bU 80 x6 43)]⟩ _ (by kernel_rfl) (by kernel_rfl)).trans (g20a_R6 A n (g20a_Q A n (pth 27) (g20a_Q A n (pth 15) (g20a_T kk))) x0 x1 x2 x3 x4 x5 x6)
  rw [h3] at h4
  have h5 := (g20a_p11 A n _ _).trans h4
  have h6 := (g20a_p7 A n _ _).trans h5
  exact (g20a_F A n _ 6 _ _ ⟨[(0, pT 0 0), (4, pT 1000 0)], [(0, bH 1 x0 (some x1) x2 x3), (1, bY x4 x5), (1000, bU 80 x6 43)]⟩ (by kernel_rfl) (h.trans (by kernel_rfl))).trans (h6.trans (by kernel_rfl))
def g20a_L2 {R : Type} (A : Ar) (n : Nat) (kk : KK R) : Nat → Nat → Nat → Int → LN → Nat → Nat → Int → Nat → LN → LN → Option R
  | 0, _, _, _, _, _, _, _, _, _, _ => none
  | m + 1, x0, x1, x2, x3, x4, x5, x6, x7, x8, x9 => match A.ic .lss x2 128 with
  | true => g20a_J3 A n kk (g20a_L2 A n kk m) x0 x1 x2 x3 x4 x5 x6 x7 x8 x9
  | false => g20a_J6 A n kk x3 x4 x5 x6 x7 x8 x9
theorem g20a_L2_eq {R : Type} (A : Ar) (n : Nat) (kk : KK R) (m : Nat) (s : St) (x0 x1 : Nat) (x2 : Int) (x3 : LN) (x4 x5 : Nat) (x6 : Int) (x7 : Nat) (x8 x9 : LN) (h : keep g20a_an 2 s = ⟨[(0, pT 0 0), (1, sL 1 (some x0) x1 1), (4, pT 1000 0), (16, i6 x2)], [(0, bH 1 x3 (some x4) x5 x6), (1, bY x7 x8), (1000, bU 80 x9 43)]⟩) :
    g20a_V A n (pth 37) m (blockK 0 (g20a_Q A n (pth 7) (g20a_T kk))) s = g20a_L2 A n kk m x0 x1 x2 x3 x4 x5 x6 x7 x8 x9 := by
  induction m generalizing s x0 x1 x2 x3 x4 x5 x6 x7 x8 x9 with
  | zero => rfl
  | succ m ih =>
    have h1 := (g20a_Qn A n _ _ _).trans (g20a_J3_eq A n kk m (g20a_L2 A n kk m) ih (g20a_R2s0 A x0 x1 x2 x3 x4 x5 x6 x7 x8 x9) x0 x1 x2 x3 x4 x5 x6 x7 x8 x9 (by kernel_rfl))
    have h2 := (g20a_p293 A n _ _).trans h1
    have h3 := (g20a_Qn A n _ _ _).trans (g20a_J6_eq A n kk (g20a_R2s0 A x0 x1 x2 x3 x4 x5 x6 x7 x8 x9) x3 x4 x5 x6 x7 x8 x9 (by kernel_rfl))
    have h4 := (blockK_hit 0 _ _).trans h3
    have h5 := (g20a_We A n (pth 37) m _ _ _).trans h4
    have h6 := (g20a_Qe A n (pth 229) _ _ _).trans h5
    have h7 := (g20a_p421 A n _ _).trans h6
    have h8 := g20a_p165 A n (g20a_Q A n (pth 229) (g20a_W A n (pth 37) m (blockK 0 (g20a_Q A n (pth 7) (g20a_T kk))))) (g20a_R2s0 A x0 x1 x2 x3 x4 x5 x6 x7 x8 x9) (A.ic .lss x2 128) (by kernel_rfl)
    rw [h2, h7] at h8
    have h9 := (g20a_p101 A n _ _).trans h8
    have h10 := (g20a_Qn A n _ _ _).trans h9
    have h11 := (g20a_F A n _ 2 _ ⟨[(0, pT 0 0), (1, sL 1 (some x0) x1 1), (4, pT 1000 0), (16, i6 x2)], [(0, bH 1 x3 (some x4) x5 x6), (1, bY x7 x8), (1000, bU 80 x9 43)]⟩ _ (by kernel_rfl) (by kernel_rfl)).trans (g20a_R2 A n (g20a_Q A n (pth 101) (g20a_W A n (pth 37) m (blockK 0 (g20a_Q A n (pth 7) (g20a_T kk))))) x0 x1 x2 x3 x4 x5 x6 x7 x8 x9)
    rw [h10] at h11
    have h12 := (g20a_p37 A n _ _).trans h11
    exact (loopD_first (s' := ⟨[(0, pT 0 0), (1, sL 1 (some x0) x1 1), (4, pT 1000 0), (16, i6 x2)], [(0, bH 1 x3 (some x4) x5 x6), (1, bY x7 x8), (1000, bU 80 x9 43)]⟩) (id := 2) (by kernel_rfl) (h.trans (by kernel_rfl)) _).trans ((g20a_Vs A n _ m _ _).trans (h12.trans (by kernel_rfl)))
def g20a_ {R : Type} (A : Ar) (n : Nat) (kk : KK R) (x0 x1 : Nat) (x2 : LN) (x3 x4 : Nat) (x5 : Int) (x6 : Nat) (x7 : LN) : Option R :=
  g20a_L2 A n kk n x0 x1 0 x2 x3 x4 x5 x6 x7 [0, 0, 0, 0, 0, 0, 0, 0, 0, 0, 0, 0, 0, 0, 0, 0, 0, 0, 0, 0, 0, 0, 0, 0, 0, 0, 0, 0, 0, 0, 0, 0, 0, 0, 0, 0, 0, 0, 0, 0, 0, 0, 0, 0, 0, 0, 0, 0, 0, 0, 0, 0, 0, 0, 0, 0, 0, 0, 0, 0, 0, 0, 0, 0, 0, 0, 0, 0, 0, 0, 0, 0, 0, 0, 0, 0, 0, 0, 0, 0]
theorem g20a__eq {R : Type} (A : Ar) (n : Nat) (kk : KK R) (x0 x1 : Nat) (x2 : LN) (x3 x4 : Nat) (x5 : Int) (x6 : Nat) (x7 : LN) :
    funD A gtys (g20a_O A) g20a_an n (bodyOf Try.f20) g20a_res [(pT 0 0), (sL 1 (some x0) x1 1)] [(0, bH 1 x2 (some x3) x4 x5), (1, bY x6 x7)] kk = g20a_ A n kk x0 x1 x2 x3 x4 x5 x6 x7 := by
  have h1 := (g20a_p21 A n _ _).trans (g20a_L2_eq A n kk n (g20a_R1s0 A x0 x1 x2 x3 x4 x5 x6 x7 z80) x0 x1 0 x2 x3 x4 x5 x6 x7 z80 (by kernel_rfl))
  have h2 := (g20a_p13 A n _ _).trans h1
  have h3 := (g20a_Qn A n _ _ _).trans h2
  have h4 := (g20a_F A n _ 1 _ (g20a_R0s0 A x0 x1 x2 x3 x4 x5 x6 x7) _ (by kernel_rfl) (by kernel_rfl)).trans (g20a_R1 A n (g20a_Q A n (pth 13) (g20a_Q A n (pth 7) (g20a_T kk))) x0 x1 x2 x3 x4 x5 x6 x7 z80)
  rw [h3] at h4
  have h5 := (g20a_p5 A n _ _).trans h4
  have h6 := (g20a_p3 A n _ _).trans h5
  have h7 := (g20a_Qn A n _ _ _).trans h6
  have h8 := (g20a_F A n _ 0 _ ⟨[(0, pT 0 0), (1, sL 1 (some x0) x1 1)], [(0, bH 1 x2 (some x3) x4 x5), (1, bY x6 x7)]⟩ _ (by kernel_rfl) (by kernel_rfl)).trans (g20a_R0 A n (g20a_Q A n (pth 3) (g20a_T kk)) x0 x1 x2 x3 x4 x5 x6 x7)
  rw [h7] at h8
  have h9 := (g20a_p1 A n _ _).trans h8
  exact (show funD A gtys (g20a_O A) g20a_an n (bodyOf Try.f20) g20a_res [(pT 0 0), (sL 1 (some x0) x1 1)] [(0, bH 1 x2 (some x3) x4 x5), (1, bY x6 x7)] kk = g20a_D A n (pth 1) (g20a_T kk) ⟨[(0, pT 0 0), (1, sL 1 (some x0) x1 1)], [(0, bH 1 x2 (some x3) x4 x5), (1, bY x6 x7)]⟩ from by kernel_rfl).trans (h9.trans (by kernel_rfl))
def g20a_is (o : Option (AV × Heap)) : Bool := match o with
  | some (.tup [], [(n0, ⟨[.nums .u64 n1 _, .one (.sl n2 (some _) _ n3), .one (.int .i64 _)], n4, n5⟩), (n6, ⟨[.nums .u8 _ _], n7, n8⟩)]) => Nat.beq n0 0 && (Nat.beq n1 88 && (Nat.beq n2 1 && (Nat.beq n3 1 && (Nat.beq n4 45 && (Nat.beq n5 1 && (Nat.beq n6 1 && (Nat.beq n7 5 && (Nat.beq n8 2))))))))
  | _ => false
def g20a_g0 (o : Option (AV × Heap)) : LN := match o with
  | some (.tup [], [(_, ⟨[.nums .u64 _ x, .one (.sl _ (some _) _ _), .one (.int .i64 _)], _, _⟩), (_, ⟨[.nums .u8 _ _], _, _⟩)]) => x
  | _ => []
def g20a_g1 (o : Option (AV × Heap)) : Nat := match o with
  | some (.tup [], [(_, ⟨[.nums .u64 _ _, .one (.sl _ (some x) _ _), .one (.int .i64 _)], _, _⟩), (_, ⟨[.nums .u8 _ _], _, _⟩)]) => x
  | _ => 0
def g20a_g2 (o : Option (AV × Heap)) : Nat := match o with
  | some (.tup [], [(_, ⟨[.nums .u64 _ _, .one (.sl _ (some _) x _), .one (.int .i64 _)], _, _⟩), (_, ⟨[.nums .u8 _ _], _, _⟩)]) => x
  | _ => 0
def g20a_g3 (o : Option (AV × Heap)) : Int := match o with
  | some (.tup [], [(_, ⟨[.nums .u64 _ _, .one (.sl _ (some _) _ _), .one (.int .i64 x)], _, _⟩), (_, ⟨[.nums .u8 _ _], _, _⟩)]) => x
  | _ => 0
def g20a_g4 (o : Option (AV × Heap)) : Nat := match o with
  | some (.tup [], [(_, ⟨[.nums .u64 _ _, .one (.sl _ (some _) _ _), .one (.int .i64 _)], _, _⟩), (_, ⟨[.nums .u8 x _], _, _⟩)]) => x
  | _ => 0
def g20a_g5 (o : Option (AV × Heap)) : LN := match o with
  | some (.tup [], [(_, ⟨[.nums .u64 _ _, .one (.sl _ (some _) _ _), .one (.int .i64 _)], _, _⟩), (_, ⟨[.nums .u8 _ x], _, _⟩)]) => x
  | _ => []
theorem g20a_is_spec {o : Option (AV × Heap)} (h : g20a_is o = true) : o = some ((.tup []), [(0, ⟨[.nums .u64 88 (g20a_g0 o), .one (.sl 1 (some (g20a_g1 o)) (g20a_g2 o) 1), .one (.int .i64 (g20a_g3 o))], 45, 1⟩), (1, ⟨[.nums .u8 (g20a_g4 o) (g20a_g5 o)], 5, 2⟩)]) := by
  unfold g20a_is at h
  split at h
  · rename_i n0 n1 z2 n2 z4 z5 n3 z7 n4 n5 n6 z11 z12 n7 n8
    simp only [Bool.and_eq_true] at h
    have en0 := beq_true h.1
    subst en0
    replace h := h.2
    have en1 := beq_true h.1
    subst en1
    replace h := h.2
    have en2 := beq_true h.1
    subst en2
    replace h := h.2
    have en3 := beq_true h.1
    subst en3
    replace h := h.2
    have en4 := beq_true h.1
    subst en4
    replace h := h.2
    have en5 := beq_true h.1
    subst en5
    replace h := h.2
    have en6 := beq_true h.1
    subst en6
    replace h := h.2
    have en7 := beq_true h.1
    subst en7
    replace h := h.2
    have en8 := beq_true h
    subst en8
    rfl
  · cases h
def g20a_v (A : Ar) (x0 x1 : Nat) (x2 : LN) (x3 x4 : Nat) (x5 : Int) (x6 : Nat) (x7 : LN) : Option (AV × Heap) := g20a_ A (100000) (outH [0, 1] none) x0 x1 x2 x3 x4 x5 x6 x7
def g20a_ok (A : Ar) (x0 x1 : Nat) (x2 : LN) (x3 x4 : Nat) (x5 : Int) (x6 : Nat) (x7 : LN) : Bool := g20a_is (g20a_v A x0 x1 x2 x3 x4 x5 x6 x7)
def g20a_r0 (A : Ar) (x0 x1 : Nat) (x2 : LN) (x3 x4 : Nat) (x5 : Int) (x6 : Nat) (x7 : LN) : LN := g20a_g0 (g20a_v A x0 x1 x2 x3 x4 x5 x6 x7)
def g20a_r1 (A : Ar) (x0 x1 : Nat) (x2 : LN) (x3 x4 : Nat) (x5 : Int) (x6 : Nat) (x7 : LN) : Nat := g20a_g1 (g20a_v A x0 x1 x2 x3 x4 x5 x6 x7)
def g20a_r2 (A : Ar) (x0 x1 : Nat) (x2 : LN) (x3 x4 : Nat) (x5 : Int) (x6 : Nat) (x7 : LN) : Nat := g20a_g2 (g20a_v A x0 x1 x2 x3 x4 x5 x6 x7)
def g20a_r3 (A : Ar) (x0 x1 : Nat) (x2 : LN) (x3 x4 : Nat) (x5 : Int) (x6 : Nat) (x7 : LN) : Int := g20a_g3 (g20a_v A x0 x1 x2 x3 x4 x5 x6 x7)
def g20a_r4 (A : Ar) (x0 x1 : Nat) (x2 : LN) (x3 x4 : Nat) (x5 : Int) (x6 : Nat) (x7 : LN) : Nat := g20a_g4 (g20a_v A x0 x1 x2 x3 x4 x5 x6 x7)
def g20a_r5 (A : Ar) (x0 x1 : Nat) (x2 : LN) (x3 x4 : Nat) (x5 : Int) (x6 : Nat) (x7 : LN) : LN := g20a_g5 (g20a_v A x0 x1 x2 x3 x4 x5 x6 x7)
theorem g20a_ok_spec {A : Ar} {x0 x1 x2 x3 x4 x5 x6 x7} (h : g20a_ok A x0 x1 x2 x3 x4 x5 x6 x7 = true) : g20a_v A x0 x1 x2 x3 x4 x5 x6 x7 = some ((.tup []), [(0, ⟨[.nums .u64 88 (g20a_r0 A x0 x1 x2 x3 x4 x5 x6 x7), .one (.sl 1 (some (g20a_r1 A x0 x1 x2 x3 x4 x5 x6 x7)) (g20a_r2 A x0 x1 x2 x3 x4 x5 x6 x7) 1), .one (.int .i64 (g20a_r3 A x0 x1 x2 x3 x4 x5 x6 x7))], 45, 1⟩), (1, ⟨[.nums .u8 (g20a_r4 A x0 x1 x2 x3 x4 x5 x6 x7) (g20a_r5 A x0 x1 x2 x3 x4 x5 x6 x7)], 5, 2⟩)]) := g20a_is_spec h
def g20a_o (A : Ar) (args : List AV) (h : Heap) : Option (Bool × AV × Heap) := match args, h with
  | [.v (.cell (.ptr n0 n1 none)), .v (.cell (.sl n2 (some x0) x1 n3))], [(n4, ⟨[.nums .u64 n5 x2, .one (.sl n6 (some x3) x4 n7), .one (.int .i64 x5)], n8, n9⟩), (n10, ⟨[.nums .u8 x6 x7], n11, n12⟩)] => match Nat.beq n0 0 && (Nat.beq n1 0 && (Nat.beq n2 1 && (Nat.beq n3 1 && (Nat.beq n4 0 && (Nat.beq n5 88 && (Nat.beq n6 1 && (Nat.beq n7 1 && (Nat.beq n8 45 && (Nat.beq n9 1 && (Nat.beq n10 1 && (Nat.beq n11 5 && (Nat.beq n12 2)))))))))))) with
    | true => some (g20a_ok A x0 x1 x2 x3 x4 x5 x6 x7, (.tup []), [(0, ⟨[.nums .u64 88 (g20a_r0 A x0 x1 x2 x3 x4 x5 x6 x7), .one (.sl 1 (some (g20a_r1 A x0 x1 x2 x3 x4 x5 x6 x7)) (g20a_r2 A x0 x1 x2 x3 x4 x5 x6 x7) 1), .one (.int .i64 (g20a_r3 A x0 x1 x2 x3 x4 x5 x6 x7))], 45, 1⟩), (1, ⟨[.nums .u8 (g20a_r4 A x0 x1 x2 x3 x4 x5 x6 x7) (g20a_r5 A x0 x1 x2 x3 x4 x5 x6 x7)], 5, 2⟩)])
    | false => none
  | _, _ => none
theorem g20a_o_sound : ∀ args h v h', g20a_o realA args h = some (true, v, h') → FnH Try.prog 20 args h v h' := by
  intro args h v h' hh
  unfold g20a_o at hh
  split at hh
  · rename_i n0 n1 n2 x0 x1 n3 n4 n5 x2 n6 x3 x4 n7 x5 n8 n9 n10 x6 x7 n11 n12
    split at hh
    case h_2 => cases hh
    rename_i hc0
    simp only [Option.some.injEq, Prod.mk.injEq] at hh
    obtain ⟨hc, hv, hh⟩ := hh
    subst hv
    subst hh
    simp only [Bool.and_eq_true] at hc0
    have en0 := beq_true hc0.1
    subst en0
    replace hc0 := hc0.2
    have en1 := beq_true hc0.1
    subst en1
    replace hc0 := hc0.2
    have en2 := beq_true hc0.1
    subst en2
    replace hc0 := hc0.2
    have en3 := beq_true hc0.1
    subst en3
    replace hc0 := hc0.2
    have en4 := beq_true hc0.1
    subst en4
    replace hc0 := hc0.2
    have en5 := beq_true hc0.1
    subst en5
    replace hc0 := hc0.2
    have en6 := beq_true hc0.1
    subst en6
    replace hc0 := hc0.2
    have en7 := beq_true hc0.1
    subst en7
    replace hc0 := hc0.2
    have en8 := beq_true hc0.1
    subst en8
    replace hc0 := hc0.2
    have en9 := beq_true hc0.1
    subst en9
    replace hc0 := hc0.2
    have en10 := beq_true hc0.1
    subst en10
    replace hc0 := hc0.2
    have en11 := beq_true hc0.1
    subst en11
    replace hc0 := hc0.2
    have en12 := beq_true hc0
    subst en12
    exact fnh_of mixed gtysOK g20a_O_sound g20a_O_det (an := g20a_an) (n := 100000) Try.func20 (c := bodyOf Try.f20) rfl (by kernel_rfl) Try.call20 (Nat.le_of_ble_eq_true rfl) (pins := [0, 1]) (nilr := none) (fun _ => (g20a__eq realA (100000) (outH [0, 1] none) x0 x1 x2 x3 x4 x5 x6 x7).trans (show g20a_v realA x0 x1 x2 x3 x4 x5 x6 x7 = _ from g20a_ok_spec hc))
  · cases hh
def g12O (A : Ar) : Orc := orcH [] [(20, ⟨[], none, (ho2 (g20o A) (g20a_o A))⟩)]
theorem g12O_sound : OSound Try.prog (g12O realA) := orcH_sound (fun f g hm args v hv => by
    cases hm) (fun f e hm args h v h' hv => by
    simp only [List.mem_cons, List.not_mem_nil, or_false, Prod.mk.injEq] at hm
    rcases hm with ⟨rfl, rfl⟩
    · exact (ho2_sound g20o_sound g20a_o_sound) _ _ _ _ hv)
theorem g12O_det : ODet (g12O realA) := orcH_det _ _
def g12an : Ann := [(0, ([0, 1], [0, 501])), (1, ([0, 1], [0, 501])), (2, ([0], [0, 501])), (3, ([0], [0, 501])), (4, ([0], [0, 501]))]
def g12res : List ResultVar := []
noncomputable def g12D {R : Type} (A : Ar) (n : Nat) (p : List Bool) (K : Ex → St → Option R) (s : St) : Option R := codeD A gtys (g12O A) g12an n (sub (bodyOf Try.f12) p) K s
noncomputable def g12V {R : Type} (A : Ar) (n : Nat) (p : List Bool) (m : Nat) (K : Ex → St → Option R) (s : St) : Option R := loopD (fun K' s'' => codeD A gtys (g12O A) g12an n (sub (bodyOf Try.f12) p) K' s'') m K s
noncomputable def g12Q {R : Type} (A : Ar) (n : Nat) (p : List Bool) (K : Ex → St → Option R) : Ex → St → Option R := seqC (g12D A n p K) K
noncomputable def g12W {R : Type} (A : Ar) (n : Nat) (p : List Bool) (m : Nat) (K : Ex → St → Option R) : Ex → St → Option R := seqC (g12V A n p m K) K
noncomputable def g12T {R : Type} (kk : KK R) : Ex → St → Option R := finD gtys g12res kk
theorem g12Qn {R : Type} (A : Ar) (n : Nat) (p : List Bool) (K : Ex → St → Option R) (s : St) : g12Q A n p K .normal s = g12D A n p K s := rfl
theorem g12Qe {R : Type} (A : Ar) (n : Nat) (p : List Bool) (K : Ex → St → Option R) (i : Nat) (s : St) : g12Q A n p K (.exit i) s = K (.exit i) s := rfl
theorem g12Wn {R : Type} (A : Ar) (n : Nat) (p : List Bool) (m : Nat) (K : Ex → St → Option R) (s : St) : g12W A n p m K .normal s = g12V A n p m K s := rfl
theorem g12We {R : Type} (A : Ar) (n : Nat) (p : List Bool) (m : Nat) (K : Ex → St → Option R) (i : Nat) (s : St) : g12W A n p m K (.exit i) s = K (.exit i) s := rfl
theorem g12Vs {R : Type} (A : Ar) (n : Nat) (p : List Bool) (m : Nat) (K : Ex → St → Option R) (s : St) : g12V A n p (m + 1) K s = g12D A n p (g12W A n p m K) s := rfl
theorem g12F {R : Type} (A : Ar) (n : Nat) (p : List Bool) (i : Nat) (K : Ex → St → Option R) (s s' : St) (hf : firstReg (sub (bodyOf Try.f12) p) = some i) (h : keep g12an i s = keep g12an i s') : g12D A n p K s = g12D A n p K s' := codeD_first hf h K
section
variable {R : Type} (A : Ar) (n : Nat) (K : Ex → St → Option R) (s : St)
theorem g12p1 : g12D A n (pth 1) K s = g12D A n (pth 2) (g12Q A n (pth 3) K) s := by kernel_rfl
theorem g12p3 : g12D A n (pth 3) K s = g12D A n (pth 5) (g12Q A n (pth 7) K) s := by kernel_rfl
theorem g12p7 : g12D A n (pth 7) K s = g12D A n (pth 11) (blockK 0 K) s := by kernel_rfl
theorem g12p11 : g12D A n (pth 11) K s = g12V A n (pth 19) n K s := by kernel_rfl
theorem g12p19 : g12D A n (pth 19) K s = g12D A n (pth 35) (g12Q A n (pth 51) K) s := by kernel_rfl
theorem g12p35 : g12D A n (pth 35) K s = g12D A n (pth 67) (g12Q A n (pth 99) K) s := by kernel_rfl
theorem g12p99 (t : Bool) : ev s (.tmp 27) = some (.v (.cell (.bool t))) → g12D A n (pth 99) K s = (match t with
    | true => g12D A n (pth 163) K s
    | false => g12D A n (pth 227) K s) := codeD_cond t
theorem g12p163 : g12D A n (pth 163) K s = K .normal s := by kernel_rfl
theorem g12p227 : g12D A n (pth 227) K s = K (.exit 0) s := by kernel_rfl
theorem g12p51 : g12D A n (pth 51) K s = g12D A n (pth 83) (blockK 1 K) s := by kernel_rfl
theorem g12p83 : g12D A n (pth 83) K s = g12D A n (pth 147) (g12Q A n (pth 211) K) s := by kernel_rfl
def g12R3s0 (A : Ar) (x0 : LN) (x1 x2 : Nat) (x3 : Int) (x4 : Nat) (x5 : LN) : St := ⟨[(34, (.tup [])), (33, sL 501 (some x1) 128 1), (32, sL 501 (some x1) x2 1), (31, pT 0 88), (30, pT 0 0), (29, pT 0 0), (28, pT 0 0), (0, pT 0 0)], [(0, bH 501 (g20a_r0 A x1 128 x0 x1 x2 x3 x4 x5) (some (g20a_r1 A x1 128 x0 x1 x2 x3 x4 x5)) (g20a_r2 A x1 128 x0 x1 x2 x3 x4 x5) (g20a_r3 A x1 128 x0 x1 x2 x3 x4 x5)), (501, bY (g20a_r4 A x1 128 x0 x1 x2 x3 x4 x5) (g20a_r5 A x1 128 x0 x1 x2 x3 x4 x5))]⟩
theorem g12R3 (x0 : LN) (x1 x2 : Nat) (x3 : Int) (x4 : Nat) (x5 : LN) : g12D A n (pth 147) K ⟨[(0, pT 0 0)], [(0, bH 501 x0 (some x1) x2 x3), (501, bY x4 x5)]⟩ = match A.le 128 x2 with
    | true => match g20a_ok A x1 128 x0 x1 x2 x3 x4 x5 with
      | true => K .normal (g12R3s0 A x0 x1 x2 x3 x4 x5)
      | false => none
    | false => none := by kernel_rfl
def g12R4s0 (A : Ar) (x0 : LN) (x1 x2 : Nat) (x3 : Int) (x4 : Nat) (x5 : LN) : St := ⟨[(42, pT 0 88), (41, pT 0 0), (40, sL 501 (some (x1 + 128)) (x2 - 128) 1), (39, sL 501 (some x1) x2 1), (38, pT 0 88), (37, pT 0 0), (36, pT 0 0), (35, pT 0 0), (0, pT 0 0)], [(0, bH 501 x0 (some (x1 + 128)) (x2 - 128) x3), (501, bY x4 x5)]⟩
theorem g12R4 (x0 : LN) (x1 x2 : Nat) (x3 : Int) (x4 : Nat) (x5 : LN) : g12D A n (pth 211) K ⟨[(0, pT 0 0)], [(0, bH 501 x0 (some x1) x2 x3), (501, bY x4 x5)]⟩ = match A.le 128 x2 with
    | true => K .normal (g12R4s0 A x0 x1 x2 x3 x4 x5)
    | false => none := by kernel_rfl
def g12R2s0 (A : Ar) (x0 : LN) (x1 x2 : Nat) (x3 : Int) (x4 : Nat) (x5 : LN) : St := ⟨[(27, bO (A.ic .geq (A.ofN x2) 128)), (26, i6 (A.ofN x2)), (25, sL 501 (some x1) x2 1), (24, pT 0 88), (23, pT 0 0), (22, pT 0 0), (0, pT 0 0)], [(0, bH 501 x0 (some x1) x2 x3), (501, bY x4 x5)]⟩
theorem g12R2 (x0 : LN) (x1 x2 : Nat) (x3 : Int) (x4 : Nat) (x5 : LN) : g12D A n (pth 67) K ⟨[(0, pT 0 0)], [(0, bH 501 x0 (some x1) x2 x3), (501, bY x4 x5)]⟩ = K .normal (g12R2s0 A x0 x1 x2 x3 x4 x5) := by kernel_rfl
def g12R3as0 (A : Ar) (x0 : LN) (x1 : Nat) (x2 : Int) (x3 : Nat) (x4 : LN) : St := ⟨[(34, (.tup [])), (33, sL 501 none 128 1), (32, sL 501 none x1 1), (31, pT 0 88), (30, pT 0 0), (29, pT 0 0), (28, pT 0 0), (0, pT 0 0)], [(0, bH 501 (g20r0 A 128 x0 x1 x2 x3 x4) none (g20r1 A 128 x0 x1 x2 x3 x4) (g20r2 A 128 x0 x1 x2 x3 x4)), (501, bY (g20r3 A 128 x0 x1 x2 x3 x4) (g20r4 A 128 x0 x1 x2 x3 x4))]⟩
end
theorem g12R3a {R : Type} (A : Ar) (n : Nat) (K : Ex → St → Option R) (x0 : LN) (x1 : Nat) (x2 : Int) (x3 : Nat) (x4 : LN) : g12D A n (pth 147) K ⟨[(0, pT 0 0)], [(0, bH 501 x0 none x1 x2), (501, bY x3 x4)]⟩ = match A.le 128 x1 with
    | true => match g20ok A 128 x0 x1 x2 x3 x4 with
      | true => K .normal (g12R3as0 A x0 x1 x2 x3 x4)
      | false => none
    | false => none := by kernel_rfl
def g12R4as0 (A : Ar) (x0 : LN) (x1 : Nat) (x2 : Int) (x3 : Nat) (x4 : LN) : St := ⟨[(42, pT 0 88), (41, pT 0 0), (40, sL 501 (some 128) (x1 - 128) 1), (39, sL 501 none x1 1), (38, pT 0 88), (37, pT 0 0), (36, pT 0 0), (35, pT 0 0), (0, pT 0 0)], [(0, bH 501 x0 (some 128) (x1 - 128) x2), (501, bY x3 x4)]⟩
theorem g12R4a {R : Type} (A : Ar) (n : Nat) (K : Ex → St → Option R) (x0 : LN) (x1 : Nat) (x2 : Int) (x3 : Nat) (x4 : LN) : g12D A n (pth 211) K ⟨[(0, pT 0 0)], [(0, bH 501 x0 none x1 x2), (501, bY x3 x4)]⟩ = match A.le 128 x1 with
    | true => K .normal (g12R4as0 A x0 x1 x2 x3 x4)
    | false => none := by kernel_rfl
def g12R2as0 (A : Ar) (x0 : LN) (x1 : Nat) (x2 : Int) (x3 : Nat) (x4 : LN) : St := ⟨[(27, bO (A.ic .geq (A.ofN x1) 128)), (26, i6 (A.ofN x1)), (25, sL 501 none x1 1), (24, pT 0 88), (23, pT 0 0), (22, pT 0 0), (0, pT 0 0)], [(0, bH 501 x0 none x1 x2), (501, bY x3 x4)]⟩
theorem g12R2a {R : Type} (A : Ar) (n : Nat) (K : Ex → St → Option R) (x0 : LN) (x1 : Nat) (x2 : Int) (x3 : Nat) (x4 : LN) : g12D A n (pth 67) K ⟨[(0, pT 0 0)], [(0, bH 501 x0 none x1 x2), (501, bY x3 x4)]⟩ = K .normal (g12R2as0 A x0 x1 x2 x3 x4) := by kernel_rfl
def g12R0s0 (A : Ar) (x0 x1 : LN) (x2 x3 : Nat) (x4 : Int) (x5 : Nat) (x6 : LN) : St := ⟨[(12, pT 0 89), (11, pT 0 0), (10, i6 (A.ib .add .i64 x4 (A.ofN x0.length))), (9, i6 (A.ofN x0.length)), (8, tS x0), (7, i6 x4), (6, pT 0 89), (5, pT 0 0), (4, pT 0 0), (0, pT 0 0), (1, tS x0)], [(0, bH 501 x1 (some x2) x3 (A.ib .add .i64 x4 (A.ofN x0.length))), (501, bY x5 x6)]⟩
theorem g12R0 {R : Type} (A : Ar) (n : Nat) (K : Ex → St → Option R) (x0 x1 : LN) (x2 x3 : Nat) (x4 : Int) (x5 : Nat) (x6 : LN) : g12D A n (pth 2) K ⟨[(0, pT 0 0), (1, tS x0)], [(0, bH 501 x1 (some x2) x3 x4), (501, bY x5 x6)]⟩ = K .normal (g12R0s0 A x0 x1 x2 x3 x4 x5 x6) := by kernel_rfl
def g12R1s0 (A : Ar) (x0 x1 : LN) (x2 x3 : Nat) (x4 : Int) (x5 : Nat) (x6 : LN) : St := ⟨[(21, pT 0 88), (20, pT 0 0), (19, sL 501 none ((x6.drop x2 ++ x0).length) 1), (18, tS x0), (17, (.v (.cell .top))), (16, pT 0 88), (15, pT 0 0), (14, pT 0 0), (13, pT 0 0), (0, pT 0 0), (1, tS x0)], [(501, bY ((x6.drop x2 ++ x0).length) (x6.drop x2 ++ x0)), (0, bH 501 x1 none ((x6.drop x2 ++ x0).length) x4)]⟩
theorem g12R1 {R : Type} (A : Ar) (n : Nat) (K : Ex → St → Option R) (x0 x1 : LN) (x2 x3 : Nat) (x4 : Int) (x5 : Nat) (x6 : LN) : g12D A n (pth 5) K ⟨[(0, pT 0 0), (1, tS x0)], [(0, bH 501 x1 (some x2) x3 x4), (501, bY x5 x6)]⟩ = match A.eq (x2 + x3) (x5 + 0) with
    | true => match A.le ((x6.drop x2 ++ x0).length) 140737488355328 with
      | true => K .normal (g12R1s0 A x0 x1 x2 x3 x4 x5 x6)
      | false => none
    | false => none := by kernel_rfl
def g12J3a {R : Type} (A : Ar) (n : Nat) (kk : KK R) (lg12L2a : LN → Nat → Nat → Int → Nat → LN → Option R) (x0 : LN) (x1 x2 : Nat) (x3 : Int) (x4 : Nat) (x5 : LN) : Option R :=
  match A.le 128 x2 with
  | true => match g20a_ok A x1 128 x0 x1 x2 x3 x4 x5 with
    | true => match A.le 128 (g20a_r2 A x1 128 x0 x1 x2 x3 x4 x5) with
      | true => lg12L2a (g20a_r0 A x1 128 x0 x1 x2 x3 x4 x5) ((g20a_r1 A x1 128 x0 x1 x2 x3 x4 x5) + 128) ((g20a_r2 A x1 128 x0 x1 x2 x3 x4 x5) - 128) (g20a_r3 A x1 128 x0 x1 x2 x3 x4 x5) (g20a_r4 A x1 128 x0 x1 x2 x3 x4 x5) (g20a_r5 A x1 128 x0 x1 x2 x3 x4 x5)
      | false => none
    | false => none
  | false => none
theorem g12J3a_eq {R : Type} (A : Ar) (n : Nat) (kk : KK R) (m0 : Nat) (lg12L2a : LN → Nat → Nat → Int → Nat → LN → Option R)
    (hg12L2a : ∀ (s : St) (x0 : LN) (x1 x2 : Nat) (x3 : Int) (x4 : Nat) (x5 : LN), keep g12an 2 s = ⟨[(0, pT 0 0)], [(0, bH 501 x0 (some x1) x2 x3), (501, bY x4 x5)]⟩ → g12V A n (pth 19) m0 (blockK 0 (g12T kk)) s = lg12L2a x0 x1 x2 x3 x4 x5) (s : St) (x0 : LN) (x1 x2 : Nat) (x3 : Int) (x4 : Nat) (x5 : LN) (h : keep g12an 3 s = ⟨[(0, pT 0 0)], [(0, bH 501 x0 (some x1) x2 x3), (501, bY x4 x5)]⟩) :
    g12D A n (pth 51) (g12W A n (pth 19) m0 (blockK 0 (g12T kk))) s = g12J3a A n kk lg12L2a x0 x1 x2 x3 x4 x5 := by
  have h1 := (g12Wn A n _ _ _ _).trans (hg12L2a (g12R4s0 A (g20a_r0 A x1 128 x0 x1 x2 x3 x4 x5) (g20a_r1 A x1 128 x0 x1 x2 x3 x4 x5) (g20a_r2 A x1 128 x0 x1 x2 x3 x4 x5) (g20a_r3 A x1 128 x0 x1 x2 x3 x4 x5) (g20a_r4 A x1 128 x0 x1 x2 x3 x4 x5) (g20a_r5 A x1 128 x0 x1 x2 x3 x4 x5)) (g20a_r0 A x1 128 x0 x1 x2 x3 x4 x5) ((g20a_r1 A x1 128 x0 x1 x2 x3 x4 x5) + 128) ((g20a_r2 A x1 128 x0 x1 x2 x3 x4 x5) - 128) (g20a_r3 A x1 128 x0 x1 x2 x3 x4 x5) (g20a_r4 A x1 128 x0 x1 x2 x3 x4 x5) (g20a_r5 A x1 128 x0 x1 x2 x3 x4 x5) (by kernel_rfl))
  have h2 := (blockK_n 1 _ _).trans h1
  have h3 := (g12F A n _ 4 _ (g12R3s0 A x0 x1 x2 x3 x4 x5) _ (by kernel_rfl) (by kernel_rfl)).trans (g12R4 A n (blockK 1 (g12W A n (pth 19) m0 (blockK 0 (g12T kk)))) (g20a_r0 A x1 128 x0 x1 x2 x3 x4 x5) (g20a_r1 A x1 128 x0 x1 x2 x3 x4 x5) (g20a_r2 A x1 128 x0 x1 x2 x3 x4 x5) (g20a_r3 A x1 128 x0 x1 x2 x3 x4 x5) (g20a_r4 A x1 128 x0 x1 x2 x3 x4 x5) (g20a_r5 A x1 128 x0 x1 x2 x3 x4 x5))
  rw [h2] at h3
  have h4 := (g12Qn A n _ _ _).trans h3
  have h5 := (g12F A n _ 3 _ ⟨[(0, pT 0 0)], [(0, bH 501 x0 (some x1) x2 x3), (501, bY x4 x5)]⟩ _ (by kernel_rfl) (by kernel_rfl)).trans (g12R3 A n (g12Q A n (pth 211) (blockK 1 (g12W A n (pth 19) m0 (blockK 0 (g12T kk))))) x0 x1 x2 x3 x4 x5)
  rw [h4] at h5
  have h6 := (g12p83 A n _ _).trans h5
  have h7 := (g12p51 A n _ _).trans h6
  exact (g12F A n _ 3 _ _ ⟨[(0, pT 0 0)], [(0, bH 501 x0 (some x1) x2 x3), (501, bY x4 x5)]⟩ (by kernel_rfl) (h.trans (by kernel_rfl))).trans (h7.trans (by kernel_rfl))
def g12L2a {R : Type} (A : Ar) (n : Nat) (kk : KK R) : Nat → LN → Nat → Nat → Int → Nat → LN → Option R
  | 0, _, _, _, _, _, _ => none
  | m + 1, x0, x1, x2, x3, x4, x5 => match A.ic .geq (A.ofN x2) 128 with
  | true => g12J3a A n kk (g12L2a A n kk m) x0 x1 x2 x3 x4 x5
  | false => kk (.tup []) [(0, ⟨[.nums .u64 88 x0, .one (.sl 501 (some x1) x2 1), .one (.int .i64 x3)], 45, 1⟩), (501, ⟨[.nums .u8 x4 x5], 5, 2⟩)]
theorem g12L2a_eq {R : Type} (A : Ar) (n : Nat) (kk : KK R) (m : Nat) (s : St) (x0 : LN) (x1 x2 : Nat) (x3 : Int) (x4 : Nat) (x5 : LN) (h : keep g12an 2 s = ⟨[(0, pT 0 0)], [(0, bH 501 x0 (some x1) x2 x3), (501, bY x4 x5)]⟩) :
    g12V A n (pth 19) m (blockK 0 (g12T kk)) s = g12L2a A n kk m x0 x1 x2 x3 x4 x5 := by
  induction m generalizing s x0 x1 x2 x3 x4 x5 with
  | zero => rfl
  | succ m ih =>
    have h1 := (g12Qn A n _ _ _).trans (g12J3a_eq A n kk m (g12L2a A n kk m) ih (g12R2s0 A x0 x1 x2 x3 x4 x5) x0 x1 x2 x3 x4 x5 (by kernel_rfl))
    have h2 := (g12p163 A n _ _).trans h1
    have h3 : (g12T kk) .normal (g12R2s0 A x0 x1 x2 x3 x4 x5) = kk (.tup []) [(0, bH 501 x0 (some x1) x2 x3), (501, bY x4 x5)] := by kernel_rfl
    have h4 := (blockK_hit 0 _ _).trans h3
    have h5 := (g12We A n (pth 19) m _ _ _).trans h4
    have h6 := (g12Qe A n (pth 51) _ _ _).trans h5
    have h7 := (g12p227 A n _ _).trans h6
    have h8 := g12p99 A n (g12Q A n (pth 51) (g12W A n (pth 19) m (blockK 0 (g12T kk)))) (g12R2s0 A x0 x1 x2 x3 x4 x5) (A.ic .geq (A.ofN x2) 128) (by kernel_rfl)
    rw [h2, h7] at h8
    have h9 := (g12Qn A n _ _ _).trans h8
    have h10 := (g12F A n _ 2 _ ⟨[(0, pT 0 0)], [(0, bH 501 x0 (some x1) x2 x3), (501, bY x4 x5)]⟩ _ (by kernel_rfl) (by kernel_rfl)).trans (g12R2 A n (g12Q A n (pth 99) (g12Q A n (pth 51) (g12W A n (pth 19) m (blockK 0 (g12T kk))))) x0 x1 x2 x3 x4 x5)
    rw [h9] at h10
    have h11 := (g12p35 A n _ _).trans h10
    have h12 := (g12p19 A n _ _).trans h11
    exact (loopD_first (s' := ⟨[(0, pT 0 0)], [(0, bH 501 x0 (some x1) x2 x3), (501, bY x4 x5)]⟩) (id := 2) (by kernel_rfl) (h.trans (by kernel_rfl)) _).trans ((g12Vs A n _ m _ _).trans (h12.trans (by kernel_rfl)))
def g12J3 {R : Type} (A : Ar) (n : Nat) (kk : KK R) (lg12L2a : LN → Nat → Nat → Int → Nat → LN → Option R) (x0 : LN) (x1 : Nat) (x2 : Int) (x3 : Nat) (x4 : LN) : Option R :=
  match A.le 128 x1 with
  | true => match g20ok A 128 x0 x1 x2 x3 x4 with
    | true => match A.le 128 (g20r1 A 128 x0 x1 x2 x3 x4) with
      | true => lg12L2a (g20r0 A 128 x0 x1 x2 x3 x4) 128 ((g20r1 A 128 x0 x1 x2 x3 x4) - 128) (g20r2 A 128 x0 x1 x2 x3 x4) (g20r3 A 128 x0 x1 x2 x3 x4) (g20r4 A 128 x0 x1 x2 x3 x4)
      | false => none
    | false => none
  | false => none
theorem g12J3_eq {R : Type} (A : Ar) (n : Nat) (kk : KK R) (m0 : Nat) (lg12L2a : LN → Nat → Nat → Int → Nat → LN → Option R)
    (hg12L2a : ∀ (s : St) (x0 : LN) (x1 x2 : Nat) (x3 : Int) (x4 : Nat) (x5 : LN), keep g12an 2 s = ⟨[(0, pT 0 0)], [(0, bH 501 x0 (some x1) x2 x3), (501, bY x4 x5)]⟩ → g12V A n (pth 19) m0 (blockK 0 (g12T kk)) s = lg12L2a x0 x1 x2 x3 x4 x5) (s : St) (x0 : LN) (x1 : Nat) (x2 : Int) (x3 : Nat) (x4 : LN) (h : keep g12an 3 s = ⟨[(0, pT 0 0)], [(0, bH 501 x0 none x1 x2), (501, bY x3 x4)]⟩) :
    g12D A n (pth 51) (g12W A n (pth 19) m0 (blockK 0 (g12T kk))) s = g12J3 A n kk lg12L2a x0 x1 x2 x3 x4 := by
  have h1 := (g12Wn A n _ _ _ _).trans (hg12L2a (g12R4as0 A (g20r0 A 128 x0 x1 x2 x3 x4) (g20r1 A 128 x0 x1 x2 x3 x4) (g20r2 A 128 x0 x1 x2 x3 x4) (g20r3 A 128 x0 x1 x2 x3 x4) (g20r4 A 128 x0 x1 x2 x3 x4)) (g20r0 A 128 x0 x1 x2 x3 x4) 128 ((g20r1 A 128 x0 x1 x2 x3 x4) - 128) (g20r2 A 128 x0 x1 x2 x3 x4) (g20r3 A 128 x0 x1 x2 x3 x4) (g20r4 A 128 x0 x1 x2 x3 x4) (by kernel_rfl))
  have h2 := (blockK_n 1 _ _).trans h1
  have h3 := (g12F A n _ 4 _ (g12R3as0 A x0 x1 x2 x3 x4) _ (by kernel_rfl) (by kernel_rfl)).trans (g12R4a A n (blockK 1 (g12W A n (pth 19) m0 (blockK 0 (g12T kk)))) (g20r0 A 128 x0 x1 x2 x3 x4) (g20r1 A 128 x0 x1 x2 x3 x4) (g20r2 A 128 x0 x1 x2 x3 x4) (g20r3 A 128 x0 x1 x2 x3 x4) (g20r4 A 128 x0 x1 x2 x3 x4))
  rw [h2] at h3
  have h4 := (g12Qn A n _ _ _).trans h3
  have h5 := (g12F A n _ 3 _ ⟨[(0, pT 0 0)], [(0, bH 501 x0 none x1 x2), (501, bY x3 x4)]⟩ _ (by kernel_rfl) (by kernel_rfl)).trans (g12R3a A n (g12Q A n (pth 211) (blockK 1 (g12W A n (pth 19) m0 (blockK 0 (g12T kk))))) x0 x1 x2 x3 x4)
  rw [h4] at h5
  have h6 := (g12p83 A n _ _).trans h5
  have h7 := (g12p51 A n _ _).trans h6
  exact (g12F A n _ 3 _ _ ⟨[(0, pT 0 0)], [(0, bH 501 x0 none x1 x2), (501, bY x3 x4)]⟩ (by kernel_rfl) (h.trans (by kernel_rfl))).trans (h7.trans (by kernel_rfl))
def g12L2 {R : Type} (A : Ar) (n : Nat) (kk : KK R) : Nat → LN → Nat → Int → Nat → LN → Option R
  | 0, _, _, _, _, _ => none
  | m + 1, x0, x1, x2, x3, x4 => match A.ic .geq (A.ofN x1) 128 with
  | true => g12J3 A n kk (g12L2a A n kk m) x0 x1 x2 x3 x4
  | false => kk (.tup []) [(0, ⟨[.nums .u64 88 x0, .one (.sl 501 none x1 1), .one (.int .i64 x2)], 45, 1⟩), (501, ⟨[.nums .u8 x3 x4], 5, 2⟩)]
theorem g12L2_eq {R : Type} (A : Ar) (n : Nat) (kk : KK R) (m : Nat) (s : St) (x0 : LN) (x1 : Nat) (x2 : Int) (x3 : Nat) (x4 : LN) (h : keep g12an 2 s = ⟨[(0, pT 0 0)], [(0, bH 501 x0 none x1 x2), (501, bY x3 x4)]⟩) :
    g12V A n (pth 19) m (blockK 0 (g12T kk)) s = g12L2 A n kk m x0 x1 x2 x3 x4 := by
  induction m generalizing s x0 x1 x2 x3 x4 with
  | zero => rfl
  | succ m ih =>
    have h1 := (g12Qn A n _ _ _).trans (g12J3_eq A n kk m (g12L2a A n kk m) (g12L2a_eq A n kk m) (g12R2as0 A x0 x1 x2 x3 x4) x0 x1 x2 x3 x4 (by kernel_rfl))
    have h2 := (g12p163 A n _ _).trans h1
    have h3 : (g12T kk) .normal (g12R2as0 A x0 x1 x2 x3 x4) = kk (.tup []) [(0, bH 501 x0 none x1 x2), (501, bY x3 x4)] := by kernel_rfl
    have h4 := (blockK_hit 0 _ _).trans h3
    have h5 := (g12We A n (pth 19) m _ _ _).trans h4
    have h6 := (g12Qe A n (pth 51) _ _ _).trans h5
    have h7 := (g12p227 A n _ _).trans h6
    have h8 := g12p99 A n (g12Q A n (pth 51) (g12W A n (pth 19) m (blockK 0 (g12T kk)))) (g12R2as0 A x0 x1 x2 x3 x4) (A.ic .geq (A.ofN x1) 128) (by kernel_rfl)
    rw [h2, h7] at h8
    have h9 := (g12Qn A n _ _ _).trans h8
    have h10 := (g12F A n _ 2 _ ⟨[(0, pT 0 0)], [(0, bH 501 x0 none x1 x2), (501, bY x3 x4)]⟩ _ (by kernel_rfl) (by kernel_rfl)).trans (g12R2a A n (g12Q A n (pth 99) (g12Q A n (pth 51) (g12W A n (pth 19) m (blockK 0 (g12T kk))))) x0 x1 x2 x3 x4)
    rw [h9] at h10
    have h11 := (g12p35 A n _ _).trans h10
    have h12 := (g12p19 A n _ _).trans h11
    exact (loopD_first (s' := ⟨[(0, pT 0 0)], [(0, bH 501 x0 none x1 x2), (501, bY x3 x4)]⟩) (id := 2) (by kernel_rfl) (h.trans (by kernel_rfl)) _).trans ((g12Vs A n _ m _ _).trans (h12.trans (by kernel_rfl)))
def g12 {R : Type} (A : Ar) (n : Nat) (kk : KK R) (x0 x1 : LN) (x2 x3 : Nat) (x4 : Int) (x5 : Nat) (x6 : LN) : Option R :=
  match A.eq (x2 + x3) (x5 + 0) with
  | true => match A.le ((x6.drop x2 ++ x0).length) 140737488355328 with
    | true => g12L2 A n kk n x1 ((x6.drop x2 ++ x0).length) (A.ib .add .i64 x4 (A.ofN x0.length)) ((x6.drop x2 ++ x0).length) (x6.drop x2 ++ x0)
    | false => none
  | false => none
theorem g12_eq {R : Type} (A : Ar) (n : Nat) (kk : KK R) (x0 x1 : LN) (x2 x3 : Nat) (x4 : Int) (x5 : Nat) (x6 : LN) :
    funD A gtys (g12O A) g12an n (bodyOf Try.f12) g12res [(pT 0 0), (tS x0)] [(0, bH 501 x1 (some x2) x3 x4), (501, bY x5 x6)] kk = g12 A n kk x0 x1 x2 x3 x4 x5 x6 := by
  have h1 := (g12p11 A n _ _).trans (g12L2_eq A n kk n (g12R1s0 A x0 x1 x2 x3 (A.ib .add .i64 x4 (A.ofN x0.length)) x5 x6) x1 ((x6.drop x2 ++ x0).length) (A.ib .add .i64 x4 (A.ofN x0.length)) ((x6.drop x2 ++ x0).length) (x6.drop x2 ++ x0) (by kernel_rfl))
  have h2 := (g12p7 A n _ _).trans h1
  have h3 := (g12Qn A n _ _ _).trans h2
  have h4 := (g12F A n _ 1 _ (g12R0s0 A x0 x1 x2 x3 x4 x5 x6) _ (by kernel_rfl) (by kernel_rfl)).trans (g12R1 A n (g12Q A n (pth 7) (g12T kk)) x0 x1 x2 x3 (A.ib .add .i64 x4 (A.ofN x0.length)) x5 x6)
  rw [h3] at h4
  have h5 := (g12p3 A n _ _).trans h4
  have h6 := (g12Qn A n _ _ _).trans h5
  have h7 := (g12F A n _ 0 _ ⟨[(0, pT 0 0), (1, tS x0)], [(0, bH 501 x1 (some x2) x3 x4), (501, bY x5 x6)]⟩ _ (by kernel_rfl) (by kernel_rfl)).trans (g12R0 A n (g12Q A n (pth 3) (g12T kk)) x0 x1 x2 x3 x4 x5 x6)
  rw [h6] at h7
  have h8 := (g12p1 A n _ _).trans h7
  exact (show funD A gtys (g12O A) g12an n (bodyOf Try.f12) g12res [(pT 0 0), (tS x0)] [(0, bH 501 x1 (some x2) x3 x4), (501, bY x5 x6)] kk = g12D A n (pth 1) (g12T kk) ⟨[(0, pT 0 0), (1, tS x0)], [(0, bH 501 x1 (some x2) x3 x4), (501, bY x5 x6)]⟩ from by kernel_rfl).trans (h8.trans (by kernel_rfl))
def g12is (o : Option (AV × Heap)) : Bool := match o with
  | some (.tup [], [(n0, ⟨[.nums .u64 n1 _, .one (.sl n2 (some _) _ n3), .one (.int .i64 _)], n4, n5⟩), (n6, ⟨[.nums .u8 _ _], n7, n8⟩)]) => Nat.beq n0 0 && (Nat.beq n1 88 && (Nat.beq n2 501 && (Nat.beq n3 1 && (Nat.beq n4 45 && (Nat.beq n5 1 && (Nat.beq n6 501 && (Nat.beq n7 5 && (Nat.beq n8 2))))))))
  | _ => false
def g12g0 (o : Option (AV × Heap)) : LN := match o with
  | some (.tup [], [(_, ⟨[.nums .u64 _ x, .one (.sl _ (some _) _ _), .one (.int .i64 _)], _, _⟩), (_, ⟨[.nums .u8 _ _], _, _⟩)]) => x
  | _ => []
def g12g1 (o : Option (AV × Heap)) : Nat := match o with
  | some (.tup [], [(_, ⟨[.nums .u64 _ _, .one (.sl _ (some x) _ _), .one (.int .i64 _)], _, _⟩), (_, ⟨[.nums .u8 _ _], _, _⟩)]) => x
  | _ => 0
def g12g2 (o : Option (AV × Heap)) : Nat := match o with
  | some (.tup [], [(_, ⟨[.nums .u64 _ _, .one (.sl _ (some _) x _), .one (.int .i64 _)], _, _⟩), (_, ⟨[.nums .u8 _ _], _, _⟩)]) => x
  | _ => 0
def g12g3 (o : Option (AV × Heap)) : Int := match o with
  | some (.tup [], [(_, ⟨[.nums .u64 _ _, .one (.sl _ (some _) _ _), .one (.int .i64 x)], _, _⟩), (_, ⟨[.nums .u8 _ _], _, _⟩)]) => x
  | _ => 0
def g12g4 (o : Option (AV × Heap)) : Nat := match o with
  | some (.tup [], [(_, ⟨[.nums .u64 _ _, .one (.sl _ (some _) _ _), .one (.int .i64 _)], _, _⟩), (_, ⟨[.nums .u8 x _], _, _⟩)]) => x
  | _ => 0
def g12g5 (o : Option (AV × Heap)) : LN := match o with
  | some (.tup [], [(_, ⟨[.nums .u64 _ _, .one (.sl _ (some _) _ _), .one (.int .i64 _)], _, _⟩), (_, ⟨[.nums .u8 _ x], _, _⟩)]) => x
  | _ => []
theorem g12is_spec {o : Option (AV × Heap)} (h : g12is o = true) : o = some ((.tup []), [(0, ⟨[.nums .u64 88 (g12g0 o), .one (.sl 501 (some (g12g1 o)) (g12g2 o) 1), .one (.int .i64 (g12g3 o))], 45, 1⟩), (501, ⟨[.nums .u8 (g12g4 o) (g12g5 o)], 5, 2⟩)]) := by
  unfold g12is at h
  split at h
  · rename_i n0 n1 z2 n2 z4 z5 n3 z7 n4 n5 n6 z11 z12 n7 n8
    simp only [Bool.and_eq_true] at h
    have en0 := beq_true h.1
    subst en0
    replace h := h.2
    have en1 := beq_true h.1
    subst en1
    replace h := h.2
    have en2 := beq_true h.1
    subst en2
    replace h := h.2
    have en3 := beq_true h.1
    subst en3
    replace h := h.2
    have en4 := beq_true h.1
    subst en4
    replace h := h.2
    have en5 := beq_true h.1
    subst en5
    replace h := h.2
    have en6 := beq_true h.1
    subst en6
    replace h := h.2
    have en7 := beq_true h.1
    subst en7
    replace h := h.2
    have en8 := beq_true h
    subst en8
    rfl
  · cases h
def g12v (A : Ar) (x0 x1 : LN) (x2 x3 : Nat) (x4 : Int) (x5 : Nat) (x6 : LN) : Option (AV × Heap) := g12 A (100000) (outN [501, 600] [0, 501] none) x0 x1 x2 x3 x4 x5 x6
def g12ok (A : Ar) (x0 x1 : LN) (x2 x3 : Nat) (x4 : Int) (x5 : Nat) (x6 : LN) : Bool := g12is (g12v A x0 x1 x2 x3 x4 x5 x6)
def g12r0 (A : Ar) (x0 x1 : LN) (x2 x3 : Nat) (x4 : Int) (x5 : Nat) (x6 : LN) : LN := g12g0 (g12v A x0 x1 x2 x3 x4 x5 x6)
def g12r1 (A : Ar) (x0 x1 : LN) (x2 x3 : Nat) (x4 : Int) (x5 : Nat) (x6 : LN) : Nat := g12g1 (g12v A x0 x1 x2 x3 x4 x5 x6)
def g12r2 (A : Ar) (x0 x1 : LN) (x2 x3 : Nat) (x4 : Int) (x5 : Nat) (x6 : LN) : Nat := g12g2 (g12v A x0 x1 x2 x3 x4 x5 x6)
def g12r3 (A : Ar) (x0 x1 : LN) (x2 x3 : Nat) (x4 : Int) (x5 : Nat) (x6 : LN) : Int := g12g3 (g12v A x0 x1 x2 x3 x4 x5 x6)
def g12r4 (A : Ar) (x0 x1 : LN) (x2 x3 : Nat) (x4 : Int) (x5 : Nat) (x6 : LN) : Nat := g12g4 (g12v A x0 x1 x2 x3 x4 x5 x6)
def g12r5 (A : Ar) (x0 x1 : LN) (x2 x3 : Nat) (x4 : Int) (x5 : Nat) (x6 : LN) : LN := g12g5 (g12v A x0 x1 x2 x3 x4 x5 x6)
theorem g12ok_spec {A : Ar} {x0 x1 x2 x3 x4 x5 x6} (h : g12ok A x0 x1 x2 x3 x4 x5 x6 = true) : g12v A x0 x1 x2 x3 x4 x5 x6 = some ((.tup []), [(0, ⟨[.nums .u64 88 (g12r0 A x0 x1 x2 x3 x4 x5 x6), .one (.sl 501 (some (g12r1 A x0 x1 x2 x3 x4 x5 x6)) (g12r2 A x0 x1 x2 x3 x4 x5 x6) 1), .one (.int .i64 (g12r3 A x0 x1 x2 x3 x4 x5 x6))], 45, 1⟩), (501, ⟨[.nums .u8 (g12r4 A x0 x1 x2 x3 x4 x5 x6) (g12r5 A x0 x1 x2 x3 x4 x5 x6)], 5, 2⟩)]) := g12is_spec h
def g12o (A : Ar) (args : List AV) (h : Heap) : Option (Bool × AV × Heap) := match args, h with
  | [.v (.cell (.ptr n0 n1 none)), .v (.cell (.str x0))], [(n2, ⟨[.nums .u64 n3 x1, .one (.sl n4 (some x2) x3 n5), .one (.int .i64 x4)], n6, n7⟩), (n8, ⟨[.nums .u8 x5 x6], n9, n10⟩)] => match Nat.beq n0 0 && (Nat.beq n1 0 && (Nat.beq n2 0 && (Nat.beq n3 88 && (Nat.beq n4 501 && (Nat.beq n5 1 && (Nat.beq n6 45 && (Nat.beq n7 1 && (Nat.beq n8 501 && (Nat.beq n9 5 && (Nat.beq n10 2)))))))))) with
    | true => some (g12ok A x0 x1 x2 x3 x4 x5 x6, (.tup []), [(0, ⟨[.nums .u64 88 (g12r0 A x0 x1 x2 x3 x4 x5 x6), .one (.sl 501 (some (g12r1 A x0 x1 x2 x3 x4 x5 x6)) (g12r2 A x0 x1 x2 x3 x4 x5 x6) 1), .one (.int .i64 (g12r3 A x0 x1 x2 x3 x4 x5 x6))], 45, 1⟩), (501, ⟨[.nums .u8 (g12r4 A x0 x1 x2 x3 x4 x5 x6) (g12r5 A x0 x1 x2 x3 x4 x5 x6)], 5, 2⟩)])
    | false => none
  | _, _ => none
theorem g12o_sound : ∀ args h v h', g12o realA args h = some (true, v, h') → FnH Try.prog 12 args h v h' := by
  intro args h v h' hh
  unfold g12o at hh
  split at hh
  · rename_i n0 n1 x0 n2 n3 x1 n4 x2 x3 n5 x4 n6 n7 n8 x5 x6 n9 n10
    split at hh
    case h_2 => cases hh
    rename_i hc0
    simp only [Option.some.injEq, Prod.mk.injEq] at hh
    obtain ⟨hc, hv, hh⟩ := hh
    subst hv
    subst hh
    simp only [Bool.and_eq_true] at hc0
    have en0 := beq_true hc0.1
    subst en0
    replace hc0 := hc0.2
    have en1 := beq_true hc0.1
    subst en1
    replace hc0 := hc0.2
    have en2 := beq_true hc0.1
    subst en2
    replace hc0 := hc0.2
    have en3 := beq_true hc0.1
    subst en3
    replace hc0 := hc0.2
    have en4 := beq_true hc0.1
    subst en4
    replace hc0 := hc0.2
    have en5 := beq_true hc0.1
    subst en5
    replace hc0 := hc0.2
    have en6 := beq_true hc0.1
    subst en6
    replace hc0 := hc0.2
    have en7 := beq_true hc0.1
    subst en7
    replace hc0 := hc0.2
    have en8 := beq_true hc0.1
    subst en8
    replace hc0 := hc0.2
    have en9 := beq_true hc0.1
    subst en9
    replace hc0 := hc0.2
    have en10 := beq_true hc0
    subst en10
    exact fnh_ofN mixed gtysOK g12O_sound g12O_det (an := g12an) (n := 100000) Try.func12 (c := bodyOf Try.f12) rfl (by kernel_rfl) Try.call12 (Nat.le_of_ble_eq_true rfl) (B := [501, 600]) (pins := [0, 501]) (nilr := none) (fun _ => (g12_eq realA (100000) (outN [501, 600] [0, 501] none) x0 x1 x2 x3 x4 x5 x6).trans (show g12v realA x0 x1 x2 x3 x4 x5 x6 = _ from g12ok_spec hc))
  · cases hh
end Go.Sx
