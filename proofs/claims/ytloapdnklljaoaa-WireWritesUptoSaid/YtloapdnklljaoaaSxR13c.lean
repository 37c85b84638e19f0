import Derived.Test.YtloapdnklljaoaaSxR13b
namespace Go.Sx
open Go.Proofs
set_option linter.unusedVariables false
def g3O (A : Ar) : Orc := orcN [(9, (1, 1, ⟨[.nums .u8 0 []], 5, 2⟩))] (orcH [(8, g8o A), (10, g10o A)] [(9, ⟨[], none, (g9o A)⟩), (11, ⟨[0, 1], (some (0, 1, 1, ⟨[.nums .u8 0 []], 5, 2⟩)), (g11o A)⟩), (12, ⟨[], none, (g12o A)⟩), (13, ⟨[0, 1], (some (0, 1, 1, ⟨[.nums .u8 0 []], 5, 2⟩)), (g13o A)⟩), (14, ⟨[], none, (g14o A)⟩), (15, ⟨[0, 1], (some (0, 1, 1, ⟨[.nums .u8 0 []], 5, 2⟩)), (g15o A)⟩), (16, ⟨[], none, (g16o A)⟩), (17, ⟨[0, 1], none, (g17o A)⟩)])
theorem g3O_sound : OSound Try.prog (g3O realA) := orcN_sound <| orcH_sound (fun f g hm args v hv => by
    simp only [List.mem_cons, List.not_mem_nil, or_false, Prod.mk.injEq] at hm
    rcases hm with ⟨rfl, rfl⟩ | ⟨rfl, rfl⟩
    · exact g8o_sound _ _ hv
    · exact g10o_sound _ _ hv) (fun f e hm args h v h' hv => by
    simp only [List.mem_cons, List.not_mem_nil, or_false, Prod.mk.injEq] at hm
    rcases hm with ⟨rfl, rfl⟩ | ⟨rfl, rfl⟩ | ⟨rfl, rfl⟩ | ⟨rfl, rfl⟩ | ⟨rfl, rfl⟩ | ⟨rfl, rfl⟩ | ⟨rfl, rfl⟩ | ⟨rfl, rfl⟩
    · exact g9o_sound _ _ _ _ hv
    · exact g11o_sound _ _ _ _ hv
    · exact g12o_sound _ _ _ _ hv
    · exact g13o_sound _ _ _ _ hv
    · exact g14o_sound _ _ _ _ hv
    · exact g15o_sound _ _ _ _ hv
    · exact g16o_sound _ _ _ _ hv
    · exact g17o_sound _ _ _ _ hv)
theorem g3O_det : ODet (g3O realA) := orcN_det <| orcH_det _ _
def g3an : Ann := [(0, ([0], [0])), (1, ([0], [0])), (2, ([0, 3], [0])), (3, ([], [0])), (4, ([0, 3], [0])), (5, ([0, 3, 4], [0, 5000, 5500])), (6, ([0, 3, 4, 5], [0, 5000, 5500, 6001])), (7, ([], [])), (8, ([0, 3, 4, 5], [0, 5000, 5500, 6001])), (9, ([0, 3, 4, 5, 6], [0, 5000, 5500, 6001])), (10, ([0, 3, 4, 5, 6], [0, 5000, 5500, 6001])), (11, ([0, 3, 4, 5, 6], [0, 5000, 5500, 6001])), (12, ([0, 3, 4, 5, 6, 7], [0, 5000, 5500, 6001, 12004])), (13, ([0, 3, 4, 5, 6, 7], [0, 5000, 5500, 6001, 12004])), (14, ([0, 3, 4, 5, 6, 7], [0, 5000, 5500, 6001, 12004])), (15, ([0, 3, 4, 5, 6, 7, 33], [0, 5000, 5500, 6001, 12004])), (16, ([0, 3, 4, 5, 6, 7], [0, 5000, 5500, 6001, 12004])), (17, ([0, 3, 4, 5, 6, 7], [0, 5000, 5500, 6001, 12004])), (18, ([0, 3, 4, 5, 6, 7, 33], [0, 5000, 5500, 6001, 12004])), (19, ([0, 3, 4, 5, 6, 7], [0, 5000, 5500, 6001, 12004])), (20, ([0, 3, 4, 5, 6, 7], [0, 5000, 5500, 6001, 12004])), (21, ([0, 3, 4, 5, 6], [0, 5000, 5500, 6001])), (22, ([0, 3, 4, 5, 6, 8, 9], [0, 5000, 5500, 6001])), (23, ([], [0])), (24, ([3], [0]))]
def g3res : List ResultVar := [.tmp 2]
abbrev g3t0 (A : Ar) (x2 : Int) (x5 x6 x7 : List Int) (x9 : Int) (x10 x11 : Nat) (x12 : List Nat) : Int := g11r0 A (((([0, 0, 0].set 0 (x5.getD (A.toN x2) 0)).set 1 (x6.getD (A.toN x2) 0)).set 2 (x7.getD (A.toN x2) 0)).getD 1 0) (((([0, 0, 0].set 0 (x5.getD (A.toN x2) 0)).set 1 (x6.getD (A.toN x2) 0)).set 2 (x7.getD (A.toN x2) 0)).getD 2 0) x9 x10 x11 x12
abbrev g3t1 (A : Ar) (x2 : Int) (x5 x6 x7 : List Int) (x9 : Int) (x10 x11 : Nat) (x12 : List Nat) : Nat := g11r1 A (((([0, 0, 0].set 0 (x5.getD (A.toN x2) 0)).set 1 (x6.getD (A.toN x2) 0)).set 2 (x7.getD (A.toN x2) 0)).getD 1 0) (((([0, 0, 0].set 0 (x5.getD (A.toN x2) 0)).set 1 (x6.getD (A.toN x2) 0)).set 2 (x7.getD (A.toN x2) 0)).getD 2 0) x9 x10 x11 x12
abbrev g3t2 (A : Ar) (x2 : Int) (x5 x6 x7 : List Int) (x9 : Int) (x10 x11 : Nat) (x12 : List Nat) : Nat := g11r2 A (((([0, 0, 0].set 0 (x5.getD (A.toN x2) 0)).set 1 (x6.getD (A.toN x2) 0)).set 2 (x7.getD (A.toN x2) 0)).getD 1 0) (((([0, 0, 0].set 0 (x5.getD (A.toN x2) 0)).set 1 (x6.getD (A.toN x2) 0)).set 2 (x7.getD (A.toN x2) 0)).getD 2 0) x9 x10 x11 x12
abbrev g3t3 (A : Ar) (x2 : Int) (x5 x6 x7 : List Int) (x9 : Int) (x10 x11 : Nat) (x12 : List Nat) : List Nat := g11r3 A (((([0, 0, 0].set 0 (x5.getD (A.toN x2) 0)).set 1 (x6.getD (A.toN x2) 0)).set 2 (x7.getD (A.toN x2) 0)).getD 1 0) (((([0, 0, 0].set 0 (x5.getD (A.toN x2) 0)).set 1 (x6.getD (A.toN x2) 0)).set 2 (x7.getD (A.toN x2) 0)).getD 2 0) x9 x10 x11 x12
abbrev g3t4 (A : Ar) (x2 : Int) (x5 x6 x7 : List Int) (x13 : List Nat) (x14 : Int) : List Nat := g12r0 A (((([0, 0, 0].set 0 (x5.getD (A.toN x2) 0)).set 1 (x6.getD (A.toN x2) 0)).set 2 (x7.getD (A.toN x2) 0)).getD 1 0) (((([0, 0, 0].set 0 (x5.getD (A.toN x2) 0)).set 1 (x6.getD (A.toN x2) 0)).set 2 (x7.getD (A.toN x2) 0)).getD 2 0) x13 x14
abbrev g3t5 (A : Ar) (x2 : Int) (x5 x6 x7 : List Int) (x13 : List Nat) (x14 : Int) : Int := g12r1 A (((([0, 0, 0].set 0 (x5.getD (A.toN x2) 0)).set 1 (x6.getD (A.toN x2) 0)).set 2 (x7.getD (A.toN x2) 0)).getD 1 0) (((([0, 0, 0].set 0 (x5.getD (A.toN x2) 0)).set 1 (x6.getD (A.toN x2) 0)).set 2 (x7.getD (A.toN x2) 0)).getD 2 0) x13 x14
abbrev g3t6 (A : Ar) (x2 : Int) (x5 x6 x7 : List Int) (x8 : List (List Nat)) (x9 : Int) (x10 x11 : Nat) (x12 : List Nat) : Int := g15r0 A (x8.getD (A.toN x2) []) (((([0, 0, 0].set 0 (x5.getD (A.toN x2) 0)).set 1 (x6.getD (A.toN x2) 0)).set 2 (x7.getD (A.toN x2) 0)).getD 2 0) x9 x10 x11 x12
abbrev g3t7 (A : Ar) (x2 : Int) (x5 x6 x7 : List Int) (x8 : List (List Nat)) (x9 : Int) (x10 x11 : Nat) (x12 : List Nat) : Nat := g15r1 A (x8.getD (A.toN x2) []) (((([0, 0, 0].set 0 (x5.getD (A.toN x2) 0)).set 1 (x6.getD (A.toN x2) 0)).set 2 (x7.getD (A.toN x2) 0)).getD 2 0) x9 x10 x11 x12
abbrev g3t8 (A : Ar) (x2 : Int) (x5 x6 x7 : List Int) (x8 : List (List Nat)) (x9 : Int) (x10 x11 : Nat) (x12 : List Nat) : Nat := g15r2 A (x8.getD (A.toN x2) []) (((([0, 0, 0].set 0 (x5.getD (A.toN x2) 0)).set 1 (x6.getD (A.toN x2) 0)).set 2 (x7.getD (A.toN x2) 0)).getD 2 0) x9 x10 x11 x12
abbrev g3t9 (A : Ar) (x2 : Int) (x5 x6 x7 : List Int) (x8 : List (List Nat)) (x9 : Int) (x10 x11 : Nat) (x12 : List Nat) : List Nat := g15r3 A (x8.getD (A.toN x2) []) (((([0, 0, 0].set 0 (x5.getD (A.toN x2) 0)).set 1 (x6.getD (A.toN x2) 0)).set 2 (x7.getD (A.toN x2) 0)).getD 2 0) x9 x10 x11 x12
abbrev g3t10 (A : Ar) (x2 : Int) (x5 x6 x7 : List Int) (x8 : List (List Nat)) (x13 : List Nat) (x14 : Int) : List Nat := g16r0 A (x8.getD (A.toN x2) []) (((([0, 0, 0].set 0 (x5.getD (A.toN x2) 0)).set 1 (x6.getD (A.toN x2) 0)).set 2 (x7.getD (A.toN x2) 0)).getD 2 0) x13 x14
abbrev g3t11 (A : Ar) (x2 : Int) (x5 x6 x7 : List Int) (x8 : List (List Nat)) (x13 : List Nat) (x14 : Int) : Int := g16r1 A (x8.getD (A.toN x2) []) (((([0, 0, 0].set 0 (x5.getD (A.toN x2) 0)).set 1 (x6.getD (A.toN x2) 0)).set 2 (x7.getD (A.toN x2) 0)).getD 2 0) x13 x14
noncomputable def g3D {R : Type} (A : Ar) (n : Nat) (p : List Bool) (K : Ex → St → Option R) (s : St) : Option R := codeD A gtys (g3O A) g3an n (sub (bodyOf Try.f3) p) K s
noncomputable def g3V {R : Type} (A : Ar) (n : Nat) (p : List Bool) (m : Nat) (K : Ex → St → Option R) (s : St) : Option R := loopD (fun K' s'' => codeD A gtys (g3O A) g3an n (sub (bodyOf Try.f3) p) K' s'') m K s
noncomputable def g3Q {R : Type} (A : Ar) (n : Nat) (p : List Bool) (K : Ex → St → Option R) : Ex → St → Option R := seqC (g3D A n p K) K
noncomputable def g3W {R : Type} (A : Ar) (n : Nat) (p : List Bool) (m : Nat) (K : Ex → St → Option R) : Ex → St → Option R := seqC (g3V A n p m K) K
noncomputable def g3T {R : Type} (kk : AV → Heap → Option R) : Ex → St → Option R := finD gtys g3res kk
theorem g3Qn {R : Type} (A : Ar) (n : Nat) (p : List Bool) (K : Ex → St → Option R) (s : St) : g3Q A n p K .normal s = g3D A n p K s := rfl
theorem g3Qe {R : Type} (A : Ar) (n : Nat) (p : List Bool) (K : Ex → St → Option R) (i : Nat) (s : St) : g3Q A n p K (.exit i) s = K (.exit i) s := rfl
theorem g3Qr {R : Type} (A : Ar) (n : Nat) (p : List Bool) (K : Ex → St → Option R) (s : St) : g3Q A n p K .ret s = K .ret s := rfl
theorem g3Wn {R : Type} (A : Ar) (n : Nat) (p : List Bool) (m : Nat) (K : Ex → St → Option R) (s : St) : g3W A n p m K .normal s = g3V A n p m K s := rfl
theorem g3We {R : Type} (A : Ar) (n : Nat) (p : List Bool) (m : Nat) (K : Ex → St → Option R) (i : Nat) (s : St) : g3W A n p m K (.exit i) s = K (.exit i) s := rfl
theorem g3Wr {R : Type} (A : Ar) (n : Nat) (p : List Bool) (m : Nat) (K : Ex → St → Option R) (s : St) : g3W A n p m K .ret s = K .ret s := rfl
theorem g3Vs {R : Type} (A : Ar) (n : Nat) (p : List Bool) (m : Nat) (K : Ex → St → Option R) (s : St) : g3V A n p (m + 1) K s = g3D A n p (g3W A n p m K) s := rfl
theorem g3F {R : Type} (A : Ar) (n : Nat) (p : List Bool) (i : Nat) (K : Ex → St → Option R) (s s' : St) (hf : firstReg (sub (bodyOf Try.f3) p) = some i) (h : keep g3an i s = keep g3an i s') : g3D A n p K s = g3D A n p K s' := codeD_first hf h K
section
variable {R : Type} (A : Ar) (n : Nat) (K : Ex → St → Option R) (s : St)
theorem g3p1 : g3D A n (pth 1) K s = g3D A n (pth 2) (g3Q A n (pth 3) K) s := by kernel_rfl
theorem g3p3 : g3D A n (pth 3) K s = g3D A n (pth 5) (g3Q A n (pth 7) K) s := by kernel_rfl
theorem g3p7 : g3D A n (pth 7) K s = g3D A n (pth 11) (g3Q A n (pth 15) K) s := by kernel_rfl
theorem g3p11 : g3D A n (pth 11) K s = g3D A n (pth 19) (g3Q A n (pth 27) K) s := by kernel_rfl
theorem g3p27 (t : Bool) : ev s (.tmp 12) = some (.v (.cell (.bool t))) → g3D A n (pth 27) K s = (match t with
    | true => g3D A n (pth 43) K s
    | false => g3D A n (pth 59) K s) := codeD_cond t
theorem g3p43 : g3D A n (pth 43) K s = g3D A n (pth 75) (g3Q A n (pth 107) K) s := by kernel_rfl
theorem g3p107 : g3D A n (pth 107) K s = K .ret s := by kernel_rfl
theorem g3p59 : g3D A n (pth 59) K s = K .normal s := by kernel_rfl
theorem g3p15 : g3D A n (pth 15) K s = g3D A n (pth 23) (g3Q A n (pth 31) K) s := by kernel_rfl
theorem g3p31 : g3D A n (pth 31) K s = g3D A n (pth 47) (g3Q A n (pth 63) K) s := by kernel_rfl
theorem g3p63 : g3D A n (pth 63) K s = g3D A n (pth 95) (g3Q A n (pth 127) K) s := by kernel_rfl
theorem g3p95 : g3D A n (pth 95) K s = g3D A n (pth 159) (g3Q A n (pth 223) K) s := by kernel_rfl
theorem g3p223 (t : Bool) : ev s (.tmp 17) = some (.v (.cell (.bool t))) → g3D A n (pth 223) K s = (match t with
    | true => g3D A n (pth 351) K s
    | false => g3D A n (pth 479) K s) := codeD_cond t
theorem g3p479 : g3D A n (pth 479) K s = K .normal s := by kernel_rfl
theorem g3p127 : g3D A n (pth 127) K s = g3D A n (pth 191) (g3Q A n (pth 255) K) s := by kernel_rfl
theorem g3p191 : g3D A n (pth 191) K s = g3D A n (pth 319) (g3Q A n (pth 447) K) s := by kernel_rfl
theorem g3p447 : g3D A n (pth 447) K s = g3D A n (pth 703) (blockK 0 K) s := by kernel_rfl
theorem g3p703 : g3D A n (pth 703) K s = g3V A n (pth 1215) n K s := by kernel_rfl
theorem g3p1215 : g3D A n (pth 1215) K s = g3D A n (pth 2239) (g3Q A n (pth 3263) K) s := by kernel_rfl
theorem g3p2239 : g3D A n (pth 2239) K s = g3D A n (pth 4287) (g3Q A n (pth 6335) K) s := by kernel_rfl
theorem g3p6335 (t : Bool) : ev s (.tmp 25) = some (.v (.cell (.bool t))) → g3D A n (pth 6335) K s = (match t with
    | true => g3D A n (pth 10431) K s
    | false => g3D A n (pth 14527) K s) := codeD_cond t
theorem g3p10431 : g3D A n (pth 10431) K s = K .normal s := by kernel_rfl
theorem g3p14527 : g3D A n (pth 14527) K s = K (.exit 0) s := by kernel_rfl
theorem g3p3263 : g3D A n (pth 3263) K s = g3D A n (pth 5311) (g3Q A n (pth 7359) K) s := by kernel_rfl
theorem g3p5311 : g3D A n (pth 5311) K s = g3D A n (pth 9407) (blockK 1 K) s := by kernel_rfl
theorem g3p9407 : g3D A n (pth 9407) K s = g3D A n (pth 17599) (g3Q A n (pth 25791) K) s := by kernel_rfl
theorem g3p25791 : g3D A n (pth 25791) K s = g3D A n (pth 42175) (g3Q A n (pth 58559) K) s := by kernel_rfl
theorem g3p42175 : g3D A n (pth 42175) K s = g3D A n (pth 74943) (g3Q A n (pth 107711) K) s := by kernel_rfl
theorem g3p107711 : g3D A n (pth 107711) K s = g3D A n (pth 173247) (blockK 2 K) s := by kernel_rfl
theorem g3p173247 : g3D A n (pth 173247) K s = g3D A n (pth 304319) (g3Q A n (pth 435391) K) s := by kernel_rfl
theorem g3p435391 (t : Bool) : ev s (.tmp 46) = some (.v (.cell (.bool t))) → g3D A n (pth 435391) K s = (match t with
    | true => g3D A n (pth 697535) K s
    | false => g3D A n (pth 959679) K s) := codeD_cond t
theorem g3p697535 : g3D A n (pth 697535) K s = g3D A n (pth 1221823) (g3Q A n (pth 1746111) K) s := by kernel_rfl
theorem g3p959679 : g3D A n (pth 959679) K s = g3D A n (pth 1483967) (g3Q A n (pth 2008255) K) s := by kernel_rfl
theorem g3p2008255 (t : Bool) : ev s (.tmp 60) = some (.v (.cell (.bool t))) → g3D A n (pth 2008255) K s = (match t with
    | true => g3D A n (pth 3056831) K s
    | false => g3D A n (pth 4105407) K s) := codeD_cond t
theorem g3p3056831 : g3D A n (pth 3056831) K s = g3D A n (pth 5153983) (g3Q A n (pth 7251135) K) s := by kernel_rfl
theorem g3p4105407 : g3D A n (pth 4105407) K s = g3D A n (pth 6202559) (g3Q A n (pth 8299711) K) s := by kernel_rfl
theorem g3p58559 : g3D A n (pth 58559) K s = g3D A n (pth 91327) (g3Q A n (pth 124095) K) s := by kernel_rfl
theorem g3p124095 : g3D A n (pth 124095) K s = g3D A n (pth 189631) (g3Q A n (pth 255167) K) s := by kernel_rfl
theorem g3p255167 (t : Bool) : ev s (.tmp 100) = some (.v (.cell (.bool t))) → g3D A n (pth 255167) K s = (match t with
    | true => g3D A n (pth 386239) K s
    | false => g3D A n (pth 517311) K s) := codeD_cond t
theorem g3p386239 : g3D A n (pth 386239) K s = g3D A n (pth 648383) (g3Q A n (pth 910527) K) s := by kernel_rfl
theorem g3p910527 : g3D A n (pth 910527) K s = K .ret s := by kernel_rfl
theorem g3p517311 : g3D A n (pth 517311) K s = K .normal s := by kernel_rfl
theorem g3p255 : g3D A n (pth 255) K s = g3D A n (pth 383) (g3Q A n (pth 511) K) s := by kernel_rfl
theorem g3p511 : g3D A n (pth 511) K s = K .ret s := by kernel_rfl
def g3R21s0 (A : Ar) (x0 : Nat) (x1 : Bool) (x2 : Int) (x3 x4 : Nat) (x5 x6 x7 : List Int) (x8 : List (List Nat)) (x9 : Int) (x10 x11 : Nat) (x12 x13 : List Nat) (x14 : Int) : St := ⟨[(9, (i6 (g17r1 A x9 x10 x11 x12))), (8, (tS (g17r0 A x9 x10 x11 x12))), (74, (i6 (g17r1 A x9 x10 x11 x12))), (73, (tS (g17r0 A x9 x10 x11 x12))), (70, (.tup [(.cell (.str (g17r0 A x9 x10 x11 x12))), (.cell (.int .i64 (g17r1 A x9 x10 x11 x12)))])), (72, (.tup [(.cell (.str (g17r0 A x9 x10 x11 x12))), (.cell (.int .i64 (g17r1 A x9 x10 x11 x12)))])), (71, (pT 5000 0)), (0, (sL 0 none x0 4)), (3, (bO x1)), (4, (pT 5000 0)), (5, (pT 6001 0)), (6, (i6 x2))], [(0, ⟨[.recs x4 [.ints .i64 x5, .ints .i64 x6, .ints .i64 x7, .strs x8]], x3, 0⟩), (5000, ⟨[.one (.int .i64 (g17r2 A x9 x10 x11 x12)), .one (.sl 5500 none (g17r3 A x9 x10 x11 x12) 1)], 56, 1⟩), (5500, ⟨[.nums .u8 (g17r4 A x9 x10 x11 x12) (g17r5 A x9 x10 x11 x12)], 5, 2⟩), (6001, ⟨[.one (.str x13), .one (.int .i64 x14)], 28, 1⟩)]⟩
theorem g3R21 (x0 : Nat) (x1 : Bool) (x2 : Int) (x3 x4 : Nat) (x5 x6 x7 : List Int) (x8 : List (List Nat)) (x9 : Int) (x10 x11 : Nat) (x12 x13 : List Nat) (x14 : Int) : g3D A n (pth 91327) K ⟨[(0, (sL 0 none x0 4)), (3, (bO x1)), (4, (pT 5000 0)), (5, (pT 6001 0)), (6, (i6 x2))], [(0, ⟨[.recs x4 [.ints .i64 x5, .ints .i64 x6, .ints .i64 x7, .strs x8]], x3, 0⟩), (5000, ⟨[.one (.int .i64 x9), .one (.sl 5500 none x10 1)], 56, 1⟩), (5500, ⟨[.nums .u8 x11 x12], 5, 2⟩), (6001, ⟨[.one (.str x13), .one (.int .i64 x14)], 28, 1⟩)]⟩ = match (generalizing := false) g17ok A x9 x10 x11 x12 with
    | true => K .normal (g3R21s0 A x0 x1 x2 x3 x4 x5 x6 x7 x8 x9 x10 x11 x12 x13 x14)
    | false => none := by kernel_rfl
def g3R22s0 (A : Ar) (x0 : Nat) (x1 : Bool) (x2 : Int) (x3 : List Nat) (x4 : Int) (x5 x6 : Nat) (x7 x8 x9 : List Int) (x10 : List (List Nat)) (x11 : Int) (x12 x13 : Nat) (x14 x15 : List Nat) (x16 : Int) : St := ⟨[(100, (bO true)), (99, uN), (98, uN), (97, uN), (96, uN), (95, uN), (94, uN), (93, (bO true)), (92, (bO true)), (91, uN), (90, uN), (89, uN), (88, uN), (87, uN), (86, uN), (85, uN), (84, uN), (83, uN), (82, uN), (81, (bO true)), (80, (bO (A.ic .neq x4 x16))), (79, (i6 x16)), (78, (pT 6001 1)), (77, (pT 6001 0)), (76, (pT 6001 0)), (75, (i6 x4)), (0, (sL 0 none x0 4)), (3, (bO x1)), (4, (pT 5000 0)), (5, (pT 6001 0)), (6, (i6 x2)), (8, (tS x3)), (9, (i6 x4))], [(0, ⟨[.recs x6 [.ints .i64 x7, .ints .i64 x8, .ints .i64 x9, .strs x10]], x5, 0⟩), (5000, ⟨[.one (.int .i64 x11), .one (.sl 5500 none x12 1)], 56, 1⟩), (5500, ⟨[.nums .u8 x13 x14], 5, 2⟩), (6001, ⟨[.one (.str x15), .one (.int .i64 x16)], 28, 1⟩)]⟩
def g3R22s1 (A : Ar) (x0 : Nat) (x1 : Bool) (x2 : Int) (x3 : List Nat) (x4 : Int) (x5 x6 : Nat) (x7 x8 x9 : List Int) (x10 : List (List Nat)) (x11 : Int) (x12 x13 : Nat) (x14 x15 : List Nat) (x16 : Int) : St := ⟨[(100, (bO true)), (99, uN), (98, uN), (97, uN), (96, uN), (95, uN), (94, uN), (93, (bO true)), (92, (bO (A.sc .neq x3 x15))), (91, (bO (A.sc .neq x3 x15))), (90, (bO (A.sc .neq x3 x15))), (89, (tS x15)), (88, (pT 6001 0)), (87, (pT 6001 0)), (86, (pT 6001 0)), (85, (tS x3)), (84, (bO true)), (83, (bO (A.ic .eql x4 0))), (82, (i6 x4)), (81, (bO false)), (80, (bO (A.ic .neq x4 x16))), (79, (i6 x16)), (78, (pT 6001 1)), (77, (pT 6001 0)), (76, (pT 6001 0)), (75, (i6 x4)), (0, (sL 0 none x0 4)), (3, (bO x1)), (4, (pT 5000 0)), (5, (pT 6001 0)), (6, (i6 x2)), (8, (tS x3)), (9, (i6 x4))], [(0, ⟨[.recs x6 [.ints .i64 x7, .ints .i64 x8, .ints .i64 x9, .strs x10]], x5, 0⟩), (5000, ⟨[.one (.int .i64 x11), .one (.sl 5500 none x12 1)], 56, 1⟩), (5500, ⟨[.nums .u8 x13 x14], 5, 2⟩), (6001, ⟨[.one (.str x15), .one (.int .i64 x16)], 28, 1⟩)]⟩
def g3R22s2 (A : Ar) (x0 : Nat) (x1 : Bool) (x2 : Int) (x3 : List Nat) (x4 : Int) (x5 x6 : Nat) (x7 x8 x9 : List Int) (x10 : List (List Nat)) (x11 : Int) (x12 x13 : Nat) (x14 x15 : List Nat) (x16 : Int) : St := ⟨[(100, (bO (A.sc .neq x3 []))), (99, (bO (A.sc .neq x3 []))), (98, (bO (A.sc .neq x3 []))), (97, (tS x3)), (96, (bO true)), (95, (bO (A.ic .neq x4 0))), (94, (i6 x4)), (93, (bO false)), (92, (bO (A.sc .neq x3 x15))), (91, (bO (A.sc .neq x3 x15))), (90, (bO (A.sc .neq x3 x15))), (89, (tS x15)), (88, (pT 6001 0)), (87, (pT 6001 0)), (86, (pT 6001 0)), (85, (tS x3)), (84, (bO true)), (83, (bO (A.ic .eql x4 0))), (82, (i6 x4)), (81, (bO false)), (80, (bO (A.ic .neq x4 x16))), (79, (i6 x16)), (78, (pT 6001 1)), (77, (pT 6001 0)), (76, (pT 6001 0)), (75, (i6 x4)), (0, (sL 0 none x0 4)), (3, (bO x1)), (4, (pT 5000 0)), (5, (pT 6001 0)), (6, (i6 x2)), (8, (tS x3)), (9, (i6 x4))], [(0, ⟨[.recs x6 [.ints .i64 x7, .ints .i64 x8, .ints .i64 x9, .strs x10]], x5, 0⟩), (5000, ⟨[.one (.int .i64 x11), .one (.sl 5500 none x12 1)], 56, 1⟩), (5500, ⟨[.nums .u8 x13 x14], 5, 2⟩), (6001, ⟨[.one (.str x15), .one (.int .i64 x16)], 28, 1⟩)]⟩
def g3R22s3 (A : Ar) (x0 : Nat) (x1 : Bool) (x2 : Int) (x3 : List Nat) (x4 : Int) (x5 x6 : Nat) (x7 x8 x9 : List Int) (x10 : List (List Nat)) (x11 : Int) (x12 x13 : Nat) (x14 x15 : List Nat) (x16 : Int) : St := ⟨[(100, (bO false)), (99, (bO false)), (98, uN), (97, uN), (96, (bO false)), (95, (bO (A.ic .neq x4 0))), (94, (i6 x4)), (93, (bO false)), (92, (bO (A.sc .neq x3 x15))), (91, (bO (A.sc .neq x3 x15))), (90, (bO (A.sc .neq x3 x15))), (89, (tS x15)), (88, (pT 6001 0)), (87, (pT 6001 0)), (86, (pT 6001 0)), (85, (tS x3)), (84, (bO true)), (83, (bO (A.ic .eql x4 0))), (82, (i6 x4)), (81, (bO false)), (80, (bO (A.ic .neq x4 x16))), (79, (i6 x16)), (78, (pT 6001 1)), (77, (pT 6001 0)), (76, (pT 6001 0)), (75, (i6 x4)), (0, (sL 0 none x0 4)), (3, (bO x1)), (4, (pT 5000 0)), (5, (pT 6001 0)), (6, (i6 x2)), (8, (tS x3)), (9, (i6 x4))], [(0, ⟨[.recs x6 [.ints .i64 x7, .ints .i64 x8, .ints .i64 x9, .strs x10]], x5, 0⟩), (5000, ⟨[.one (.int .i64 x11), .one (.sl 5500 none x12 1)], 56, 1⟩), (5500, ⟨[.nums .u8 x13 x14], 5, 2⟩), (6001, ⟨[.one (.str x15), .one (.int .i64 x16)], 28, 1⟩)]⟩
def g3R22s4 (A : Ar) (x0 : Nat) (x1 : Bool) (x2 : Int) (x3 : List Nat) (x4 : Int) (x5 x6 : Nat) (x7 x8 x9 : List Int) (x10 : List (List Nat)) (x11 : Int) (x12 x13 : Nat) (x14 x15 : List Nat) (x16 : Int) : St := ⟨[(100, (bO (A.sc .neq x3 []))), (99, (bO (A.sc .neq x3 []))), (98, (bO (A.sc .neq x3 []))), (97, (tS x3)), (96, (bO true)), (95, (bO (A.ic .neq x4 0))), (94, (i6 x4)), (93, (bO false)), (92, (bO false)), (91, (bO false)), (90, uN), (89, uN), (88, uN), (87, uN), (86, uN), (85, uN), (84, (bO false)), (83, (bO (A.ic .eql x4 0))), (82, (i6 x4)), (81, (bO false)), (80, (bO (A.ic .neq x4 x16))), (79, (i6 x16)), (78, (pT 6001 1)), (77, (pT 6001 0)), (76, (pT 6001 0)), (75, (i6 x4)), (0, (sL 0 none x0 4)), (3, (bO x1)), (4, (pT 5000 0)), (5, (pT 6001 0)), (6, (i6 x2)), (8, (tS x3)), (9, (i6 x4))], [(0, ⟨[.recs x6 [.ints .i64 x7, .ints .i64 x8, .ints .i64 x9, .strs x10]], x5, 0⟩), (5000, ⟨[.one (.int .i64 x11), .one (.sl 5500 none x12 1)], 56, 1⟩), (5500, ⟨[.nums .u8 x13 x14], 5, 2⟩), (6001, ⟨[.one (.str x15), .one (.int .i64 x16)], 28, 1⟩)]⟩
def g3R22s5 (A : Ar) (x0 : Nat) (x1 : Bool) (x2 : Int) (x3 : List Nat) (x4 : Int) (x5 x6 : Nat) (x7 x8 x9 : List Int) (x10 : List (List Nat)) (x11 : Int) (x12 x13 : Nat) (x14 x15 : List Nat) (x16 : Int) : St := ⟨[(100, (bO false)), (99, (bO false)), (98, uN), (97, uN), (96, (bO false)), (95, (bO (A.ic .neq x4 0))), (94, (i6 x4)), (93, (bO false)), (92, (bO false)), (91, (bO false)), (90, uN), (89, uN), (88, uN), (87, uN), (86, uN), (85, uN), (84, (bO false)), (83, (bO (A.ic .eql x4 0))), (82, (i6 x4)), (81, (bO false)), (80, (bO (A.ic .neq x4 x16))), (79, (i6 x16)), (78, (pT 6001 1)), (77, (pT 6001 0)), (76, (pT 6001 0)), (75, (i6 x4)), (0, (sL 0 none x0 4)), (3, (bO x1)), (4, (pT 5000 0)), (5, (pT 6001 0)), (6, (i6 x2)), (8, (tS x3)), (9, (i6 x4))], [(0, ⟨[.recs x6 [.ints .i64 x7, .ints .i64 x8, .ints .i64 x9, .strs x10]], x5, 0⟩), (5000, ⟨[.one (.int .i64 x11), .one (.sl 5500 none x12 1)], 56, 1⟩), (5500, ⟨[.nums .u8 x13 x14], 5, 2⟩), (6001, ⟨[.one (.str x15), .one (.int .i64 x16)], 28, 1⟩)]⟩
theorem g3R22 (x0 : Nat) (x1 : Bool) (x2 : Int) (x3 : List Nat) (x4 : Int) (x5 x6 : Nat) (x7 x8 x9 : List Int) (x10 : List (List Nat)) (x11 : Int) (x12 x13 : Nat) (x14 x15 : List Nat) (x16 : Int) : g3D A n (pth 189631) K ⟨[(0, (sL 0 none x0 4)), (3, (bO x1)), (4, (pT 5000 0)), (5, (pT 6001 0)), (6, (i6 x2)), (8, (tS x3)), (9, (i6 x4))], [(0, ⟨[.recs x6 [.ints .i64 x7, .ints .i64 x8, .ints .i64 x9, .strs x10]], x5, 0⟩), (5000, ⟨[.one (.int .i64 x11), .one (.sl 5500 none x12 1)], 56, 1⟩), (5500, ⟨[.nums .u8 x13 x14], 5, 2⟩), (6001, ⟨[.one (.str x15), .one (.int .i64 x16)], 28, 1⟩)]⟩ = match (generalizing := false) A.ic .neq x4 x16 with
    | true => K .normal (g3R22s0 A x0 x1 x2 x3 x4 x5 x6 x7 x8 x9 x10 x11 x12 x13 x14 x15 x16)
    | false => match (generalizing := false) A.ic .eql x4 0 with
      | true => match (generalizing := false) A.sc .neq x3 x15 with
        | true => K .normal (g3R22s1 A x0 x1 x2 x3 x4 x5 x6 x7 x8 x9 x10 x11 x12 x13 x14 x15 x16)
        | false => match (generalizing := false) A.ic .neq x4 0 with
          | true => K .normal (g3R22s2 A x0 x1 x2 x3 x4 x5 x6 x7 x8 x9 x10 x11 x12 x13 x14 x15 x16)
          | false => K .normal (g3R22s3 A x0 x1 x2 x3 x4 x5 x6 x7 x8 x9 x10 x11 x12 x13 x14 x15 x16)
      | false => match (generalizing := false) A.ic .neq x4 0 with
        | true => K .normal (g3R22s4 A x0 x1 x2 x3 x4 x5 x6 x7 x8 x9 x10 x11 x12 x13 x14 x15 x16)
        | false => K .normal (g3R22s5 A x0 x1 x2 x3 x4 x5 x6 x7 x8 x9 x10 x11 x12 x13 x14 x15 x16) := by kernel_rfl
def g3R23s0 (A : Ar) (x0 x1 : Nat) (x2 x3 x4 : List Int) (x5 : List (List Nat)) : St := ⟨[(2, (bO false))], [(0, ⟨[.recs x1 [.ints .i64 x2, .ints .i64 x3, .ints .i64 x4, .strs x5]], x0, 0⟩)]⟩
theorem g3R23 (x0 x1 : Nat) (x2 x3 x4 : List Int) (x5 : List (List Nat)) : g3D A n (pth 648383) K ⟨[], [(0, ⟨[.recs x1 [.ints .i64 x2, .ints .i64 x3, .ints .i64 x4, .strs x5]], x0, 0⟩)]⟩ = K .normal (g3R23s0 A x0 x1 x2 x3 x4 x5) := by kernel_rfl
def g3R10s0 (A : Ar) (x0 : Nat) (x1 : Bool) (x2 : Int) (x3 x4 : Nat) (x5 x6 x7 : List Int) (x8 : List (List Nat)) (x9 : Int) (x10 x11 : Nat) (x12 x13 : List Nat) (x14 : Int) : St := ⟨[(6, (i6 (A.ib .add .i64 x2 1))), (27, (i6 (A.ib .add .i64 x2 1))), (26, (i6 x2)), (0, (sL 0 none x0 4)), (3, (bO x1)), (4, (pT 5000 0)), (5, (pT 6001 0)), (6, (i6 x2))], [(0, ⟨[.recs x4 [.ints .i64 x5, .ints .i64 x6, .ints .i64 x7, .strs x8]], x3, 0⟩), (5000, ⟨[.one (.int .i64 x9), .one (.sl 5500 none x10 1)], 56, 1⟩), (5500, ⟨[.nums .u8 x11 x12], 5, 2⟩), (6001, ⟨[.one (.str x13), .one (.int .i64 x14)], 28, 1⟩)]⟩
theorem g3R10 (x0 : Nat) (x1 : Bool) (x2 : Int) (x3 x4 : Nat) (x5 x6 x7 : List Int) (x8 : List (List Nat)) (x9 : Int) (x10 x11 : Nat) (x12 x13 : List Nat) (x14 : Int) : g3D A n (pth 7359) K ⟨[(0, (sL 0 none x0 4)), (3, (bO x1)), (4, (pT 5000 0)), (5, (pT 6001 0)), (6, (i6 x2))], [(0, ⟨[.recs x4 [.ints .i64 x5, .ints .i64 x6, .ints .i64 x7, .strs x8]], x3, 0⟩), (5000, ⟨[.one (.int .i64 x9), .one (.sl 5500 none x10 1)], 56, 1⟩), (5500, ⟨[.nums .u8 x11 x12], 5, 2⟩), (6001, ⟨[.one (.str x13), .one (.int .i64 x14)], 28, 1⟩)]⟩ = K .normal (g3R10s0 A x0 x1 x2 x3 x4 x5 x6 x7 x8 x9 x10 x11 x12 x13 x14) := by kernel_rfl
def g3R11s0 (A : Ar) (x0 : Nat) (x1 : Bool) (x2 : Int) (x3 x4 : Nat) (x5 x6 x7 : List Int) (x8 : List (List Nat)) (x9 : Int) (x10 x11 : Nat) (x12 x13 : List Nat) (x14 : Int) : St := ⟨[(7, (pT 12004 0)), (31, (.v (.agg [.one (.int .i64 (x5.getD (A.toN x2) 0)), .one (.int .i64 (x6.getD (A.toN x2) 0)), .one (.int .i64 (x7.getD (A.toN x2) 0)), .one (.str (x8.getD (A.toN x2) []))]))), (30, (.v (.cell (.ptr 0 0 (some ⟨(A.toN x2) * 4, 4, x0 * 4, A.toN x2, 0, 4⟩))))), (29, (i6 x2)), (28, (sL 0 none x0 4)), (0, (sL 0 none x0 4)), (3, (bO x1)), (4, (pT 5000 0)), (5, (pT 6001 0)), (6, (i6 x2))], [(12004, ⟨[.ints .i64 3 ((([0, 0, 0].set 0 (x5.getD (A.toN x2) 0)).set 1 (x6.getD (A.toN x2) 0)).set 2 (x7.getD (A.toN x2) 0)), .one (.str (x8.getD (A.toN x2) []))], 30, 1⟩), (0, ⟨[.recs x4 [.ints .i64 x5, .ints .i64 x6, .ints .i64 x7, .strs x8]], x3, 0⟩), (5000, ⟨[.one (.int .i64 x9), .one (.sl 5500 none x10 1)], 56, 1⟩), (5500, ⟨[.nums .u8 x11 x12], 5, 2⟩), (6001, ⟨[.one (.str x13), .one (.int .i64 x14)], 28, 1⟩)]⟩
theorem g3R11 (x0 : Nat) (x1 : Bool) (x2 : Int) (x3 x4 : Nat) (x5 x6 x7 : List Int) (x8 : List (List Nat)) (x9 : Int) (x10 x11 : Nat) (x12 x13 : List Nat) (x14 : Int) : g3D A n (pth 17599) K ⟨[(0, (sL 0 none x0 4)), (3, (bO x1)), (4, (pT 5000 0)), (5, (pT 6001 0)), (6, (i6 x2))], [(0, ⟨[.recs x4 [.ints .i64 x5, .ints .i64 x6, .ints .i64 x7, .strs x8]], x3, 0⟩), (5000, ⟨[.one (.int .i64 x9), .one (.sl 5500 none x10 1)], 56, 1⟩), (5500, ⟨[.nums .u8 x11 x12], 5, 2⟩), (6001, ⟨[.one (.str x13), .one (.int .i64 x14)], 28, 1⟩)]⟩ = match (generalizing := false) A.neg x2 with
    | true => none
    | false => match (generalizing := false) A.lt (A.toN x2) x0 with
      | true => K .normal (g3R11s0 A x0 x1 x2 x3 x4 x5 x6 x7 x8 x9 x10 x11 x12 x13 x14)
      | false => none := by kernel_rfl
def g3R12s0 (A : Ar) (x0 : Nat) (x1 : Bool) (x2 : Int) (x3 x4 : Nat) (x5 x6 x7 : List Int) (x8 : List (List Nat)) (x9 : Int) (x10 x11 : Nat) (x12 x13 : List Nat) (x14 : Int) (x15 : List Int) (x16 : List Nat) : St := ⟨[(33, (i6 (g10r0 A x15 x16))), (32, (.v (.agg [.ints .i64 3 x15, .one (.str x16)]))), (0, (sL 0 none x0 4)), (3, (bO x1)), (4, (pT 5000 0)), (5, (pT 6001 0)), (6, (i6 x2)), (7, (pT 12004 0))], [(0, ⟨[.recs x4 [.ints .i64 x5, .ints .i64 x6, .ints .i64 x7, .strs x8]], x3, 0⟩), (5000, ⟨[.one (.int .i64 x9), .one (.sl 5500 none x10 1)], 56, 1⟩), (5500, ⟨[.nums .u8 x11 x12], 5, 2⟩), (6001, ⟨[.one (.str x13), .one (.int .i64 x14)], 28, 1⟩), (12004, ⟨[.ints .i64 3 x15, .one (.str x16)], 30, 1⟩)]⟩
theorem g3R12 (x0 : Nat) (x1 : Bool) (x2 : Int) (x3 x4 : Nat) (x5 x6 x7 : List Int) (x8 : List (List Nat)) (x9 : Int) (x10 x11 : Nat) (x12 x13 : List Nat) (x14 : Int) (x15 : List Int) (x16 : List Nat) : g3D A n (pth 74943) K ⟨[(0, (sL 0 none x0 4)), (3, (bO x1)), (4, (pT 5000 0)), (5, (pT 6001 0)), (6, (i6 x2)), (7, (pT 12004 0))], [(0, ⟨[.recs x4 [.ints .i64 x5, .ints .i64 x6, .ints .i64 x7, .strs x8]], x3, 0⟩), (5000, ⟨[.one (.int .i64 x9), .one (.sl 5500 none x10 1)], 56, 1⟩), (5500, ⟨[.nums .u8 x11 x12], 5, 2⟩), (6001, ⟨[.one (.str x13), .one (.int .i64 x14)], 28, 1⟩), (12004, ⟨[.ints .i64 3 x15, .one (.str x16)], 30, 1⟩)]⟩ = match (generalizing := false) g10ok A x15 x16 with
    | true => K .normal (g3R12s0 A x0 x1 x2 x3 x4 x5 x6 x7 x8 x9 x10 x11 x12 x13 x14 x15 x16)
    | false => none := by kernel_rfl
def g3R15s0 (A : Ar) (x0 : Nat) (x1 : Bool) (x2 x3 : Int) (x4 x5 : Nat) (x6 x7 x8 : List Int) (x9 : List (List Nat)) (x10 : Int) (x11 x12 : Nat) (x13 x14 : List Nat) (x15 : Int) (x16 : List Int) (x17 : List Nat) : St := ⟨[(46, (bO (A.ic .eql x3 0))), (47, (bO (A.ic .eql x3 0))), (0, (sL 0 none x0 4)), (3, (bO x1)), (4, (pT 5000 0)), (5, (pT 6001 0)), (6, (i6 x2)), (7, (pT 12004 0)), (33, (i6 x3))], [(0, ⟨[.recs x5 [.ints .i64 x6, .ints .i64 x7, .ints .i64 x8, .strs x9]], x4, 0⟩), (5000, ⟨[.one (.int .i64 x10), .one (.sl 5500 none x11 1)], 56, 1⟩), (5500, ⟨[.nums .u8 x12 x13], 5, 2⟩), (6001, ⟨[.one (.str x14), .one (.int .i64 x15)], 28, 1⟩), (12004, ⟨[.ints .i64 3 x16, .one (.str x17)], 30, 1⟩)]⟩
theorem g3R15 (x0 : Nat) (x1 : Bool) (x2 x3 : Int) (x4 x5 : Nat) (x6 x7 x8 : List Int) (x9 : List (List Nat)) (x10 : Int) (x11 x12 : Nat) (x13 x14 : List Nat) (x15 : Int) (x16 : List Int) (x17 : List Nat) : g3D A n (pth 304319) K ⟨[(0, (sL 0 none x0 4)), (3, (bO x1)), (4, (pT 5000 0)), (5, (pT 6001 0)), (6, (i6 x2)), (7, (pT 12004 0)), (33, (i6 x3))], [(0, ⟨[.recs x5 [.ints .i64 x6, .ints .i64 x7, .ints .i64 x8, .strs x9]], x4, 0⟩), (5000, ⟨[.one (.int .i64 x10), .one (.sl 5500 none x11 1)], 56, 1⟩), (5500, ⟨[.nums .u8 x12 x13], 5, 2⟩), (6001, ⟨[.one (.str x14), .one (.int .i64 x15)], 28, 1⟩), (12004, ⟨[.ints .i64 3 x16, .one (.str x17)], 30, 1⟩)]⟩ = K .normal (g3R15s0 A x0 x1 x2 x3 x4 x5 x6 x7 x8 x9 x10 x11 x12 x13 x14 x15 x16 x17) := by kernel_rfl
def g3R16s0 (A : Ar) (x0 : Nat) (x1 : Bool) (x2 : Int) (x3 x4 : Nat) (x5 x6 x7 : List Int) (x8 : List (List Nat)) (x9 : Int) (x10 x11 : Nat) (x12 x13 : List Nat) (x14 : Int) (x15 : List Int) (x16 : List Nat) : St := ⟨[(53, (.tup [])), (52, (i6 (x15.getD 2 0))), (51, (pT 12004 2)), (50, (i6 (x15.getD 1 0))), (49, (pT 12004 1)), (48, (pT 5000 0)), (0, (sL 0 none x0 4)), (3, (bO x1)), (4, (pT 5000 0)), (5, (pT 6001 0)), (6, (i6 x2)), (7, (pT 12004 0))], [(0, ⟨[.recs x4 [.ints .i64 x5, .ints .i64 x6, .ints .i64 x7, .strs x8]], x3, 0⟩), (5000, ⟨[.one (.int .i64 (g11r0 A (x15.getD 1 0) (x15.getD 2 0) x9 x10 x11 x12)), .one (.sl 5500 none (g11r1 A (x15.getD 1 0) (x15.getD 2 0) x9 x10 x11 x12) 1)], 56, 1⟩), (5500, ⟨[.nums .u8 (g11r2 A (x15.getD 1 0) (x15.getD 2 0) x9 x10 x11 x12) (g11r3 A (x15.getD 1 0) (x15.getD 2 0) x9 x10 x11 x12)], 5, 2⟩), (6001, ⟨[.one (.str x13), .one (.int .i64 x14)], 28, 1⟩), (12004, ⟨[.ints .i64 3 x15, .one (.str x16)], 30, 1⟩)]⟩
theorem g3R16 (x0 : Nat) (x1 : Bool) (x2 : Int) (x3 x4 : Nat) (x5 x6 x7 : List Int) (x8 : List (List Nat)) (x9 : Int) (x10 x11 : Nat) (x12 x13 : List Nat) (x14 : Int) (x15 : List Int) (x16 : List Nat) : g3D A n (pth 1221823) K ⟨[(0, (sL 0 none x0 4)), (3, (bO x1)), (4, (pT 5000 0)), (5, (pT 6001 0)), (6, (i6 x2)), (7, (pT 12004 0))], [(0, ⟨[.recs x4 [.ints .i64 x5, .ints .i64 x6, .ints .i64 x7, .strs x8]], x3, 0⟩), (5000, ⟨[.one (.int .i64 x9), .one (.sl 5500 none x10 1)], 56, 1⟩), (5500, ⟨[.nums .u8 x11 x12], 5, 2⟩), (6001, ⟨[.one (.str x13), .one (.int .i64 x14)], 28, 1⟩), (12004, ⟨[.ints .i64 3 x15, .one (.str x16)], 30, 1⟩)]⟩ = match (generalizing := false) g11ok A (x15.getD 1 0) (x15.getD 2 0) x9 x10 x11 x12 with
    | true => K .normal (g3R16s0 A x0 x1 x2 x3 x4 x5 x6 x7 x8 x9 x10 x11 x12 x13 x14 x15 x16)
    | false => none := by kernel_rfl
def g3R17s0 (A : Ar) (x0 : Nat) (x1 : Bool) (x2 : Int) (x3 x4 : Nat) (x5 x6 x7 : List Int) (x8 : List (List Nat)) (x9 : Int) (x10 x11 : Nat) (x12 x13 : List Nat) (x14 : Int) (x15 : List Int) (x16 : List Nat) : St := ⟨[(59, (.tup [])), (58, (i6 (x15.getD 2 0))), (57, (pT 12004 2)), (56, (i6 (x15.getD 1 0))), (55, (pT 12004 1)), (54, (pT 6001 0)), (0, (sL 0 none x0 4)), (3, (bO x1)), (4, (pT 5000 0)), (5, (pT 6001 0)), (6, (i6 x2)), (7, (pT 12004 0))], [(0, ⟨[.recs x4 [.ints .i64 x5, .ints .i64 x6, .ints .i64 x7, .strs x8]], x3, 0⟩), (5000, ⟨[.one (.int .i64 x9), .one (.sl 5500 none x10 1)], 56, 1⟩), (5500, ⟨[.nums .u8 x11 x12], 5, 2⟩), (6001, ⟨[.one (.str (g12r0 A (x15.getD 1 0) (x15.getD 2 0) x13 x14)), .one (.int .i64 (g12r1 A (x15.getD 1 0) (x15.getD 2 0) x13 x14))], 28, 1⟩), (12004, ⟨[.ints .i64 3 x15, .one (.str x16)], 30, 1⟩)]⟩
theorem g3R17 (x0 : Nat) (x1 : Bool) (x2 : Int) (x3 x4 : Nat) (x5 x6 x7 : List Int) (x8 : List (List Nat)) (x9 : Int) (x10 x11 : Nat) (x12 x13 : List Nat) (x14 : Int) (x15 : List Int) (x16 : List Nat) : g3D A n (pth 1746111) K ⟨[(0, (sL 0 none x0 4)), (3, (bO x1)), (4, (pT 5000 0)), (5, (pT 6001 0)), (6, (i6 x2)), (7, (pT 12004 0))], [(0, ⟨[.recs x4 [.ints .i64 x5, .ints .i64 x6, .ints .i64 x7, .strs x8]], x3, 0⟩), (5000, ⟨[.one (.int .i64 x9), .one (.sl 5500 none x10 1)], 56, 1⟩), (5500, ⟨[.nums .u8 x11 x12], 5, 2⟩), (6001, ⟨[.one (.str x13), .one (.int .i64 x14)], 28, 1⟩), (12004, ⟨[.ints .i64 3 x15, .one (.str x16)], 30, 1⟩)]⟩ = match (generalizing := false) g12ok A (x15.getD 1 0) (x15.getD 2 0) x13 x14 with
    | true => K .normal (g3R17s0 A x0 x1 x2 x3 x4 x5 x6 x7 x8 x9 x10 x11 x12 x13 x14 x15 x16)
    | false => none := by kernel_rfl
def g3R18s0 (A : Ar) (x0 : Nat) (x1 : Bool) (x2 x3 : Int) (x4 x5 : Nat) (x6 x7 x8 : List Int) (x9 : List (List Nat)) (x10 : Int) (x11 x12 : Nat) (x13 x14 : List Nat) (x15 : Int) (x16 : List Int) (x17 : List Nat) : St := ⟨[(60, (bO (A.ic .eql x3 1))), (61, (bO (A.ic .eql x3 1))), (0, (sL 0 none x0 4)), (3, (bO x1)), (4, (pT 5000 0)), (5, (pT 6001 0)), (6, (i6 x2)), (7, (pT 12004 0)), (33, (i6 x3))], [(0, ⟨[.recs x5 [.ints .i64 x6, .ints .i64 x7, .ints .i64 x8, .strs x9]], x4, 0⟩), (5000, ⟨[.one (.int .i64 x10), .one (.sl 5500 none x11 1)], 56, 1⟩), (5500, ⟨[.nums .u8 x12 x13], 5, 2⟩), (6001, ⟨[.one (.str x14), .one (.int .i64 x15)], 28, 1⟩), (12004, ⟨[.ints .i64 3 x16, .one (.str x17)], 30, 1⟩)]⟩
theorem g3R18 (x0 : Nat) (x1 : Bool) (x2 x3 : Int) (x4 x5 : Nat) (x6 x7 x8 : List Int) (x9 : List (List Nat)) (x10 : Int) (x11 x12 : Nat) (x13 x14 : List Nat) (x15 : Int) (x16 : List Int) (x17 : List Nat) : g3D A n (pth 1483967) K ⟨[(0, (sL 0 none x0 4)), (3, (bO x1)), (4, (pT 5000 0)), (5, (pT 6001 0)), (6, (i6 x2)), (7, (pT 12004 0)), (33, (i6 x3))], [(0, ⟨[.recs x5 [.ints .i64 x6, .ints .i64 x7, .ints .i64 x8, .strs x9]], x4, 0⟩), (5000, ⟨[.one (.int .i64 x10), .one (.sl 5500 none x11 1)], 56, 1⟩), (5500, ⟨[.nums .u8 x12 x13], 5, 2⟩), (6001, ⟨[.one (.str x14), .one (.int .i64 x15)], 28, 1⟩), (12004, ⟨[.ints .i64 3 x16, .one (.str x17)], 30, 1⟩)]⟩ = K .normal (g3R18s0 A x0 x1 x2 x3 x4 x5 x6 x7 x8 x9 x10 x11 x12 x13 x14 x15 x16 x17) := by kernel_rfl
def g3R19s0 (A : Ar) (x0 : Nat) (x1 : Bool) (x2 : Int) (x3 x4 : Nat) (x5 x6 x7 : List Int) (x8 : List (List Nat)) (x9 : Int) (x10 x11 : Nat) (x12 x13 : List Nat) (x14 : Int) (x15 : List Int) (x16 : List Nat) : St := ⟨[(65, (.tup [])), (64, (tS x16)), (63, (pT 12004 3)), (62, (pT 5000 0)), (0, (sL 0 none x0 4)), (3, (bO x1)), (4, (pT 5000 0)), (5, (pT 6001 0)), (6, (i6 x2)), (7, (pT 12004 0))], [(0, ⟨[.recs x4 [.ints .i64 x5, .ints .i64 x6, .ints .i64 x7, .strs x8]], x3, 0⟩), (5000, ⟨[.one (.int .i64 (g13r0 A x16 x9 x10 x11 x12)), .one (.sl 5500 none (g13r1 A x16 x9 x10 x11 x12) 1)], 56, 1⟩), (5500, ⟨[.nums .u8 (g13r2 A x16 x9 x10 x11 x12) (g13r3 A x16 x9 x10 x11 x12)], 5, 2⟩), (6001, ⟨[.one (.str x13), .one (.int .i64 x14)], 28, 1⟩), (12004, ⟨[.ints .i64 3 x15, .one (.str x16)], 30, 1⟩)]⟩
theorem g3R19 (x0 : Nat) (x1 : Bool) (x2 : Int) (x3 x4 : Nat) (x5 x6 x7 : List Int) (x8 : List (List Nat)) (x9 : Int) (x10 x11 : Nat) (x12 x13 : List Nat) (x14 : Int) (x15 : List Int) (x16 : List Nat) : g3D A n (pth 5153983) K ⟨[(0, (sL 0 none x0 4)), (3, (bO x1)), (4, (pT 5000 0)), (5, (pT 6001 0)), (6, (i6 x2)), (7, (pT 12004 0))], [(0, ⟨[.recs x4 [.ints .i64 x5, .ints .i64 x6, .ints .i64 x7, .strs x8]], x3, 0⟩), (5000, ⟨[.one (.int .i64 x9), .one (.sl 5500 none x10 1)], 56, 1⟩), (5500, ⟨[.nums .u8 x11 x12], 5, 2⟩), (6001, ⟨[.one (.str x13), .one (.int .i64 x14)], 28, 1⟩), (12004, ⟨[.ints .i64 3 x15, .one (.str x16)], 30, 1⟩)]⟩ = match (generalizing := false) g13ok A x16 x9 x10 x11 x12 with
    | true => K .normal (g3R19s0 A x0 x1 x2 x3 x4 x5 x6 x7 x8 x9 x10 x11 x12 x13 x14 x15 x16)
    | false => none := by kernel_rfl
def g3R20s0 (A : Ar) (x0 : Nat) (x1 : Bool) (x2 : Int) (x3 x4 : Nat) (x5 x6 x7 : List Int) (x8 : List (List Nat)) (x9 : Int) (x10 x11 : Nat) (x12 x13 : List Nat) (x14 : Int) (x15 : List Int) (x16 : List Nat) : St := ⟨[(69, (.tup [])), (68, (tS x16)), (67, (pT 12004 3)), (66, (pT 6001 0)), (0, (sL 0 none x0 4)), (3, (bO x1)), (4, (pT 5000 0)), (5, (pT 6001 0)), (6, (i6 x2)), (7, (pT 12004 0))], [(0, ⟨[.recs x4 [.ints .i64 x5, .ints .i64 x6, .ints .i64 x7, .strs x8]], x3, 0⟩), (5000, ⟨[.one (.int .i64 x9), .one (.sl 5500 none x10 1)], 56, 1⟩), (5500, ⟨[.nums .u8 x11 x12], 5, 2⟩), (6001, ⟨[.one (.str (g14r0 A x16 x13 x14)), .one (.int .i64 (g14r1 A x16 x13 x14))], 28, 1⟩), (12004, ⟨[.ints .i64 3 x15, .one (.str x16)], 30, 1⟩)]⟩
theorem g3R20 (x0 : Nat) (x1 : Bool) (x2 : Int) (x3 x4 : Nat) (x5 x6 x7 : List Int) (x8 : List (List Nat)) (x9 : Int) (x10 x11 : Nat) (x12 x13 : List Nat) (x14 : Int) (x15 : List Int) (x16 : List Nat) : g3D A n (pth 7251135) K ⟨[(0, (sL 0 none x0 4)), (3, (bO x1)), (4, (pT 5000 0)), (5, (pT 6001 0)), (6, (i6 x2)), (7, (pT 12004 0))], [(0, ⟨[.recs x4 [.ints .i64 x5, .ints .i64 x6, .ints .i64 x7, .strs x8]], x3, 0⟩), (5000, ⟨[.one (.int .i64 x9), .one (.sl 5500 none x10 1)], 56, 1⟩), (5500, ⟨[.nums .u8 x11 x12], 5, 2⟩), (6001, ⟨[.one (.str x13), .one (.int .i64 x14)], 28, 1⟩), (12004, ⟨[.ints .i64 3 x15, .one (.str x16)], 30, 1⟩)]⟩ = match (generalizing := false) g14ok A x16 x13 x14 with
    | true => K .normal (g3R20s0 A x0 x1 x2 x3 x4 x5 x6 x7 x8 x9 x10 x11 x12 x13 x14 x15 x16)
    | false => none := by kernel_rfl
def g3R13s0 (A : Ar) (x0 : Nat) (x1 : Bool) (x2 : Int) (x3 x4 : Nat) (x5 x6 x7 : List Int) (x8 : List (List Nat)) (x9 : Int) (x10 x11 : Nat) (x12 x13 : List Nat) (x14 : Int) (x15 : List Int) (x16 : List Nat) : St := ⟨[(39, (.tup [])), (38, (i6 (x15.getD 2 0))), (37, (pT 12004 2)), (36, (tS x16)), (35, (pT 12004 3)), (34, (pT 5000 0)), (0, (sL 0 none x0 4)), (3, (bO x1)), (4, (pT 5000 0)), (5, (pT 6001 0)), (6, (i6 x2)), (7, (pT 12004 0))], [(0, ⟨[.recs x4 [.ints .i64 x5, .ints .i64 x6, .ints .i64 x7, .strs x8]], x3, 0⟩), (5000, ⟨[.one (.int .i64 (g15r0 A x16 (x15.getD 2 0) x9 x10 x11 x12)), .one (.sl 5500 none (g15r1 A x16 (x15.getD 2 0) x9 x10 x11 x12) 1)], 56, 1⟩), (5500, ⟨[.nums .u8 (g15r2 A x16 (x15.getD 2 0) x9 x10 x11 x12) (g15r3 A x16 (x15.getD 2 0) x9 x10 x11 x12)], 5, 2⟩), (6001, ⟨[.one (.str x13), .one (.int .i64 x14)], 28, 1⟩), (12004, ⟨[.ints .i64 3 x15, .one (.str x16)], 30, 1⟩)]⟩
theorem g3R13 (x0 : Nat) (x1 : Bool) (x2 : Int) (x3 x4 : Nat) (x5 x6 x7 : List Int) (x8 : List (List Nat)) (x9 : Int) (x10 x11 : Nat) (x12 x13 : List Nat) (x14 : Int) (x15 : List Int) (x16 : List Nat) : g3D A n (pth 6202559) K ⟨[(0, (sL 0 none x0 4)), (3, (bO x1)), (4, (pT 5000 0)), (5, (pT 6001 0)), (6, (i6 x2)), (7, (pT 12004 0))], [(0, ⟨[.recs x4 [.ints .i64 x5, .ints .i64 x6, .ints .i64 x7, .strs x8]], x3, 0⟩), (5000, ⟨[.one (.int .i64 x9), .one (.sl 5500 none x10 1)], 56, 1⟩), (5500, ⟨[.nums .u8 x11 x12], 5, 2⟩), (6001, ⟨[.one (.str x13), .one (.int .i64 x14)], 28, 1⟩), (12004, ⟨[.ints .i64 3 x15, .one (.str x16)], 30, 1⟩)]⟩ = match (generalizing := false) g15ok A x16 (x15.getD 2 0) x9 x10 x11 x12 with
    | true => K .normal (g3R13s0 A x0 x1 x2 x3 x4 x5 x6 x7 x8 x9 x10 x11 x12 x13 x14 x15 x16)
    | false => none := by kernel_rfl
def g3R14s0 (A : Ar) (x0 : Nat) (x1 : Bool) (x2 : Int) (x3 x4 : Nat) (x5 x6 x7 : List Int) (x8 : List (List Nat)) (x9 : Int) (x10 x11 : Nat) (x12 x13 : List Nat) (x14 : Int) (x15 : List Int) (x16 : List Nat) : St := ⟨[(45, (.tup [])), (44, (i6 (x15.getD 2 0))), (43, (pT 12004 2)), (42, (tS x16)), (41, (pT 12004 3)), (40, (pT 6001 0)), (0, (sL 0 none x0 4)), (3, (bO x1)), (4, (pT 5000 0)), (5, (pT 6001 0)), (6, (i6 x2)), (7, (pT 12004 0))], [(0, ⟨[.recs x4 [.ints .i64 x5, .ints .i64 x6, .ints .i64 x7, .strs x8]], x3, 0⟩), (5000, ⟨[.one (.int .i64 x9), .one (.sl 5500 none x10 1)], 56, 1⟩), (5500, ⟨[.nums .u8 x11 x12], 5, 2⟩), (6001, ⟨[.one (.str (g16r0 A x16 (x15.getD 2 0) x13 x14)), .one (.int .i64 (g16r1 A x16 (x15.getD 2 0) x13 x14))], 28, 1⟩), (12004, ⟨[.ints .i64 3 x15, .one (.str x16)], 30, 1⟩)]⟩
theorem g3R14 (x0 : Nat) (x1 : Bool) (x2 : Int) (x3 x4 : Nat) (x5 x6 x7 : List Int) (x8 : List (List Nat)) (x9 : Int) (x10 x11 : Nat) (x12 x13 : List Nat) (x14 : Int) (x15 : List Int) (x16 : List Nat) : g3D A n (pth 8299711) K ⟨[(0, (sL 0 none x0 4)), (3, (bO x1)), (4, (pT 5000 0)), (5, (pT 6001 0)), (6, (i6 x2)), (7, (pT 12004 0))], [(0, ⟨[.recs x4 [.ints .i64 x5, .ints .i64 x6, .ints .i64 x7, .strs x8]], x3, 0⟩), (5000, ⟨[.one (.int .i64 x9), .one (.sl 5500 none x10 1)], 56, 1⟩), (5500, ⟨[.nums .u8 x11 x12], 5, 2⟩), (6001, ⟨[.one (.str x13), .one (.int .i64 x14)], 28, 1⟩), (12004, ⟨[.ints .i64 3 x15, .one (.str x16)], 30, 1⟩)]⟩ = match (generalizing := false) g16ok A x16 (x15.getD 2 0) x13 x14 with
    | true => K .normal (g3R14s0 A x0 x1 x2 x3 x4 x5 x6 x7 x8 x9 x10 x11 x12 x13 x14 x15 x16)
    | false => none := by kernel_rfl
def g3R9s0 (A : Ar) (x0 : Nat) (x1 : Bool) (x2 : Int) (x3 x4 : Nat) (x5 x6 x7 : List Int) (x8 : List (List Nat)) (x9 : Int) (x10 x11 : Nat) (x12 x13 : List Nat) (x14 : Int) : St := ⟨[(25, (bO (A.ic .lss x2 20))), (24, (bO (A.ic .lss x2 20))), (23, (i6 x2)), (22, (bO true)), (21, (bO (A.ic .lss x2 (A.ofN x0)))), (20, (i6 (A.ofN x0))), (19, (sL 0 none x0 4)), (18, (i6 x2)), (0, (sL 0 none x0 4)), (3, (bO x1)), (4, (pT 5000 0)), (5, (pT 6001 0)), (6, (i6 x2))], [(0, ⟨[.recs x4 [.ints .i64 x5, .ints .i64 x6, .ints .i64 x7, .strs x8]], x3, 0⟩), (5000, ⟨[.one (.int .i64 x9), .one (.sl 5500 none x10 1)], 56, 1⟩), (5500, ⟨[.nums .u8 x11 x12], 5, 2⟩), (6001, ⟨[.one (.str x13), .one (.int .i64 x14)], 28, 1⟩)]⟩
def g3R9s1 (A : Ar) (x0 : Nat) (x1 : Bool) (x2 : Int) (x3 x4 : Nat) (x5 x6 x7 : List Int) (x8 : List (List Nat)) (x9 : Int) (x10 x11 : Nat) (x12 x13 : List Nat) (x14 : Int) : St := ⟨[(25, (bO false)), (24, uN), (23, uN), (22, (bO false)), (21, (bO (A.ic .lss x2 (A.ofN x0)))), (20, (i6 (A.ofN x0))), (19, (sL 0 none x0 4)), (18, (i6 x2)), (0, (sL 0 none x0 4)), (3, (bO x1)), (4, (pT 5000 0)), (5, (pT 6001 0)), (6, (i6 x2))], [(0, ⟨[.recs x4 [.ints .i64 x5, .ints .i64 x6, .ints .i64 x7, .strs x8]], x3, 0⟩), (5000, ⟨[.one (.int .i64 x9), .one (.sl 5500 none x10 1)], 56, 1⟩), (5500, ⟨[.nums .u8 x11 x12], 5, 2⟩), (6001, ⟨[.one (.str x13), .one (.int .i64 x14)], 28, 1⟩)]⟩
theorem g3R9 (x0 : Nat) (x1 : Bool) (x2 : Int) (x3 x4 : Nat) (x5 x6 x7 : List Int) (x8 : List (List Nat)) (x9 : Int) (x10 x11 : Nat) (x12 x13 : List Nat) (x14 : Int) : g3D A n (pth 4287) K ⟨[(0, (sL 0 none x0 4)), (3, (bO x1)), (4, (pT 5000 0)), (5, (pT 6001 0)), (6, (i6 x2))], [(0, ⟨[.recs x4 [.ints .i64 x5, .ints .i64 x6, .ints .i64 x7, .strs x8]], x3, 0⟩), (5000, ⟨[.one (.int .i64 x9), .one (.sl 5500 none x10 1)], 56, 1⟩), (5500, ⟨[.nums .u8 x11 x12], 5, 2⟩), (6001, ⟨[.one (.str x13), .one (.int .i64 x14)], 28, 1⟩)]⟩ = match (generalizing := false) A.ic .lss x2 (A.ofN x0) with
    | true => K .normal (g3R9s0 A x0 x1 x2 x3 x4 x5 x6 x7 x8 x9 x10 x11 x12 x13 x14)
    | false => K .normal (g3R9s1 A x0 x1 x2 x3 x4 x5 x6 x7 x8 x9 x10 x11 x12 x13 x14) := by kernel_rfl
def g3R24s0 (A : Ar) (x0 : Bool) (x1 x2 : Nat) (x3 x4 x5 : List Int) (x6 : List (List Nat)) : St := ⟨[(2, (bO x0)), (101, (bO x0)), (3, (bO x0))], [(0, ⟨[.recs x2 [.ints .i64 x3, .ints .i64 x4, .ints .i64 x5, .strs x6]], x1, 0⟩)]⟩
theorem g3R24 (x0 : Bool) (x1 x2 : Nat) (x3 x4 x5 : List Int) (x6 : List (List Nat)) : g3D A n (pth 383) K ⟨[(3, (bO x0))], [(0, ⟨[.recs x2 [.ints .i64 x3, .ints .i64 x4, .ints .i64 x5, .strs x6]], x1, 0⟩)]⟩ = K .normal (g3R24s0 A x0 x1 x2 x3 x4 x5 x6) := by kernel_rfl
def g3R8s0 (A : Ar) (x0 : Nat) (x1 : Bool) (x2 x3 : Nat) (x4 x5 x6 : List Int) (x7 : List (List Nat)) (x8 : Int) (x9 x10 : Nat) (x11 x12 : List Nat) (x13 : Int) : St := ⟨[(6, (i6 0)), (0, (sL 0 none x0 4)), (3, (bO x1)), (4, (pT 5000 0)), (5, (pT 6001 0))], [(0, ⟨[.recs x3 [.ints .i64 x4, .ints .i64 x5, .ints .i64 x6, .strs x7]], x2, 0⟩), (5000, ⟨[.one (.int .i64 x8), .one (.sl 5500 none x9 1)], 56, 1⟩), (5500, ⟨[.nums .u8 x10 x11], 5, 2⟩), (6001, ⟨[.one (.str x12), .one (.int .i64 x13)], 28, 1⟩)]⟩
theorem g3R8 (x0 : Nat) (x1 : Bool) (x2 x3 : Nat) (x4 x5 x6 : List Int) (x7 : List (List Nat)) (x8 : Int) (x9 x10 : Nat) (x11 x12 : List Nat) (x13 : Int) : g3D A n (pth 319) K ⟨[(0, (sL 0 none x0 4)), (3, (bO x1)), (4, (pT 5000 0)), (5, (pT 6001 0))], [(0, ⟨[.recs x3 [.ints .i64 x4, .ints .i64 x5, .ints .i64 x6, .strs x7]], x2, 0⟩), (5000, ⟨[.one (.int .i64 x8), .one (.sl 5500 none x9 1)], 56, 1⟩), (5500, ⟨[.nums .u8 x10 x11], 5, 2⟩), (6001, ⟨[.one (.str x12), .one (.int .i64 x13)], 28, 1⟩)]⟩ = K .normal (g3R8s0 A x0 x1 x2 x3 x4 x5 x6 x7 x8 x9 x10 x11 x12 x13) := by kernel_rfl
def g3R4s0 (A : Ar) (x0 : Nat) (x1 : Bool) (x2 x3 : Nat) (x4 x5 x6 : List Int) (x7 : List (List Nat)) : St := ⟨[(4, (pT 5000 0)), (13, (pT 5000 0)), (0, (sL 0 none x0 4)), (3, (bO x1))], [(5500, ⟨[.nums .u8 0 []], 5, 2⟩), (5000, ⟨[.one (.int .i64 (g9r0 A)), .one (.sl 5500 none 0 1)], 56, 1⟩), (0, ⟨[.recs x3 [.ints .i64 x4, .ints .i64 x5, .ints .i64 x6, .strs x7]], x2, 0⟩)]⟩
theorem g3R4 (x0 : Nat) (x1 : Bool) (x2 x3 : Nat) (x4 x5 x6 : List Int) (x7 : List (List Nat)) : g3D A n (pth 23) K ⟨[(0, (sL 0 none x0 4)), (3, (bO x1))], [(0, ⟨[.recs x3 [.ints .i64 x4, .ints .i64 x5, .ints .i64 x6, .strs x7]], x2, 0⟩)]⟩ = match (generalizing := false) g9ok A with
    | true => K .normal (g3R4s0 A x0 x1 x2 x3 x4 x5 x6 x7)
    | false => none := by kernel_rfl
def g3R5s0 (A : Ar) (x0 : Nat) (x1 : Bool) (x2 x3 : Nat) (x4 x5 x6 : List Int) (x7 : List (List Nat)) (x8 : Int) (x9 x10 : Nat) (x11 : List Nat) : St := ⟨[(5, (pT 6001 0)), (15, (pT 6001 0)), (14, (.v (.agg [.one (.str []), .one (.int .i64 0)]))), (0, (sL 0 none x0 4)), (3, (bO x1)), (4, (pT 5000 0))], [(6001, ⟨[.one (.str []), .one (.int .i64 0)], 28, 1⟩), (0, ⟨[.recs x3 [.ints .i64 x4, .ints .i64 x5, .ints .i64 x6, .strs x7]], x2, 0⟩), (5000, ⟨[.one (.int .i64 x8), .one (.sl 5500 none x9 1)], 56, 1⟩), (5500, ⟨[.nums .u8 x10 x11], 5, 2⟩)]⟩
theorem g3R5 (x0 : Nat) (x1 : Bool) (x2 x3 : Nat) (x4 x5 x6 : List Int) (x7 : List (List Nat)) (x8 : Int) (x9 x10 : Nat) (x11 : List Nat) : g3D A n (pth 47) K ⟨[(0, (sL 0 none x0 4)), (3, (bO x1)), (4, (pT 5000 0))], [(0, ⟨[.recs x3 [.ints .i64 x4, .ints .i64 x5, .ints .i64 x6, .strs x7]], x2, 0⟩), (5000, ⟨[.one (.int .i64 x8), .one (.sl 5500 none x9 1)], 56, 1⟩), (5500, ⟨[.nums .u8 x10 x11], 5, 2⟩)]⟩ = K .normal (g3R5s0 A x0 x1 x2 x3 x4 x5 x6 x7 x8 x9 x10 x11) := by kernel_rfl
def g3R6s0 (A : Ar) (x0 : Nat) (x1 : Bool) (x2 x3 : Nat) (x4 x5 x6 : List Int) (x7 : List (List Nat)) (x8 : Int) (x9 x10 : Nat) (x11 x12 : List Nat) (x13 : Int) : St := ⟨[(17, (bO false)), (16, (pT 5000 0)), (0, (sL 0 none x0 4)), (3, (bO x1)), (4, (pT 5000 0)), (5, (pT 6001 0))], [(0, ⟨[.recs x3 [.ints .i64 x4, .ints .i64 x5, .ints .i64 x6, .strs x7]], x2, 0⟩), (5000, ⟨[.one (.int .i64 x8), .one (.sl 5500 none x9 1)], 56, 1⟩), (5500, ⟨[.nums .u8 x10 x11], 5, 2⟩), (6001, ⟨[.one (.str x12), .one (.int .i64 x13)], 28, 1⟩)]⟩
theorem g3R6 (x0 : Nat) (x1 : Bool) (x2 x3 : Nat) (x4 x5 x6 : List Int) (x7 : List (List Nat)) (x8 : Int) (x9 x10 : Nat) (x11 x12 : List Nat) (x13 : Int) : g3D A n (pth 159) K ⟨[(0, (sL 0 none x0 4)), (3, (bO x1)), (4, (pT 5000 0)), (5, (pT 6001 0))], [(0, ⟨[.recs x3 [.ints .i64 x4, .ints .i64 x5, .ints .i64 x6, .strs x7]], x2, 0⟩), (5000, ⟨[.one (.int .i64 x8), .one (.sl 5500 none x9 1)], 56, 1⟩), (5500, ⟨[.nums .u8 x10 x11], 5, 2⟩), (6001, ⟨[.one (.str x12), .one (.int .i64 x13)], 28, 1⟩)]⟩ = K .normal (g3R6s0 A x0 x1 x2 x3 x4 x5 x6 x7 x8 x9 x10 x11 x12 x13) := by kernel_rfl
def g3R0s0 (A : Ar) (x0 x1 x2 : Nat) (x3 x4 x5 : List Int) (x6 : List (List Nat)) : St := ⟨[(2, (bO false)), (0, (sL 0 none x0 4))], [(0, ⟨[.recs x2 [.ints .i64 x3, .ints .i64 x4, .ints .i64 x5, .strs x6]], x1, 0⟩)]⟩
theorem g3R0 (x0 x1 x2 : Nat) (x3 x4 x5 : List Int) (x6 : List (List Nat)) : g3D A n (pth 2) K ⟨[(0, (sL 0 none x0 4))], [(0, ⟨[.recs x2 [.ints .i64 x3, .ints .i64 x4, .ints .i64 x5, .strs x6]], x1, 0⟩)]⟩ = K .normal (g3R0s0 A x0 x1 x2 x3 x4 x5 x6) := by kernel_rfl
def g3R1s0 (A : Ar) (x0 x1 x2 : Nat) (x3 x4 x5 : List Int) (x6 : List (List Nat)) : St := ⟨[(3, (bO (g8r0 A))), (10, (bO (g8r0 A))), (0, (sL 0 none x0 4))], [(0, ⟨[.recs x2 [.ints .i64 x3, .ints .i64 x4, .ints .i64 x5, .strs x6]], x1, 0⟩)]⟩
theorem g3R1 (x0 x1 x2 : Nat) (x3 x4 x5 : List Int) (x6 : List (List Nat)) : g3D A n (pth 5) K ⟨[(0, (sL 0 none x0 4))], [(0, ⟨[.recs x2 [.ints .i64 x3, .ints .i64 x4, .ints .i64 x5, .strs x6]], x1, 0⟩)]⟩ = match (generalizing := false) g8ok A with
    | true => K .normal (g3R1s0 A x0 x1 x2 x3 x4 x5 x6)
    | false => none := by kernel_rfl
def g3R2s0 (A : Ar) (x0 : Nat) (x1 : Bool) (x2 x3 : Nat) (x4 x5 x6 : List Int) (x7 : List (List Nat)) : St := ⟨[(12, (bO (!x1))), (11, (bO x1)), (0, (sL 0 none x0 4)), (3, (bO x1))], [(0, ⟨[.recs x3 [.ints .i64 x4, .ints .i64 x5, .ints .i64 x6, .strs x7]], x2, 0⟩)]⟩
theorem g3R2 (x0 : Nat) (x1 : Bool) (x2 x3 : Nat) (x4 x5 x6 : List Int) (x7 : List (List Nat)) : g3D A n (pth 19) K ⟨[(0, (sL 0 none x0 4)), (3, (bO x1))], [(0, ⟨[.recs x3 [.ints .i64 x4, .ints .i64 x5, .ints .i64 x6, .strs x7]], x2, 0⟩)]⟩ = K .normal (g3R2s0 A x0 x1 x2 x3 x4 x5 x6 x7) := by kernel_rfl
def g3R3s0 (A : Ar) (x0 x1 : Nat) (x2 x3 x4 : List Int) (x5 : List (List Nat)) : St := ⟨[(2, (bO false))], [(0, ⟨[.recs x1 [.ints .i64 x2, .ints .i64 x3, .ints .i64 x4, .strs x5]], x0, 0⟩)]⟩
theorem g3R3 (x0 x1 : Nat) (x2 x3 x4 : List Int) (x5 : List (List Nat)) : g3D A n (pth 75) K ⟨[], [(0, ⟨[.recs x1 [.ints .i64 x2, .ints .i64 x3, .ints .i64 x4, .strs x5]], x0, 0⟩)]⟩ = K .normal (g3R3s0 A x0 x1 x2 x3 x4 x5) := by kernel_rfl
end
def g3J21 {R : Type} (A : Ar) (n : Nat) (kk : AV → Heap → Option R) (lg3L9 : Nat → Bool → Int → Nat → Nat → List Int → List Int → List Int → List (List Nat) → Int → Nat → Nat → List Nat → List Nat → Int → Option R) (x0 : Nat) (x1 : Bool) (x2 : Int) (x3 x4 : Nat) (x5 x6 x7 : List Int) (x8 : List (List Nat)) (x9 : Int) (x10 x11 : Nat) (x12 x13 : List Nat) (x14 : Int) : Option R :=
  match (generalizing := false) g17ok A x9 x10 x11 x12 with
  | true => match (generalizing := false) A.ic .neq (g17r1 A x9 x10 x11 x12) x14 with
    | true => kk (bO false) [(0, ⟨[.recs x4 [.ints .i64 x5, .ints .i64 x6, .ints .i64 x7, .strs x8]], x3, 0⟩)]
    | false => match (generalizing := false) A.ic .eql (g17r1 A x9 x10 x11 x12) 0 with
      | true => match (generalizing := false) A.sc .neq (g17r0 A x9 x10 x11 x12) x13 with
        | true => kk (bO false) [(0, ⟨[.recs x4 [.ints .i64 x5, .ints .i64 x6, .ints .i64 x7, .strs x8]], x3, 0⟩)]
        | false => match (generalizing := false) A.ic .neq (g17r1 A x9 x10 x11 x12) 0 with
          | true => match (generalizing := false) A.sc .neq (g17r0 A x9 x10 x11 x12) [] with
            | true => kk (bO false) [(0, ⟨[.recs x4 [.ints .i64 x5, .ints .i64 x6, .ints .i64 x7, .strs x8]], x3, 0⟩)]
            | false => lg3L9 x0 x1 (A.ib .add .i64 x2 1) x3 x4 x5 x6 x7 x8 (g17r2 A x9 x10 x11 x12) (g17r3 A x9 x10 x11 x12) (g17r4 A x9 x10 x11 x12) (g17r5 A x9 x10 x11 x12) x13 x14
          | false => lg3L9 x0 x1 (A.ib .add .i64 x2 1) x3 x4 x5 x6 x7 x8 (g17r2 A x9 x10 x11 x12) (g17r3 A x9 x10 x11 x12) (g17r4 A x9 x10 x11 x12) (g17r5 A x9 x10 x11 x12) x13 x14
      | false => match (generalizing := false) A.ic .neq (g17r1 A x9 x10 x11 x12) 0 with
        | true => match (generalizing := false) A.sc .neq (g17r0 A x9 x10 x11 x12) [] with
          | true => kk (bO false) [(0, ⟨[.recs x4 [.ints .i64 x5, .ints .i64 x6, .ints .i64 x7, .strs x8]], x3, 0⟩)]
          | false => lg3L9 x0 x1 (A.ib .add .i64 x2 1) x3 x4 x5 x6 x7 x8 (g17r2 A x9 x10 x11 x12) (g17r3 A x9 x10 x11 x12) (g17r4 A x9 x10 x11 x12) (g17r5 A x9 x10 x11 x12) x13 x14
        | false => lg3L9 x0 x1 (A.ib .add .i64 x2 1) x3 x4 x5 x6 x7 x8 (g17r2 A x9 x10 x11 x12) (g17r3 A x9 x10 x11 x12) (g17r4 A x9 x10 x11 x12) (g17r5 A x9 x10 x11 x12) x13 x14
  | false => none
set_option maxRecDepth 100000 in
theorem g3J21_eq {R : Type} (A : Ar) (n : Nat) (kk : AV → Heap → Option R) (m0 : Nat) (lg3L9 : Nat → Bool → Int → Nat → Nat → List Int → List Int → List Int → List (List Nat) → Int → Nat → Nat → List Nat → List Nat → Int → Option R) 
    (hg3L9 : ∀ (s : St) (x0 : Nat) (x1 : Bool) (x2 : Int) (x3 x4 : Nat) (x5 x6 x7 : List Int) (x8 : List (List Nat)) (x9 : Int) (x10 x11 : Nat) (x12 x13 : List Nat) (x14 : Int), keep g3an 9 s = ⟨[(0, (sL 0 none x0 4)), (3, (bO x1)), (4, (pT 5000 0)), (5, (pT 6001 0)), (6, (i6 x2))], [(0, ⟨[.recs x4 [.ints .i64 x5, .ints .i64 x6, .ints .i64 x7, .strs x8]], x3, 0⟩), (5000, ⟨[.one (.int .i64 x9), .one (.sl 5500 none x10 1)], 56, 1⟩), (5500, ⟨[.nums .u8 x11 x12], 5, 2⟩), (6001, ⟨[.one (.str x13), .one (.int .i64 x14)], 28, 1⟩)]⟩ → g3V A n (pth 1215) m0 (blockK 0 (g3Q A n (pth 255) (g3T kk))) s = lg3L9 x0 x1 x2 x3 x4 x5 x6 x7 x8 x9 x10 x11 x12 x13 x14) (s : St) (x0 : Nat) (x1 : Bool) (x2 : Int) (x3 x4 : Nat) (x5 x6 x7 : List Int) (x8 : List (List Nat)) (x9 : Int) (x10 x11 : Nat) (x12 x13 : List Nat) (x14 : Int) (h : keep g3an 21 s = ⟨[(0, (sL 0 none x0 4)), (3, (bO x1)), (4, (pT 5000 0)), (5, (pT 6001 0)), (6, (i6 x2))], [(0, ⟨[.recs x4 [.ints .i64 x5, .ints .i64 x6, .ints .i64 x7, .strs x8]], x3, 0⟩), (5000, ⟨[.one (.int .i64 x9), .one (.sl 5500 none x10 1)], 56, 1⟩), (5500, ⟨[.nums .u8 x11 x12], 5, 2⟩), (6001, ⟨[.one (.str x13), .one (.int .i64 x14)], 28, 1⟩)]⟩) :
    g3D A n (pth 58559) (blockK 1 (g3Q A n (pth 7359) (g3W A n (pth 1215) m0 (blockK 0 (g3Q A n (pth 255) (g3T kk)))))) s = g3J21 A n kk lg3L9 x0 x1 x2 x3 x4 x5 x6 x7 x8 x9 x10 x11 x12 x13 x14 := by
  have h1 : (g3T kk) .ret (g3R23s0 A x3 x4 x5 x6 x7 x8) = kk (bO false) [(0, ⟨[.recs x4 [.ints .i64 x5, .ints .i64 x6, .ints .i64 x7, .strs x8]], x3, 0⟩)] := by kernel_rfl
  have h2 := (g3Qr A n (pth 255) _ _).trans h1
  have h3 := (blockK_r 0 _ _).trans h2
  have h4 := (g3Wr A n (pth 1215) m0 _ _).trans h3
  have h5 := (g3Qr A n (pth 7359) _ _).trans h4
  have h6 := (blockK_r 1 _ _).trans h5
  have h7 := (g3p910527 A n _ _).trans h6
  have h8 := (g3Qn A n _ _ _).trans h7
  have h9 := (g3F A n _ 23 _ (g3R22s0 A x0 x1 x2 (g17r0 A x9 x10 x11 x12) (g17r1 A x9 x10 x11 x12) x3 x4 x5 x6 x7 x8 (g17r2 A x9 x10 x11 x12) (g17r3 A x9 x10 x11 x12) (g17r4 A x9 x10 x11 x12) (g17r5 A x9 x10 x11 x12) x13 x14) _ (by kernel_rfl) (by kernel_rfl)).trans (g3R23 A n (g3Q A n (pth 910527) (blockK 1 (g3Q A n (pth 7359) (g3W A n (pth 1215) m0 (blockK 0 (g3Q A n (pth 255) (g3T kk))))))) x3 x4 x5 x6 x7 x8)
  rw [h8] at h9
  have h10 := (g3p386239 A n _ _).trans h9
  have h11 := (g3p255167 A n (blockK 1 (g3Q A n (pth 7359) (g3W A n (pth 1215) m0 (blockK 0 (g3Q A n (pth 255) (g3T kk)))))) (g3R22s0 A x0 x1 x2 (g17r0 A x9 x10 x11 x12) (g17r1 A x9 x10 x11 x12) x3 x4 x5 x6 x7 x8 (g17r2 A x9 x10 x11 x12) (g17r3 A x9 x10 x11 x12) (g17r4 A x9 x10 x11 x12) (g17r5 A x9 x10 x11 x12) x13 x14) true (by kernel_rfl)).trans h10
  have h12 := (g3Qn A n _ _ _).trans h11
  have h13 : (g3T kk) .ret (g3R23s0 A x3 x4 x5 x6 x7 x8) = kk (bO false) [(0, ⟨[.recs x4 [.ints .i64 x5, .ints .i64 x6, .ints .i64 x7, .strs x8]], x3, 0⟩)] := by kernel_rfl
  have h14 := (g3Qr A n (pth 255) _ _).trans h13
  have h15 := (blockK_r 0 _ _).trans h14
  have h16 := (g3Wr A n (pth 1215) m0 _ _).trans h15
  have h17 := (g3Qr A n (pth 7359) _ _).trans h16
  have h18 := (blockK_r 1 _ _).trans h17
  have h19 := (g3p910527 A n _ _).trans h18
  have h20 := (g3Qn A n _ _ _).trans h19
  have h21 := (g3F A n _ 23 _ (g3R22s1 A x0 x1 x2 (g17r0 A x9 x10 x11 x12) (g17r1 A x9 x10 x11 x12) x3 x4 x5 x6 x7 x8 (g17r2 A x9 x10 x11 x12) (g17r3 A x9 x10 x11 x12) (g17r4 A x9 x10 x11 x12) (g17r5 A x9 x10 x11 x12) x13 x14) _ (by kernel_rfl) (by kernel_rfl)).trans (g3R23 A n (g3Q A n (pth 910527) (blockK 1 (g3Q A n (pth 7359) (g3W A n (pth 1215) m0 (blockK 0 (g3Q A n (pth 255) (g3T kk))))))) x3 x4 x5 x6 x7 x8)
  rw [h20] at h21
  have h22 := (g3p386239 A n _ _).trans h21
  have h23 := (g3p255167 A n (blockK 1 (g3Q A n (pth 7359) (g3W A n (pth 1215) m0 (blockK 0 (g3Q A n (pth 255) (g3T kk)))))) (g3R22s1 A x0 x1 x2 (g17r0 A x9 x10 x11 x12) (g17r1 A x9 x10 x11 x12) x3 x4 x5 x6 x7 x8 (g17r2 A x9 x10 x11 x12) (g17r3 A x9 x10 x11 x12) (g17r4 A x9 x10 x11 x12) (g17r5 A x9 x10 x11 x12) x13 x14) true (by kernel_rfl)).trans h22
  have h24 := (g3Qn A n _ _ _).trans h23
  have h25 : (g3T kk) .ret (g3R23s0 A x3 x4 x5 x6 x7 x8) = kk (bO false) [(0, ⟨[.recs x4 [.ints .i64 x5, .ints .i64 x6, .ints .i64 x7, .strs x8]], x3, 0⟩)] := by kernel_rfl
  have h26 := (g3Qr A n (pth 255) _ _).trans h25
  have h27 := (blockK_r 0 _ _).trans h26
  have h28 := (g3Wr A n (pth 1215) m0 _ _).trans h27
  have h29 := (g3Qr A n (pth 7359) _ _).trans h28
  have h30 := (blockK_r 1 _ _).trans h29
  have h31 := (g3p910527 A n _ _).trans h30
  have h32 := (g3Qn A n _ _ _).trans h31
  have h33 := (g3F A n _ 23 _ (g3R22s2 A x0 x1 x2 (g17r0 A x9 x10 x11 x12) (g17r1 A x9 x10 x11 x12) x3 x4 x5 x6 x7 x8 (g17r2 A x9 x10 x11 x12) (g17r3 A x9 x10 x11 x12) (g17r4 A x9 x10 x11 x12) (g17r5 A x9 x10 x11 x12) x13 x14) _ (by kernel_rfl) (by kernel_rfl)).trans (g3R23 A n (g3Q A n (pth 910527) (blockK 1 (g3Q A n (pth 7359) (g3W A n (pth 1215) m0 (blockK 0 (g3Q A n (pth 255) (g3T kk))))))) x3 x4 x5 x6 x7 x8)
  rw [h32] at h33
  have h34 := (g3p386239 A n _ _).trans h33
  have h35 := (g3Wn A n _ _ _ _).trans (hg3L9 (g3R10s0 A x0 x1 x2 x3 x4 x5 x6 x7 x8 (g17r2 A x9 x10 x11 x12) (g17r3 A x9 x10 x11 x12) (g17r4 A x9 x10 x11 x12) (g17r5 A x9 x10 x11 x12) x13 x14) x0 x1 (A.ib .add .i64 x2 1) x3 x4 x5 x6 x7 x8 (g17r2 A x9 x10 x11 x12) (g17r3 A x9 x10 x11 x12) (g17r4 A x9 x10 x11 x12) (g17r5 A x9 x10 x11 x12) x13 x14 (by kernel_rfl))
  have h36 := (g3F A n _ 10 _ (g3R22s2 A x0 x1 x2 (g17r0 A x9 x10 x11 x12) (g17r1 A x9 x10 x11 x12) x3 x4 x5 x6 x7 x8 (g17r2 A x9 x10 x11 x12) (g17r3 A x9 x10 x11 x12) (g17r4 A x9 x10 x11 x12) (g17r5 A x9 x10 x11 x12) x13 x14) _ (by kernel_rfl) (by kernel_rfl)).trans (g3R10 A n (g3W A n (pth 1215) m0 (blockK 0 (g3Q A n (pth 255) (g3T kk)))) x0 x1 x2 x3 x4 x5 x6 x7 x8 (g17r2 A x9 x10 x11 x12) (g17r3 A x9 x10 x11 x12) (g17r4 A x9 x10 x11 x12) (g17r5 A x9 x10 x11 x12) x13 x14)
  rw [h35] at h36
  have h37 := (g3Qn A n _ _ _).trans h36
  have h38 := (blockK_n 1 _ _).trans h37
  have h39 := (g3p517311 A n _ _).trans h38
  have h40 := g3p255167 A n (blockK 1 (g3Q A n (pth 7359) (g3W A n (pth 1215) m0 (blockK 0 (g3Q A n (pth 255) (g3T kk)))))) (g3R22s2 A x0 x1 x2 (g17r0 A x9 x10 x11 x12) (g17r1 A x9 x10 x11 x12) x3 x4 x5 x6 x7 x8 (g17r2 A x9 x10 x11 x12) (g17r3 A x9 x10 x11 x12) (g17r4 A x9 x10 x11 x12) (g17r5 A x9 x10 x11 x12) x13 x14) (A.sc .neq (g17r0 A x9 x10 x11 x12) []) (by kernel_rfl)
  rw [h34, h39] at h40
  have h41 := (g3Qn A n _ _ _).trans h40
  have h42 := (g3Wn A n _ _ _ _).trans (hg3L9 (g3R10s0 A x0 x1 x2 x3 x4 x5 x6 x7 x8 (g17r2 A x9 x10 x11 x12) (g17r3 A x9 x10 x11 x12) (g17r4 A x9 x10 x11 x12) (g17r5 A x9 x10 x11 x12) x13 x14) x0 x1 (A.ib .add .i64 x2 1) x3 x4 x5 x6 x7 x8 (g17r2 A x9 x10 x11 x12) (g17r3 A x9 x10 x11 x12) (g17r4 A x9 x10 x11 x12) (g17r5 A x9 x10 x11 x12) x13 x14 (by kernel_rfl))
  have h43 := (g3F A n _ 10 _ (g3R22s3 A x0 x1 x2 (g17r0 A x9 x10 x11 x12) (g17r1 A x9 x10 x11 x12) x3 x4 x5 x6 x7 x8 (g17r2 A x9 x10 x11 x12) (g17r3 A x9 x10 x11 x12) (g17r4 A x9 x10 x11 x12) (g17r5 A x9 x10 x11 x12) x13 x14) _ (by kernel_rfl) (by kernel_rfl)).trans (g3R10 A n (g3W A n (pth 1215) m0 (blockK 0 (g3Q A n (pth 255) (g3T kk)))) x0 x1 x2 x3 x4 x5 x6 x7 x8 (g17r2 A x9 x10 x11 x12) (g17r3 A x9 x10 x11 x12) (g17r4 A x9 x10 x11 x12) (g17r5 A x9 x10 x11 x12) x13 x14)
  rw [h42] at h43
  have h44 := (g3Qn A n _ _ _).trans h43
  have h45 := (blockK_n 1 _ _).trans h44
  have h46 := (g3p517311 A n _ _).trans h45
  have h47 := (g3p255167 A n (blockK 1 (g3Q A n (pth 7359) (g3W A n (pth 1215) m0 (blockK 0 (g3Q A n (pth 255) (g3T kk)))))) (g3R22s3 A x0 x1 x2 (g17r0 A x9 x10 x11 x12) (g17r1 A x9 x10 x11 x12) x3 x4 x5 x6 x7 x8 (g17r2 A x9 x10 x11 x12) (g17r3 A x9 x10 x11 x12) (g17r4 A x9 x10 x11 x12) (g17r5 A x9 x10 x11 x12) x13 x14) false (by kernel_rfl)).trans h46
  have h48 := (g3Qn A n _ _ _).trans h47
  have h49 : (g3T kk) .ret (g3R23s0 A x3 x4 x5 x6 x7 x8) = kk (bO false) [(0, ⟨[.recs x4 [.ints .i64 x5, .ints .i64 x6, .ints .i64 x7, .strs x8]], x3, 0⟩)] := by kernel_rfl
  have h50 := (g3Qr A n (pth 255) _ _).trans h49
  have h51 := (blockK_r 0 _ _).trans h50
  have h52 := (g3Wr A n (pth 1215) m0 _ _).trans h51
  have h53 := (g3Qr A n (pth 7359) _ _).trans h52
  have h54 := (blockK_r 1 _ _).trans h53
  have h55 := (g3p910527 A n _ _).trans h54
  have h56 := (g3Qn A n _ _ _).trans h55
  have h57 := (g3F A n _ 23 _ (g3R22s4 A x0 x1 x2 (g17r0 A x9 x10 x11 x12) (g17r1 A x9 x10 x11 x12) x3 x4 x5 x6 x7 x8 (g17r2 A x9 x10 x11 x12) (g17r3 A x9 x10 x11 x12) (g17r4 A x9 x10 x11 x12) (g17r5 A x9 x10 x11 x12) x13 x14) _ (by kernel_rfl) (by kernel_rfl)).trans (g3R23 A n (g3Q A n (pth 910527) (blockK 1 (g3Q A n (pth 7359) (g3W A n (pth 1215) m0 (blockK 0 (g3Q A n (pth 255) (g3T kk))))))) x3 x4 x5 x6 x7 x8)
  rw [h56] at h57
  have h58 := (g3p386239 A n _ _).trans h57
  have h59 := (g3Wn A n _ _ _ _).trans (hg3L9 (g3R10s0 A x0 x1 x2 x3 x4 x5 x6 x7 x8 (g17r2 A x9 x10 x11 x12) (g17r3 A x9 x10 x11 x12) (g17r4 A x9 x10 x11 x12) (g17r5 A x9 x10 x11 x12) x13 x14) x0 x1 (A.ib .add .i64 x2 1) x3 x4 x5 x6 x7 x8 (g17r2 A x9 x10 x11 x12) (g17r3 A x9 x10 x11 x12) (g17r4 A x9 x10 x11 x12) (g17r5 A x9 x10 x11 x12) x13 x14 (by kernel_rfl))
  have h60 := (g3F A n _ 10 _ (g3R22s4 A x0 x1 x2 (g17r0 A x9 x10 x11 x12) (g17r1 A x9 x10 x11 x12) x3 x4 x5 x6 x7 x8 (g17r2 A x9 x10 x11 x12) (g17r3 A x9 x10 x11 x12) (g17r4 A x9 x10 x11 x12) (g17r5 A x9 x10 x11 x12) x13 x14) _ (by kernel_rfl) (by kernel_rfl)).trans (g3R10 A n (g3W A n (pth 1215) m0 (blockK 0 (g3Q A n (pth 255) (g3T kk)))) x0 x1 x2 x3 x4 x5 x6 x7 x8 (g17r2 A x9 x10 x11 x12) (g17r3 A x9 x10 x11 x12) (g17r4 A x9 x10 x11 x12) (g17r5 A x9 x10 x11 x12) x13 x14)
  rw [h59] at h60
  have h61 := (g3Qn A n _ _ _).trans h60
  have h62 := (blockK_n 1 _ _).trans h61
  have h63 := (g3p517311 A n _ _).trans h62
  have h64 := g3p255167 A n (blockK 1 (g3Q A n (pth 7359) (g3W A n (pth 1215) m0 (blockK 0 (g3Q A n (pth 255) (g3T kk)))))) (g3R22s4 A x0 x1 x2 (g17r0 A x9 x10 x11 x12) (g17r1 A x9 x10 x11 x12) x3 x4 x5 x6 x7 x8 (g17r2 A x9 x10 x11 x12) (g17r3 A x9 x10 x11 x12) (g17r4 A x9 x10 x11 x12) (g17r5 A x9 x10 x11 x12) x13 x14) (A.sc .neq (g17r0 A x9 x10 x11 x12) []) (by kernel_rfl)
  rw [h58, h63] at h64
  have h65 := (g3Qn A n _ _ _).trans h64
  have h66 := (g3Wn A n _ _ _ _).trans (hg3L9 (g3R10s0 A x0 x1 x2 x3 x4 x5 x6 x7 x8 (g17r2 A x9 x10 x11 x12) (g17r3 A x9 x10 x11 x12) (g17r4 A x9 x10 x11 x12) (g17r5 A x9 x10 x11 x12) x13 x14) x0 x1 (A.ib .add .i64 x2 1) x3 x4 x5 x6 x7 x8 (g17r2 A x9 x10 x11 x12) (g17r3 A x9 x10 x11 x12) (g17r4 A x9 x10 x11 x12) (g17r5 A x9 x10 x11 x12) x13 x14 (by kernel_rfl))
  have h67 := (g3F A n _ 10 _ (g3R22s5 A x0 x1 x2 (g17r0 A x9 x10 x11 x12) (g17r1 A x9 x10 x11 x12) x3 x4 x5 x6 x7 x8 (g17r2 A x9 x10 x11 x12) (g17r3 A x9 x10 x11 x12) (g17r4 A x9 x10 x11 x12) (g17r5 A x9 x10 x11 x12) x13 x14) _ (by kernel_rfl) (by kernel_rfl)).trans (g3R10 A n (g3W A n (pth 1215) m0 (blockK 0 (g3Q A n (pth 255) (g3T kk)))) x0 x1 x2 x3 x4 x5 x6 x7 x8 (g17r2 A x9 x10 x11 x12) (g17r3 A x9 x10 x11 x12) (g17r4 A x9 x10 x11 x12) (g17r5 A x9 x10 x11 x12) x13 x14)
  rw [h66] at h67
  have h68 := (g3Qn A n _ _ _).trans h67
  have h69 := (blockK_n 1 _ _).trans h68
  have h70 := (g3p517311 A n _ _).trans h69
  have h71 := (g3p255167 A n (blockK 1 (g3Q A n (pth 7359) (g3W A n (pth 1215) m0 (blockK 0 (g3Q A n (pth 255) (g3T kk)))))) (g3R22s5 A x0 x1 x2 (g17r0 A x9 x10 x11 x12) (g17r1 A x9 x10 x11 x12) x3 x4 x5 x6 x7 x8 (g17r2 A x9 x10 x11 x12) (g17r3 A x9 x10 x11 x12) (g17r4 A x9 x10 x11 x12) (g17r5 A x9 x10 x11 x12) x13 x14) false (by kernel_rfl)).trans h70
  have h72 := (g3Qn A n _ _ _).trans h71
  have h73 := (g3F A n _ 22 _ (g3R21s0 A x0 x1 x2 x3 x4 x5 x6 x7 x8 x9 x10 x11 x12 x13 x14) _ (by kernel_rfl) (by kernel_rfl)).trans (g3R22 A n (g3Q A n (pth 255167) (blockK 1 (g3Q A n (pth 7359) (g3W A n (pth 1215) m0 (blockK 0 (g3Q A n (pth 255) (g3T kk))))))) x0 x1 x2 (g17r0 A x9 x10 x11 x12) (g17r1 A x9 x10 x11 x12) x3 x4 x5 x6 x7 x8 (g17r2 A x9 x10 x11 x12) (g17r3 A x9 x10 x11 x12) (g17r4 A x9 x10 x11 x12) (g17r5 A x9 x10 x11 x12) x13 x14)
  rw [h12, h24, h41, h48, h65, h72] at h73
  have h74 := (g3p124095 A n _ _).trans h73
  have h75 := (g3Qn A n _ _ _).trans h74
  have h76 := (g3F A n _ 21 _ ⟨[(0, (sL 0 none x0 4)), (3, (bO x1)), (4, (pT 5000 0)), (5, (pT 6001 0)), (6, (i6 x2))], [(0, ⟨[.recs x4 [.ints .i64 x5, .ints .i64 x6, .ints .i64 x7, .strs x8]], x3, 0⟩), (5000, ⟨[.one (.int .i64 x9), .one (.sl 5500 none x10 1)], 56, 1⟩), (5500, ⟨[.nums .u8 x11 x12], 5, 2⟩), (6001, ⟨[.one (.str x13), .one (.int .i64 x14)], 28, 1⟩)]⟩ _ (by kernel_rfl) (by kernel_rfl)).trans (g3R21 A n (g3Q A n (pth 124095) (blockK 1 (g3Q A n (pth 7359) (g3W A n (pth 1215) m0 (blockK 0 (g3Q A n (pth 255) (g3T kk))))))) x0 x1 x2 x3 x4 x5 x6 x7 x8 x9 x10 x11 x12 x13 x14)
  rw [h75] at h76
  have h77 := (g3p58559 A n _ _).trans h76
  exact (g3F A n _ 21 _ _ ⟨[(0, (sL 0 none x0 4)), (3, (bO x1)), (4, (pT 5000 0)), (5, (pT 6001 0)), (6, (i6 x2))], [(0, ⟨[.recs x4 [.ints .i64 x5, .ints .i64 x6, .ints .i64 x7, .strs x8]], x3, 0⟩), (5000, ⟨[.one (.int .i64 x9), .one (.sl 5500 none x10 1)], 56, 1⟩), (5500, ⟨[.nums .u8 x11 x12], 5, 2⟩), (6001, ⟨[.one (.str x13), .one (.int .i64 x14)], 28, 1⟩)]⟩ (by kernel_rfl) (h.trans (by kernel_rfl))).trans (h77.trans (by kernel_rfl))
def g3J11 {R : Type} (A : Ar) (n : Nat) (kk : AV → Heap → Option R) (lg3L9 : Nat → Bool → Int → Nat → Nat → List Int → List Int → List Int → List (List Nat) → Int → Nat → Nat → List Nat → List Nat → Int → Option R) (x0 : Nat) (x1 : Bool) (x2 : Int) (x3 x4 : Nat) (x5 x6 x7 : List Int) (x8 : List (List Nat)) (x9 : Int) (x10 x11 : Nat) (x12 x13 : List Nat) (x14 : Int) : Option R :=
  match (generalizing := false) A.neg x2 with
  | true => none
  | false => match (generalizing := false) A.lt (A.toN x2) x0 with
    | true => match (generalizing := false) g10ok A ((([0, 0, 0].set 0 (x5.getD (A.toN x2) 0)).set 1 (x6.getD (A.toN x2) 0)).set 2 (x7.getD (A.toN x2) 0)) (x8.getD (A.toN x2) []) with
      | true => match (generalizing := false) A.ic .eql (g10r0 A ((([0, 0, 0].set 0 (x5.getD (A.toN x2) 0)).set 1 (x6.getD (A.toN x2) 0)).set 2 (x7.getD (A.toN x2) 0)) (x8.getD (A.toN x2) [])) 0 with
        | true => match (generalizing := false) g11ok A (((([0, 0, 0].set 0 (x5.getD (A.toN x2) 0)).set 1 (x6.getD (A.toN x2) 0)).set 2 (x7.getD (A.toN x2) 0)).getD 1 0) (((([0, 0, 0].set 0 (x5.getD (A.toN x2) 0)).set 1 (x6.getD (A.toN x2) 0)).set 2 (x7.getD (A.toN x2) 0)).getD 2 0) x9 x10 x11 x12 with
          | true => match (generalizing := false) g12ok A (((([0, 0, 0].set 0 (x5.getD (A.toN x2) 0)).set 1 (x6.getD (A.toN x2) 0)).set 2 (x7.getD (A.toN x2) 0)).getD 1 0) (((([0, 0, 0].set 0 (x5.getD (A.toN x2) 0)).set 1 (x6.getD (A.toN x2) 0)).set 2 (x7.getD (A.toN x2) 0)).getD 2 0) x13 x14 with
            | true => g3J21 A n kk lg3L9 x0 x1 x2 x3 x4 x5 x6 x7 x8 (g3t0 A x2 x5 x6 x7 x9 x10 x11 x12) (g3t1 A x2 x5 x6 x7 x9 x10 x11 x12) (g3t2 A x2 x5 x6 x7 x9 x10 x11 x12) (g3t3 A x2 x5 x6 x7 x9 x10 x11 x12) (g3t4 A x2 x5 x6 x7 x13 x14) (g3t5 A x2 x5 x6 x7 x13 x14)
            | false => none
          | false => none
        | false => match (generalizing := false) A.ic .eql (g10r0 A ((([0, 0, 0].set 0 (x5.getD (A.toN x2) 0)).set 1 (x6.getD (A.toN x2) 0)).set 2 (x7.getD (A.toN x2) 0)) (x8.getD (A.toN x2) [])) 1 with
          | true => match (generalizing := false) g13ok A (x8.getD (A.toN x2) []) x9 x10 x11 x12 with
            | true => match (generalizing := false) g14ok A (x8.getD (A.toN x2) []) x13 x14 with
              | true => g3J21 A n kk lg3L9 x0 x1 x2 x3 x4 x5 x6 x7 x8 (g13r0 A (x8.getD (A.toN x2) []) x9 x10 x11 x12) (g13r1 A (x8.getD (A.toN x2) []) x9 x10 x11 x12) (g13r2 A (x8.getD (A.toN x2) []) x9 x10 x11 x12) (g13r3 A (x8.getD (A.toN x2) []) x9 x10 x11 x12) (g14r0 A (x8.getD (A.toN x2) []) x13 x14) (g14r1 A (x8.getD (A.toN x2) []) x13 x14)
              | false => none
            | false => none
          | false => match (generalizing := false) g15ok A (x8.getD (A.toN x2) []) (((([0, 0, 0].set 0 (x5.getD (A.toN x2) 0)).set 1 (x6.getD (A.toN x2) 0)).set 2 (x7.getD (A.toN x2) 0)).getD 2 0) x9 x10 x11 x12 with
            | true => match (generalizing := false) g16ok A (x8.getD (A.toN x2) []) (((([0, 0, 0].set 0 (x5.getD (A.toN x2) 0)).set 1 (x6.getD (A.toN x2) 0)).set 2 (x7.getD (A.toN x2) 0)).getD 2 0) x13 x14 with
              | true => g3J21 A n kk lg3L9 x0 x1 x2 x3 x4 x5 x6 x7 x8 (g3t6 A x2 x5 x6 x7 x8 x9 x10 x11 x12) (g3t7 A x2 x5 x6 x7 x8 x9 x10 x11 x12) (g3t8 A x2 x5 x6 x7 x8 x9 x10 x11 x12) (g3t9 A x2 x5 x6 x7 x8 x9 x10 x11 x12) (g3t10 A x2 x5 x6 x7 x8 x13 x14) (g3t11 A x2 x5 x6 x7 x8 x13 x14)
              | false => none
            | false => none
      | false => none
    | false => none
set_option maxRecDepth 100000 in
theorem g3J11_eq {R : Type} (A : Ar) (n : Nat) (kk : AV → Heap → Option R) (m0 : Nat) (lg3L9 : Nat → Bool → Int → Nat → Nat → List Int → List Int → List Int → List (List Nat) → Int → Nat → Nat → List Nat → List Nat → Int → Option R) 
    (hg3L9 : ∀ (s : St) (x0 : Nat) (x1 : Bool) (x2 : Int) (x3 x4 : Nat) (x5 x6 x7 : List Int) (x8 : List (List Nat)) (x9 : Int) (x10 x11 : Nat) (x12 x13 : List Nat) (x14 : Int), keep g3an 9 s = ⟨[(0, (sL 0 none x0 4)), (3, (bO x1)), (4, (pT 5000 0)), (5, (pT 6001 0)), (6, (i6 x2))], [(0, ⟨[.recs x4 [.ints .i64 x5, .ints .i64 x6, .ints .i64 x7, .strs x8]], x3, 0⟩), (5000, ⟨[.one (.int .i64 x9), .one (.sl 5500 none x10 1)], 56, 1⟩), (5500, ⟨[.nums .u8 x11 x12], 5, 2⟩), (6001, ⟨[.one (.str x13), .one (.int .i64 x14)], 28, 1⟩)]⟩ → g3V A n (pth 1215) m0 (blockK 0 (g3Q A n (pth 255) (g3T kk))) s = lg3L9 x0 x1 x2 x3 x4 x5 x6 x7 x8 x9 x10 x11 x12 x13 x14) (s : St) (x0 : Nat) (x1 : Bool) (x2 : Int) (x3 x4 : Nat) (x5 x6 x7 : List Int) (x8 : List (List Nat)) (x9 : Int) (x10 x11 : Nat) (x12 x13 : List Nat) (x14 : Int) (h : keep g3an 11 s = ⟨[(0, (sL 0 none x0 4)), (3, (bO x1)), (4, (pT 5000 0)), (5, (pT 6001 0)), (6, (i6 x2))], [(0, ⟨[.recs x4 [.ints .i64 x5, .ints .i64 x6, .ints .i64 x7, .strs x8]], x3, 0⟩), (5000, ⟨[.one (.int .i64 x9), .one (.sl 5500 none x10 1)], 56, 1⟩), (5500, ⟨[.nums .u8 x11 x12], 5, 2⟩), (6001, ⟨[.one (.str x13), .one (.int .i64 x14)], 28, 1⟩)]⟩) :
    g3D A n (pth 3263) (g3W A n (pth 1215) m0 (blockK 0 (g3Q A n (pth 255) (g3T kk)))) s = g3J11 A n kk lg3L9 x0 x1 x2 x3 x4 x5 x6 x7 x8 x9 x10 x11 x12 x13 x14 := by
  have h1 := (g3Qn A n _ _ _).trans (g3J21_eq A n kk m0 lg3L9 hg3L9  (g3R17s0 A x0 x1 x2 x3 x4 x5 x6 x7 x8 (g3t0 A x2 x5 x6 x7 x9 x10 x11 x12) (g3t1 A x2 x5 x6 x7 x9 x10 x11 x12) (g3t2 A x2 x5 x6 x7 x9 x10 x11 x12) (g3t3 A x2 x5 x6 x7 x9 x10 x11 x12) x13 x14 ((([0, 0, 0].set 0 (x5.getD (A.toN x2) 0)).set 1 (x6.getD (A.toN x2) 0)).set 2 (x7.getD (A.toN x2) 0)) (x8.getD (A.toN x2) [])) x0 x1 x2 x3 x4 x5 x6 x7 x8 (g3t0 A x2 x5 x6 x7 x9 x10 x11 x12) (g3t1 A x2 x5 x6 x7 x9 x10 x11 x12) (g3t2 A x2 x5 x6 x7 x9 x10 x11 x12) (g3t3 A x2 x5 x6 x7 x9 x10 x11 x12) (g3t4 A x2 x5 x6 x7 x13 x14) (g3t5 A x2 x5 x6 x7 x13 x14) (by kernel_rfl))
  have h2 := (blockK_n 2 _ _).trans h1
  have h3 := (g3F A n _ 17 _ (g3R16s0 A x0 x1 x2 x3 x4 x5 x6 x7 x8 x9 x10 x11 x12 x13 x14 ((([0, 0, 0].set 0 (x5.getD (A.toN x2) 0)).set 1 (x6.getD (A.toN x2) 0)).set 2 (x7.getD (A.toN x2) 0)) (x8.getD (A.toN x2) [])) _ (by kernel_rfl) (by kernel_rfl)).trans (g3R17 A n (blockK 2 (g3Q A n (pth 58559) (blockK 1 (g3Q A n (pth 7359) (g3W A n (pth 1215) m0 (blockK 0 (g3Q A n (pth 255) (g3T kk)))))))) x0 x1 x2 x3 x4 x5 x6 x7 x8 (g3t0 A x2 x5 x6 x7 x9 x10 x11 x12) (g3t1 A x2 x5 x6 x7 x9 x10 x11 x12) (g3t2 A x2 x5 x6 x7 x9 x10 x11 x12) (g3t3 A x2 x5 x6 x7 x9 x10 x11 x12) x13 x14 ((([0, 0, 0].set 0 (x5.getD (A.toN x2) 0)).set 1 (x6.getD (A.toN x2) 0)).set 2 (x7.getD (A.toN x2) 0)) (x8.getD (A.toN x2) []))
  rw [h2] at h3
  have h4 := (g3Qn A n _ _ _).trans h3
  have h5 := (g3F A n _ 16 _ (g3R15s0 A x0 x1 x2 (g10r0 A ((([0, 0, 0].set 0 (x5.getD (A.toN x2) 0)).set 1 (x6.getD (A.toN x2) 0)).set 2 (x7.getD (A.toN x2) 0)) (x8.getD (A.toN x2) [])) x3 x4 x5 x6 x7 x8 x9 x10 x11 x12 x13 x14 ((([0, 0, 0].set 0 (x5.getD (A.toN x2) 0)).set 1 (x6.getD (A.toN x2) 0)).set 2 (x7.getD (A.toN x2) 0)) (x8.getD (A.toN x2) [])) _ (by kernel_rfl) (by kernel_rfl)).trans (g3R16 A n (g3Q A n (pth 1746111) (blockK 2 (g3Q A n (pth 58559) (blockK 1 (g3Q A n (pth 7359) (g3W A n (pth 1215) m0 (blockK 0 (g3Q A n (pth 255) (g3T kk))))))))) x0 x1 x2 x3 x4 x5 x6 x7 x8 x9 x10 x11 x12 x13 x14 ((([0, 0, 0].set 0 (x5.getD (A.toN x2) 0)).set 1 (x6.getD (A.toN x2) 0)).set 2 (x7.getD (A.toN x2) 0)) (x8.getD (A.toN x2) []))
  rw [h4] at h5
  have h6 := (g3p697535 A n _ _).trans h5
  have h7 := (g3Qn A n _ _ _).trans (g3J21_eq A n kk m0 lg3L9 hg3L9  (g3R20s0 A x0 x1 x2 x3 x4 x5 x6 x7 x8 (g13r0 A (x8.getD (A.toN x2) []) x9 x10 x11 x12) (g13r1 A (x8.getD (A.toN x2) []) x9 x10 x11 x12) (g13r2 A (x8.getD (A.toN x2) []) x9 x10 x11 x12) (g13r3 A (x8.getD (A.toN x2) []) x9 x10 x11 x12) x13 x14 ((([0, 0, 0].set 0 (x5.getD (A.toN x2) 0)).set 1 (x6.getD (A.toN x2) 0)).set 2 (x7.getD (A.toN x2) 0)) (x8.getD (A.toN x2) [])) x0 x1 x2 x3 x4 x5 x6 x7 x8 (g13r0 A (x8.getD (A.toN x2) []) x9 x10 x11 x12) (g13r1 A (x8.getD (A.toN x2) []) x9 x10 x11 x12) (g13r2 A (x8.getD (A.toN x2) []) x9 x10 x11 x12) (g13r3 A (x8.getD (A.toN x2) []) x9 x10 x11 x12) (g14r0 A (x8.getD (A.toN x2) []) x13 x14) (g14r1 A (x8.getD (A.toN x2) []) x13 x14) (by kernel_rfl))
  have h8 := (blockK_n 2 _ _).trans h7
  have h9 := (g3F A n _ 20 _ (g3R19s0 A x0 x1 x2 x3 x4 x5 x6 x7 x8 x9 x10 x11 x12 x13 x14 ((([0, 0, 0].set 0 (x5.getD (A.toN x2) 0)).set 1 (x6.getD (A.toN x2) 0)).set 2 (x7.getD (A.toN x2) 0)) (x8.getD (A.toN x2) [])) _ (by kernel_rfl) (by kernel_rfl)).trans (g3R20 A n (blockK 2 (g3Q A n (pth 58559) (blockK 1 (g3Q A n (pth 7359) (g3W A n (pth 1215) m0 (blockK 0 (g3Q A n (pth 255) (g3T kk)))))))) x0 x1 x2 x3 x4 x5 x6 x7 x8 (g13r0 A (x8.getD (A.toN x2) []) x9 x10 x11 x12) (g13r1 A (x8.getD (A.toN x2) []) x9 x10 x11 x12) (g13r2 A (x8.getD (A.toN x2) []) x9 x10 x11 x12) (g13r3 A (x8.getD (A.toN x2) []) x9 x10 x11 x12) x13 x14 ((([0, 0, 0].set 0 (x5.getD (A.toN x2) 0)).set 1 (x6.getD (A.toN x2) 0)).set 2 (x7.getD (A.toN x2) 0)) (x8.getD (A.toN x2) []))
  rw [h8] at h9
  have h10 := (g3Qn A n _ _ _).trans h9
  have h11 := (g3F A n _ 19 _ (g3R18s0 A x0 x1 x2 (g10r0 A ((([0, 0, 0].set 0 (x5.getD (A.toN x2) 0)).set 1 (x6.getD (A.toN x2) 0)).set 2 (x7.getD (A.toN x2) 0)) (x8.getD (A.toN x2) [])) x3 x4 x5 x6 x7 x8 x9 x10 x11 x12 x13 x14 ((([0, 0, 0].set 0 (x5.getD (A.toN x2) 0)).set 1 (x6.getD (A.toN x2) 0)).set 2 (x7.getD (A.toN x2) 0)) (x8.getD (A.toN x2) [])) _ (by kernel_rfl) (by kernel_rfl)).trans (g3R19 A n (g3Q A n (pth 7251135) (blockK 2 (g3Q A n (pth 58559) (blockK 1 (g3Q A n (pth 7359) (g3W A n (pth 1215) m0 (blockK 0 (g3Q A n (pth 255) (g3T kk))))))))) x0 x1 x2 x3 x4 x5 x6 x7 x8 x9 x10 x11 x12 x13 x14 ((([0, 0, 0].set 0 (x5.getD (A.toN x2) 0)).set 1 (x6.getD (A.toN x2) 0)).set 2 (x7.getD (A.toN x2) 0)) (x8.getD (A.toN x2) []))
  rw [h10] at h11
  have h12 := (g3p3056831 A n _ _).trans h11
  have h13 := (g3Qn A n _ _ _).trans (g3J21_eq A n kk m0 lg3L9 hg3L9  (g3R14s0 A x0 x1 x2 x3 x4 x5 x6 x7 x8 (g3t6 A x2 x5 x6 x7 x8 x9 x10 x11 x12) (g3t7 A x2 x5 x6 x7 x8 x9 x10 x11 x12) (g3t8 A x2 x5 x6 x7 x8 x9 x10 x11 x12) (g3t9 A x2 x5 x6 x7 x8 x9 x10 x11 x12) x13 x14 ((([0, 0, 0].set 0 (x5.getD (A.toN x2) 0)).set 1 (x6.getD (A.toN x2) 0)).set 2 (x7.getD (A.toN x2) 0)) (x8.getD (A.toN x2) [])) x0 x1 x2 x3 x4 x5 x6 x7 x8 (g3t6 A x2 x5 x6 x7 x8 x9 x10 x11 x12) (g3t7 A x2 x5 x6 x7 x8 x9 x10 x11 x12) (g3t8 A x2 x5 x6 x7 x8 x9 x10 x11 x12) (g3t9 A x2 x5 x6 x7 x8 x9 x10 x11 x12) (g3t10 A x2 x5 x6 x7 x8 x13 x14) (g3t11 A x2 x5 x6 x7 x8 x13 x14) (by kernel_rfl))
  have h14 := (blockK_n 2 _ _).trans h13
  have h15 := (g3F A n _ 14 _ (g3R13s0 A x0 x1 x2 x3 x4 x5 x6 x7 x8 x9 x10 x11 x12 x13 x14 ((([0, 0, 0].set 0 (x5.getD (A.toN x2) 0)).set 1 (x6.getD (A.toN x2) 0)).set 2 (x7.getD (A.toN x2) 0)) (x8.getD (A.toN x2) [])) _ (by kernel_rfl) (by kernel_rfl)).trans (g3R14 A n (blockK 2 (g3Q A n (pth 58559) (blockK 1 (g3Q A n (pth 7359) (g3W A n (pth 1215) m0 (blockK 0 (g3Q A n (pth 255) (g3T kk)))))))) x0 x1 x2 x3 x4 x5 x6 x7 x8 (g3t6 A x2 x5 x6 x7 x8 x9 x10 x11 x12) (g3t7 A x2 x5 x6 x7 x8 x9 x10 x11 x12) (g3t8 A x2 x5 x6 x7 x8 x9 x10 x11 x12) (g3t9 A x2 x5 x6 x7 x8 x9 x10 x11 x12) x13 x14 ((([0, 0, 0].set 0 (x5.getD (A.toN x2) 0)).set 1 (x6.getD (A.toN x2) 0)).set 2 (x7.getD (A.toN x2) 0)) (x8.getD (A.toN x2) []))
  rw [h14] at h15
  have h16 := (g3Qn A n _ _ _).trans h15
  have h17 := (g3F A n _ 13 _ (g3R18s0 A x0 x1 x2 (g10r0 A ((([0, 0, 0].set 0 (x5.getD (A.toN x2) 0)).set 1 (x6.getD (A.toN x2) 0)).set 2 (x7.getD (A.toN x2) 0)) (x8.getD (A.toN x2) [])) x3 x4 x5 x6 x7 x8 x9 x10 x11 x12 x13 x14 ((([0, 0, 0].set 0 (x5.getD (A.toN x2) 0)).set 1 (x6.getD (A.toN x2) 0)).set 2 (x7.getD (A.toN x2) 0)) (x8.getD (A.toN x2) [])) _ (by kernel_rfl) (by kernel_rfl)).trans (g3R13 A n (g3Q A n (pth 8299711) (blockK 2 (g3Q A n (pth 58559) (blockK 1 (g3Q A n (pth 7359) (g3W A n (pth 1215) m0 (blockK 0 (g3Q A n (pth 255) (g3T kk))))))))) x0 x1 x2 x3 x4 x5 x6 x7 x8 x9 x10 x11 x12 x13 x14 ((([0, 0, 0].set 0 (x5.getD (A.toN x2) 0)).set 1 (x6.getD (A.toN x2) 0)).set 2 (x7.getD (A.toN x2) 0)) (x8.getD (A.toN x2) []))
  rw [h16] at h17
  have h18 := (g3p4105407 A n _ _).trans h17
  have h19 := g3p2008255 A n (blockK 2 (g3Q A n (pth 58559) (blockK 1 (g3Q A n (pth 7359) (g3W A n (pth 1215) m0 (blockK 0 (g3Q A n (pth 255) (g3T kk)))))))) (g3R18s0 A x0 x1 x2 (g10r0 A ((([0, 0, 0].set 0 (x5.getD (A.toN x2) 0)).set 1 (x6.getD (A.toN x2) 0)).set 2 (x7.getD (A.toN x2) 0)) (x8.getD (A.toN x2) [])) x3 x4 x5 x6 x7 x8 x9 x10 x11 x12 x13 x14 ((([0, 0, 0].set 0 (x5.getD (A.toN x2) 0)).set 1 (x6.getD (A.toN x2) 0)).set 2 (x7.getD (A.toN x2) 0)) (x8.getD (A.toN x2) [])) (A.ic .eql (g10r0 A ((([0, 0, 0].set 0 (x5.getD (A.toN x2) 0)).set 1 (x6.getD (A.toN x2) 0)).set 2 (x7.getD (A.toN x2) 0)) (x8.getD (A.toN x2) [])) 1) (by kernel_rfl)
  rw [h12, h18] at h19
  have h20 := (g3Qn A n _ _ _).trans h19
  have h21 := (g3F A n _ 18 _ (g3R15s0 A x0 x1 x2 (g10r0 A ((([0, 0, 0].set 0 (x5.getD (A.toN x2) 0)).set 1 (x6.getD (A.toN x2) 0)).set 2 (x7.getD (A.toN x2) 0)) (x8.getD (A.toN x2) [])) x3 x4 x5 x6 x7 x8 x9 x10 x11 x12 x13 x14 ((([0, 0, 0].set 0 (x5.getD (A.toN x2) 0)).set 1 (x6.getD (A.toN x2) 0)).set 2 (x7.getD (A.toN x2) 0)) (x8.getD (A.toN x2) [])) _ (by kernel_rfl) (by kernel_rfl)).trans (g3R18 A n (g3Q A n (pth 2008255) (blockK 2 (g3Q A n (pth 58559) (blockK 1 (g3Q A n (pth 7359) (g3W A n (pth 1215) m0 (blockK 0 (g3Q A n (pth 255) (g3T kk))))))))) x0 x1 x2 (g10r0 A ((([0, 0, 0].set 0 (x5.getD (A.toN x2) 0)).set 1 (x6.getD (A.toN x2) 0)).set 2 (x7.getD (A.toN x2) 0)) (x8.getD (A.toN x2) [])) x3 x4 x5 x6 x7 x8 x9 x10 x11 x12 x13 x14 ((([0, 0, 0].set 0 (x5.getD (A.toN x2) 0)).set 1 (x6.getD (A.toN x2) 0)).set 2 (x7.getD (A.toN x2) 0)) (x8.getD (A.toN x2) []))
  rw [h20] at h21
  have h22 := (g3p959679 A n _ _).trans h21
  have h23 := g3p435391 A n (blockK 2 (g3Q A n (pth 58559) (blockK 1 (g3Q A n (pth 7359) (g3W A n (pth 1215) m0 (blockK 0 (g3Q A n (pth 255) (g3T kk)))))))) (g3R15s0 A x0 x1 x2 (g10r0 A ((([0, 0, 0].set 0 (x5.getD (A.toN x2) 0)).set 1 (x6.getD (A.toN x2) 0)).set 2 (x7.getD (A.toN x2) 0)) (x8.getD (A.toN x2) [])) x3 x4 x5 x6 x7 x8 x9 x10 x11 x12 x13 x14 ((([0, 0, 0].set 0 (x5.getD (A.toN x2) 0)).set 1 (x6.getD (A.toN x2) 0)).set 2 (x7.getD (A.toN x2) 0)) (x8.getD (A.toN x2) [])) (A.ic .eql (g10r0 A ((([0, 0, 0].set 0 (x5.getD (A.toN x2) 0)).set 1 (x6.getD (A.toN x2) 0)).set 2 (x7.getD (A.toN x2) 0)) (x8.getD (A.toN x2) [])) 0) (by kernel_rfl)
  rw [h6, h22] at h23
  have h24 := (g3Qn A n _ _ _).trans h23
  have h25 := (g3F A n _ 15 _ (g3R12s0 A x0 x1 x2 x3 x4 x5 x6 x7 x8 x9 x10 x11 x12 x13 x14 ((([0, 0, 0].set 0 (x5.getD (A.toN x2) 0)).set 1 (x6.getD (A.toN x2) 0)).set 2 (x7.getD (A.toN x2) 0)) (x8.getD (A.toN x2) [])) _ (by kernel_rfl) (by kernel_rfl)).trans (g3R15 A n (g3Q A n (pth 435391) (blockK 2 (g3Q A n (pth 58559) (blockK 1 (g3Q A n (pth 7359) (g3W A n (pth 1215) m0 (blockK 0 (g3Q A n (pth 255) (g3T kk))))))))) x0 x1 x2 (g10r0 A ((([0, 0, 0].set 0 (x5.getD (A.toN x2) 0)).set 1 (x6.getD (A.toN x2) 0)).set 2 (x7.getD (A.toN x2) 0)) (x8.getD (A.toN x2) [])) x3 x4 x5 x6 x7 x8 x9 x10 x11 x12 x13 x14 ((([0, 0, 0].set 0 (x5.getD (A.toN x2) 0)).set 1 (x6.getD (A.toN x2) 0)).set 2 (x7.getD (A.toN x2) 0)) (x8.getD (A.toN x2) []))
  rw [h24] at h25
  have h26 := (g3p173247 A n _ _).trans h25
  have h27 := (g3p107711 A n _ _).trans h26
  have h28 := (g3Qn A n _ _ _).trans h27
  have h29 := (g3F A n _ 12 _ (g3R11s0 A x0 x1 x2 x3 x4 x5 x6 x7 x8 x9 x10 x11 x12 x13 x14) _ (by kernel_rfl) (by kernel_rfl)).trans (g3R12 A n (g3Q A n (pth 107711) (g3Q A n (pth 58559) (blockK 1 (g3Q A n (pth 7359) (g3W A n (pth 1215) m0 (blockK 0 (g3Q A n (pth 255) (g3T kk)))))))) x0 x1 x2 x3 x4 x5 x6 x7 x8 x9 x10 x11 x12 x13 x14 ((([0, 0, 0].set 0 (x5.getD (A.toN x2) 0)).set 1 (x6.getD (A.toN x2) 0)).set 2 (x7.getD (A.toN x2) 0)) (x8.getD (A.toN x2) []))
  rw [h28] at h29
  have h30 := (g3p42175 A n _ _).trans h29
  have h31 := (g3p25791 A n _ _).trans h30
  have h32 := (g3Qn A n _ _ _).trans h31
  have h33 := (g3F A n _ 11 _ ⟨[(0, (sL 0 none x0 4)), (3, (bO x1)), (4, (pT 5000 0)), (5, (pT 6001 0)), (6, (i6 x2))], [(0, ⟨[.recs x4 [.ints .i64 x5, .ints .i64 x6, .ints .i64 x7, .strs x8]], x3, 0⟩), (5000, ⟨[.one (.int .i64 x9), .one (.sl 5500 none x10 1)], 56, 1⟩), (5500, ⟨[.nums .u8 x11 x12], 5, 2⟩), (6001, ⟨[.one (.str x13), .one (.int .i64 x14)], 28, 1⟩)]⟩ _ (by kernel_rfl) (by kernel_rfl)).trans (g3R11 A n (g3Q A n (pth 25791) (blockK 1 (g3Q A n (pth 7359) (g3W A n (pth 1215) m0 (blockK 0 (g3Q A n (pth 255) (g3T kk))))))) x0 x1 x2 x3 x4 x5 x6 x7 x8 x9 x10 x11 x12 x13 x14)
  rw [h32] at h33
  have h34 := (g3p9407 A n _ _).trans h33
  have h35 := (g3p5311 A n _ _).trans h34
  have h36 := (g3p3263 A n _ _).trans h35
  exact (g3F A n _ 11 _ _ ⟨[(0, (sL 0 none x0 4)), (3, (bO x1)), (4, (pT 5000 0)), (5, (pT 6001 0)), (6, (i6 x2))], [(0, ⟨[.recs x4 [.ints .i64 x5, .ints .i64 x6, .ints .i64 x7, .strs x8]], x3, 0⟩), (5000, ⟨[.one (.int .i64 x9), .one (.sl 5500 none x10 1)], 56, 1⟩), (5500, ⟨[.nums .u8 x11 x12], 5, 2⟩), (6001, ⟨[.one (.str x13), .one (.int .i64 x14)], 28, 1⟩)]⟩ (by kernel_rfl) (h.trans (by kernel_rfl))).trans (h36.trans (by kernel_rfl))
def g3L9 {R : Type} (A : Ar) (n : Nat) (kk : AV → Heap → Option R)  : Nat → Nat → Bool → Int → Nat → Nat → List Int → List Int → List Int → List (List Nat) → Int → Nat → Nat → List Nat → List Nat → Int → Option R
  | 0, _, _, _, _, _, _, _, _, _, _, _, _, _, _, _ => none
  | m + 1, x0, x1, x2, x3, x4, x5, x6, x7, x8, x9, x10, x11, x12, x13, x14 => match (generalizing := false) A.ic .lss x2 (A.ofN x0) with
  | true => match (generalizing := false) A.ic .lss x2 20 with
    | true => g3J11 A n kk (g3L9 A n kk  m) x0 x1 x2 x3 x4 x5 x6 x7 x8 x9 x10 x11 x12 x13 x14
    | false => kk (bO x1) [(0, ⟨[.recs x4 [.ints .i64 x5, .ints .i64 x6, .ints .i64 x7, .strs x8]], x3, 0⟩)]
  | false => kk (bO x1) [(0, ⟨[.recs x4 [.ints .i64 x5, .ints .i64 x6, .ints .i64 x7, .strs x8]], x3, 0⟩)]
set_option maxRecDepth 100000 in
theorem g3L9_eq {R : Type} (A : Ar) (n : Nat) (kk : AV → Heap → Option R)    (m : Nat) (s : St) (x0 : Nat) (x1 : Bool) (x2 : Int) (x3 x4 : Nat) (x5 x6 x7 : List Int) (x8 : List (List Nat)) (x9 : Int) (x10 x11 : Nat) (x12 x13 : List Nat) (x14 : Int) (h : keep g3an 9 s = ⟨[(0, (sL 0 none x0 4)), (3, (bO x1)), (4, (pT 5000 0)), (5, (pT 6001 0)), (6, (i6 x2))], [(0, ⟨[.recs x4 [.ints .i64 x5, .ints .i64 x6, .ints .i64 x7, .strs x8]], x3, 0⟩), (5000, ⟨[.one (.int .i64 x9), .one (.sl 5500 none x10 1)], 56, 1⟩), (5500, ⟨[.nums .u8 x11 x12], 5, 2⟩), (6001, ⟨[.one (.str x13), .one (.int .i64 x14)], 28, 1⟩)]⟩) :
    g3V A n (pth 1215) m (blockK 0 (g3Q A n (pth 255) (g3T kk))) s = g3L9 A n kk  m x0 x1 x2 x3 x4 x5 x6 x7 x8 x9 x10 x11 x12 x13 x14 := by
  induction m generalizing s x0 x1 x2 x3 x4 x5 x6 x7 x8 x9 x10 x11 x12 x13 x14 with
  | zero => rfl
  | succ m ih =>
    have h1 := (g3Qn A n _ _ _).trans (g3J11_eq A n kk m (g3L9 A n kk  m) ih  (g3R9s0 A x0 x1 x2 x3 x4 x5 x6 x7 x8 x9 x10 x11 x12 x13 x14) x0 x1 x2 x3 x4 x5 x6 x7 x8 x9 x10 x11 x12 x13 x14 (by kernel_rfl))
    have h2 := (g3p10431 A n _ _).trans h1
    have h3 : (g3T kk) .ret (g3R24s0 A x1 x3 x4 x5 x6 x7 x8) = kk (bO x1) [(0, ⟨[.recs x4 [.ints .i64 x5, .ints .i64 x6, .ints .i64 x7, .strs x8]], x3, 0⟩)] := by kernel_rfl
    have h4 := (g3p511 A n _ _).trans h3
    have h5 := (g3Qn A n _ _ _).trans h4
    have h6 := (g3F A n _ 24 _ (g3R9s0 A x0 x1 x2 x3 x4 x5 x6 x7 x8 x9 x10 x11 x12 x13 x14) _ (by kernel_rfl) (by kernel_rfl)).trans (g3R24 A n (g3Q A n (pth 511) (g3T kk)) x1 x3 x4 x5 x6 x7 x8)
    rw [h5] at h6
    have h7 := (g3p255 A n _ _).trans h6
    have h8 := (g3Qn A n _ _ _).trans h7
    have h9 := (blockK_hit 0 _ _).trans h8
    have h10 := (g3We A n (pth 1215) m _ _ _).trans h9
    have h11 := (g3Qe A n (pth 3263) _ _ _).trans h10
    have h12 := (g3p14527 A n _ _).trans h11
    have h13 := g3p6335 A n (g3Q A n (pth 3263) (g3W A n (pth 1215) m (blockK 0 (g3Q A n (pth 255) (g3T kk))))) (g3R9s0 A x0 x1 x2 x3 x4 x5 x6 x7 x8 x9 x10 x11 x12 x13 x14) (A.ic .lss x2 20) (by kernel_rfl)
    rw [h2, h12] at h13
    have h14 := (g3Qn A n _ _ _).trans h13
    have h15 : (g3T kk) .ret (g3R24s0 A x1 x3 x4 x5 x6 x7 x8) = kk (bO x1) [(0, ⟨[.recs x4 [.ints .i64 x5, .ints .i64 x6, .ints .i64 x7, .strs x8]], x3, 0⟩)] := by kernel_rfl
    have h16 := (g3p511 A n _ _).trans h15
    have h17 := (g3Qn A n _ _ _).trans h16
    have h18 := (g3F A n _ 24 _ (g3R9s1 A x0 x1 x2 x3 x4 x5 x6 x7 x8 x9 x10 x11 x12 x13 x14) _ (by kernel_rfl) (by kernel_rfl)).trans (g3R24 A n (g3Q A n (pth 511) (g3T kk)) x1 x3 x4 x5 x6 x7 x8)
    rw [h17] at h18
    have h19 := (g3p255 A n _ _).trans h18
    have h20 := (g3Qn A n _ _ _).trans h19
    have h21 := (blockK_hit 0 _ _).trans h20
    have h22 := (g3We A n (pth 1215) m _ _ _).trans h21
    have h23 := (g3Qe A n (pth 3263) _ _ _).trans h22
    have h24 := (g3p14527 A n _ _).trans h23
    have h25 := (g3p6335 A n (g3Q A n (pth 3263) (g3W A n (pth 1215) m (blockK 0 (g3Q A n (pth 255) (g3T kk))))) (g3R9s1 A x0 x1 x2 x3 x4 x5 x6 x7 x8 x9 x10 x11 x12 x13 x14) false (by kernel_rfl)).trans h24
    have h26 := (g3Qn A n _ _ _).trans h25
    have h27 := (g3F A n _ 9 _ ⟨[(0, (sL 0 none x0 4)), (3, (bO x1)), (4, (pT 5000 0)), (5, (pT 6001 0)), (6, (i6 x2))], [(0, ⟨[.recs x4 [.ints .i64 x5, .ints .i64 x6, .ints .i64 x7, .strs x8]], x3, 0⟩), (5000, ⟨[.one (.int .i64 x9), .one (.sl 5500 none x10 1)], 56, 1⟩), (5500, ⟨[.nums .u8 x11 x12], 5, 2⟩), (6001, ⟨[.one (.str x13), .one (.int .i64 x14)], 28, 1⟩)]⟩ _ (by kernel_rfl) (by kernel_rfl)).trans (g3R9 A n (g3Q A n (pth 6335) (g3Q A n (pth 3263) (g3W A n (pth 1215) m (blockK 0 (g3Q A n (pth 255) (g3T kk)))))) x0 x1 x2 x3 x4 x5 x6 x7 x8 x9 x10 x11 x12 x13 x14)
    rw [h14, h26] at h27
    have h28 := (g3p2239 A n _ _).trans h27
    have h29 := (g3p1215 A n _ _).trans h28
    exact (loopD_first (s' := ⟨[(0, (sL 0 none x0 4)), (3, (bO x1)), (4, (pT 5000 0)), (5, (pT 6001 0)), (6, (i6 x2))], [(0, ⟨[.recs x4 [.ints .i64 x5, .ints .i64 x6, .ints .i64 x7, .strs x8]], x3, 0⟩), (5000, ⟨[.one (.int .i64 x9), .one (.sl 5500 none x10 1)], 56, 1⟩), (5500, ⟨[.nums .u8 x11 x12], 5, 2⟩), (6001, ⟨[.one (.str x13), .one (.int .i64 x14)], 28, 1⟩)]⟩) (id := 9) (by kernel_rfl) (h.trans (by kernel_rfl)) _).trans ((g3Vs A n _ m _ _).trans (h29.trans (by kernel_rfl)))
def g3J8 {R : Type} (A : Ar) (n : Nat) (kk : AV → Heap → Option R)  (x0 : Nat) (x1 : Bool) (x2 x3 : Nat) (x4 x5 x6 : List Int) (x7 : List (List Nat)) (x8 : Int) (x9 x10 : Nat) (x11 x12 : List Nat) (x13 : Int) : Option R :=
  g3L9 A n kk  n x0 x1 0 x2 x3 x4 x5 x6 x7 x8 x9 x10 x11 x12 x13
set_option maxRecDepth 100000 in
theorem g3J8_eq {R : Type} (A : Ar) (n : Nat) (kk : AV → Heap → Option R)    (s : St) (x0 : Nat) (x1 : Bool) (x2 x3 : Nat) (x4 x5 x6 : List Int) (x7 : List (List Nat)) (x8 : Int) (x9 x10 : Nat) (x11 x12 : List Nat) (x13 : Int) (h : keep g3an 8 s = ⟨[(0, (sL 0 none x0 4)), (3, (bO x1)), (4, (pT 5000 0)), (5, (pT 6001 0))], [(0, ⟨[.recs x3 [.ints .i64 x4, .ints .i64 x5, .ints .i64 x6, .strs x7]], x2, 0⟩), (5000, ⟨[.one (.int .i64 x8), .one (.sl 5500 none x9 1)], 56, 1⟩), (5500, ⟨[.nums .u8 x10 x11], 5, 2⟩), (6001, ⟨[.one (.str x12), .one (.int .i64 x13)], 28, 1⟩)]⟩) :
    g3D A n (pth 127) (g3T kk) s = g3J8 A n kk  x0 x1 x2 x3 x4 x5 x6 x7 x8 x9 x10 x11 x12 x13 := by
  have h1 := (g3p703 A n _ _).trans (g3L9_eq A n kk    n (g3R8s0 A x0 x1 x2 x3 x4 x5 x6 x7 x8 x9 x10 x11 x12 x13) x0 x1 0 x2 x3 x4 x5 x6 x7 x8 x9 x10 x11 x12 x13 (by kernel_rfl))
  have h2 := (g3p447 A n _ _).trans h1
  have h3 := (g3Qn A n _ _ _).trans h2
  have h4 := (g3F A n _ 8 _ ⟨[(0, (sL 0 none x0 4)), (3, (bO x1)), (4, (pT 5000 0)), (5, (pT 6001 0))], [(0, ⟨[.recs x3 [.ints .i64 x4, .ints .i64 x5, .ints .i64 x6, .strs x7]], x2, 0⟩), (5000, ⟨[.one (.int .i64 x8), .one (.sl 5500 none x9 1)], 56, 1⟩), (5500, ⟨[.nums .u8 x10 x11], 5, 2⟩), (6001, ⟨[.one (.str x12), .one (.int .i64 x13)], 28, 1⟩)]⟩ _ (by kernel_rfl) (by kernel_rfl)).trans (g3R8 A n (g3Q A n (pth 447) (g3Q A n (pth 255) (g3T kk))) x0 x1 x2 x3 x4 x5 x6 x7 x8 x9 x10 x11 x12 x13)
  rw [h3] at h4
  have h5 := (g3p191 A n _ _).trans h4
  have h6 := (g3p127 A n _ _).trans h5
  exact (g3F A n _ 8 _ _ ⟨[(0, (sL 0 none x0 4)), (3, (bO x1)), (4, (pT 5000 0)), (5, (pT 6001 0))], [(0, ⟨[.recs x3 [.ints .i64 x4, .ints .i64 x5, .ints .i64 x6, .strs x7]], x2, 0⟩), (5000, ⟨[.one (.int .i64 x8), .one (.sl 5500 none x9 1)], 56, 1⟩), (5500, ⟨[.nums .u8 x10 x11], 5, 2⟩), (6001, ⟨[.one (.str x12), .one (.int .i64 x13)], 28, 1⟩)]⟩ (by kernel_rfl) (h.trans (by kernel_rfl))).trans (h6.trans (by kernel_rfl))
def g3J4 {R : Type} (A : Ar) (n : Nat) (kk : AV → Heap → Option R)  (x0 : Nat) (x1 : Bool) (x2 x3 : Nat) (x4 x5 x6 : List Int) (x7 : List (List Nat)) : Option R :=
  match (generalizing := false) g9ok A with
  | true => g3J8 A n kk  x0 x1 x2 x3 x4 x5 x6 x7 (g9r0 A) 0 0 [] [] 0
  | false => none
set_option maxRecDepth 100000 in
theorem g3J4_eq {R : Type} (A : Ar) (n : Nat) (kk : AV → Heap → Option R)    (s : St) (x0 : Nat) (x1 : Bool) (x2 x3 : Nat) (x4 x5 x6 : List Int) (x7 : List (List Nat)) (h : keep g3an 4 s = ⟨[(0, (sL 0 none x0 4)), (3, (bO x1))], [(0, ⟨[.recs x3 [.ints .i64 x4, .ints .i64 x5, .ints .i64 x6, .strs x7]], x2, 0⟩)]⟩) :
    g3D A n (pth 15) (g3T kk) s = g3J4 A n kk  x0 x1 x2 x3 x4 x5 x6 x7 := by
  have h1 := (g3Qn A n _ _ _).trans (g3J8_eq A n kk     (g3R6s0 A x0 x1 x2 x3 x4 x5 x6 x7 (g9r0 A) 0 0 [] [] 0) x0 x1 x2 x3 x4 x5 x6 x7 (g9r0 A) 0 0 [] [] 0 (by kernel_rfl))
  have h2 := (g3p479 A n _ _).trans h1
  have h3 := (g3p223 A n (g3Q A n (pth 127) (g3T kk)) (g3R6s0 A x0 x1 x2 x3 x4 x5 x6 x7 (g9r0 A) 0 0 [] [] 0) false (by kernel_rfl)).trans h2
  have h4 := (g3Qn A n _ _ _).trans h3
  have h5 := (g3F A n _ 6 _ (g3R5s0 A x0 x1 x2 x3 x4 x5 x6 x7 (g9r0 A) 0 0 []) _ (by kernel_rfl) (by kernel_rfl)).trans (g3R6 A n (g3Q A n (pth 223) (g3Q A n (pth 127) (g3T kk))) x0 x1 x2 x3 x4 x5 x6 x7 (g9r0 A) 0 0 [] [] 0)
  rw [h4] at h5
  have h6 := (g3p95 A n _ _).trans h5
  have h7 := (g3p63 A n _ _).trans h6
  have h8 := (g3Qn A n _ _ _).trans h7
  have h9 := (g3F A n _ 5 _ (g3R4s0 A x0 x1 x2 x3 x4 x5 x6 x7) _ (by kernel_rfl) (by kernel_rfl)).trans (g3R5 A n (g3Q A n (pth 63) (g3T kk)) x0 x1 x2 x3 x4 x5 x6 x7 (g9r0 A) 0 0 [])
  rw [h8] at h9
  have h10 := (g3p31 A n _ _).trans h9
  have h11 := (g3Qn A n _ _ _).trans h10
  have h12 := (g3F A n _ 4 _ ⟨[(0, (sL 0 none x0 4)), (3, (bO x1))], [(0, ⟨[.recs x3 [.ints .i64 x4, .ints .i64 x5, .ints .i64 x6, .strs x7]], x2, 0⟩)]⟩ _ (by kernel_rfl) (by kernel_rfl)).trans (g3R4 A n (g3Q A n (pth 31) (g3T kk)) x0 x1 x2 x3 x4 x5 x6 x7)
  rw [h11] at h12
  have h13 := (g3p15 A n _ _).trans h12
  exact (g3F A n _ 4 _ _ ⟨[(0, (sL 0 none x0 4)), (3, (bO x1))], [(0, ⟨[.recs x3 [.ints .i64 x4, .ints .i64 x5, .ints .i64 x6, .strs x7]], x2, 0⟩)]⟩ (by kernel_rfl) (h.trans (by kernel_rfl))).trans (h13.trans (by kernel_rfl))
def g3 {R : Type} (A : Ar) (n : Nat) (kk : AV → Heap → Option R) (x0 x1 x2 : Nat) (x3 x4 x5 : List Int) (x6 : List (List Nat)) : Option R :=
  match (generalizing := false) g8ok A with
  | true => match (generalizing := false) !(g8r0 A) with
    | true => kk (bO false) [(0, ⟨[.recs x2 [.ints .i64 x3, .ints .i64 x4, .ints .i64 x5, .strs x6]], x1, 0⟩)]
    | false => g3J4 A n kk  x0 (g8r0 A) x1 x2 x3 x4 x5 x6
  | false => none
set_option maxRecDepth 100000 in
theorem g3_eq {R : Type} (A : Ar) (n : Nat) (kk : AV → Heap → Option R) (x0 x1 x2 : Nat) (x3 x4 x5 : List Int) (x6 : List (List Nat)) :
    funD A gtys (g3O A) g3an n (bodyOf Try.f3) g3res [(sL 0 none x0 4)] [(0, ⟨[.recs x2 [.ints .i64 x3, .ints .i64 x4, .ints .i64 x5, .strs x6]], x1, 0⟩)] kk = g3 A n kk x0 x1 x2 x3 x4 x5 x6 := by
  have h1 : (g3T kk) .ret (g3R3s0 A x1 x2 x3 x4 x5 x6) = kk (bO false) [(0, ⟨[.recs x2 [.ints .i64 x3, .ints .i64 x4, .ints .i64 x5, .strs x6]], x1, 0⟩)] := by kernel_rfl
  have h2 := (g3Qr A n (pth 15) _ _).trans h1
  have h3 := (g3p107 A n _ _).trans h2
  have h4 := (g3Qn A n _ _ _).trans h3
  have h5 := (g3F A n _ 3 _ (g3R2s0 A x0 (g8r0 A) x1 x2 x3 x4 x5 x6) _ (by kernel_rfl) (by kernel_rfl)).trans (g3R3 A n (g3Q A n (pth 107) (g3Q A n (pth 15) (g3T kk))) x1 x2 x3 x4 x5 x6)
  rw [h4] at h5
  have h6 := (g3p43 A n _ _).trans h5
  have h7 := (g3Qn A n _ _ _).trans (g3J4_eq A n kk     (g3R2s0 A x0 (g8r0 A) x1 x2 x3 x4 x5 x6) x0 (g8r0 A) x1 x2 x3 x4 x5 x6 (by kernel_rfl))
  have h8 := (g3p59 A n _ _).trans h7
  have h9 := g3p27 A n (g3Q A n (pth 15) (g3T kk)) (g3R2s0 A x0 (g8r0 A) x1 x2 x3 x4 x5 x6) (!(g8r0 A)) (by kernel_rfl)
  rw [h6, h8] at h9
  have h10 := (g3Qn A n _ _ _).trans h9
  have h11 := (g3F A n _ 2 _ (g3R1s0 A x0 x1 x2 x3 x4 x5 x6) _ (by kernel_rfl) (by kernel_rfl)).trans (g3R2 A n (g3Q A n (pth 27) (g3Q A n (pth 15) (g3T kk))) x0 (g8r0 A) x1 x2 x3 x4 x5 x6)
  rw [h10] at h11
  have h12 := (g3p11 A n _ _).trans h11
  have h13 := (g3p7 A n _ _).trans h12
  have h14 := (g3Qn A n _ _ _).trans h13
  have h15 := (g3F A n _ 1 _ (g3R0s0 A x0 x1 x2 x3 x4 x5 x6) _ (by kernel_rfl) (by kernel_rfl)).trans (g3R1 A n (g3Q A n (pth 7) (g3T kk)) x0 x1 x2 x3 x4 x5 x6)
  rw [h14] at h15
  have h16 := (g3p3 A n _ _).trans h15
  have h17 := (g3Qn A n _ _ _).trans h16
  have h18 := (g3F A n _ 0 _ ⟨[(0, (sL 0 none x0 4))], [(0, ⟨[.recs x2 [.ints .i64 x3, .ints .i64 x4, .ints .i64 x5, .strs x6]], x1, 0⟩)]⟩ _ (by kernel_rfl) (by kernel_rfl)).trans (g3R0 A n (g3Q A n (pth 3) (g3T kk)) x0 x1 x2 x3 x4 x5 x6)
  rw [h17] at h18
  have h19 := (g3p1 A n _ _).trans h18
  exact (show funD A gtys (g3O A) g3an n (bodyOf Try.f3) g3res [(sL 0 none x0 4)] [(0, ⟨[.recs x2 [.ints .i64 x3, .ints .i64 x4, .ints .i64 x5, .strs x6]], x1, 0⟩)] kk = g3D A n (pth 1) (g3T kk) ⟨[(0, (sL 0 none x0 4))], [(0, ⟨[.recs x2 [.ints .i64 x3, .ints .i64 x4, .ints .i64 x5, .strs x6]], x1, 0⟩)]⟩ from by kernel_rfl).trans (h19.trans (by kernel_rfl))
def g3is (o : Option (AV × Heap)) : Bool := match o with
  | some (.v (.cell (.bool _)), [(n0, ⟨[.recs _ [.ints .i64 _, .ints .i64 _, .ints .i64 _, .strs _]], _, n1⟩)]) => Nat.beq n0 0 && (Nat.beq n1 0)
  | _ => false
def g3g0 (o : Option (AV × Heap)) : Bool := match o with
  | some (.v (.cell (.bool x)), [(_, ⟨[.recs _ [.ints .i64 _, .ints .i64 _, .ints .i64 _, .strs _]], _, _⟩)]) => x
  | _ => false
def g3g1 (o : Option (AV × Heap)) : Nat := match o with
  | some (.v (.cell (.bool _)), [(_, ⟨[.recs _ [.ints .i64 _, .ints .i64 _, .ints .i64 _, .strs _]], x, _⟩)]) => x
  | _ => 0
def g3g2 (o : Option (AV × Heap)) : Nat := match o with
  | some (.v (.cell (.bool _)), [(_, ⟨[.recs x [.ints .i64 _, .ints .i64 _, .ints .i64 _, .strs _]], _, _⟩)]) => x
  | _ => 0
def g3g3 (o : Option (AV × Heap)) : List Int := match o with
  | some (.v (.cell (.bool _)), [(_, ⟨[.recs _ [.ints .i64 x, .ints .i64 _, .ints .i64 _, .strs _]], _, _⟩)]) => x
  | _ => []
def g3g4 (o : Option (AV × Heap)) : List Int := match o with
  | some (.v (.cell (.bool _)), [(_, ⟨[.recs _ [.ints .i64 _, .ints .i64 x, .ints .i64 _, .strs _]], _, _⟩)]) => x
  | _ => []
def g3g5 (o : Option (AV × Heap)) : List Int := match o with
  | some (.v (.cell (.bool _)), [(_, ⟨[.recs _ [.ints .i64 _, .ints .i64 _, .ints .i64 x, .strs _]], _, _⟩)]) => x
  | _ => []
def g3g6 (o : Option (AV × Heap)) : List (List Nat) := match o with
  | some (.v (.cell (.bool _)), [(_, ⟨[.recs _ [.ints .i64 _, .ints .i64 _, .ints .i64 _, .strs x]], _, _⟩)]) => x
  | _ => []
theorem g3is_spec {o : Option (AV × Heap)} (h : g3is o = true) : o = some ((bO (g3g0 o)), [(0, ⟨[.recs (g3g2 o) [.ints .i64 (g3g3 o), .ints .i64 (g3g4 o), .ints .i64 (g3g5 o), .strs (g3g6 o)]], (g3g1 o), 0⟩)]) := by
  unfold g3is at h
  split at h
  · rename_i z0 n0 z2 z3 z4 z5 z6 z7 n1
    simp only [Bool.and_eq_true] at h
    have en0 := beq_true h.1
    subst en0
    replace h := h.2
    have en1 := beq_true h
    subst en1
    rfl
  · cases h
def g3v (A : Ar) (x0 x1 x2 : Nat) (x3 x4 x5 : List Int) (x6 : List (List Nat)) : Option (AV × Heap) := g3 A (100000) (outH [0] none) x0 x1 x2 x3 x4 x5 x6
def g3ok (A : Ar) (x0 x1 x2 : Nat) (x3 x4 x5 : List Int) (x6 : List (List Nat)) : Bool := g3is (g3v A x0 x1 x2 x3 x4 x5 x6)
def g3r0 (A : Ar) (x0 x1 x2 : Nat) (x3 x4 x5 : List Int) (x6 : List (List Nat)) : Bool := g3g0 (g3v A x0 x1 x2 x3 x4 x5 x6)
def g3r1 (A : Ar) (x0 x1 x2 : Nat) (x3 x4 x5 : List Int) (x6 : List (List Nat)) : Nat := g3g1 (g3v A x0 x1 x2 x3 x4 x5 x6)
def g3r2 (A : Ar) (x0 x1 x2 : Nat) (x3 x4 x5 : List Int) (x6 : List (List Nat)) : Nat := g3g2 (g3v A x0 x1 x2 x3 x4 x5 x6)
def g3r3 (A : Ar) (x0 x1 x2 : Nat) (x3 x4 x5 : List Int) (x6 : List (List Nat)) : List Int := g3g3 (g3v A x0 x1 x2 x3 x4 x5 x6)
def g3r4 (A : Ar) (x0 x1 x2 : Nat) (x3 x4 x5 : List Int) (x6 : List (List Nat)) : List Int := g3g4 (g3v A x0 x1 x2 x3 x4 x5 x6)
def g3r5 (A : Ar) (x0 x1 x2 : Nat) (x3 x4 x5 : List Int) (x6 : List (List Nat)) : List Int := g3g5 (g3v A x0 x1 x2 x3 x4 x5 x6)
def g3r6 (A : Ar) (x0 x1 x2 : Nat) (x3 x4 x5 : List Int) (x6 : List (List Nat)) : List (List Nat) := g3g6 (g3v A x0 x1 x2 x3 x4 x5 x6)
theorem g3ok_spec {A : Ar} {x0 x1 x2 x3 x4 x5 x6} (h : g3ok A x0 x1 x2 x3 x4 x5 x6 = true) : g3v A x0 x1 x2 x3 x4 x5 x6 = some ((bO (g3r0 A x0 x1 x2 x3 x4 x5 x6)), [(0, ⟨[.recs (g3r2 A x0 x1 x2 x3 x4 x5 x6) [.ints .i64 (g3r3 A x0 x1 x2 x3 x4 x5 x6), .ints .i64 (g3r4 A x0 x1 x2 x3 x4 x5 x6), .ints .i64 (g3r5 A x0 x1 x2 x3 x4 x5 x6), .strs (g3r6 A x0 x1 x2 x3 x4 x5 x6)]], (g3r1 A x0 x1 x2 x3 x4 x5 x6), 0⟩)]) := g3is_spec h
def g3o (A : Ar) (args : List AV) (h : Heap) : Option (Bool × AV × Heap) := match args, h with
  | [.v (.cell (.sl n0 none x0 n1))], [(n2, ⟨[.recs x2 [.ints .i64 x3, .ints .i64 x4, .ints .i64 x5, .strs x6]], x1, n3⟩)] => match Nat.beq n0 0 && (Nat.beq n1 4 && (Nat.beq n2 0 && (Nat.beq n3 0))) with
    | true => some (g3ok A x0 x1 x2 x3 x4 x5 x6, (bO (g3r0 A x0 x1 x2 x3 x4 x5 x6)), [(0, ⟨[.recs (g3r2 A x0 x1 x2 x3 x4 x5 x6) [.ints .i64 (g3r3 A x0 x1 x2 x3 x4 x5 x6), .ints .i64 (g3r4 A x0 x1 x2 x3 x4 x5 x6), .ints .i64 (g3r5 A x0 x1 x2 x3 x4 x5 x6), .strs (g3r6 A x0 x1 x2 x3 x4 x5 x6)]], (g3r1 A x0 x1 x2 x3 x4 x5 x6), 0⟩)])
    | false => none
  | _, _ => none
theorem g3o_sound : ∀ args h v h', g3o realA args h = some (true, v, h') → FnH Try.prog 3 args h v h' := by
  intro args h v h' hh
  unfold g3o at hh
  split at hh
  · rename_i n0 x0 n1 n2 x2 x3 x4 x5 x6 x1 n3
    split at hh
    case h_2 => cases hh
    rename_i hc0
    simp only [Option.some.injEq, Prod.mk.injEq] at hh
    obtain ⟨hc, hv, hh⟩ := hh
    subst hv
    subst hh
    simp only [Bool.and_eq_true] at hc0
    have en0 := beq_true hc0.1
    subst en0
    replace hc0 := hc0.2
    have en1 := beq_true hc0.1
    subst en1
    replace hc0 := hc0.2
    have en2 := beq_true hc0.1
    subst en2
    replace hc0 := hc0.2
    have en3 := beq_true hc0
    subst en3
    exact fnh_of mixed gtysOK g3O_sound g3O_det (an := g3an) (n := 100000) Try.func3 (c := bodyOf Try.f3) rfl (by kernel_rfl) Try.call3 (Nat.le_of_ble_eq_true rfl) (pins := [0]) (nilr := none) (fun _ => (g3_eq realA (100000) (outH [0] none) x0 x1 x2 x3 x4 x5 x6).trans (show g3v realA x0 x1 x2 x3 x4 x5 x6 = _ from g3ok_spec hc))
  · cases hh
end Go.Sx
