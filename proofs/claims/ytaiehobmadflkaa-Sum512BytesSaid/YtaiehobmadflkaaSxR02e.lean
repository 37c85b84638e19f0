/- printed by sxgen -/
import Derived.Test.YtaiehobmadflkaaSxR02d
namespace Go.Sx
open Go.Proofs
set_option linter.unusedVariables false
theorem SxR02emt {α : Type} {c : Bool} (h : c = true) (a b : α) : (match (generalizing := false) c with | true => a | false => b) = a := by subst h; rfl
theorem SxR02emf {α : Type} {c : Bool} (h : c = false) (a b : α) : (match (generalizing := false) c with | true => a | false => b) = b := by subst h; rfl
/- engrosser/engrosserlaw02.Sum512Bytes -/
def g7O (A : Ar) : Orc := orcN [(11, (1, 1, ⟨[.nums .u8 0 []], 5, 2⟩))] (orcH [(8, g8o A), (9, g9o A)] [(11, ⟨[], none, (g11o A)⟩), (12, ⟨[0, 1], (some (0, 1, 1, ⟨[.nums .u8 0 []], 5, 2⟩)), (hoN [501, 600] (ho2 (g12o A) (g12a_o A)))⟩), (13, ⟨[], none, (hoN [1] (g13o A))⟩), (14, ⟨[], none, (hoN [1] (g14o A))⟩)])
theorem g7O_sound : OSound Try.prog (g7O realA) := orcN_sound <| orcH_sound (fun f g hm args v hv => by
    simp only [List.mem_cons, List.not_mem_nil, or_false, Prod.mk.injEq] at hm
    rcases hm with ⟨rfl, rfl⟩ | ⟨rfl, rfl⟩
    · exact g8o_sound _ _ hv
    · exact g9o_sound _ _ hv) (fun f e hm args h v h' hv => by
    simp only [List.mem_cons, List.not_mem_nil, or_false, Prod.mk.injEq] at hm
    rcases hm with ⟨rfl, rfl⟩ | ⟨rfl, rfl⟩ | ⟨rfl, rfl⟩ | ⟨rfl, rfl⟩
    · exact g11o_sound _ _ _ _ hv
    · exact (hoN_sound (ho2_sound g12o_sound g12a_o_sound)) _ _ _ _ hv
    · exact (hoN_sound g13o_sound) _ _ _ _ hv
    · exact (hoN_sound g14o_sound) _ _ _ _ hv)
theorem g7O_det : ODet (g7O realA) := orcN_det <| orcH_det _ _
def g7an : Ann := [(0, ([0, 1, 2], [])), (1, ([0, 1, 2], [])), (2, ([0, 1, 2, 7], [])), (3, ([], [])), (4, ([0, 1, 2, 7], [])), (5, ([0, 2, 7, 8], [5004])), (6, ([0, 2, 7, 8, 9], [5004])), (7, ([0, 2, 7, 8, 9], [5004])), (8, ([0, 2, 7, 8, 9], [5004])), (9, ([2, 7, 8], [5004])), (10, ([7, 10], [])), (11, ([7, 10, 11], [11000, 11500])), (12, ([], [])), (13, ([7, 10, 11], [11000, 11500])), (14, ([7, 10, 11, 12], [11000, 11500])), (15, ([7, 10, 11, 12], [11000, 11500])), (16, ([7, 10, 11, 12], [11000, 11500])), (17, ([7, 10, 11], [11000, 11500]))]
def g7res : List ResultVar := [.tmp 6]
abbrev g7t0 (A : Ar) (x2 : List Nat) (x3 x4 : Nat) (x5 : Int) (x6 : Nat) (x7 : List Nat) : Int := g14r0 A (g13r1 A x2 x3 x4 x5 x6 x7) (g13r2 A x2 x3 x4 x5 x6 x7) (g13r3 A x2 x3 x4 x5 x6 x7) (g13r4 A x2 x3 x4 x5 x6 x7) (g13r5 A x2 x3 x4 x5 x6 x7) (g13r6 A x2 x3 x4 x5 x6 x7)
abbrev g7t1 (A : Ar) (x2 : List Nat) (x3 x4 : Nat) (x5 : Int) (x6 : Nat) (x7 : List Nat) : List Nat := g14r1 A (g13r1 A x2 x3 x4 x5 x6 x7) (g13r2 A x2 x3 x4 x5 x6 x7) (g13r3 A x2 x3 x4 x5 x6 x7) (g13r4 A x2 x3 x4 x5 x6 x7) (g13r5 A x2 x3 x4 x5 x6 x7) (g13r6 A x2 x3 x4 x5 x6 x7)
abbrev g7t2 (A : Ar) (x2 : List Nat) (x3 x4 : Nat) (x5 : Int) (x6 : Nat) (x7 : List Nat) : Nat := g14r2 A (g13r1 A x2 x3 x4 x5 x6 x7) (g13r2 A x2 x3 x4 x5 x6 x7) (g13r3 A x2 x3 x4 x5 x6 x7) (g13r4 A x2 x3 x4 x5 x6 x7) (g13r5 A x2 x3 x4 x5 x6 x7) (g13r6 A x2 x3 x4 x5 x6 x7)
abbrev g7t3 (A : Ar) (x2 : List Nat) (x3 x4 : Nat) (x5 : Int) (x6 : Nat) (x7 : List Nat) : Nat := g14r3 A (g13r1 A x2 x3 x4 x5 x6 x7) (g13r2 A x2 x3 x4 x5 x6 x7) (g13r3 A x2 x3 x4 x5 x6 x7) (g13r4 A x2 x3 x4 x5 x6 x7) (g13r5 A x2 x3 x4 x5 x6 x7) (g13r6 A x2 x3 x4 x5 x6 x7)
abbrev g7t4 (A : Ar) (x2 : List Nat) (x3 x4 : Nat) (x5 : Int) (x6 : Nat) (x7 : List Nat) : Int := g14r4 A (g13r1 A x2 x3 x4 x5 x6 x7) (g13r2 A x2 x3 x4 x5 x6 x7) (g13r3 A x2 x3 x4 x5 x6 x7) (g13r4 A x2 x3 x4 x5 x6 x7) (g13r5 A x2 x3 x4 x5 x6 x7) (g13r6 A x2 x3 x4 x5 x6 x7)
abbrev g7t5 (A : Ar) (x2 : List Nat) (x3 x4 : Nat) (x5 : Int) (x6 : Nat) (x7 : List Nat) : Nat := g14r5 A (g13r1 A x2 x3 x4 x5 x6 x7) (g13r2 A x2 x3 x4 x5 x6 x7) (g13r3 A x2 x3 x4 x5 x6 x7) (g13r4 A x2 x3 x4 x5 x6 x7) (g13r5 A x2 x3 x4 x5 x6 x7) (g13r6 A x2 x3 x4 x5 x6 x7)
abbrev g7t6 (A : Ar) (x2 : List Nat) (x3 x4 : Nat) (x5 : Int) (x6 : Nat) (x7 : List Nat) : List Nat := g14r6 A (g13r1 A x2 x3 x4 x5 x6 x7) (g13r2 A x2 x3 x4 x5 x6 x7) (g13r3 A x2 x3 x4 x5 x6 x7) (g13r4 A x2 x3 x4 x5 x6 x7) (g13r5 A x2 x3 x4 x5 x6 x7) (g13r6 A x2 x3 x4 x5 x6 x7)
abbrev g7t7 (A : Ar) (x2 : List Nat) (x3 : Nat) (x4 : Int) (x5 : Nat) (x6 : List Nat) : Int := g14r0 A (g13r1 A x2 0 x3 x4 x5 x6) (g13r2 A x2 0 x3 x4 x5 x6) (g13r3 A x2 0 x3 x4 x5 x6) (g13r4 A x2 0 x3 x4 x5 x6) (g13r5 A x2 0 x3 x4 x5 x6) (g13r6 A x2 0 x3 x4 x5 x6)
abbrev g7t8 (A : Ar) (x2 : List Nat) (x3 : Nat) (x4 : Int) (x5 : Nat) (x6 : List Nat) : List Nat := g14r1 A (g13r1 A x2 0 x3 x4 x5 x6) (g13r2 A x2 0 x3 x4 x5 x6) (g13r3 A x2 0 x3 x4 x5 x6) (g13r4 A x2 0 x3 x4 x5 x6) (g13r5 A x2 0 x3 x4 x5 x6) (g13r6 A x2 0 x3 x4 x5 x6)
abbrev g7t9 (A : Ar) (x2 : List Nat) (x3 : Nat) (x4 : Int) (x5 : Nat) (x6 : List Nat) : Nat := g14r2 A (g13r1 A x2 0 x3 x4 x5 x6) (g13r2 A x2 0 x3 x4 x5 x6) (g13r3 A x2 0 x3 x4 x5 x6) (g13r4 A x2 0 x3 x4 x5 x6) (g13r5 A x2 0 x3 x4 x5 x6) (g13r6 A x2 0 x3 x4 x5 x6)
abbrev g7t10 (A : Ar) (x2 : List Nat) (x3 : Nat) (x4 : Int) (x5 : Nat) (x6 : List Nat) : Nat := g14r3 A (g13r1 A x2 0 x3 x4 x5 x6) (g13r2 A x2 0 x3 x4 x5 x6) (g13r3 A x2 0 x3 x4 x5 x6) (g13r4 A x2 0 x3 x4 x5 x6) (g13r5 A x2 0 x3 x4 x5 x6) (g13r6 A x2 0 x3 x4 x5 x6)
abbrev g7t11 (A : Ar) (x2 : List Nat) (x3 : Nat) (x4 : Int) (x5 : Nat) (x6 : List Nat) : Int := g14r4 A (g13r1 A x2 0 x3 x4 x5 x6) (g13r2 A x2 0 x3 x4 x5 x6) (g13r3 A x2 0 x3 x4 x5 x6) (g13r4 A x2 0 x3 x4 x5 x6) (g13r5 A x2 0 x3 x4 x5 x6) (g13r6 A x2 0 x3 x4 x5 x6)
abbrev g7t12 (A : Ar) (x2 : List Nat) (x3 : Nat) (x4 : Int) (x5 : Nat) (x6 : List Nat) : Nat := g14r5 A (g13r1 A x2 0 x3 x4 x5 x6) (g13r2 A x2 0 x3 x4 x5 x6) (g13r3 A x2 0 x3 x4 x5 x6) (g13r4 A x2 0 x3 x4 x5 x6) (g13r5 A x2 0 x3 x4 x5 x6) (g13r6 A x2 0 x3 x4 x5 x6)
abbrev g7t13 (A : Ar) (x2 : List Nat) (x3 : Nat) (x4 : Int) (x5 : Nat) (x6 : List Nat) : List Nat := g14r6 A (g13r1 A x2 0 x3 x4 x5 x6) (g13r2 A x2 0 x3 x4 x5 x6) (g13r3 A x2 0 x3 x4 x5 x6) (g13r4 A x2 0 x3 x4 x5 x6) (g13r5 A x2 0 x3 x4 x5 x6) (g13r6 A x2 0 x3 x4 x5 x6)
noncomputable def g7D {R : Type} (A : Ar) (n : Nat) (p : List Bool) (K : Ex → St → Option R) (s : St) : Option R := codeD A gtys (g7O A) g7an n (sub (bodyOf Try.f7) p) K s
noncomputable def g7V {R : Type} (A : Ar) (n : Nat) (p : List Bool) (m : Nat) (K : Ex → St → Option R) (s : St) : Option R := loopD (fun K' s'' => codeD A gtys (g7O A) g7an n (sub (bodyOf Try.f7) p) K' s'') m K s
noncomputable def g7Q {R : Type} (A : Ar) (n : Nat) (p : List Bool) (K : Ex → St → Option R) : Ex → St → Option R := seqC (g7D A n p K) K
noncomputable def g7W {R : Type} (A : Ar) (n : Nat) (p : List Bool) (m : Nat) (K : Ex → St → Option R) : Ex → St → Option R := seqC (g7V A n p m K) K
noncomputable def g7T {R : Type} (kk : AV → Heap → Option R) : Ex → St → Option R := finD gtys g7res kk
theorem g7Qn {R : Type} (A : Ar) (n : Nat) (p : List Bool) (K : Ex → St → Option R) (s : St) : g7Q A n p K .normal s = g7D A n p K s := rfl
theorem g7Qe {R : Type} (A : Ar) (n : Nat) (p : List Bool) (K : Ex → St → Option R) (i : Nat) (s : St) : g7Q A n p K (.exit i) s = K (.exit i) s := rfl
theorem g7Qr {R : Type} (A : Ar) (n : Nat) (p : List Bool) (K : Ex → St → Option R) (s : St) : g7Q A n p K .ret s = K .ret s := rfl
theorem g7Wn {R : Type} (A : Ar) (n : Nat) (p : List Bool) (m : Nat) (K : Ex → St → Option R) (s : St) : g7W A n p m K .normal s = g7V A n p m K s := rfl
theorem g7We {R : Type} (A : Ar) (n : Nat) (p : List Bool) (m : Nat) (K : Ex → St → Option R) (i : Nat) (s : St) : g7W A n p m K (.exit i) s = K (.exit i) s := rfl
theorem g7Vs {R : Type} (A : Ar) (n : Nat) (p : List Bool) (m : Nat) (K : Ex → St → Option R) (s : St) : g7V A n p (m + 1) K s = g7D A n p (g7W A n p m K) s := rfl
theorem g7F {R : Type} (A : Ar) (n : Nat) (p : List Bool) (i : Nat) (K : Ex → St → Option R) (s s' : St) (hf : firstReg (sub (bodyOf Try.f7) p) = some i) (h : keep g7an i s = keep g7an i s') : g7D A n p K s = g7D A n p K s' := codeD_first hf h K
section
variable {R : Type} (A : Ar) (n : Nat) (K : Ex → St → Option R) (s : St)
theorem g7p1 : g7D A n (pth 1) K s = g7D A n (pth 2) (g7Q A n (pth 3) K) s := by kernel_rfl
theorem g7p3 : g7D A n (pth 3) K s = g7D A n (pth 5) (g7Q A n (pth 7) K) s := by kernel_rfl
theorem g7p7 : g7D A n (pth 7) K s = g7D A n (pth 11) (g7Q A n (pth 15) K) s := by kernel_rfl
theorem g7p11 : g7D A n (pth 11) K s = g7D A n (pth 19) (g7Q A n (pth 27) K) s := by kernel_rfl
theorem g7p27 (t : Bool) : ev s (.tmp 15) = some (.v (.cell (.bool t))) → g7D A n (pth 27) K s = (match t with
    | true => g7D A n (pth 43) K s
    | false => g7D A n (pth 59) K s) := codeD_cond t
theorem g7p43 : g7D A n (pth 43) K s = g7D A n (pth 75) (g7Q A n (pth 107) K) s := by kernel_rfl
theorem g7p107 : g7D A n (pth 107) K s = K .ret s := by kernel_rfl
theorem g7p59 : g7D A n (pth 59) K s = K .normal s := by kernel_rfl
theorem g7p15 : g7D A n (pth 15) K s = g7D A n (pth 23) (g7Q A n (pth 31) K) s := by kernel_rfl
theorem g7p31 : g7D A n (pth 31) K s = g7D A n (pth 47) (g7Q A n (pth 63) K) s := by kernel_rfl
theorem g7p47 : g7D A n (pth 47) K s = g7D A n (pth 79) (g7Q A n (pth 111) K) s := by kernel_rfl
theorem g7p111 : g7D A n (pth 111) K s = g7D A n (pth 175) (blockK 0 K) s := by kernel_rfl
theorem g7p175 : g7D A n (pth 175) K s = g7V A n (pth 303) n K s := by kernel_rfl
theorem g7p303 : g7D A n (pth 303) K s = g7D A n (pth 559) (g7Q A n (pth 815) K) s := by kernel_rfl
theorem g7p559 : g7D A n (pth 559) K s = g7D A n (pth 1071) (g7Q A n (pth 1583) K) s := by kernel_rfl
theorem g7p1583 (t : Bool) : ev s (.tmp 24) = some (.v (.cell (.bool t))) → g7D A n (pth 1583) K s = (match t with
    | true => g7D A n (pth 2607) K s
    | false => g7D A n (pth 3631) K s) := codeD_cond t
theorem g7p2607 : g7D A n (pth 2607) K s = K .normal s := by kernel_rfl
theorem g7p3631 : g7D A n (pth 3631) K s = K (.exit 0) s := by kernel_rfl
theorem g7p815 : g7D A n (pth 815) K s = g7D A n (pth 1327) (g7Q A n (pth 1839) K) s := by kernel_rfl
theorem g7p1327 : g7D A n (pth 1327) K s = g7D A n (pth 2351) (blockK 1 K) s := by kernel_rfl
theorem g7p63 : g7D A n (pth 63) K s = g7D A n (pth 95) (g7Q A n (pth 127) K) s := by kernel_rfl
theorem g7p127 : g7D A n (pth 127) K s = g7D A n (pth 191) (g7Q A n (pth 255) K) s := by kernel_rfl
theorem g7p255 : g7D A n (pth 255) K s = g7D A n (pth 383) (g7Q A n (pth 511) K) s := by kernel_rfl
theorem g7p383 : g7D A n (pth 383) K s = g7D A n (pth 639) (g7Q A n (pth 895) K) s := by kernel_rfl
theorem g7p895 (t : Bool) : ev s (.tmp 41) = some (.v (.cell (.bool t))) → g7D A n (pth 895) K s = (match t with
    | true => g7D A n (pth 1407) K s
    | false => g7D A n (pth 1919) K s) := codeD_cond t
theorem g7p1919 : g7D A n (pth 1919) K s = K .normal s := by kernel_rfl
theorem g7p511 : g7D A n (pth 511) K s = g7D A n (pth 767) (g7Q A n (pth 1023) K) s := by kernel_rfl
theorem g7p767 : g7D A n (pth 767) K s = g7D A n (pth 1279) (g7Q A n (pth 1791) K) s := by kernel_rfl
theorem g7p1791 : g7D A n (pth 1791) K s = g7D A n (pth 2815) (blockK 2 K) s := by kernel_rfl
theorem g7p2815 : g7D A n (pth 2815) K s = g7V A n (pth 4863) n K s := by kernel_rfl
theorem g7p4863 : g7D A n (pth 4863) K s = g7D A n (pth 8959) (g7Q A n (pth 13055) K) s := by kernel_rfl
theorem g7p8959 : g7D A n (pth 8959) K s = g7D A n (pth 17151) (g7Q A n (pth 25343) K) s := by kernel_rfl
theorem g7p25343 (t : Bool) : ev s (.tmp 45) = some (.v (.cell (.bool t))) → g7D A n (pth 25343) K s = (match t with
    | true => g7D A n (pth 41727) K s
    | false => g7D A n (pth 58111) K s) := codeD_cond t
theorem g7p41727 : g7D A n (pth 41727) K s = K .normal s := by kernel_rfl
theorem g7p58111 : g7D A n (pth 58111) K s = K (.exit 2) s := by kernel_rfl
theorem g7p13055 : g7D A n (pth 13055) K s = g7D A n (pth 21247) (g7Q A n (pth 29439) K) s := by kernel_rfl
theorem g7p21247 : g7D A n (pth 21247) K s = g7D A n (pth 37631) (blockK 3 K) s := by kernel_rfl
theorem g7p1023 : g7D A n (pth 1023) K s = g7D A n (pth 1535) (g7Q A n (pth 2047) K) s := by kernel_rfl
theorem g7p2047 : g7D A n (pth 2047) K s = K .ret s := by kernel_rfl
def g7R8s0 (A : Ar) (x0 : Nat) (x1 : List Nat) (x2 : Bool) (x3 : Nat) (x4 : Int) (x5 : Nat) (x6 : List Nat) : St := ⟨[(30, (.v (.cell (.ptr 5004 0 (some ⟨A.toN x4, 1, x3, A.toN x4, 0, 1⟩))))), (29, (u8v x0)), (28, (i6 x4)), (27, (sL 5004 none x3 1)), (0, (u8v x0)), (2, (tS x1)), (7, (bO x2)), (8, (sL 5004 none x3 1)), (9, (i6 x4))], [(5004, ⟨[.nums .u8 x5 (x6.set (A.toN x4) x0)], 5, 2⟩)]⟩
theorem g7R8 (x0 : Nat) (x1 : List Nat) (x2 : Bool) (x3 : Nat) (x4 : Int) (x5 : Nat) (x6 : List Nat) : g7D A n (pth 2351) K ⟨[(0, (u8v x0)), (2, (tS x1)), (7, (bO x2)), (8, (sL 5004 none x3 1)), (9, (i6 x4))], [(5004, ⟨[.nums .u8 x5 x6], 5, 2⟩)]⟩ = match (generalizing := false) A.neg x4 with
    | true => none
    | false => match (generalizing := false) A.lt (A.toN x4) x3 with
      | true => K .normal (g7R8s0 A x0 x1 x2 x3 x4 x5 x6)
      | false => none := by kernel_rfl
def g7R7s0 (A : Ar) (x0 : Nat) (x1 : List Nat) (x2 : Bool) (x3 : Nat) (x4 : Int) (x5 : Nat) (x6 : List Nat) : St := ⟨[(9, (i6 (A.ib .add .i64 x4 1))), (26, (i6 (A.ib .add .i64 x4 1))), (25, (i6 x4)), (0, (u8v x0)), (2, (tS x1)), (7, (bO x2)), (8, (sL 5004 none x3 1)), (9, (i6 x4))], [(5004, ⟨[.nums .u8 x5 x6], 5, 2⟩)]⟩
theorem g7R7 (x0 : Nat) (x1 : List Nat) (x2 : Bool) (x3 : Nat) (x4 : Int) (x5 : Nat) (x6 : List Nat) : g7D A n (pth 1839) K ⟨[(0, (u8v x0)), (2, (tS x1)), (7, (bO x2)), (8, (sL 5004 none x3 1)), (9, (i6 x4))], [(5004, ⟨[.nums .u8 x5 x6], 5, 2⟩)]⟩ = K .normal (g7R7s0 A x0 x1 x2 x3 x4 x5 x6) := by kernel_rfl
def g7R16s0 (A : Ar) (x0 : Bool) (x1 : List Nat) (x2 : Int) (x3 : List Nat) (x4 x5 : Nat) (x6 : Int) (x7 : Nat) (x8 : List Nat) : St := ⟨[(54, (.tup [])), (53, (tS ((x1.take (A.toN (A.ib .add .i64 x2 1))).drop (A.toN x2)))), (52, (i6 (A.ib .add .i64 x2 1))), (51, (i6 x2)), (50, (i6 x2)), (49, (tS x1)), (48, (pT 11000 0)), (7, (bO x0)), (10, (tS x1)), (11, (pT 11000 0)), (12, (i6 x2))], [(11000, ⟨[.nums .u64 88 (g12r0 A ((x1.take (A.toN (A.ib .add .i64 x2 1))).drop (A.toN x2)) x3 x4 x5 x6 x7 x8), .one (.sl 11500 (some (g12r1 A ((x1.take (A.toN (A.ib .add .i64 x2 1))).drop (A.toN x2)) x3 x4 x5 x6 x7 x8)) (g12r2 A ((x1.take (A.toN (A.ib .add .i64 x2 1))).drop (A.toN x2)) x3 x4 x5 x6 x7 x8) 1), .one (.int .i64 (g12r3 A ((x1.take (A.toN (A.ib .add .i64 x2 1))).drop (A.toN x2)) x3 x4 x5 x6 x7 x8))], 45, 1⟩), (11500, ⟨[.nums .u8 (g12r4 A ((x1.take (A.toN (A.ib .add .i64 x2 1))).drop (A.toN x2)) x3 x4 x5 x6 x7 x8) (g12r5 A ((x1.take (A.toN (A.ib .add .i64 x2 1))).drop (A.toN x2)) x3 x4 x5 x6 x7 x8)], 5, 2⟩)]⟩
theorem g7R16 (x0 : Bool) (x1 : List Nat) (x2 : Int) (x3 : List Nat) (x4 x5 : Nat) (x6 : Int) (x7 : Nat) (x8 : List Nat) : g7D A n (pth 37631) K ⟨[(7, (bO x0)), (10, (tS x1)), (11, (pT 11000 0)), (12, (i6 x2))], [(11000, ⟨[.nums .u64 88 x3, .one (.sl 11500 (some x4) x5 1), .one (.int .i64 x6)], 45, 1⟩), (11500, ⟨[.nums .u8 x7 x8], 5, 2⟩)]⟩ = match (generalizing := false) A.neg (A.ib .add .i64 x2 1) with
    | true => none
    | false => match (generalizing := false) A.le (A.toN (A.ib .add .i64 x2 1)) x1.length with
      | true => match (generalizing := false) A.neg x2 with
        | true => none
        | false => match (generalizing := false) A.le (A.toN x2) (A.toN (A.ib .add .i64 x2 1)) with
          | true => match (generalizing := false) g12ok A ((x1.take (A.toN (A.ib .add .i64 x2 1))).drop (A.toN x2)) x3 x4 x5 x6 x7 x8 with
            | true => K .normal (g7R16s0 A x0 x1 x2 x3 x4 x5 x6 x7 x8)
            | false => none
          | false => none
      | false => none := by kernel_rfl
def g7R15s0 (A : Ar) (x0 : Bool) (x1 : List Nat) (x2 : Int) (x3 : List Nat) (x4 x5 : Nat) (x6 : Int) (x7 : Nat) (x8 : List Nat) : St := ⟨[(12, (i6 (A.ib .add .i64 x2 1))), (47, (i6 (A.ib .add .i64 x2 1))), (46, (i6 x2)), (7, (bO x0)), (10, (tS x1)), (11, (pT 11000 0)), (12, (i6 x2))], [(11000, ⟨[.nums .u64 88 x3, .one (.sl 11500 (some x4) x5 1), .one (.int .i64 x6)], 45, 1⟩), (11500, ⟨[.nums .u8 x7 x8], 5, 2⟩)]⟩
theorem g7R15 (x0 : Bool) (x1 : List Nat) (x2 : Int) (x3 : List Nat) (x4 x5 : Nat) (x6 : Int) (x7 : Nat) (x8 : List Nat) : g7D A n (pth 29439) K ⟨[(7, (bO x0)), (10, (tS x1)), (11, (pT 11000 0)), (12, (i6 x2))], [(11000, ⟨[.nums .u64 88 x3, .one (.sl 11500 (some x4) x5 1), .one (.int .i64 x6)], 45, 1⟩), (11500, ⟨[.nums .u8 x7 x8], 5, 2⟩)]⟩ = K .normal (g7R15s0 A x0 x1 x2 x3 x4 x5 x6 x7 x8) := by kernel_rfl
def g7R17s0 (A : Ar) (x0 : Bool) (x1 x2 : List Nat) (x3 x4 : Nat) (x5 : Int) (x6 : Nat) (x7 : List Nat) : St := ⟨[(6, (bO (A.ic .eql (g7t0 A x2 x3 x4 x5 x6 x7) (A.ofN x1.length)))), (69, (bO (A.ic .eql (g7t0 A x2 x3 x4 x5 x6 x7) (A.ofN x1.length)))), (68, (bO (A.ic .eql (g7t0 A x2 x3 x4 x5 x6 x7) (A.ofN x1.length)))), (67, (i6 (A.ofN x1.length))), (66, (tS x1)), (65, (i6 (g7t0 A x2 x3 x4 x5 x6 x7))), (64, (pT 11000 0)), (63, (bO true)), (62, (bO (A.sc .eql (g13r0 A x2 x3 x4 x5 x6 x7) (g9r0 A x1)))), (61, (bO (A.sc .eql (g13r0 A x2 x3 x4 x5 x6 x7) (g9r0 A x1)))), (60, (tS (g9r0 A x1))), (59, (tS x1)), (58, (tS (g13r0 A x2 x3 x4 x5 x6 x7))), (57, (pT 11000 0)), (56, (bO true)), (55, (bO x0)), (7, (bO x0)), (10, (tS x1)), (11, (pT 11000 0))], [(11000, ⟨[.nums .u64 88 (g7t1 A x2 x3 x4 x5 x6 x7), .one (.sl 11500 (some (g7t2 A x2 x3 x4 x5 x6 x7)) (g7t3 A x2 x3 x4 x5 x6 x7) 1), .one (.int .i64 (g7t4 A x2 x3 x4 x5 x6 x7))], 45, 1⟩), (11500, ⟨[.nums .u8 (g7t5 A x2 x3 x4 x5 x6 x7) (g7t6 A x2 x3 x4 x5 x6 x7)], 5, 2⟩)]⟩
def g7R17s1 (A : Ar) (x0 : Bool) (x1 x2 : List Nat) (x3 x4 : Nat) (x5 : Int) (x6 : Nat) (x7 : List Nat) : St := ⟨[(6, (bO false)), (69, (bO false)), (68, uN), (67, uN), (66, uN), (65, uN), (64, uN), (63, (bO false)), (62, (bO (A.sc .eql (g13r0 A x2 x3 x4 x5 x6 x7) (g9r0 A x1)))), (61, (bO (A.sc .eql (g13r0 A x2 x3 x4 x5 x6 x7) (g9r0 A x1)))), (60, (tS (g9r0 A x1))), (59, (tS x1)), (58, (tS (g13r0 A x2 x3 x4 x5 x6 x7))), (57, (pT 11000 0)), (56, (bO true)), (55, (bO x0)), (7, (bO x0)), (10, (tS x1)), (11, (pT 11000 0))], [(11000, ⟨[.nums .u64 88 (g13r1 A x2 x3 x4 x5 x6 x7), .one (.sl 11500 (some (g13r2 A x2 x3 x4 x5 x6 x7)) (g13r3 A x2 x3 x4 x5 x6 x7) 1), .one (.int .i64 (g13r4 A x2 x3 x4 x5 x6 x7))], 45, 1⟩), (11500, ⟨[.nums .u8 (g13r5 A x2 x3 x4 x5 x6 x7) (g13r6 A x2 x3 x4 x5 x6 x7)], 5, 2⟩)]⟩
def g7R17s2 (A : Ar) (x0 : Bool) (x1 x2 : List Nat) (x3 x4 : Nat) (x5 : Int) (x6 : Nat) (x7 : List Nat) : St := ⟨[(6, (bO false)), (69, (bO false)), (68, uN), (67, uN), (66, uN), (65, uN), (64, uN), (63, (bO false)), (62, (bO false)), (61, uN), (60, uN), (59, uN), (58, uN), (57, uN), (56, (bO false)), (55, (bO x0)), (7, (bO x0)), (10, (tS x1)), (11, (pT 11000 0))], [(11000, ⟨[.nums .u64 88 x2, .one (.sl 11500 (some x3) x4 1), .one (.int .i64 x5)], 45, 1⟩), (11500, ⟨[.nums .u8 x6 x7], 5, 2⟩)]⟩
theorem g7R17 (x0 : Bool) (x1 x2 : List Nat) (x3 x4 : Nat) (x5 : Int) (x6 : Nat) (x7 : List Nat) : g7D A n (pth 1535) K ⟨[(7, (bO x0)), (10, (tS x1)), (11, (pT 11000 0))], [(11000, ⟨[.nums .u64 88 x2, .one (.sl 11500 (some x3) x4 1), .one (.int .i64 x5)], 45, 1⟩), (11500, ⟨[.nums .u8 x6 x7], 5, 2⟩)]⟩ = match (generalizing := false) x0 with
    | true => match (generalizing := false) g13ok A x2 x3 x4 x5 x6 x7 with
      | true => match (generalizing := false) g9ok A x1 with
        | true => match (generalizing := false) A.sc .eql (g13r0 A x2 x3 x4 x5 x6 x7) (g9r0 A x1) with
          | true => match (generalizing := false) g14ok A (g13r1 A x2 x3 x4 x5 x6 x7) (g13r2 A x2 x3 x4 x5 x6 x7) (g13r3 A x2 x3 x4 x5 x6 x7) (g13r4 A x2 x3 x4 x5 x6 x7) (g13r5 A x2 x3 x4 x5 x6 x7) (g13r6 A x2 x3 x4 x5 x6 x7) with
            | true => K .normal (g7R17s0 A x0 x1 x2 x3 x4 x5 x6 x7)
            | false => none
          | false => K .normal (g7R17s1 A x0 x1 x2 x3 x4 x5 x6 x7)
        | false => none
      | false => none
    | false => K .normal (g7R17s2 A x0 x1 x2 x3 x4 x5 x6 x7) := by kernel_rfl
def g7R14s0 (A : Ar) (x0 : Bool) (x1 : List Nat) (x2 : Int) (x3 : List Nat) (x4 x5 : Nat) (x6 : Int) (x7 : Nat) (x8 : List Nat) : St := ⟨[(45, (bO (A.ic .lss x2 (A.ofN x1.length)))), (44, (i6 (A.ofN x1.length))), (43, (tS x1)), (42, (i6 x2)), (7, (bO x0)), (10, (tS x1)), (11, (pT 11000 0)), (12, (i6 x2))], [(11000, ⟨[.nums .u64 88 x3, .one (.sl 11500 (some x4) x5 1), .one (.int .i64 x6)], 45, 1⟩), (11500, ⟨[.nums .u8 x7 x8], 5, 2⟩)]⟩
theorem g7R14 (x0 : Bool) (x1 : List Nat) (x2 : Int) (x3 : List Nat) (x4 x5 : Nat) (x6 : Int) (x7 : Nat) (x8 : List Nat) : g7D A n (pth 17151) K ⟨[(7, (bO x0)), (10, (tS x1)), (11, (pT 11000 0)), (12, (i6 x2))], [(11000, ⟨[.nums .u64 88 x3, .one (.sl 11500 (some x4) x5 1), .one (.int .i64 x6)], 45, 1⟩), (11500, ⟨[.nums .u8 x7 x8], 5, 2⟩)]⟩ = K .normal (g7R14s0 A x0 x1 x2 x3 x4 x5 x6 x7 x8) := by kernel_rfl
def g7R16as0 (A : Ar) (x0 : Bool) (x1 : List Nat) (x2 : Int) (x3 : List Nat) (x4 : Nat) (x5 : Int) (x6 : Nat) (x7 : List Nat) : St := ⟨[(54, (.tup [])), (53, (tS ((x1.take (A.toN (A.ib .add .i64 x2 1))).drop (A.toN x2)))), (52, (i6 (A.ib .add .i64 x2 1))), (51, (i6 x2)), (50, (i6 x2)), (49, (tS x1)), (48, (pT 11000 0)), (7, (bO x0)), (10, (tS x1)), (11, (pT 11000 0)), (12, (i6 x2))], [(11000, ⟨[.nums .u64 88 (g12r0 A ((x1.take (A.toN (A.ib .add .i64 x2 1))).drop (A.toN x2)) x3 0 x4 x5 x6 x7), .one (.sl 11500 (some (g12r1 A ((x1.take (A.toN (A.ib .add .i64 x2 1))).drop (A.toN x2)) x3 0 x4 x5 x6 x7)) (g12r2 A ((x1.take (A.toN (A.ib .add .i64 x2 1))).drop (A.toN x2)) x3 0 x4 x5 x6 x7) 1), .one (.int .i64 (g12r3 A ((x1.take (A.toN (A.ib .add .i64 x2 1))).drop (A.toN x2)) x3 0 x4 x5 x6 x7))], 45, 1⟩), (11500, ⟨[.nums .u8 (g12r4 A ((x1.take (A.toN (A.ib .add .i64 x2 1))).drop (A.toN x2)) x3 0 x4 x5 x6 x7) (g12r5 A ((x1.take (A.toN (A.ib .add .i64 x2 1))).drop (A.toN x2)) x3 0 x4 x5 x6 x7)], 5, 2⟩)]⟩
end
theorem g7R16a {R : Type} (A : Ar) (n : Nat) (K : Ex → St → Option R) (x0 : Bool) (x1 : List Nat) (x2 : Int) (x3 : List Nat) (x4 : Nat) (x5 : Int) (x6 : Nat) (x7 : List Nat) : g7D A n (pth 37631) K ⟨[(7, (bO x0)), (10, (tS x1)), (11, (pT 11000 0)), (12, (i6 x2))], [(11000, ⟨[.nums .u64 88 x3, .one (.sl 11500 none x4 1), .one (.int .i64 x5)], 45, 1⟩), (11500, ⟨[.nums .u8 x6 x7], 5, 2⟩)]⟩ = match (generalizing := false) A.neg (A.ib .add .i64 x2 1) with
    | true => none
    | false => match (generalizing := false) A.le (A.toN (A.ib .add .i64 x2 1)) x1.length with
      | true => match (generalizing := false) A.neg x2 with
        | true => none
        | false => match (generalizing := false) A.le (A.toN x2) (A.toN (A.ib .add .i64 x2 1)) with
          | true => match (generalizing := false) g12ok A ((x1.take (A.toN (A.ib .add .i64 x2 1))).drop (A.toN x2)) x3 0 x4 x5 x6 x7 with
            | true => K .normal (g7R16as0 A x0 x1 x2 x3 x4 x5 x6 x7)
            | false => none
          | false => none
      | false => none := by kernel_rfl
def g7R17as0 (A : Ar) (x0 : Bool) (x1 x2 : List Nat) (x3 : Nat) (x4 : Int) (x5 : Nat) (x6 : List Nat) : St := ⟨[(6, (bO (A.ic .eql (g7t7 A x2 x3 x4 x5 x6) (A.ofN x1.length)))), (69, (bO (A.ic .eql (g7t7 A x2 x3 x4 x5 x6) (A.ofN x1.length)))), (68, (bO (A.ic .eql (g7t7 A x2 x3 x4 x5 x6) (A.ofN x1.length)))), (67, (i6 (A.ofN x1.length))), (66, (tS x1)), (65, (i6 (g7t7 A x2 x3 x4 x5 x6))), (64, (pT 11000 0)), (63, (bO true)), (62, (bO (A.sc .eql (g13r0 A x2 0 x3 x4 x5 x6) (g9r0 A x1)))), (61, (bO (A.sc .eql (g13r0 A x2 0 x3 x4 x5 x6) (g9r0 A x1)))), (60, (tS (g9r0 A x1))), (59, (tS x1)), (58, (tS (g13r0 A x2 0 x3 x4 x5 x6))), (57, (pT 11000 0)), (56, (bO true)), (55, (bO x0)), (7, (bO x0)), (10, (tS x1)), (11, (pT 11000 0))], [(11000, ⟨[.nums .u64 88 (g7t8 A x2 x3 x4 x5 x6), .one (.sl 11500 (some (g7t9 A x2 x3 x4 x5 x6)) (g7t10 A x2 x3 x4 x5 x6) 1), .one (.int .i64 (g7t11 A x2 x3 x4 x5 x6))], 45, 1⟩), (11500, ⟨[.nums .u8 (g7t12 A x2 x3 x4 x5 x6) (g7t13 A x2 x3 x4 x5 x6)], 5, 2⟩)]⟩
def g7R17as1 (A : Ar) (x0 : Bool) (x1 x2 : List Nat) (x3 : Nat) (x4 : Int) (x5 : Nat) (x6 : List Nat) : St := ⟨[(6, (bO false)), (69, (bO false)), (68, uN), (67, uN), (66, uN), (65, uN), (64, uN), (63, (bO false)), (62, (bO (A.sc .eql (g13r0 A x2 0 x3 x4 x5 x6) (g9r0 A x1)))), (61, (bO (A.sc .eql (g13r0 A x2 0 x3 x4 x5 x6) (g9r0 A x1)))), (60, (tS (g9r0 A x1))), (59, (tS x1)), (58, (tS (g13r0 A x2 0 x3 x4 x5 x6))), (57, (pT 11000 0)), (56, (bO true)), (55, (bO x0)), (7, (bO x0)), (10, (tS x1)), (11, (pT 11000 0))], [(11000, ⟨[.nums .u64 88 (g13r1 A x2 0 x3 x4 x5 x6), .one (.sl 11500 (some (g13r2 A x2 0 x3 x4 x5 x6)) (g13r3 A x2 0 x3 x4 x5 x6) 1), .one (.int .i64 (g13r4 A x2 0 x3 x4 x5 x6))], 45, 1⟩), (11500, ⟨[.nums .u8 (g13r5 A x2 0 x3 x4 x5 x6) (g13r6 A x2 0 x3 x4 x5 x6)], 5, 2⟩)]⟩
def g7R17as2 (A : Ar) (x0 : Bool) (x1 x2 : List Nat) (x3 : Nat) (x4 : Int) (x5 : Nat) (x6 : List Nat) : St := ⟨[(6, (bO false)), (69, (bO false)), (68, uN), (67, uN), (66, uN), (65, uN), (64, uN), (63, (bO false)), (62, (bO false)), (61, uN), (60, uN), (59, uN), (58, uN), (57, uN), (56, (bO false)), (55, (bO x0)), (7, (bO x0)), (10, (tS x1)), (11, (pT 11000 0))], [(11000, ⟨[.nums .u64 88 x2, .one (.sl 11500 none x3 1), .one (.int .i64 x4)], 45, 1⟩), (11500, ⟨[.nums .u8 x5 x6], 5, 2⟩)]⟩
theorem g7R17a {R : Type} (A : Ar) (n : Nat) (K : Ex → St → Option R) (x0 : Bool) (x1 x2 : List Nat) (x3 : Nat) (x4 : Int) (x5 : Nat) (x6 : List Nat) : g7D A n (pth 1535) K ⟨[(7, (bO x0)), (10, (tS x1)), (11, (pT 11000 0))], [(11000, ⟨[.nums .u64 88 x2, .one (.sl 11500 none x3 1), .one (.int .i64 x4)], 45, 1⟩), (11500, ⟨[.nums .u8 x5 x6], 5, 2⟩)]⟩ = match (generalizing := false) x0 with
    | true => match (generalizing := false) g13ok A x2 0 x3 x4 x5 x6 with
      | true => match (generalizing := false) g9ok A x1 with
        | true => match (generalizing := false) A.sc .eql (g13r0 A x2 0 x3 x4 x5 x6) (g9r0 A x1) with
          | true => match (generalizing := false) g14ok A (g13r1 A x2 0 x3 x4 x5 x6) (g13r2 A x2 0 x3 x4 x5 x6) (g13r3 A x2 0 x3 x4 x5 x6) (g13r4 A x2 0 x3 x4 x5 x6) (g13r5 A x2 0 x3 x4 x5 x6) (g13r6 A x2 0 x3 x4 x5 x6) with
            | true => K .normal (g7R17as0 A x0 x1 x2 x3 x4 x5 x6)
            | false => none
          | false => K .normal (g7R17as1 A x0 x1 x2 x3 x4 x5 x6)
        | false => none
      | false => none
    | false => K .normal (g7R17as2 A x0 x1 x2 x3 x4 x5 x6) := by kernel_rfl
def g7R14as0 (A : Ar) (x0 : Bool) (x1 : List Nat) (x2 : Int) (x3 : List Nat) (x4 : Nat) (x5 : Int) (x6 : Nat) (x7 : List Nat) : St := ⟨[(45, (bO (A.ic .lss x2 (A.ofN x1.length)))), (44, (i6 (A.ofN x1.length))), (43, (tS x1)), (42, (i6 x2)), (7, (bO x0)), (10, (tS x1)), (11, (pT 11000 0)), (12, (i6 x2))], [(11000, ⟨[.nums .u64 88 x3, .one (.sl 11500 none x4 1), .one (.int .i64 x5)], 45, 1⟩), (11500, ⟨[.nums .u8 x6 x7], 5, 2⟩)]⟩
theorem g7R14a {R : Type} (A : Ar) (n : Nat) (K : Ex → St → Option R) (x0 : Bool) (x1 : List Nat) (x2 : Int) (x3 : List Nat) (x4 : Nat) (x5 : Int) (x6 : Nat) (x7 : List Nat) : g7D A n (pth 17151) K ⟨[(7, (bO x0)), (10, (tS x1)), (11, (pT 11000 0)), (12, (i6 x2))], [(11000, ⟨[.nums .u64 88 x3, .one (.sl 11500 none x4 1), .one (.int .i64 x5)], 45, 1⟩), (11500, ⟨[.nums .u8 x6 x7], 5, 2⟩)]⟩ = K .normal (g7R14as0 A x0 x1 x2 x3 x4 x5 x6 x7) := by kernel_rfl
def g7R13s0 (A : Ar) (x0 : Bool) (x1 x2 : List Nat) (x3 : Nat) (x4 : Int) (x5 : Nat) (x6 : List Nat) : St := ⟨[(12, (i6 0)), (7, (bO x0)), (10, (tS x1)), (11, (pT 11000 0))], [(11000, ⟨[.nums .u64 88 x2, .one (.sl 11500 none x3 1), .one (.int .i64 x4)], 45, 1⟩), (11500, ⟨[.nums .u8 x5 x6], 5, 2⟩)]⟩
theorem g7R13 {R : Type} (A : Ar) (n : Nat) (K : Ex → St → Option R) (x0 : Bool) (x1 x2 : List Nat) (x3 : Nat) (x4 : Int) (x5 : Nat) (x6 : List Nat) : g7D A n (pth 1279) K ⟨[(7, (bO x0)), (10, (tS x1)), (11, (pT 11000 0))], [(11000, ⟨[.nums .u64 88 x2, .one (.sl 11500 none x3 1), .one (.int .i64 x4)], 45, 1⟩), (11500, ⟨[.nums .u8 x5 x6], 5, 2⟩)]⟩ = K .normal (g7R13s0 A x0 x1 x2 x3 x4 x5 x6) := by kernel_rfl
def g7R9s0 (A : Ar) (x0 : List Nat) (x1 : Bool) (x2 x3 : Nat) (x4 : List Nat) : St := ⟨[(10, (tS ((x4.take x2) ++ ((x0.take (A.toN (A.mn (A.ofN x0.length) 20))).drop 0)))), (38, (tS ((x4.take x2) ++ ((x0.take (A.toN (A.mn (A.ofN x0.length) 20))).drop 0)))), (37, (tS ((x0.take (A.toN (A.mn (A.ofN x0.length) 20))).drop 0))), (36, (i6 (A.mn (A.ofN x0.length) 20))), (35, (i6 (A.ofN x0.length))), (34, (tS x0)), (33, (tS x0)), (32, (tS (x4.take x2))), (31, (sL 5004 none x2 1)), (2, (tS x0)), (7, (bO x1)), (8, (sL 5004 none x2 1))], [(5004, ⟨[.nums .u8 x3 x4], 5, 2⟩)]⟩
theorem g7R9 {R : Type} (A : Ar) (n : Nat) (K : Ex → St → Option R) (x0 : List Nat) (x1 : Bool) (x2 x3 : Nat) (x4 : List Nat) : g7D A n (pth 95) K ⟨[(2, (tS x0)), (7, (bO x1)), (8, (sL 5004 none x2 1))], [(5004, ⟨[.nums .u8 x3 x4], 5, 2⟩)]⟩ = match (generalizing := false) A.neg (A.mn (A.ofN x0.length) 20) with
    | true => none
    | false => match (generalizing := false) A.le (A.toN (A.mn (A.ofN x0.length) 20)) x0.length with
      | true => match (generalizing := false) A.le ((x4.take x2).length + ((x0.take (A.toN (A.mn (A.ofN x0.length) 20))).drop 0).length) 9223372036854775807 with
        | true => K .normal (g7R9s0 A x0 x1 x2 x3 x4)
        | false => none
      | false => none := by kernel_rfl
def g7R10s0 (A : Ar) (x0 : Bool) (x1 : List Nat) : St := ⟨[(11, (pT 11000 0)), (39, (pT 11000 0)), (7, (bO x0)), (10, (tS x1))], [(11500, ⟨[.nums .u8 0 []], 5, 2⟩), (11000, ⟨[.nums .u64 88 (g11r0 A), .one (.sl 11500 none 0 1), .one (.int .i64 (g11r1 A))], 45, 1⟩)]⟩
theorem g7R10 {R : Type} (A : Ar) (n : Nat) (K : Ex → St → Option R) (x0 : Bool) (x1 : List Nat) : g7D A n (pth 191) K ⟨[(7, (bO x0)), (10, (tS x1))], []⟩ = match (generalizing := false) g11ok A with
    | true => K .normal (g7R10s0 A x0 x1)
    | false => none := by kernel_rfl
def g7R11s0 (A : Ar) (x0 : Bool) (x1 x2 : List Nat) (x3 : Nat) (x4 : Int) (x5 : Nat) (x6 : List Nat) : St := ⟨[(41, (bO false)), (40, (pT 11000 0)), (7, (bO x0)), (10, (tS x1)), (11, (pT 11000 0))], [(11000, ⟨[.nums .u64 88 x2, .one (.sl 11500 none x3 1), .one (.int .i64 x4)], 45, 1⟩), (11500, ⟨[.nums .u8 x5 x6], 5, 2⟩)]⟩
theorem g7R11 {R : Type} (A : Ar) (n : Nat) (K : Ex → St → Option R) (x0 : Bool) (x1 x2 : List Nat) (x3 : Nat) (x4 : Int) (x5 : Nat) (x6 : List Nat) : g7D A n (pth 639) K ⟨[(7, (bO x0)), (10, (tS x1)), (11, (pT 11000 0))], [(11000, ⟨[.nums .u64 88 x2, .one (.sl 11500 none x3 1), .one (.int .i64 x4)], 45, 1⟩), (11500, ⟨[.nums .u8 x5 x6], 5, 2⟩)]⟩ = K .normal (g7R11s0 A x0 x1 x2 x3 x4 x5 x6) := by kernel_rfl
def g7R6s0 (A : Ar) (x0 : Nat) (x1 : List Nat) (x2 : Bool) (x3 : Nat) (x4 : Int) (x5 : Nat) (x6 : List Nat) : St := ⟨[(24, (bO (A.ic .lss x4 (A.ofN x3)))), (23, (i6 (A.ofN x3))), (22, (sL 5004 none x3 1)), (21, (i6 x4)), (0, (u8v x0)), (2, (tS x1)), (7, (bO x2)), (8, (sL 5004 none x3 1)), (9, (i6 x4))], [(5004, ⟨[.nums .u8 x5 x6], 5, 2⟩)]⟩
theorem g7R6 {R : Type} (A : Ar) (n : Nat) (K : Ex → St → Option R) (x0 : Nat) (x1 : List Nat) (x2 : Bool) (x3 : Nat) (x4 : Int) (x5 : Nat) (x6 : List Nat) : g7D A n (pth 1071) K ⟨[(0, (u8v x0)), (2, (tS x1)), (7, (bO x2)), (8, (sL 5004 none x3 1)), (9, (i6 x4))], [(5004, ⟨[.nums .u8 x5 x6], 5, 2⟩)]⟩ = K .normal (g7R6s0 A x0 x1 x2 x3 x4 x5 x6) := by kernel_rfl
def g7R4s0 (A : Ar) (x0 x1 : Nat) (x2 : List Nat) (x3 : Bool) : St := ⟨[(8, (sL 5004 none (A.toN (A.ib .add .i64 108 (A.ofN (A.nb .rem .u8 x1 41)))) 1)), (20, (sL 5004 none (A.toN (A.ib .add .i64 108 (A.ofN (A.nb .rem .u8 x1 41)))) 1)), (19, (i6 (A.ib .add .i64 108 (A.ofN (A.nb .rem .u8 x1 41))))), (18, (i6 (A.ofN (A.nb .rem .u8 x1 41)))), (17, (u8v (A.nb .rem .u8 x1 41))), (16, (u8v x1)), (0, (u8v x0)), (1, (u8v x1)), (2, (tS x2)), (7, (bO x3))], [(5004, ⟨[.nums .u8 (A.toN (A.ib .add .i64 108 (A.ofN (A.nb .rem .u8 x1 41)))) (List.replicate (A.toN (A.ib .add .i64 108 (A.ofN (A.nb .rem .u8 x1 41)))) 0)], 5, 2⟩)]⟩
theorem g7R4 {R : Type} (A : Ar) (n : Nat) (K : Ex → St → Option R) (x0 x1 : Nat) (x2 : List Nat) (x3 : Bool) : g7D A n (pth 23) K ⟨[(0, (u8v x0)), (1, (u8v x1)), (2, (tS x2)), (7, (bO x3))], []⟩ = match (generalizing := false) A.neg (A.ib .add .i64 108 (A.ofN (A.nb .rem .u8 x1 41))) with
    | true => none
    | false => match (generalizing := false) A.neg (A.ib .add .i64 108 (A.ofN (A.nb .rem .u8 x1 41))) with
      | true => none
      | false => match (generalizing := false) A.le (A.toN (A.ib .add .i64 108 (A.ofN (A.nb .rem .u8 x1 41)))) (A.toN (A.ib .add .i64 108 (A.ofN (A.nb .rem .u8 x1 41)))) with
        | true => match (generalizing := false) A.le (A.toN (A.ib .add .i64 108 (A.ofN (A.nb .rem .u8 x1 41)))) 140737488355328 with
          | true => K .normal (g7R4s0 A x0 x1 x2 x3)
          | false => none
        | false => none := by kernel_rfl
def g7R5s0 (A : Ar) (x0 : Nat) (x1 : List Nat) (x2 : Bool) (x3 x4 : Nat) (x5 : List Nat) : St := ⟨[(9, (i6 0)), (0, (u8v x0)), (2, (tS x1)), (7, (bO x2)), (8, (sL 5004 none x3 1))], [(5004, ⟨[.nums .u8 x4 x5], 5, 2⟩)]⟩
theorem g7R5 {R : Type} (A : Ar) (n : Nat) (K : Ex → St → Option R) (x0 : Nat) (x1 : List Nat) (x2 : Bool) (x3 x4 : Nat) (x5 : List Nat) : g7D A n (pth 79) K ⟨[(0, (u8v x0)), (2, (tS x1)), (7, (bO x2)), (8, (sL 5004 none x3 1))], [(5004, ⟨[.nums .u8 x4 x5], 5, 2⟩)]⟩ = K .normal (g7R5s0 A x0 x1 x2 x3 x4 x5) := by kernel_rfl
def g7R0s0 (A : Ar) (x0 x1 : Nat) (x2 : List Nat) : St := ⟨[(6, (bO false)), (0, (u8v x0)), (1, (u8v x1)), (2, (tS x2))], []⟩
theorem g7R0 {R : Type} (A : Ar) (n : Nat) (K : Ex → St → Option R) (x0 x1 : Nat) (x2 : List Nat) : g7D A n (pth 2) K ⟨[(0, (u8v x0)), (1, (u8v x1)), (2, (tS x2))], []⟩ = K .normal (g7R0s0 A x0 x1 x2) := by kernel_rfl
def g7R1s0 (A : Ar) (x0 x1 : Nat) (x2 : List Nat) : St := ⟨[(7, (bO (g8r0 A))), (13, (bO (g8r0 A))), (0, (u8v x0)), (1, (u8v x1)), (2, (tS x2))], []⟩
theorem g7R1 {R : Type} (A : Ar) (n : Nat) (K : Ex → St → Option R) (x0 x1 : Nat) (x2 : List Nat) : g7D A n (pth 5) K ⟨[(0, (u8v x0)), (1, (u8v x1)), (2, (tS x2))], []⟩ = match (generalizing := false) g8ok A with
    | true => K .normal (g7R1s0 A x0 x1 x2)
    | false => none := by kernel_rfl
def g7R2s0 (A : Ar) (x0 x1 : Nat) (x2 : List Nat) (x3 : Bool) : St := ⟨[(15, (bO (!x3))), (14, (bO x3)), (0, (u8v x0)), (1, (u8v x1)), (2, (tS x2)), (7, (bO x3))], []⟩
theorem g7R2 {R : Type} (A : Ar) (n : Nat) (K : Ex → St → Option R) (x0 x1 : Nat) (x2 : List Nat) (x3 : Bool) : g7D A n (pth 19) K ⟨[(0, (u8v x0)), (1, (u8v x1)), (2, (tS x2)), (7, (bO x3))], []⟩ = K .normal (g7R2s0 A x0 x1 x2 x3) := by kernel_rfl
def g7R3s0 (A : Ar)  : St := ⟨[(6, (bO false))], []⟩
theorem g7R3 {R : Type} (A : Ar) (n : Nat) (K : Ex → St → Option R)  : g7D A n (pth 75) K ⟨[], []⟩ = K .normal (g7R3s0 A) := by kernel_rfl
def g7J8 {R : Type} (A : Ar) (n : Nat) (kk : AV → Heap → Option R) (lg7L6 : Nat → List Nat → Bool → Nat → Int → Nat → List Nat → Option R) (x0 : Nat) (x1 : List Nat) (x2 : Bool) (x3 : Nat) (x4 : Int) (x5 : Nat) (x6 : List Nat) : Option R :=
  match (generalizing := false) A.neg x4 with
  | true => none
  | false => match (generalizing := false) A.lt (A.toN x4) x3 with
    | true => lg7L6 x0 x1 x2 x3 (A.ib .add .i64 x4 1) x5 (x6.set (A.toN x4) x0)
    | false => none
set_option maxRecDepth 100000 in
theorem g7J8_eq {R : Type} (A : Ar) (n : Nat) (kk : AV → Heap → Option R) (m0 : Nat) (lg7L6 : Nat → List Nat → Bool → Nat → Int → Nat → List Nat → Option R) 
    (hg7L6 : ∀ (s : St) (x0 : Nat) (x1 : List Nat) (x2 : Bool) (x3 : Nat) (x4 : Int) (x5 : Nat) (x6 : List Nat), keep g7an 6 s = ⟨[(0, (u8v x0)), (2, (tS x1)), (7, (bO x2)), (8, (sL 5004 none x3 1)), (9, (i6 x4))], [(5004, ⟨[.nums .u8 x5 x6], 5, 2⟩)]⟩ → g7V A n (pth 303) m0 (blockK 0 (g7Q A n (pth 63) (g7T kk))) s = lg7L6 x0 x1 x2 x3 x4 x5 x6) (s : St) (x0 : Nat) (x1 : List Nat) (x2 : Bool) (x3 : Nat) (x4 : Int) (x5 : Nat) (x6 : List Nat) (h : keep g7an 8 s = ⟨[(0, (u8v x0)), (2, (tS x1)), (7, (bO x2)), (8, (sL 5004 none x3 1)), (9, (i6 x4))], [(5004, ⟨[.nums .u8 x5 x6], 5, 2⟩)]⟩) :
    g7D A n (pth 815) (g7W A n (pth 303) m0 (blockK 0 (g7Q A n (pth 63) (g7T kk)))) s = g7J8 A n kk lg7L6 x0 x1 x2 x3 x4 x5 x6 := by
  have h1 := (g7Wn A n _ _ _ _).trans (hg7L6 (g7R7s0 A x0 x1 x2 x3 x4 x5 (x6.set (A.toN x4) x0)) x0 x1 x2 x3 (A.ib .add .i64 x4 1) x5 (x6.set (A.toN x4) x0) (by kernel_rfl))
  have h2 := (g7F A n _ 7 _ (g7R8s0 A x0 x1 x2 x3 x4 x5 x6) _ (by kernel_rfl) (by kernel_rfl)).trans (g7R7 A n (g7W A n (pth 303) m0 (blockK 0 (g7Q A n (pth 63) (g7T kk)))) x0 x1 x2 x3 x4 x5 (x6.set (A.toN x4) x0))
  rw [h1] at h2
  have h3 := (g7Qn A n _ _ _).trans h2
  have h4 := (blockK_n 1 _ _).trans h3
  have h5 := (g7F A n _ 8 _ ⟨[(0, (u8v x0)), (2, (tS x1)), (7, (bO x2)), (8, (sL 5004 none x3 1)), (9, (i6 x4))], [(5004, ⟨[.nums .u8 x5 x6], 5, 2⟩)]⟩ _ (by kernel_rfl) (by kernel_rfl)).trans (g7R8 A n (blockK 1 (g7Q A n (pth 1839) (g7W A n (pth 303) m0 (blockK 0 (g7Q A n (pth 63) (g7T kk)))))) x0 x1 x2 x3 x4 x5 x6)
  rw [h4] at h5
  have h6 := (g7p1327 A n _ _).trans h5
  have h7 := (g7p815 A n _ _).trans h6
  exact (g7F A n _ 8 _ _ ⟨[(0, (u8v x0)), (2, (tS x1)), (7, (bO x2)), (8, (sL 5004 none x3 1)), (9, (i6 x4))], [(5004, ⟨[.nums .u8 x5 x6], 5, 2⟩)]⟩ (by kernel_rfl) (h.trans (by kernel_rfl))).trans (h7.trans (by kernel_rfl))
def g7J16a {R : Type} (A : Ar) (n : Nat) (kk : AV → Heap → Option R) (lg7L14a : Bool → List Nat → Int → List Nat → Nat → Nat → Int → Nat → List Nat → Option R) (x0 : Bool) (x1 : List Nat) (x2 : Int) (x3 : List Nat) (x4 x5 : Nat) (x6 : Int) (x7 : Nat) (x8 : List Nat) : Option R :=
  match (generalizing := false) A.neg (A.ib .add .i64 x2 1) with
  | true => none
  | false => match (generalizing := false) A.le (A.toN (A.ib .add .i64 x2 1)) x1.length with
    | true => match (generalizing := false) A.neg x2 with
      | true => none
      | false => match (generalizing := false) A.le (A.toN x2) (A.toN (A.ib .add .i64 x2 1)) with
        | true => match (generalizing := false) g12ok A ((x1.take (A.toN (A.ib .add .i64 x2 1))).drop (A.toN x2)) x3 x4 x5 x6 x7 x8 with
          | true => lg7L14a x0 x1 (A.ib .add .i64 x2 1) (g12r0 A ((x1.take (A.toN (A.ib .add .i64 x2 1))).drop (A.toN x2)) x3 x4 x5 x6 x7 x8) (g12r1 A ((x1.take (A.toN (A.ib .add .i64 x2 1))).drop (A.toN x2)) x3 x4 x5 x6 x7 x8) (g12r2 A ((x1.take (A.toN (A.ib .add .i64 x2 1))).drop (A.toN x2)) x3 x4 x5 x6 x7 x8) (g12r3 A ((x1.take (A.toN (A.ib .add .i64 x2 1))).drop (A.toN x2)) x3 x4 x5 x6 x7 x8) (g12r4 A ((x1.take (A.toN (A.ib .add .i64 x2 1))).drop (A.toN x2)) x3 x4 x5 x6 x7 x8) (g12r5 A ((x1.take (A.toN (A.ib .add .i64 x2 1))).drop (A.toN x2)) x3 x4 x5 x6 x7 x8)
          | false => none
        | false => none
    | false => none
set_option maxRecDepth 100000 in
theorem g7J16a_eq {R : Type} (A : Ar) (n : Nat) (kk : AV → Heap → Option R) (m0 : Nat) (lg7L14a : Bool → List Nat → Int → List Nat → Nat → Nat → Int → Nat → List Nat → Option R) 
    (hg7L14a : ∀ (s : St) (x0 : Bool) (x1 : List Nat) (x2 : Int) (x3 : List Nat) (x4 x5 : Nat) (x6 : Int) (x7 : Nat) (x8 : List Nat), keep g7an 14 s = ⟨[(7, (bO x0)), (10, (tS x1)), (11, (pT 11000 0)), (12, (i6 x2))], [(11000, ⟨[.nums .u64 88 x3, .one (.sl 11500 (some x4) x5 1), .one (.int .i64 x6)], 45, 1⟩), (11500, ⟨[.nums .u8 x7 x8], 5, 2⟩)]⟩ → g7V A n (pth 4863) m0 (blockK 2 (g7Q A n (pth 1023) (g7T kk))) s = lg7L14a x0 x1 x2 x3 x4 x5 x6 x7 x8) (s : St) (x0 : Bool) (x1 : List Nat) (x2 : Int) (x3 : List Nat) (x4 x5 : Nat) (x6 : Int) (x7 : Nat) (x8 : List Nat) (h : keep g7an 16 s = ⟨[(7, (bO x0)), (10, (tS x1)), (11, (pT 11000 0)), (12, (i6 x2))], [(11000, ⟨[.nums .u64 88 x3, .one (.sl 11500 (some x4) x5 1), .one (.int .i64 x6)], 45, 1⟩), (11500, ⟨[.nums .u8 x7 x8], 5, 2⟩)]⟩) :
    g7D A n (pth 13055) (g7W A n (pth 4863) m0 (blockK 2 (g7Q A n (pth 1023) (g7T kk)))) s = g7J16a A n kk lg7L14a x0 x1 x2 x3 x4 x5 x6 x7 x8 := by
  have h1 := (g7Wn A n _ _ _ _).trans (hg7L14a (g7R15s0 A x0 x1 x2 (g12r0 A ((x1.take (A.toN (A.ib .add .i64 x2 1))).drop (A.toN x2)) x3 x4 x5 x6 x7 x8) (g12r1 A ((x1.take (A.toN (A.ib .add .i64 x2 1))).drop (A.toN x2)) x3 x4 x5 x6 x7 x8) (g12r2 A ((x1.take (A.toN (A.ib .add .i64 x2 1))).drop (A.toN x2)) x3 x4 x5 x6 x7 x8) (g12r3 A ((x1.take (A.toN (A.ib .add .i64 x2 1))).drop (A.toN x2)) x3 x4 x5 x6 x7 x8) (g12r4 A ((x1.take (A.toN (A.ib .add .i64 x2 1))).drop (A.toN x2)) x3 x4 x5 x6 x7 x8) (g12r5 A ((x1.take (A.toN (A.ib .add .i64 x2 1))).drop (A.toN x2)) x3 x4 x5 x6 x7 x8)) x0 x1 (A.ib .add .i64 x2 1) (g12r0 A ((x1.take (A.toN (A.ib .add .i64 x2 1))).drop (A.toN x2)) x3 x4 x5 x6 x7 x8) (g12r1 A ((x1.take (A.toN (A.ib .add .i64 x2 1))).drop (A.toN x2)) x3 x4 x5 x6 x7 x8) (g12r2 A ((x1.take (A.toN (A.ib .add .i64 x2 1))).drop (A.toN x2)) x3 x4 x5 x6 x7 x8) (g12r3 A ((x1.take (A.toN (A.ib .add .i64 x2 1))).drop (A.toN x2)) x3 x4 x5 x6 x7 x8) (g12r4 A ((x1.take (A.toN (A.ib .add .i64 x2 1))).drop (A.toN x2)) x3 x4 x5 x6 x7 x8) (g12r5 A ((x1.take (A.toN (A.ib .add .i64 x2 1))).drop (A.toN x2)) x3 x4 x5 x6 x7 x8) (by kernel_rfl))
  have h2 := (g7F A n _ 15 _ (g7R16s0 A x0 x1 x2 x3 x4 x5 x6 x7 x8) _ (by kernel_rfl) (by kernel_rfl)).trans (g7R15 A n (g7W A n (pth 4863) m0 (blockK 2 (g7Q A n (pth 1023) (g7T kk)))) x0 x1 x2 (g12r0 A ((x1.take (A.toN (A.ib .add .i64 x2 1))).drop (A.toN x2)) x3 x4 x5 x6 x7 x8) (g12r1 A ((x1.take (A.toN (A.ib .add .i64 x2 1))).drop (A.toN x2)) x3 x4 x5 x6 x7 x8) (g12r2 A ((x1.take (A.toN (A.ib .add .i64 x2 1))).drop (A.toN x2)) x3 x4 x5 x6 x7 x8) (g12r3 A ((x1.take (A.toN (A.ib .add .i64 x2 1))).drop (A.toN x2)) x3 x4 x5 x6 x7 x8) (g12r4 A ((x1.take (A.toN (A.ib .add .i64 x2 1))).drop (A.toN x2)) x3 x4 x5 x6 x7 x8) (g12r5 A ((x1.take (A.toN (A.ib .add .i64 x2 1))).drop (A.toN x2)) x3 x4 x5 x6 x7 x8))
  rw [h1] at h2
  have h3 := (g7Qn A n _ _ _).trans h2
  have h4 := (blockK_n 3 _ _).trans h3
  have h5 := (g7F A n _ 16 _ ⟨[(7, (bO x0)), (10, (tS x1)), (11, (pT 11000 0)), (12, (i6 x2))], [(11000, ⟨[.nums .u64 88 x3, .one (.sl 11500 (some x4) x5 1), .one (.int .i64 x6)], 45, 1⟩), (11500, ⟨[.nums .u8 x7 x8], 5, 2⟩)]⟩ _ (by kernel_rfl) (by kernel_rfl)).trans (g7R16 A n (blockK 3 (g7Q A n (pth 29439) (g7W A n (pth 4863) m0 (blockK 2 (g7Q A n (pth 1023) (g7T kk)))))) x0 x1 x2 x3 x4 x5 x6 x7 x8)
  rw [h4] at h5
  have h6 := (g7p21247 A n _ _).trans h5
  have h7 := (g7p13055 A n _ _).trans h6
  exact (g7F A n _ 16 _ _ ⟨[(7, (bO x0)), (10, (tS x1)), (11, (pT 11000 0)), (12, (i6 x2))], [(11000, ⟨[.nums .u64 88 x3, .one (.sl 11500 (some x4) x5 1), .one (.int .i64 x6)], 45, 1⟩), (11500, ⟨[.nums .u8 x7 x8], 5, 2⟩)]⟩ (by kernel_rfl) (h.trans (by kernel_rfl))).trans (h7.trans (by kernel_rfl))
def g7J17 {R : Type} (A : Ar) (n : Nat) (kk : AV → Heap → Option R)  (x0 : Bool) (x1 x2 : List Nat) (x3 x4 : Nat) (x5 : Int) (x6 : Nat) (x7 : List Nat) : Option R :=
  match (generalizing := false) x0 with
  | true => match (generalizing := false) g13ok A x2 x3 x4 x5 x6 x7 with
    | true => match (generalizing := false) g9ok A x1 with
      | true => match (generalizing := false) A.sc .eql (g13r0 A x2 x3 x4 x5 x6 x7) (g9r0 A x1) with
        | true => match (generalizing := false) g14ok A (g13r1 A x2 x3 x4 x5 x6 x7) (g13r2 A x2 x3 x4 x5 x6 x7) (g13r3 A x2 x3 x4 x5 x6 x7) (g13r4 A x2 x3 x4 x5 x6 x7) (g13r5 A x2 x3 x4 x5 x6 x7) (g13r6 A x2 x3 x4 x5 x6 x7) with
          | true => kk (bO (A.ic .eql (g7t0 A x2 x3 x4 x5 x6 x7) (A.ofN x1.length))) [(11000, ⟨[.nums .u64 88 (g7t1 A x2 x3 x4 x5 x6 x7), .one (.sl 11500 (some (g7t2 A x2 x3 x4 x5 x6 x7)) (g7t3 A x2 x3 x4 x5 x6 x7) 1), .one (.int .i64 (g7t4 A x2 x3 x4 x5 x6 x7))], 45, 1⟩), (11500, ⟨[.nums .u8 (g7t5 A x2 x3 x4 x5 x6 x7) (g7t6 A x2 x3 x4 x5 x6 x7)], 5, 2⟩)]
          | false => none
        | false => kk (bO false) [(11000, ⟨[.nums .u64 88 (g13r1 A x2 x3 x4 x5 x6 x7), .one (.sl 11500 (some (g13r2 A x2 x3 x4 x5 x6 x7)) (g13r3 A x2 x3 x4 x5 x6 x7) 1), .one (.int .i64 (g13r4 A x2 x3 x4 x5 x6 x7))], 45, 1⟩), (11500, ⟨[.nums .u8 (g13r5 A x2 x3 x4 x5 x6 x7) (g13r6 A x2 x3 x4 x5 x6 x7)], 5, 2⟩)]
      | false => none
    | false => none
  | false => kk (bO false) [(11000, ⟨[.nums .u64 88 x2, .one (.sl 11500 (some x3) x4 1), .one (.int .i64 x5)], 45, 1⟩), (11500, ⟨[.nums .u8 x6 x7], 5, 2⟩)]
set_option maxRecDepth 100000 in
theorem g7J17_eq {R : Type} (A : Ar) (n : Nat) (kk : AV → Heap → Option R)    (s : St) (x0 : Bool) (x1 x2 : List Nat) (x3 x4 : Nat) (x5 : Int) (x6 : Nat) (x7 : List Nat) (h : keep g7an 17 s = ⟨[(7, (bO x0)), (10, (tS x1)), (11, (pT 11000 0))], [(11000, ⟨[.nums .u64 88 x2, .one (.sl 11500 (some x3) x4 1), .one (.int .i64 x5)], 45, 1⟩), (11500, ⟨[.nums .u8 x6 x7], 5, 2⟩)]⟩) :
    g7D A n (pth 1023) (g7T kk) s = g7J17 A n kk  x0 x1 x2 x3 x4 x5 x6 x7 := by
  have h1 : (g7T kk) .ret (g7R17s0 A x0 x1 x2 x3 x4 x5 x6 x7) = kk (bO (A.ic .eql (g7t0 A x2 x3 x4 x5 x6 x7) (A.ofN x1.length))) [(11000, ⟨[.nums .u64 88 (g7t1 A x2 x3 x4 x5 x6 x7), .one (.sl 11500 (some (g7t2 A x2 x3 x4 x5 x6 x7)) (g7t3 A x2 x3 x4 x5 x6 x7) 1), .one (.int .i64 (g7t4 A x2 x3 x4 x5 x6 x7))], 45, 1⟩), (11500, ⟨[.nums .u8 (g7t5 A x2 x3 x4 x5 x6 x7) (g7t6 A x2 x3 x4 x5 x6 x7)], 5, 2⟩)] := by kernel_rfl
  have h2 := (g7p2047 A n _ _).trans h1
  have h3 := (g7Qn A n _ _ _).trans h2
  have h4 : (g7T kk) .ret (g7R17s1 A x0 x1 x2 x3 x4 x5 x6 x7) = kk (bO false) [(11000, ⟨[.nums .u64 88 (g13r1 A x2 x3 x4 x5 x6 x7), .one (.sl 11500 (some (g13r2 A x2 x3 x4 x5 x6 x7)) (g13r3 A x2 x3 x4 x5 x6 x7) 1), .one (.int .i64 (g13r4 A x2 x3 x4 x5 x6 x7))], 45, 1⟩), (11500, ⟨[.nums .u8 (g13r5 A x2 x3 x4 x5 x6 x7) (g13r6 A x2 x3 x4 x5 x6 x7)], 5, 2⟩)] := by kernel_rfl
  have h5 := (g7p2047 A n _ _).trans h4
  have h6 := (g7Qn A n _ _ _).trans h5
  have h7 : (g7T kk) .ret (g7R17s2 A x0 x1 x2 x3 x4 x5 x6 x7) = kk (bO false) [(11000, ⟨[.nums .u64 88 x2, .one (.sl 11500 (some x3) x4 1), .one (.int .i64 x5)], 45, 1⟩), (11500, ⟨[.nums .u8 x6 x7], 5, 2⟩)] := by kernel_rfl
  have h8 := (g7p2047 A n _ _).trans h7
  have h9 := (g7Qn A n _ _ _).trans h8
  have h10 := (g7F A n _ 17 _ ⟨[(7, (bO x0)), (10, (tS x1)), (11, (pT 11000 0))], [(11000, ⟨[.nums .u64 88 x2, .one (.sl 11500 (some x3) x4 1), .one (.int .i64 x5)], 45, 1⟩), (11500, ⟨[.nums .u8 x6 x7], 5, 2⟩)]⟩ _ (by kernel_rfl) (by kernel_rfl)).trans (g7R17 A n (g7Q A n (pth 2047) (g7T kk)) x0 x1 x2 x3 x4 x5 x6 x7)
  rw [h3, h6, h9] at h10
  have h11 := (g7p1023 A n _ _).trans h10
  exact (g7F A n _ 17 _ _ ⟨[(7, (bO x0)), (10, (tS x1)), (11, (pT 11000 0))], [(11000, ⟨[.nums .u64 88 x2, .one (.sl 11500 (some x3) x4 1), .one (.int .i64 x5)], 45, 1⟩), (11500, ⟨[.nums .u8 x6 x7], 5, 2⟩)]⟩ (by kernel_rfl) (h.trans (by kernel_rfl))).trans (h11.trans (by kernel_rfl))
def g7L14a {R : Type} (A : Ar) (n : Nat) (kk : AV → Heap → Option R)  : Nat → Bool → List Nat → Int → List Nat → Nat → Nat → Int → Nat → List Nat → Option R
  | 0, _, _, _, _, _, _, _, _, _ => none
  | m + 1, x0, x1, x2, x3, x4, x5, x6, x7, x8 => match (generalizing := false) A.ic .lss x2 (A.ofN x1.length) with
  | true => g7J16a A n kk (g7L14a A n kk  m) x0 x1 x2 x3 x4 x5 x6 x7 x8
  | false => g7J17 A n kk  x0 x1 x3 x4 x5 x6 x7 x8
set_option maxRecDepth 100000 in
theorem g7L14a_eq {R : Type} (A : Ar) (n : Nat) (kk : AV → Heap → Option R)    (m : Nat) (s : St) (x0 : Bool) (x1 : List Nat) (x2 : Int) (x3 : List Nat) (x4 x5 : Nat) (x6 : Int) (x7 : Nat) (x8 : List Nat) (h : keep g7an 14 s = ⟨[(7, (bO x0)), (10, (tS x1)), (11, (pT 11000 0)), (12, (i6 x2))], [(11000, ⟨[.nums .u64 88 x3, .one (.sl 11500 (some x4) x5 1), .one (.int .i64 x6)], 45, 1⟩), (11500, ⟨[.nums .u8 x7 x8], 5, 2⟩)]⟩) :
    g7V A n (pth 4863) m (blockK 2 (g7Q A n (pth 1023) (g7T kk))) s = g7L14a A n kk  m x0 x1 x2 x3 x4 x5 x6 x7 x8 := by
  induction m generalizing s x0 x1 x2 x3 x4 x5 x6 x7 x8 with
  | zero => rfl
  | succ m ih =>
    have h1 := (g7Qn A n _ _ _).trans (g7J16a_eq A n kk m (g7L14a A n kk  m) ih  (g7R14s0 A x0 x1 x2 x3 x4 x5 x6 x7 x8) x0 x1 x2 x3 x4 x5 x6 x7 x8 (by kernel_rfl))
    have h2 := (g7p41727 A n _ _).trans h1
    have h3 := (g7Qn A n _ _ _).trans (g7J17_eq A n kk     (g7R14s0 A x0 x1 x2 x3 x4 x5 x6 x7 x8) x0 x1 x3 x4 x5 x6 x7 x8 (by kernel_rfl))
    have h4 := (blockK_hit 2 _ _).trans h3
    have h5 := (g7We A n (pth 4863) m _ _ _).trans h4
    have h6 := (g7Qe A n (pth 13055) _ _ _).trans h5
    have h7 := (g7p58111 A n _ _).trans h6
    have h8 := g7p25343 A n (g7Q A n (pth 13055) (g7W A n (pth 4863) m (blockK 2 (g7Q A n (pth 1023) (g7T kk))))) (g7R14s0 A x0 x1 x2 x3 x4 x5 x6 x7 x8) (A.ic .lss x2 (A.ofN x1.length)) (by kernel_rfl)
    rw [h2, h7] at h8
    have h9 := (g7Qn A n _ _ _).trans h8
    have h10 := (g7F A n _ 14 _ ⟨[(7, (bO x0)), (10, (tS x1)), (11, (pT 11000 0)), (12, (i6 x2))], [(11000, ⟨[.nums .u64 88 x3, .one (.sl 11500 (some x4) x5 1), .one (.int .i64 x6)], 45, 1⟩), (11500, ⟨[.nums .u8 x7 x8], 5, 2⟩)]⟩ _ (by kernel_rfl) (by kernel_rfl)).trans (g7R14 A n (g7Q A n (pth 25343) (g7Q A n (pth 13055) (g7W A n (pth 4863) m (blockK 2 (g7Q A n (pth 1023) (g7T kk)))))) x0 x1 x2 x3 x4 x5 x6 x7 x8)
    rw [h9] at h10
    have h11 := (g7p8959 A n _ _).trans h10
    have h12 := (g7p4863 A n _ _).trans h11
    exact (loopD_first (s' := ⟨[(7, (bO x0)), (10, (tS x1)), (11, (pT 11000 0)), (12, (i6 x2))], [(11000, ⟨[.nums .u64 88 x3, .one (.sl 11500 (some x4) x5 1), .one (.int .i64 x6)], 45, 1⟩), (11500, ⟨[.nums .u8 x7 x8], 5, 2⟩)]⟩) (id := 14) (by kernel_rfl) (h.trans (by kernel_rfl)) _).trans ((g7Vs A n _ m _ _).trans (h12.trans (by kernel_rfl)))
def g7J16 {R : Type} (A : Ar) (n : Nat) (kk : AV → Heap → Option R) (lg7L14a : Bool → List Nat → Int → List Nat → Nat → Nat → Int → Nat → List Nat → Option R) (x0 : Bool) (x1 : List Nat) (x2 : Int) (x3 : List Nat) (x4 : Nat) (x5 : Int) (x6 : Nat) (x7 : List Nat) : Option R :=
  match (generalizing := false) A.neg (A.ib .add .i64 x2 1) with
  | true => none
  | false => match (generalizing := false) A.le (A.toN (A.ib .add .i64 x2 1)) x1.length with
    | true => match (generalizing := false) A.neg x2 with
      | true => none
      | false => match (generalizing := false) A.le (A.toN x2) (A.toN (A.ib .add .i64 x2 1)) with
        | true => match (generalizing := false) g12ok A ((x1.take (A.toN (A.ib .add .i64 x2 1))).drop (A.toN x2)) x3 0 x4 x5 x6 x7 with
          | true => lg7L14a x0 x1 (A.ib .add .i64 x2 1) (g12r0 A ((x1.take (A.toN (A.ib .add .i64 x2 1))).drop (A.toN x2)) x3 0 x4 x5 x6 x7) (g12r1 A ((x1.take (A.toN (A.ib .add .i64 x2 1))).drop (A.toN x2)) x3 0 x4 x5 x6 x7) (g12r2 A ((x1.take (A.toN (A.ib .add .i64 x2 1))).drop (A.toN x2)) x3 0 x4 x5 x6 x7) (g12r3 A ((x1.take (A.toN (A.ib .add .i64 x2 1))).drop (A.toN x2)) x3 0 x4 x5 x6 x7) (g12r4 A ((x1.take (A.toN (A.ib .add .i64 x2 1))).drop (A.toN x2)) x3 0 x4 x5 x6 x7) (g12r5 A ((x1.take (A.toN (A.ib .add .i64 x2 1))).drop (A.toN x2)) x3 0 x4 x5 x6 x7)
          | false => none
        | false => none
    | false => none
set_option maxRecDepth 100000 in
theorem g7J16_eq {R : Type} (A : Ar) (n : Nat) (kk : AV → Heap → Option R) (m0 : Nat) (lg7L14a : Bool → List Nat → Int → List Nat → Nat → Nat → Int → Nat → List Nat → Option R) 
    (hg7L14a : ∀ (s : St) (x0 : Bool) (x1 : List Nat) (x2 : Int) (x3 : List Nat) (x4 x5 : Nat) (x6 : Int) (x7 : Nat) (x8 : List Nat), keep g7an 14 s = ⟨[(7, (bO x0)), (10, (tS x1)), (11, (pT 11000 0)), (12, (i6 x2))], [(11000, ⟨[.nums .u64 88 x3, .one (.sl 11500 (some x4) x5 1), .one (.int .i64 x6)], 45, 1⟩), (11500, ⟨[.nums .u8 x7 x8], 5, 2⟩)]⟩ → g7V A n (pth 4863) m0 (blockK 2 (g7Q A n (pth 1023) (g7T kk))) s = lg7L14a x0 x1 x2 x3 x4 x5 x6 x7 x8) (s : St) (x0 : Bool) (x1 : List Nat) (x2 : Int) (x3 : List Nat) (x4 : Nat) (x5 : Int) (x6 : Nat) (x7 : List Nat) (h : keep g7an 16 s = ⟨[(7, (bO x0)), (10, (tS x1)), (11, (pT 11000 0)), (12, (i6 x2))], [(11000, ⟨[.nums .u64 88 x3, .one (.sl 11500 none x4 1), .one (.int .i64 x5)], 45, 1⟩), (11500, ⟨[.nums .u8 x6 x7], 5, 2⟩)]⟩) :
    g7D A n (pth 13055) (g7W A n (pth 4863) m0 (blockK 2 (g7Q A n (pth 1023) (g7T kk)))) s = g7J16 A n kk lg7L14a x0 x1 x2 x3 x4 x5 x6 x7 := by
  have h1 := (g7Wn A n _ _ _ _).trans (hg7L14a (g7R15s0 A x0 x1 x2 (g12r0 A ((x1.take (A.toN (A.ib .add .i64 x2 1))).drop (A.toN x2)) x3 0 x4 x5 x6 x7) (g12r1 A ((x1.take (A.toN (A.ib .add .i64 x2 1))).drop (A.toN x2)) x3 0 x4 x5 x6 x7) (g12r2 A ((x1.take (A.toN (A.ib .add .i64 x2 1))).drop (A.toN x2)) x3 0 x4 x5 x6 x7) (g12r3 A ((x1.take (A.toN (A.ib .add .i64 x2 1))).drop (A.toN x2)) x3 0 x4 x5 x6 x7) (g12r4 A ((x1.take (A.toN (A.ib .add .i64 x2 1))).drop (A.toN x2)) x3 0 x4 x5 x6 x7) (g12r5 A ((x1.take (A.toN (A.ib .add .i64 x2 1))).drop (A.toN x2)) x3 0 x4 x5 x6 x7)) x0 x1 (A.ib .add .i64 x2 1) (g12r0 A ((x1.take (A.toN (A.ib .add .i64 x2 1))).drop (A.toN x2)) x3 0 x4 x5 x6 x7) (g12r1 A ((x1.take (A.toN (A.ib .add .i64 x2 1))).drop (A.toN x2)) x3 0 x4 x5 x6 x7) (g12r2 A ((x1.take (A.toN (A.ib .add .i64 x2 1))).drop (A.toN x2)) x3 0 x4 x5 x6 x7) (g12r3 A ((x1.take (A.toN (A.ib .add .i64 x2 1))).drop (A.toN x2)) x3 0 x4 x5 x6 x7) (g12r4 A ((x1.take (A.toN (A.ib .add .i64 x2 1))).drop (A.toN x2)) x3 0 x4 x5 x6 x7) (g12r5 A ((x1.take (A.toN (A.ib .add .i64 x2 1))).drop (A.toN x2)) x3 0 x4 x5 x6 x7) (by kernel_rfl))
  have h2 := (g7F A n _ 15 _ (g7R16as0 A x0 x1 x2 x3 x4 x5 x6 x7) _ (by kernel_rfl) (by kernel_rfl)).trans (g7R15 A n (g7W A n (pth 4863) m0 (blockK 2 (g7Q A n (pth 1023) (g7T kk)))) x0 x1 x2 (g12r0 A ((x1.take (A.toN (A.ib .add .i64 x2 1))).drop (A.toN x2)) x3 0 x4 x5 x6 x7) (g12r1 A ((x1.take (A.toN (A.ib .add .i64 x2 1))).drop (A.toN x2)) x3 0 x4 x5 x6 x7) (g12r2 A ((x1.take (A.toN (A.ib .add .i64 x2 1))).drop (A.toN x2)) x3 0 x4 x5 x6 x7) (g12r3 A ((x1.take (A.toN (A.ib .add .i64 x2 1))).drop (A.toN x2)) x3 0 x4 x5 x6 x7) (g12r4 A ((x1.take (A.toN (A.ib .add .i64 x2 1))).drop (A.toN x2)) x3 0 x4 x5 x6 x7) (g12r5 A ((x1.take (A.toN (A.ib .add .i64 x2 1))).drop (A.toN x2)) x3 0 x4 x5 x6 x7))
  rw [h1] at h2
  have h3 := (g7Qn A n _ _ _).trans h2
  have h4 := (blockK_n 3 _ _).trans h3
  have h5 := (g7F A n _ 16 _ ⟨[(7, (bO x0)), (10, (tS x1)), (11, (pT 11000 0)), (12, (i6 x2))], [(11000, ⟨[.nums .u64 88 x3, .one (.sl 11500 none x4 1), .one (.int .i64 x5)], 45, 1⟩), (11500, ⟨[.nums .u8 x6 x7], 5, 2⟩)]⟩ _ (by kernel_rfl) (by kernel_rfl)).trans (g7R16a A n (blockK 3 (g7Q A n (pth 29439) (g7W A n (pth 4863) m0 (blockK 2 (g7Q A n (pth 1023) (g7T kk)))))) x0 x1 x2 x3 x4 x5 x6 x7)
  rw [h4] at h5
  have h6 := (g7p21247 A n _ _).trans h5
  have h7 := (g7p13055 A n _ _).trans h6
  exact (g7F A n _ 16 _ _ ⟨[(7, (bO x0)), (10, (tS x1)), (11, (pT 11000 0)), (12, (i6 x2))], [(11000, ⟨[.nums .u64 88 x3, .one (.sl 11500 none x4 1), .one (.int .i64 x5)], 45, 1⟩), (11500, ⟨[.nums .u8 x6 x7], 5, 2⟩)]⟩ (by kernel_rfl) (h.trans (by kernel_rfl))).trans (h7.trans (by kernel_rfl))
def g7J17a {R : Type} (A : Ar) (n : Nat) (kk : AV → Heap → Option R)  (x0 : Bool) (x1 x2 : List Nat) (x3 : Nat) (x4 : Int) (x5 : Nat) (x6 : List Nat) : Option R :=
  match (generalizing := false) x0 with
  | true => match (generalizing := false) g13ok A x2 0 x3 x4 x5 x6 with
    | true => match (generalizing := false) g9ok A x1 with
      | true => match (generalizing := false) A.sc .eql (g13r0 A x2 0 x3 x4 x5 x6) (g9r0 A x1) with
        | true => match (generalizing := false) g14ok A (g13r1 A x2 0 x3 x4 x5 x6) (g13r2 A x2 0 x3 x4 x5 x6) (g13r3 A x2 0 x3 x4 x5 x6) (g13r4 A x2 0 x3 x4 x5 x6) (g13r5 A x2 0 x3 x4 x5 x6) (g13r6 A x2 0 x3 x4 x5 x6) with
          | true => kk (bO (A.ic .eql (g7t7 A x2 x3 x4 x5 x6) (A.ofN x1.length))) [(11000, ⟨[.nums .u64 88 (g7t8 A x2 x3 x4 x5 x6), .one (.sl 11500 (some (g7t9 A x2 x3 x4 x5 x6)) (g7t10 A x2 x3 x4 x5 x6) 1), .one (.int .i64 (g7t11 A x2 x3 x4 x5 x6))], 45, 1⟩), (11500, ⟨[.nums .u8 (g7t12 A x2 x3 x4 x5 x6) (g7t13 A x2 x3 x4 x5 x6)], 5, 2⟩)]
          | false => none
        | false => kk (bO false) [(11000, ⟨[.nums .u64 88 (g13r1 A x2 0 x3 x4 x5 x6), .one (.sl 11500 (some (g13r2 A x2 0 x3 x4 x5 x6)) (g13r3 A x2 0 x3 x4 x5 x6) 1), .one (.int .i64 (g13r4 A x2 0 x3 x4 x5 x6))], 45, 1⟩), (11500, ⟨[.nums .u8 (g13r5 A x2 0 x3 x4 x5 x6) (g13r6 A x2 0 x3 x4 x5 x6)], 5, 2⟩)]
      | false => none
    | false => none
  | false => kk (bO false) [(11000, ⟨[.nums .u64 88 x2, .one (.sl 11500 none x3 1), .one (.int .i64 x4)], 45, 1⟩), (11500, ⟨[.nums .u8 x5 x6], 5, 2⟩)]
set_option maxRecDepth 100000 in
theorem g7J17a_eq {R : Type} (A : Ar) (n : Nat) (kk : AV → Heap → Option R)    (s : St) (x0 : Bool) (x1 x2 : List Nat) (x3 : Nat) (x4 : Int) (x5 : Nat) (x6 : List Nat) (h : keep g7an 17 s = ⟨[(7, (bO x0)), (10, (tS x1)), (11, (pT 11000 0))], [(11000, ⟨[.nums .u64 88 x2, .one (.sl 11500 none x3 1), .one (.int .i64 x4)], 45, 1⟩), (11500, ⟨[.nums .u8 x5 x6], 5, 2⟩)]⟩) :
    g7D A n (pth 1023) (g7T kk) s = g7J17a A n kk  x0 x1 x2 x3 x4 x5 x6 := by
  have h1 : (g7T kk) .ret (g7R17as0 A x0 x1 x2 x3 x4 x5 x6) = kk (bO (A.ic .eql (g7t7 A x2 x3 x4 x5 x6) (A.ofN x1.length))) [(11000, ⟨[.nums .u64 88 (g7t8 A x2 x3 x4 x5 x6), .one (.sl 11500 (some (g7t9 A x2 x3 x4 x5 x6)) (g7t10 A x2 x3 x4 x5 x6) 1), .one (.int .i64 (g7t11 A x2 x3 x4 x5 x6))], 45, 1⟩), (11500, ⟨[.nums .u8 (g7t12 A x2 x3 x4 x5 x6) (g7t13 A x2 x3 x4 x5 x6)], 5, 2⟩)] := by kernel_rfl
  have h2 := (g7p2047 A n _ _).trans h1
  have h3 := (g7Qn A n _ _ _).trans h2
  have h4 : (g7T kk) .ret (g7R17as1 A x0 x1 x2 x3 x4 x5 x6) = kk (bO false) [(11000, ⟨[.nums .u64 88 (g13r1 A x2 0 x3 x4 x5 x6), .one (.sl 11500 (some (g13r2 A x2 0 x3 x4 x5 x6)) (g13r3 A x2 0 x3 x4 x5 x6) 1), .one (.int .i64 (g13r4 A x2 0 x3 x4 x5 x6))], 45, 1⟩), (11500, ⟨[.nums .u8 (g13r5 A x2 0 x3 x4 x5 x6) (g13r6 A x2 0 x3 x4 x5 x6)], 5, 2⟩)] := by kernel_rfl
  have h5 := (g7p2047 A n _ _).trans h4
  have h6 := (g7Qn A n _ _ _).trans h5
  have h7 : (g7T kk) .ret (g7R17as2 A x0 x1 x2 x3 x4 x5 x6) = kk (bO false) [(11000, ⟨[.nums .u64 88 x2, .one (.sl 11500 none x3 1), .one (.int .i64 x4)], 45, 1⟩), (11500, ⟨[.nums .u8 x5 x6], 5, 2⟩)] := by kernel_rfl
  have h8 := (g7p2047 A n _ _).trans h7
  have h9 := (g7Qn A n _ _ _).trans h8
  have h10 := (g7F A n _ 17 _ ⟨[(7, (bO x0)), (10, (tS x1)), (11, (pT 11000 0))], [(11000, ⟨[.nums .u64 88 x2, .one (.sl 11500 none x3 1), .one (.int .i64 x4)], 45, 1⟩), (11500, ⟨[.nums .u8 x5 x6], 5, 2⟩)]⟩ _ (by kernel_rfl) (by kernel_rfl)).trans (g7R17a A n (g7Q A n (pth 2047) (g7T kk)) x0 x1 x2 x3 x4 x5 x6)
  rw [h3, h6, h9] at h10
  have h11 := (g7p1023 A n _ _).trans h10
  exact (g7F A n _ 17 _ _ ⟨[(7, (bO x0)), (10, (tS x1)), (11, (pT 11000 0))], [(11000, ⟨[.nums .u64 88 x2, .one (.sl 11500 none x3 1), .one (.int .i64 x4)], 45, 1⟩), (11500, ⟨[.nums .u8 x5 x6], 5, 2⟩)]⟩ (by kernel_rfl) (h.trans (by kernel_rfl))).trans (h11.trans (by kernel_rfl))
def g7L14 {R : Type} (A : Ar) (n : Nat) (kk : AV → Heap → Option R)  : Nat → Bool → List Nat → Int → List Nat → Nat → Int → Nat → List Nat → Option R
  | 0, _, _, _, _, _, _, _, _ => none
  | m + 1, x0, x1, x2, x3, x4, x5, x6, x7 => match (generalizing := false) A.ic .lss x2 (A.ofN x1.length) with
  | true => g7J16 A n kk (g7L14a A n kk  m) x0 x1 x2 x3 x4 x5 x6 x7
  | false => g7J17a A n kk  x0 x1 x3 x4 x5 x6 x7
set_option maxRecDepth 100000 in
theorem g7L14_eq {R : Type} (A : Ar) (n : Nat) (kk : AV → Heap → Option R)    (m : Nat) (s : St) (x0 : Bool) (x1 : List Nat) (x2 : Int) (x3 : List Nat) (x4 : Nat) (x5 : Int) (x6 : Nat) (x7 : List Nat) (h : keep g7an 14 s = ⟨[(7, (bO x0)), (10, (tS x1)), (11, (pT 11000 0)), (12, (i6 x2))], [(11000, ⟨[.nums .u64 88 x3, .one (.sl 11500 none x4 1), .one (.int .i64 x5)], 45, 1⟩), (11500, ⟨[.nums .u8 x6 x7], 5, 2⟩)]⟩) :
    g7V A n (pth 4863) m (blockK 2 (g7Q A n (pth 1023) (g7T kk))) s = g7L14 A n kk  m x0 x1 x2 x3 x4 x5 x6 x7 := by
  induction m generalizing s x0 x1 x2 x3 x4 x5 x6 x7 with
  | zero => rfl
  | succ m ih =>
    have h1 := (g7Qn A n _ _ _).trans (g7J16_eq A n kk m (g7L14a A n kk  m) (g7L14a_eq A n kk    m)  (g7R14as0 A x0 x1 x2 x3 x4 x5 x6 x7) x0 x1 x2 x3 x4 x5 x6 x7 (by kernel_rfl))
    have h2 := (g7p41727 A n _ _).trans h1
    have h3 := (g7Qn A n _ _ _).trans (g7J17a_eq A n kk     (g7R14as0 A x0 x1 x2 x3 x4 x5 x6 x7) x0 x1 x3 x4 x5 x6 x7 (by kernel_rfl))
    have h4 := (blockK_hit 2 _ _).trans h3
    have h5 := (g7We A n (pth 4863) m _ _ _).trans h4
    have h6 := (g7Qe A n (pth 13055) _ _ _).trans h5
    have h7 := (g7p58111 A n _ _).trans h6
    have h8 := g7p25343 A n (g7Q A n (pth 13055) (g7W A n (pth 4863) m (blockK 2 (g7Q A n (pth 1023) (g7T kk))))) (g7R14as0 A x0 x1 x2 x3 x4 x5 x6 x7) (A.ic .lss x2 (A.ofN x1.length)) (by kernel_rfl)
    rw [h2, h7] at h8
    have h9 := (g7Qn A n _ _ _).trans h8
    have h10 := (g7F A n _ 14 _ ⟨[(7, (bO x0)), (10, (tS x1)), (11, (pT 11000 0)), (12, (i6 x2))], [(11000, ⟨[.nums .u64 88 x3, .one (.sl 11500 none x4 1), .one (.int .i64 x5)], 45, 1⟩), (11500, ⟨[.nums .u8 x6 x7], 5, 2⟩)]⟩ _ (by kernel_rfl) (by kernel_rfl)).trans (g7R14a A n (g7Q A n (pth 25343) (g7Q A n (pth 13055) (g7W A n (pth 4863) m (blockK 2 (g7Q A n (pth 1023) (g7T kk)))))) x0 x1 x2 x3 x4 x5 x6 x7)
    rw [h9] at h10
    have h11 := (g7p8959 A n _ _).trans h10
    have h12 := (g7p4863 A n _ _).trans h11
    exact (loopD_first (s' := ⟨[(7, (bO x0)), (10, (tS x1)), (11, (pT 11000 0)), (12, (i6 x2))], [(11000, ⟨[.nums .u64 88 x3, .one (.sl 11500 none x4 1), .one (.int .i64 x5)], 45, 1⟩), (11500, ⟨[.nums .u8 x6 x7], 5, 2⟩)]⟩) (id := 14) (by kernel_rfl) (h.trans (by kernel_rfl)) _).trans ((g7Vs A n _ m _ _).trans (h12.trans (by kernel_rfl)))
def g7J13 {R : Type} (A : Ar) (n : Nat) (kk : AV → Heap → Option R)  (x0 : Bool) (x1 x2 : List Nat) (x3 : Nat) (x4 : Int) (x5 : Nat) (x6 : List Nat) : Option R :=
  g7L14 A n kk  n x0 x1 0 x2 x3 x4 x5 x6
set_option maxRecDepth 100000 in
theorem g7J13_eq {R : Type} (A : Ar) (n : Nat) (kk : AV → Heap → Option R)    (s : St) (x0 : Bool) (x1 x2 : List Nat) (x3 : Nat) (x4 : Int) (x5 : Nat) (x6 : List Nat) (h : keep g7an 13 s = ⟨[(7, (bO x0)), (10, (tS x1)), (11, (pT 11000 0))], [(11000, ⟨[.nums .u64 88 x2, .one (.sl 11500 none x3 1), .one (.int .i64 x4)], 45, 1⟩), (11500, ⟨[.nums .u8 x5 x6], 5, 2⟩)]⟩) :
    g7D A n (pth 511) (g7T kk) s = g7J13 A n kk  x0 x1 x2 x3 x4 x5 x6 := by
  have h1 := (g7p2815 A n _ _).trans (g7L14_eq A n kk    n (g7R13s0 A x0 x1 x2 x3 x4 x5 x6) x0 x1 0 x2 x3 x4 x5 x6 (by kernel_rfl))
  have h2 := (g7p1791 A n _ _).trans h1
  have h3 := (g7Qn A n _ _ _).trans h2
  have h4 := (g7F A n _ 13 _ ⟨[(7, (bO x0)), (10, (tS x1)), (11, (pT 11000 0))], [(11000, ⟨[.nums .u64 88 x2, .one (.sl 11500 none x3 1), .one (.int .i64 x4)], 45, 1⟩), (11500, ⟨[.nums .u8 x5 x6], 5, 2⟩)]⟩ _ (by kernel_rfl) (by kernel_rfl)).trans (g7R13 A n (g7Q A n (pth 1791) (g7Q A n (pth 1023) (g7T kk))) x0 x1 x2 x3 x4 x5 x6)
  rw [h3] at h4
  have h5 := (g7p767 A n _ _).trans h4
  have h6 := (g7p511 A n _ _).trans h5
  exact (g7F A n _ 13 _ _ ⟨[(7, (bO x0)), (10, (tS x1)), (11, (pT 11000 0))], [(11000, ⟨[.nums .u64 88 x2, .one (.sl 11500 none x3 1), .one (.int .i64 x4)], 45, 1⟩), (11500, ⟨[.nums .u8 x5 x6], 5, 2⟩)]⟩ (by kernel_rfl) (h.trans (by kernel_rfl))).trans (h6.trans (by kernel_rfl))
def g7J9 {R : Type} (A : Ar) (n : Nat) (kk : AV → Heap → Option R)  (x0 : List Nat) (x1 : Bool) (x2 x3 : Nat) (x4 : List Nat) : Option R :=
  match (generalizing := false) A.neg (A.mn (A.ofN x0.length) 20) with
  | true => none
  | false => match (generalizing := false) A.le (A.toN (A.mn (A.ofN x0.length) 20)) x0.length with
    | true => match (generalizing := false) A.le ((x4.take x2).length + ((x0.take (A.toN (A.mn (A.ofN x0.length) 20))).drop 0).length) 9223372036854775807 with
      | true => match (generalizing := false) g11ok A with
        | true => g7J13 A n kk  x1 ((x4.take x2) ++ ((x0.take (A.toN (A.mn (A.ofN x0.length) 20))).drop 0)) (g11r0 A) 0 (g11r1 A) 0 []
        | false => none
      | false => none
    | false => none
set_option maxRecDepth 100000 in
theorem g7J9_eq {R : Type} (A : Ar) (n : Nat) (kk : AV → Heap → Option R)    (s : St) (x0 : List Nat) (x1 : Bool) (x2 x3 : Nat) (x4 : List Nat) (h : keep g7an 9 s = ⟨[(2, (tS x0)), (7, (bO x1)), (8, (sL 5004 none x2 1))], [(5004, ⟨[.nums .u8 x3 x4], 5, 2⟩)]⟩) :
    g7D A n (pth 63) (g7T kk) s = g7J9 A n kk  x0 x1 x2 x3 x4 := by
  have h1 := (g7Qn A n _ _ _).trans (g7J13_eq A n kk     (g7R11s0 A x1 ((x4.take x2) ++ ((x0.take (A.toN (A.mn (A.ofN x0.length) 20))).drop 0)) (g11r0 A) 0 (g11r1 A) 0 []) x1 ((x4.take x2) ++ ((x0.take (A.toN (A.mn (A.ofN x0.length) 20))).drop 0)) (g11r0 A) 0 (g11r1 A) 0 [] (by kernel_rfl))
  have h2 := (g7p1919 A n _ _).trans h1
  have h3 := (g7p895 A n (g7Q A n (pth 511) (g7T kk)) (g7R11s0 A x1 ((x4.take x2) ++ ((x0.take (A.toN (A.mn (A.ofN x0.length) 20))).drop 0)) (g11r0 A) 0 (g11r1 A) 0 []) false (by kernel_rfl)).trans h2
  have h4 := (g7Qn A n _ _ _).trans h3
  have h5 := (g7F A n _ 11 _ (g7R10s0 A x1 ((x4.take x2) ++ ((x0.take (A.toN (A.mn (A.ofN x0.length) 20))).drop 0))) _ (by kernel_rfl) (by kernel_rfl)).trans (g7R11 A n (g7Q A n (pth 895) (g7Q A n (pth 511) (g7T kk))) x1 ((x4.take x2) ++ ((x0.take (A.toN (A.mn (A.ofN x0.length) 20))).drop 0)) (g11r0 A) 0 (g11r1 A) 0 [])
  rw [h4] at h5
  have h6 := (g7p383 A n _ _).trans h5
  have h7 := (g7p255 A n _ _).trans h6
  have h8 := (g7Qn A n _ _ _).trans h7
  have h9 := (g7F A n _ 10 _ (g7R9s0 A x0 x1 x2 x3 x4) _ (by kernel_rfl) (by kernel_rfl)).trans (g7R10 A n (g7Q A n (pth 255) (g7T kk)) x1 ((x4.take x2) ++ ((x0.take (A.toN (A.mn (A.ofN x0.length) 20))).drop 0)))
  rw [h8] at h9
  have h10 := (g7p127 A n _ _).trans h9
  have h11 := (g7Qn A n _ _ _).trans h10
  have h12 := (g7F A n _ 9 _ ⟨[(2, (tS x0)), (7, (bO x1)), (8, (sL 5004 none x2 1))], [(5004, ⟨[.nums .u8 x3 x4], 5, 2⟩)]⟩ _ (by kernel_rfl) (by kernel_rfl)).trans (g7R9 A n (g7Q A n (pth 127) (g7T kk)) x0 x1 x2 x3 x4)
  rw [h11] at h12
  have h13 := (g7p63 A n _ _).trans h12
  exact (g7F A n _ 9 _ _ ⟨[(2, (tS x0)), (7, (bO x1)), (8, (sL 5004 none x2 1))], [(5004, ⟨[.nums .u8 x3 x4], 5, 2⟩)]⟩ (by kernel_rfl) (h.trans (by kernel_rfl))).trans (h13.trans (by kernel_rfl))
def g7L6 {R : Type} (A : Ar) (n : Nat) (kk : AV → Heap → Option R)  : Nat → Nat → List Nat → Bool → Nat → Int → Nat → List Nat → Option R
  | 0, _, _, _, _, _, _, _ => none
  | m + 1, x0, x1, x2, x3, x4, x5, x6 => match (generalizing := false) A.ic .lss x4 (A.ofN x3) with
  | true => g7J8 A n kk (g7L6 A n kk  m) x0 x1 x2 x3 x4 x5 x6
  | false => g7J9 A n kk  x1 x2 x3 x5 x6
set_option maxRecDepth 100000 in
theorem g7L6_eq {R : Type} (A : Ar) (n : Nat) (kk : AV → Heap → Option R)    (m : Nat) (s : St) (x0 : Nat) (x1 : List Nat) (x2 : Bool) (x3 : Nat) (x4 : Int) (x5 : Nat) (x6 : List Nat) (h : keep g7an 6 s = ⟨[(0, (u8v x0)), (2, (tS x1)), (7, (bO x2)), (8, (sL 5004 none x3 1)), (9, (i6 x4))], [(5004, ⟨[.nums .u8 x5 x6], 5, 2⟩)]⟩) :
    g7V A n (pth 303) m (blockK 0 (g7Q A n (pth 63) (g7T kk))) s = g7L6 A n kk  m x0 x1 x2 x3 x4 x5 x6 := by
  induction m generalizing s x0 x1 x2 x3 x4 x5 x6 with
  | zero => rfl
  | succ m ih =>
    have h1 := (g7Qn A n _ _ _).trans (g7J8_eq A n kk m (g7L6 A n kk  m) ih  (g7R6s0 A x0 x1 x2 x3 x4 x5 x6) x0 x1 x2 x3 x4 x5 x6 (by kernel_rfl))
    have h2 := (g7p2607 A n _ _).trans h1
    have h3 := (g7Qn A n _ _ _).trans (g7J9_eq A n kk     (g7R6s0 A x0 x1 x2 x3 x4 x5 x6) x1 x2 x3 x5 x6 (by kernel_rfl))
    have h4 := (blockK_hit 0 _ _).trans h3
    have h5 := (g7We A n (pth 303) m _ _ _).trans h4
    have h6 := (g7Qe A n (pth 815) _ _ _).trans h5
    have h7 := (g7p3631 A n _ _).trans h6
    have h8 := g7p1583 A n (g7Q A n (pth 815) (g7W A n (pth 303) m (blockK 0 (g7Q A n (pth 63) (g7T kk))))) (g7R6s0 A x0 x1 x2 x3 x4 x5 x6) (A.ic .lss x4 (A.ofN x3)) (by kernel_rfl)
    rw [h2, h7] at h8
    have h9 := (g7Qn A n _ _ _).trans h8
    have h10 := (g7F A n _ 6 _ ⟨[(0, (u8v x0)), (2, (tS x1)), (7, (bO x2)), (8, (sL 5004 none x3 1)), (9, (i6 x4))], [(5004, ⟨[.nums .u8 x5 x6], 5, 2⟩)]⟩ _ (by kernel_rfl) (by kernel_rfl)).trans (g7R6 A n (g7Q A n (pth 1583) (g7Q A n (pth 815) (g7W A n (pth 303) m (blockK 0 (g7Q A n (pth 63) (g7T kk)))))) x0 x1 x2 x3 x4 x5 x6)
    rw [h9] at h10
    have h11 := (g7p559 A n _ _).trans h10
    have h12 := (g7p303 A n _ _).trans h11
    exact (loopD_first (s' := ⟨[(0, (u8v x0)), (2, (tS x1)), (7, (bO x2)), (8, (sL 5004 none x3 1)), (9, (i6 x4))], [(5004, ⟨[.nums .u8 x5 x6], 5, 2⟩)]⟩) (id := 6) (by kernel_rfl) (h.trans (by kernel_rfl)) _).trans ((g7Vs A n _ m _ _).trans (h12.trans (by kernel_rfl)))
def g7J4 {R : Type} (A : Ar) (n : Nat) (kk : AV → Heap → Option R)  (x0 x1 : Nat) (x2 : List Nat) (x3 : Bool) : Option R :=
  match (generalizing := false) A.neg (A.ib .add .i64 108 (A.ofN (A.nb .rem .u8 x1 41))) with
  | true => none
  | false => match (generalizing := false) A.neg (A.ib .add .i64 108 (A.ofN (A.nb .rem .u8 x1 41))) with
    | true => none
    | false => match (generalizing := false) A.le (A.toN (A.ib .add .i64 108 (A.ofN (A.nb .rem .u8 x1 41)))) (A.toN (A.ib .add .i64 108 (A.ofN (A.nb .rem .u8 x1 41)))) with
      | true => match (generalizing := false) A.le (A.toN (A.ib .add .i64 108 (A.ofN (A.nb .rem .u8 x1 41)))) 140737488355328 with
        | true => g7L6 A n kk  n x0 x2 x3 (A.toN (A.ib .add .i64 108 (A.ofN (A.nb .rem .u8 x1 41)))) 0 (A.toN (A.ib .add .i64 108 (A.ofN (A.nb .rem .u8 x1 41)))) (List.replicate (A.toN (A.ib .add .i64 108 (A.ofN (A.nb .rem .u8 x1 41)))) 0)
        | false => none
      | false => none
set_option maxRecDepth 100000 in
theorem g7J4_eq {R : Type} (A : Ar) (n : Nat) (kk : AV → Heap → Option R)    (s : St) (x0 x1 : Nat) (x2 : List Nat) (x3 : Bool) (h : keep g7an 4 s = ⟨[(0, (u8v x0)), (1, (u8v x1)), (2, (tS x2)), (7, (bO x3))], []⟩) :
    g7D A n (pth 15) (g7T kk) s = g7J4 A n kk  x0 x1 x2 x3 := by
  have h1 := (g7p175 A n _ _).trans (g7L6_eq A n kk    n (g7R5s0 A x0 x2 x3 (A.toN (A.ib .add .i64 108 (A.ofN (A.nb .rem .u8 x1 41)))) (A.toN (A.ib .add .i64 108 (A.ofN (A.nb .rem .u8 x1 41)))) (List.replicate (A.toN (A.ib .add .i64 108 (A.ofN (A.nb .rem .u8 x1 41)))) 0)) x0 x2 x3 (A.toN (A.ib .add .i64 108 (A.ofN (A.nb .rem .u8 x1 41)))) 0 (A.toN (A.ib .add .i64 108 (A.ofN (A.nb .rem .u8 x1 41)))) (List.replicate (A.toN (A.ib .add .i64 108 (A.ofN (A.nb .rem .u8 x1 41)))) 0) (by kernel_rfl))
  have h2 := (g7p111 A n _ _).trans h1
  have h3 := (g7Qn A n _ _ _).trans h2
  have h4 := (g7F A n _ 5 _ (g7R4s0 A x0 x1 x2 x3) _ (by kernel_rfl) (by kernel_rfl)).trans (g7R5 A n (g7Q A n (pth 111) (g7Q A n (pth 63) (g7T kk))) x0 x2 x3 (A.toN (A.ib .add .i64 108 (A.ofN (A.nb .rem .u8 x1 41)))) (A.toN (A.ib .add .i64 108 (A.ofN (A.nb .rem .u8 x1 41)))) (List.replicate (A.toN (A.ib .add .i64 108 (A.ofN (A.nb .rem .u8 x1 41)))) 0))
  rw [h3] at h4
  have h5 := (g7p47 A n _ _).trans h4
  have h6 := (g7p31 A n _ _).trans h5
  have h7 := (g7Qn A n _ _ _).trans h6
  have h8 := (g7F A n _ 4 _ ⟨[(0, (u8v x0)), (1, (u8v x1)), (2, (tS x2)), (7, (bO x3))], []⟩ _ (by kernel_rfl) (by kernel_rfl)).trans (g7R4 A n (g7Q A n (pth 31) (g7T kk)) x0 x1 x2 x3)
  rw [h7] at h8
  have h9 := (g7p15 A n _ _).trans h8
  exact (g7F A n _ 4 _ _ ⟨[(0, (u8v x0)), (1, (u8v x1)), (2, (tS x2)), (7, (bO x3))], []⟩ (by kernel_rfl) (h.trans (by kernel_rfl))).trans (h9.trans (by kernel_rfl))
def g7 {R : Type} (A : Ar) (n : Nat) (kk : AV → Heap → Option R) (a b : Nat) (c : List Nat) : Option R :=
  match (generalizing := false) g8ok A with
  | true => match (generalizing := false) !(g8r0 A) with
    | true => kk (bO false) []
    | false => g7J4 A n kk  a b c (g8r0 A)
  | false => none
set_option maxRecDepth 100000 in
theorem g7_eq {R : Type} (A : Ar) (n : Nat) (kk : AV → Heap → Option R) (a b : Nat) (c : List Nat) :
    funD A gtys (g7O A) g7an n (bodyOf Try.f7) g7res [(u8v a), (u8v b), (tS c)] [] kk = g7 A n kk a b c := by
  have h1 : (g7T kk) .ret (g7R3s0 A) = kk (bO false) [] := by kernel_rfl
  have h2 := (g7Qr A n (pth 15) _ _).trans h1
  have h3 := (g7p107 A n _ _).trans h2
  have h4 := (g7Qn A n _ _ _).trans h3
  have h5 := (g7F A n _ 3 _ (g7R2s0 A a b c (g8r0 A)) _ (by kernel_rfl) (by kernel_rfl)).trans (g7R3 A n (g7Q A n (pth 107) (g7Q A n (pth 15) (g7T kk))) )
  rw [h4] at h5
  have h6 := (g7p43 A n _ _).trans h5
  have h7 := (g7Qn A n _ _ _).trans (g7J4_eq A n kk     (g7R2s0 A a b c (g8r0 A)) a b c (g8r0 A) (by kernel_rfl))
  have h8 := (g7p59 A n _ _).trans h7
  have h9 := g7p27 A n (g7Q A n (pth 15) (g7T kk)) (g7R2s0 A a b c (g8r0 A)) (!(g8r0 A)) (by kernel_rfl)
  rw [h6, h8] at h9
  have h10 := (g7Qn A n _ _ _).trans h9
  have h11 := (g7F A n _ 2 _ (g7R1s0 A a b c) _ (by kernel_rfl) (by kernel_rfl)).trans (g7R2 A n (g7Q A n (pth 27) (g7Q A n (pth 15) (g7T kk))) a b c (g8r0 A))
  rw [h10] at h11
  have h12 := (g7p11 A n _ _).trans h11
  have h13 := (g7p7 A n _ _).trans h12
  have h14 := (g7Qn A n _ _ _).trans h13
  have h15 := (g7F A n _ 1 _ (g7R0s0 A a b c) _ (by kernel_rfl) (by kernel_rfl)).trans (g7R1 A n (g7Q A n (pth 7) (g7T kk)) a b c)
  rw [h14] at h15
  have h16 := (g7p3 A n _ _).trans h15
  have h17 := (g7Qn A n _ _ _).trans h16
  have h18 := (g7F A n _ 0 _ ⟨[(0, (u8v a)), (1, (u8v b)), (2, (tS c))], []⟩ _ (by kernel_rfl) (by kernel_rfl)).trans (g7R0 A n (g7Q A n (pth 3) (g7T kk)) a b c)
  rw [h17] at h18
  have h19 := (g7p1 A n _ _).trans h18
  exact (show funD A gtys (g7O A) g7an n (bodyOf Try.f7) g7res [(u8v a), (u8v b), (tS c)] [] kk = g7D A n (pth 1) (g7T kk) ⟨[(0, (u8v a)), (1, (u8v b)), (2, (tS c))], []⟩ from by kernel_rfl).trans (h19.trans (by kernel_rfl))
def g7is (o : Option AV) : Bool := match o with
  | some (.v (.cell (.bool _))) => true
  | _ => false
def g7g0 (o : Option AV) : Bool := match o with
  | some (.v (.cell (.bool x))) => x
  | _ => false
theorem g7is_spec {o : Option AV} (h : g7is o = true) : o = some (.v (.cell (.bool (g7g0 o)))) := by
  unfold g7is at h
  split at h
  · rfl
  · cases h
def g7v (A : Ar) (a b : Nat) (c : List Nat) : Option AV := g7 A (100000) (fun v _ => some v) a b c
def g7ok (A : Ar) (a b : Nat) (c : List Nat) : Bool := g7is (g7v A a b c)
def g7r0 (A : Ar) (a b : Nat) (c : List Nat) : Bool := g7g0 (g7v A a b c)
theorem g7ok_spec {A : Ar} {a b c} (h : g7ok A a b c = true) : g7v A a b c = some (.v (.cell (.bool (g7r0 A a b c)))) := g7is_spec h
def g7o (A : Ar) (args : List AV) : Option (Bool × AV) := match args with
  | [.v (.cell (.nat .u8 a)), .v (.cell (.nat .u8 b)), .v (.cell (.str c))] => some (g7ok A a b c, .v (.cell (.bool (g7r0 A a b c))))
  | _ => none
theorem g7o_sound : ∀ args v, g7o realA args = some (true, v) → Fn1 Try.prog 7 args v := by
  intro args v h
  unfold g7o at h
  split at h
  · rename_i a b c
    simp only [Option.some.injEq, Prod.mk.injEq] at h
    obtain ⟨hc, h⟩ := h
    subst h
    · skip
      exact fn1_of mixed gtysOK g7O_sound g7O_det (an := g7an) (n := 100000) Try.func7 (c := bodyOf Try.f7) rfl (by kernel_rfl) Try.call7 (Nat.le_of_ble_eq_true rfl) (fun b => rfl) (fun _ => (g7_eq realA (100000) (fun v _ => some v) a b c).trans (show g7v realA a b c = _ from g7ok_spec hc))
  · cases h
abbrev g4t7 (A : Ar) (x3 : Int) (x6 : List (List Nat)) (x7 : List Nat) (x8 x9 : Nat) (x10 : Int) (x11 : Nat) (x12 : List Nat) : List Nat := g13r0 A (g12r0 A (((x6.getD (A.toN x3) []).take (A.toN (A.mn (A.ofN ((x6.getD (A.toN x3) []).length)) 200))).drop 0) x7 x8 x9 x10 x11 x12) (g12r1 A (((x6.getD (A.toN x3) []).take (A.toN (A.mn (A.ofN ((x6.getD (A.toN x3) []).length)) 200))).drop 0) x7 x8 x9 x10 x11 x12) (g12r2 A (((x6.getD (A.toN x3) []).take (A.toN (A.mn (A.ofN ((x6.getD (A.toN x3) []).length)) 200))).drop 0) x7 x8 x9 x10 x11 x12) (g12r3 A (((x6.getD (A.toN x3) []).take (A.toN (A.mn (A.ofN ((x6.getD (A.toN x3) []).length)) 200))).drop 0) x7 x8 x9 x10 x11 x12) (g12r4 A (((x6.getD (A.toN x3) []).take (A.toN (A.mn (A.ofN ((x6.getD (A.toN x3) []).length)) 200))).drop 0) x7 x8 x9 x10 x11 x12) (g12r5 A (((x6.getD (A.toN x3) []).take (A.toN (A.mn (A.ofN ((x6.getD (A.toN x3) []).length)) 200))).drop 0) x7 x8 x9 x10 x11 x12)
abbrev g4t8 (A : Ar) (x3 : Int) (x6 : List (List Nat)) (x7 : List Nat) (x8 x9 : Nat) (x10 : Int) (x11 : Nat) (x12 : List Nat) : List Nat := g13r1 A (g12r0 A (((x6.getD (A.toN x3) []).take (A.toN (A.mn (A.ofN ((x6.getD (A.toN x3) []).length)) 200))).drop 0) x7 x8 x9 x10 x11 x12) (g12r1 A (((x6.getD (A.toN x3) []).take (A.toN (A.mn (A.ofN ((x6.getD (A.toN x3) []).length)) 200))).drop 0) x7 x8 x9 x10 x11 x12) (g12r2 A (((x6.getD (A.toN x3) []).take (A.toN (A.mn (A.ofN ((x6.getD (A.toN x3) []).length)) 200))).drop 0) x7 x8 x9 x10 x11 x12) (g12r3 A (((x6.getD (A.toN x3) []).take (A.toN (A.mn (A.ofN ((x6.getD (A.toN x3) []).length)) 200))).drop 0) x7 x8 x9 x10 x11 x12) (g12r4 A (((x6.getD (A.toN x3) []).take (A.toN (A.mn (A.ofN ((x6.getD (A.toN x3) []).length)) 200))).drop 0) x7 x8 x9 x10 x11 x12) (g12r5 A (((x6.getD (A.toN x3) []).take (A.toN (A.mn (A.ofN ((x6.getD (A.toN x3) []).length)) 200))).drop 0) x7 x8 x9 x10 x11 x12)
abbrev g4t9 (A : Ar) (x3 : Int) (x6 : List (List Nat)) (x7 : List Nat) (x8 x9 : Nat) (x10 : Int) (x11 : Nat) (x12 : List Nat) : Nat := g13r2 A (g12r0 A (((x6.getD (A.toN x3) []).take (A.toN (A.mn (A.ofN ((x6.getD (A.toN x3) []).length)) 200))).drop 0) x7 x8 x9 x10 x11 x12) (g12r1 A (((x6.getD (A.toN x3) []).take (A.toN (A.mn (A.ofN ((x6.getD (A.toN x3) []).length)) 200))).drop 0) x7 x8 x9 x10 x11 x12) (g12r2 A (((x6.getD (A.toN x3) []).take (A.toN (A.mn (A.ofN ((x6.getD (A.toN x3) []).length)) 200))).drop 0) x7 x8 x9 x10 x11 x12) (g12r3 A (((x6.getD (A.toN x3) []).take (A.toN (A.mn (A.ofN ((x6.getD (A.toN x3) []).length)) 200))).drop 0) x7 x8 x9 x10 x11 x12) (g12r4 A (((x6.getD (A.toN x3) []).take (A.toN (A.mn (A.ofN ((x6.getD (A.toN x3) []).length)) 200))).drop 0) x7 x8 x9 x10 x11 x12) (g12r5 A (((x6.getD (A.toN x3) []).take (A.toN (A.mn (A.ofN ((x6.getD (A.toN x3) []).length)) 200))).drop 0) x7 x8 x9 x10 x11 x12)
abbrev g4t10 (A : Ar) (x3 : Int) (x6 : List (List Nat)) (x7 : List Nat) (x8 x9 : Nat) (x10 : Int) (x11 : Nat) (x12 : List Nat) : Nat := g13r3 A (g12r0 A (((x6.getD (A.toN x3) []).take (A.toN (A.mn (A.ofN ((x6.getD (A.toN x3) []).length)) 200))).drop 0) x7 x8 x9 x10 x11 x12) (g12r1 A (((x6.getD (A.toN x3) []).take (A.toN (A.mn (A.ofN ((x6.getD (A.toN x3) []).length)) 200))).drop 0) x7 x8 x9 x10 x11 x12) (g12r2 A (((x6.getD (A.toN x3) []).take (A.toN (A.mn (A.ofN ((x6.getD (A.toN x3) []).length)) 200))).drop 0) x7 x8 x9 x10 x11 x12) (g12r3 A (((x6.getD (A.toN x3) []).take (A.toN (A.mn (A.ofN ((x6.getD (A.toN x3) []).length)) 200))).drop 0) x7 x8 x9 x10 x11 x12) (g12r4 A (((x6.getD (A.toN x3) []).take (A.toN (A.mn (A.ofN ((x6.getD (A.toN x3) []).length)) 200))).drop 0) x7 x8 x9 x10 x11 x12) (g12r5 A (((x6.getD (A.toN x3) []).take (A.toN (A.mn (A.ofN ((x6.getD (A.toN x3) []).length)) 200))).drop 0) x7 x8 x9 x10 x11 x12)
abbrev g4t11 (A : Ar) (x3 : Int) (x6 : List (List Nat)) (x7 : List Nat) (x8 x9 : Nat) (x10 : Int) (x11 : Nat) (x12 : List Nat) : Int := g13r4 A (g12r0 A (((x6.getD (A.toN x3) []).take (A.toN (A.mn (A.ofN ((x6.getD (A.toN x3) []).length)) 200))).drop 0) x7 x8 x9 x10 x11 x12) (g12r1 A (((x6.getD (A.toN x3) []).take (A.toN (A.mn (A.ofN ((x6.getD (A.toN x3) []).length)) 200))).drop 0) x7 x8 x9 x10 x11 x12) (g12r2 A (((x6.getD (A.toN x3) []).take (A.toN (A.mn (A.ofN ((x6.getD (A.toN x3) []).length)) 200))).drop 0) x7 x8 x9 x10 x11 x12) (g12r3 A (((x6.getD (A.toN x3) []).take (A.toN (A.mn (A.ofN ((x6.getD (A.toN x3) []).length)) 200))).drop 0) x7 x8 x9 x10 x11 x12) (g12r4 A (((x6.getD (A.toN x3) []).take (A.toN (A.mn (A.ofN ((x6.getD (A.toN x3) []).length)) 200))).drop 0) x7 x8 x9 x10 x11 x12) (g12r5 A (((x6.getD (A.toN x3) []).take (A.toN (A.mn (A.ofN ((x6.getD (A.toN x3) []).length)) 200))).drop 0) x7 x8 x9 x10 x11 x12)
abbrev g4t12 (A : Ar) (x3 : Int) (x6 : List (List Nat)) (x7 : List Nat) (x8 x9 : Nat) (x10 : Int) (x11 : Nat) (x12 : List Nat) : Nat := g13r5 A (g12r0 A (((x6.getD (A.toN x3) []).take (A.toN (A.mn (A.ofN ((x6.getD (A.toN x3) []).length)) 200))).drop 0) x7 x8 x9 x10 x11 x12) (g12r1 A (((x6.getD (A.toN x3) []).take (A.toN (A.mn (A.ofN ((x6.getD (A.toN x3) []).length)) 200))).drop 0) x7 x8 x9 x10 x11 x12) (g12r2 A (((x6.getD (A.toN x3) []).take (A.toN (A.mn (A.ofN ((x6.getD (A.toN x3) []).length)) 200))).drop 0) x7 x8 x9 x10 x11 x12) (g12r3 A (((x6.getD (A.toN x3) []).take (A.toN (A.mn (A.ofN ((x6.getD (A.toN x3) []).length)) 200))).drop 0) x7 x8 x9 x10 x11 x12) (g12r4 A (((x6.getD (A.toN x3) []).take (A.toN (A.mn (A.ofN ((x6.getD (A.toN x3) []).length)) 200))).drop 0) x7 x8 x9 x10 x11 x12) (g12r5 A (((x6.getD (A.toN x3) []).take (A.toN (A.mn (A.ofN ((x6.getD (A.toN x3) []).length)) 200))).drop 0) x7 x8 x9 x10 x11 x12)
abbrev g4t13 (A : Ar) (x3 : Int) (x6 : List (List Nat)) (x7 : List Nat) (x8 x9 : Nat) (x10 : Int) (x11 : Nat) (x12 : List Nat) : List Nat := g13r6 A (g12r0 A (((x6.getD (A.toN x3) []).take (A.toN (A.mn (A.ofN ((x6.getD (A.toN x3) []).length)) 200))).drop 0) x7 x8 x9 x10 x11 x12) (g12r1 A (((x6.getD (A.toN x3) []).take (A.toN (A.mn (A.ofN ((x6.getD (A.toN x3) []).length)) 200))).drop 0) x7 x8 x9 x10 x11 x12) (g12r2 A (((x6.getD (A.toN x3) []).take (A.toN (A.mn (A.ofN ((x6.getD (A.toN x3) []).length)) 200))).drop 0) x7 x8 x9 x10 x11 x12) (g12r3 A (((x6.getD (A.toN x3) []).take (A.toN (A.mn (A.ofN ((x6.getD (A.toN x3) []).length)) 200))).drop 0) x7 x8 x9 x10 x11 x12) (g12r4 A (((x6.getD (A.toN x3) []).take (A.toN (A.mn (A.ofN ((x6.getD (A.toN x3) []).length)) 200))).drop 0) x7 x8 x9 x10 x11 x12) (g12r5 A (((x6.getD (A.toN x3) []).take (A.toN (A.mn (A.ofN ((x6.getD (A.toN x3) []).length)) 200))).drop 0) x7 x8 x9 x10 x11 x12)
abbrev g4t14 (A : Ar) (x3 : Int) (x6 : List (List Nat)) (x7 : List Nat) (x8 x9 : Nat) (x10 : Int) (x11 : Nat) (x12 : List Nat) : Int := g14r0 A (g4t8 A x3 x6 x7 x8 x9 x10 x11 x12) (g4t9 A x3 x6 x7 x8 x9 x10 x11 x12) (g4t10 A x3 x6 x7 x8 x9 x10 x11 x12) (g4t11 A x3 x6 x7 x8 x9 x10 x11 x12) (g4t12 A x3 x6 x7 x8 x9 x10 x11 x12) (g4t13 A x3 x6 x7 x8 x9 x10 x11 x12)
abbrev g4t15 (A : Ar) (x3 : Int) (x6 : List (List Nat)) (x7 : List Nat) (x8 x9 : Nat) (x10 : Int) (x11 : Nat) (x12 : List Nat) : List Nat := g14r1 A (g4t8 A x3 x6 x7 x8 x9 x10 x11 x12) (g4t9 A x3 x6 x7 x8 x9 x10 x11 x12) (g4t10 A x3 x6 x7 x8 x9 x10 x11 x12) (g4t11 A x3 x6 x7 x8 x9 x10 x11 x12) (g4t12 A x3 x6 x7 x8 x9 x10 x11 x12) (g4t13 A x3 x6 x7 x8 x9 x10 x11 x12)
abbrev g4t16 (A : Ar) (x3 : Int) (x6 : List (List Nat)) (x7 : List Nat) (x8 x9 : Nat) (x10 : Int) (x11 : Nat) (x12 : List Nat) : Nat := g14r2 A (g4t8 A x3 x6 x7 x8 x9 x10 x11 x12) (g4t9 A x3 x6 x7 x8 x9 x10 x11 x12) (g4t10 A x3 x6 x7 x8 x9 x10 x11 x12) (g4t11 A x3 x6 x7 x8 x9 x10 x11 x12) (g4t12 A x3 x6 x7 x8 x9 x10 x11 x12) (g4t13 A x3 x6 x7 x8 x9 x10 x11 x12)
abbrev g4t17 (A : Ar) (x3 : Int) (x6 : List (List Nat)) (x7 : List Nat) (x8 x9 : Nat) (x10 : Int) (x11 : Nat) (x12 : List Nat) : Nat := g14r3 A (g4t8 A x3 x6 x7 x8 x9 x10 x11 x12) (g4t9 A x3 x6 x7 x8 x9 x10 x11 x12) (g4t10 A x3 x6 x7 x8 x9 x10 x11 x12) (g4t11 A x3 x6 x7 x8 x9 x10 x11 x12) (g4t12 A x3 x6 x7 x8 x9 x10 x11 x12) (g4t13 A x3 x6 x7 x8 x9 x10 x11 x12)
abbrev g4t18 (A : Ar) (x3 : Int) (x6 : List (List Nat)) (x7 : List Nat) (x8 x9 : Nat) (x10 : Int) (x11 : Nat) (x12 : List Nat) : Int := g14r4 A (g4t8 A x3 x6 x7 x8 x9 x10 x11 x12) (g4t9 A x3 x6 x7 x8 x9 x10 x11 x12) (g4t10 A x3 x6 x7 x8 x9 x10 x11 x12) (g4t11 A x3 x6 x7 x8 x9 x10 x11 x12) (g4t12 A x3 x6 x7 x8 x9 x10 x11 x12) (g4t13 A x3 x6 x7 x8 x9 x10 x11 x12)
abbrev g4t19 (A : Ar) (x3 : Int) (x6 : List (List Nat)) (x7 : List Nat) (x8 x9 : Nat) (x10 : Int) (x11 : Nat) (x12 : List Nat) : Nat := g14r5 A (g4t8 A x3 x6 x7 x8 x9 x10 x11 x12) (g4t9 A x3 x6 x7 x8 x9 x10 x11 x12) (g4t10 A x3 x6 x7 x8 x9 x10 x11 x12) (g4t11 A x3 x6 x7 x8 x9 x10 x11 x12) (g4t12 A x3 x6 x7 x8 x9 x10 x11 x12) (g4t13 A x3 x6 x7 x8 x9 x10 x11 x12)
abbrev g4t20 (A : Ar) (x3 : Int) (x6 : List (List Nat)) (x7 : List Nat) (x8 x9 : Nat) (x10 : Int) (x11 : Nat) (x12 : List Nat) : List Nat := g14r6 A (g4t8 A x3 x6 x7 x8 x9 x10 x11 x12) (g4t9 A x3 x6 x7 x8 x9 x10 x11 x12) (g4t10 A x3 x6 x7 x8 x9 x10 x11 x12) (g4t11 A x3 x6 x7 x8 x9 x10 x11 x12) (g4t12 A x3 x6 x7 x8 x9 x10 x11 x12) (g4t13 A x3 x6 x7 x8 x9 x10 x11 x12)
abbrev g4t21 (A : Ar) (x3 : Int) (x6 : List (List Nat)) (x7 : List Nat) (x8 : Nat) (x9 : Int) (x10 : Nat) (x11 : List Nat) : List Nat := g13r0 A (g12r0 A (((x6.getD (A.toN x3) []).take (A.toN (A.mn (A.ofN ((x6.getD (A.toN x3) []).length)) 200))).drop 0) x7 0 x8 x9 x10 x11) (g12r1 A (((x6.getD (A.toN x3) []).take (A.toN (A.mn (A.ofN ((x6.getD (A.toN x3) []).length)) 200))).drop 0) x7 0 x8 x9 x10 x11) (g12r2 A (((x6.getD (A.toN x3) []).take (A.toN (A.mn (A.ofN ((x6.getD (A.toN x3) []).length)) 200))).drop 0) x7 0 x8 x9 x10 x11) (g12r3 A (((x6.getD (A.toN x3) []).take (A.toN (A.mn (A.ofN ((x6.getD (A.toN x3) []).length)) 200))).drop 0) x7 0 x8 x9 x10 x11) (g12r4 A (((x6.getD (A.toN x3) []).take (A.toN (A.mn (A.ofN ((x6.getD (A.toN x3) []).length)) 200))).drop 0) x7 0 x8 x9 x10 x11) (g12r5 A (((x6.getD (A.toN x3) []).take (A.toN (A.mn (A.ofN ((x6.getD (A.toN x3) []).length)) 200))).drop 0) x7 0 x8 x9 x10 x11)
abbrev g4t22 (A : Ar) (x3 : Int) (x6 : List (List Nat)) (x7 : List Nat) (x8 : Nat) (x9 : Int) (x10 : Nat) (x11 : List Nat) : List Nat := g13r1 A (g12r0 A (((x6.getD (A.toN x3) []).take (A.toN (A.mn (A.ofN ((x6.getD (A.toN x3) []).length)) 200))).drop 0) x7 0 x8 x9 x10 x11) (g12r1 A (((x6.getD (A.toN x3) []).take (A.toN (A.mn (A.ofN ((x6.getD (A.toN x3) []).length)) 200))).drop 0) x7 0 x8 x9 x10 x11) (g12r2 A (((x6.getD (A.toN x3) []).take (A.toN (A.mn (A.ofN ((x6.getD (A.toN x3) []).length)) 200))).drop 0) x7 0 x8 x9 x10 x11) (g12r3 A (((x6.getD (A.toN x3) []).take (A.toN (A.mn (A.ofN ((x6.getD (A.toN x3) []).length)) 200))).drop 0) x7 0 x8 x9 x10 x11) (g12r4 A (((x6.getD (A.toN x3) []).take (A.toN (A.mn (A.ofN ((x6.getD (A.toN x3) []).length)) 200))).drop 0) x7 0 x8 x9 x10 x11) (g12r5 A (((x6.getD (A.toN x3) []).take (A.toN (A.mn (A.ofN ((x6.getD (A.toN x3) []).length)) 200))).drop 0) x7 0 x8 x9 x10 x11)
abbrev g4t23 (A : Ar) (x3 : Int) (x6 : List (List Nat)) (x7 : List Nat) (x8 : Nat) (x9 : Int) (x10 : Nat) (x11 : List Nat) : Nat := g13r2 A (g12r0 A (((x6.getD (A.toN x3) []).take (A.toN (A.mn (A.ofN ((x6.getD (A.toN x3) []).length)) 200))).drop 0) x7 0 x8 x9 x10 x11) (g12r1 A (((x6.getD (A.toN x3) []).take (A.toN (A.mn (A.ofN ((x6.getD (A.toN x3) []).length)) 200))).drop 0) x7 0 x8 x9 x10 x11) (g12r2 A (((x6.getD (A.toN x3) []).take (A.toN (A.mn (A.ofN ((x6.getD (A.toN x3) []).length)) 200))).drop 0) x7 0 x8 x9 x10 x11) (g12r3 A (((x6.getD (A.toN x3) []).take (A.toN (A.mn (A.ofN ((x6.getD (A.toN x3) []).length)) 200))).drop 0) x7 0 x8 x9 x10 x11) (g12r4 A (((x6.getD (A.toN x3) []).take (A.toN (A.mn (A.ofN ((x6.getD (A.toN x3) []).length)) 200))).drop 0) x7 0 x8 x9 x10 x11) (g12r5 A (((x6.getD (A.toN x3) []).take (A.toN (A.mn (A.ofN ((x6.getD (A.toN x3) []).length)) 200))).drop 0) x7 0 x8 x9 x10 x11)
abbrev g4t24 (A : Ar) (x3 : Int) (x6 : List (List Nat)) (x7 : List Nat) (x8 : Nat) (x9 : Int) (x10 : Nat) (x11 : List Nat) : Nat := g13r3 A (g12r0 A (((x6.getD (A.toN x3) []).take (A.toN (A.mn (A.ofN ((x6.getD (A.toN x3) []).length)) 200))).drop 0) x7 0 x8 x9 x10 x11) (g12r1 A (((x6.getD (A.toN x3) []).take (A.toN (A.mn (A.ofN ((x6.getD (A.toN x3) []).length)) 200))).drop 0) x7 0 x8 x9 x10 x11) (g12r2 A (((x6.getD (A.toN x3) []).take (A.toN (A.mn (A.ofN ((x6.getD (A.toN x3) []).length)) 200))).drop 0) x7 0 x8 x9 x10 x11) (g12r3 A (((x6.getD (A.toN x3) []).take (A.toN (A.mn (A.ofN ((x6.getD (A.toN x3) []).length)) 200))).drop 0) x7 0 x8 x9 x10 x11) (g12r4 A (((x6.getD (A.toN x3) []).take (A.toN (A.mn (A.ofN ((x6.getD (A.toN x3) []).length)) 200))).drop 0) x7 0 x8 x9 x10 x11) (g12r5 A (((x6.getD (A.toN x3) []).take (A.toN (A.mn (A.ofN ((x6.getD (A.toN x3) []).length)) 200))).drop 0) x7 0 x8 x9 x10 x11)
abbrev g4t25 (A : Ar) (x3 : Int) (x6 : List (List Nat)) (x7 : List Nat) (x8 : Nat) (x9 : Int) (x10 : Nat) (x11 : List Nat) : Int := g13r4 A (g12r0 A (((x6.getD (A.toN x3) []).take (A.toN (A.mn (A.ofN ((x6.getD (A.toN x3) []).length)) 200))).drop 0) x7 0 x8 x9 x10 x11) (g12r1 A (((x6.getD (A.toN x3) []).take (A.toN (A.mn (A.ofN ((x6.getD (A.toN x3) []).length)) 200))).drop 0) x7 0 x8 x9 x10 x11) (g12r2 A (((x6.getD (A.toN x3) []).take (A.toN (A.mn (A.ofN ((x6.getD (A.toN x3) []).length)) 200))).drop 0) x7 0 x8 x9 x10 x11) (g12r3 A (((x6.getD (A.toN x3) []).take (A.toN (A.mn (A.ofN ((x6.getD (A.toN x3) []).length)) 200))).drop 0) x7 0 x8 x9 x10 x11) (g12r4 A (((x6.getD (A.toN x3) []).take (A.toN (A.mn (A.ofN ((x6.getD (A.toN x3) []).length)) 200))).drop 0) x7 0 x8 x9 x10 x11) (g12r5 A (((x6.getD (A.toN x3) []).take (A.toN (A.mn (A.ofN ((x6.getD (A.toN x3) []).length)) 200))).drop 0) x7 0 x8 x9 x10 x11)
abbrev g4t26 (A : Ar) (x3 : Int) (x6 : List (List Nat)) (x7 : List Nat) (x8 : Nat) (x9 : Int) (x10 : Nat) (x11 : List Nat) : Nat := g13r5 A (g12r0 A (((x6.getD (A.toN x3) []).take (A.toN (A.mn (A.ofN ((x6.getD (A.toN x3) []).length)) 200))).drop 0) x7 0 x8 x9 x10 x11) (g12r1 A (((x6.getD (A.toN x3) []).take (A.toN (A.mn (A.ofN ((x6.getD (A.toN x3) []).length)) 200))).drop 0) x7 0 x8 x9 x10 x11) (g12r2 A (((x6.getD (A.toN x3) []).take (A.toN (A.mn (A.ofN ((x6.getD (A.toN x3) []).length)) 200))).drop 0) x7 0 x8 x9 x10 x11) (g12r3 A (((x6.getD (A.toN x3) []).take (A.toN (A.mn (A.ofN ((x6.getD (A.toN x3) []).length)) 200))).drop 0) x7 0 x8 x9 x10 x11) (g12r4 A (((x6.getD (A.toN x3) []).take (A.toN (A.mn (A.ofN ((x6.getD (A.toN x3) []).length)) 200))).drop 0) x7 0 x8 x9 x10 x11) (g12r5 A (((x6.getD (A.toN x3) []).take (A.toN (A.mn (A.ofN ((x6.getD (A.toN x3) []).length)) 200))).drop 0) x7 0 x8 x9 x10 x11)
abbrev g4t27 (A : Ar) (x3 : Int) (x6 : List (List Nat)) (x7 : List Nat) (x8 : Nat) (x9 : Int) (x10 : Nat) (x11 : List Nat) : List Nat := g13r6 A (g12r0 A (((x6.getD (A.toN x3) []).take (A.toN (A.mn (A.ofN ((x6.getD (A.toN x3) []).length)) 200))).drop 0) x7 0 x8 x9 x10 x11) (g12r1 A (((x6.getD (A.toN x3) []).take (A.toN (A.mn (A.ofN ((x6.getD (A.toN x3) []).length)) 200))).drop 0) x7 0 x8 x9 x10 x11) (g12r2 A (((x6.getD (A.toN x3) []).take (A.toN (A.mn (A.ofN ((x6.getD (A.toN x3) []).length)) 200))).drop 0) x7 0 x8 x9 x10 x11) (g12r3 A (((x6.getD (A.toN x3) []).take (A.toN (A.mn (A.ofN ((x6.getD (A.toN x3) []).length)) 200))).drop 0) x7 0 x8 x9 x10 x11) (g12r4 A (((x6.getD (A.toN x3) []).take (A.toN (A.mn (A.ofN ((x6.getD (A.toN x3) []).length)) 200))).drop 0) x7 0 x8 x9 x10 x11) (g12r5 A (((x6.getD (A.toN x3) []).take (A.toN (A.mn (A.ofN ((x6.getD (A.toN x3) []).length)) 200))).drop 0) x7 0 x8 x9 x10 x11)
abbrev g4t28 (A : Ar) (x3 : Int) (x6 : List (List Nat)) (x7 : List Nat) (x8 : Nat) (x9 : Int) (x10 : Nat) (x11 : List Nat) : Int := g14r0 A (g4t22 A x3 x6 x7 x8 x9 x10 x11) (g4t23 A x3 x6 x7 x8 x9 x10 x11) (g4t24 A x3 x6 x7 x8 x9 x10 x11) (g4t25 A x3 x6 x7 x8 x9 x10 x11) (g4t26 A x3 x6 x7 x8 x9 x10 x11) (g4t27 A x3 x6 x7 x8 x9 x10 x11)
abbrev g4t29 (A : Ar) (x3 : Int) (x6 : List (List Nat)) (x7 : List Nat) (x8 : Nat) (x9 : Int) (x10 : Nat) (x11 : List Nat) : List Nat := g14r1 A (g4t22 A x3 x6 x7 x8 x9 x10 x11) (g4t23 A x3 x6 x7 x8 x9 x10 x11) (g4t24 A x3 x6 x7 x8 x9 x10 x11) (g4t25 A x3 x6 x7 x8 x9 x10 x11) (g4t26 A x3 x6 x7 x8 x9 x10 x11) (g4t27 A x3 x6 x7 x8 x9 x10 x11)
abbrev g4t30 (A : Ar) (x3 : Int) (x6 : List (List Nat)) (x7 : List Nat) (x8 : Nat) (x9 : Int) (x10 : Nat) (x11 : List Nat) : Nat := g14r2 A (g4t22 A x3 x6 x7 x8 x9 x10 x11) (g4t23 A x3 x6 x7 x8 x9 x10 x11) (g4t24 A x3 x6 x7 x8 x9 x10 x11) (g4t25 A x3 x6 x7 x8 x9 x10 x11) (g4t26 A x3 x6 x7 x8 x9 x10 x11) (g4t27 A x3 x6 x7 x8 x9 x10 x11)
abbrev g4t31 (A : Ar) (x3 : Int) (x6 : List (List Nat)) (x7 : List Nat) (x8 : Nat) (x9 : Int) (x10 : Nat) (x11 : List Nat) : Nat := g14r3 A (g4t22 A x3 x6 x7 x8 x9 x10 x11) (g4t23 A x3 x6 x7 x8 x9 x10 x11) (g4t24 A x3 x6 x7 x8 x9 x10 x11) (g4t25 A x3 x6 x7 x8 x9 x10 x11) (g4t26 A x3 x6 x7 x8 x9 x10 x11) (g4t27 A x3 x6 x7 x8 x9 x10 x11)
abbrev g4t32 (A : Ar) (x3 : Int) (x6 : List (List Nat)) (x7 : List Nat) (x8 : Nat) (x9 : Int) (x10 : Nat) (x11 : List Nat) : Int := g14r4 A (g4t22 A x3 x6 x7 x8 x9 x10 x11) (g4t23 A x3 x6 x7 x8 x9 x10 x11) (g4t24 A x3 x6 x7 x8 x9 x10 x11) (g4t25 A x3 x6 x7 x8 x9 x10 x11) (g4t26 A x3 x6 x7 x8 x9 x10 x11) (g4t27 A x3 x6 x7 x8 x9 x10 x11)
abbrev g4t33 (A : Ar) (x3 : Int) (x6 : List (List Nat)) (x7 : List Nat) (x8 : Nat) (x9 : Int) (x10 : Nat) (x11 : List Nat) : Nat := g14r5 A (g4t22 A x3 x6 x7 x8 x9 x10 x11) (g4t23 A x3 x6 x7 x8 x9 x10 x11) (g4t24 A x3 x6 x7 x8 x9 x10 x11) (g4t25 A x3 x6 x7 x8 x9 x10 x11) (g4t26 A x3 x6 x7 x8 x9 x10 x11) (g4t27 A x3 x6 x7 x8 x9 x10 x11)
abbrev g4t34 (A : Ar) (x3 : Int) (x6 : List (List Nat)) (x7 : List Nat) (x8 : Nat) (x9 : Int) (x10 : Nat) (x11 : List Nat) : List Nat := g14r6 A (g4t22 A x3 x6 x7 x8 x9 x10 x11) (g4t23 A x3 x6 x7 x8 x9 x10 x11) (g4t24 A x3 x6 x7 x8 x9 x10 x11) (g4t25 A x3 x6 x7 x8 x9 x10 x11) (g4t26 A x3 x6 x7 x8 x9 x10 x11) (g4t27 A x3 x6 x7 x8 x9 x10 x11)
section
variable {R : Type} (A : Ar) (n : Nat) (K : Ex → St → Option R) (s : St)
end
def g4J11a {R : Type} (A : Ar) (n : Nat) (kk : AV → Heap → Option R) (lg4L9a : Nat → Bool → List Nat → Int → Nat → Nat → List (List Nat) → List Nat → Nat → Nat → Int → Nat → List Nat → Option R) (x0 : Nat) (x1 : Bool) (x2 : List Nat) (x3 : Int) (x4 x5 : Nat) (x6 : List (List Nat)) (x7 : List Nat) (x8 x9 : Nat) (x10 : Int) (x11 : Nat) (x12 : List Nat) : Option R :=
  match (generalizing := false) A.neg x3 with
  | true => none
  | false => match (generalizing := false) A.lt (A.toN x3) x0 with
    | true => match (generalizing := false) A.neg x3 with
      | true => none
      | false => match (generalizing := false) A.lt (A.toN x3) x0 with
        | true => match (generalizing := false) A.neg (A.mn (A.ofN ((x6.getD (A.toN x3) []).length)) 200) with
          | true => none
          | false => match (generalizing := false) A.le (A.toN (A.mn (A.ofN ((x6.getD (A.toN x3) []).length)) 200)) ((x6.getD (A.toN x3) []).length) with
            | true => match (generalizing := false) g12ok A (((x6.getD (A.toN x3) []).take (A.toN (A.mn (A.ofN ((x6.getD (A.toN x3) []).length)) 200))).drop 0) x7 x8 x9 x10 x11 x12 with
              | true => match (generalizing := false) A.le (x2.length + (((x6.getD (A.toN x3) []).take (A.toN (A.mn (A.ofN ((x6.getD (A.toN x3) []).length)) 200))).drop 0).length) 9223372036854775807 with
                | true => match (generalizing := false) g13ok A (g12r0 A (((x6.getD (A.toN x3) []).take (A.toN (A.mn (A.ofN ((x6.getD (A.toN x3) []).length)) 200))).drop 0) x7 x8 x9 x10 x11 x12) (g12r1 A (((x6.getD (A.toN x3) []).take (A.toN (A.mn (A.ofN ((x6.getD (A.toN x3) []).length)) 200))).drop 0) x7 x8 x9 x10 x11 x12) (g12r2 A (((x6.getD (A.toN x3) []).take (A.toN (A.mn (A.ofN ((x6.getD (A.toN x3) []).length)) 200))).drop 0) x7 x8 x9 x10 x11 x12) (g12r3 A (((x6.getD (A.toN x3) []).take (A.toN (A.mn (A.ofN ((x6.getD (A.toN x3) []).length)) 200))).drop 0) x7 x8 x9 x10 x11 x12) (g12r4 A (((x6.getD (A.toN x3) []).take (A.toN (A.mn (A.ofN ((x6.getD (A.toN x3) []).length)) 200))).drop 0) x7 x8 x9 x10 x11 x12) (g12r5 A (((x6.getD (A.toN x3) []).take (A.toN (A.mn (A.ofN ((x6.getD (A.toN x3) []).length)) 200))).drop 0) x7 x8 x9 x10 x11 x12) with
                  | true => match (generalizing := false) g10ok A (x2 ++ (((x6.getD (A.toN x3) []).take (A.toN (A.mn (A.ofN ((x6.getD (A.toN x3) []).length)) 200))).drop 0)) with
                    | true => match (generalizing := false) A.sc .neq (g4t7 A x3 x6 x7 x8 x9 x10 x11 x12) (g10r0 A (x2 ++ (((x6.getD (A.toN x3) []).take (A.toN (A.mn (A.ofN ((x6.getD (A.toN x3) []).length)) 200))).drop 0))) with
                      | true => kk (bO false) [(0, ⟨[.strs x5 x6], x4, 0⟩)]
                      | false => match (generalizing := false) g14ok A (g4t8 A x3 x6 x7 x8 x9 x10 x11 x12) (g4t9 A x3 x6 x7 x8 x9 x10 x11 x12) (g4t10 A x3 x6 x7 x8 x9 x10 x11 x12) (g4t11 A x3 x6 x7 x8 x9 x10 x11 x12) (g4t12 A x3 x6 x7 x8 x9 x10 x11 x12) (g4t13 A x3 x6 x7 x8 x9 x10 x11 x12) with
                        | true => match (generalizing := false) A.ic .neq (g4t14 A x3 x6 x7 x8 x9 x10 x11 x12) (A.ofN ((x2 ++ (((x6.getD (A.toN x3) []).take (A.toN (A.mn (A.ofN ((x6.getD (A.toN x3) []).length)) 200))).drop 0)).length)) with
                          | true => kk (bO false) [(0, ⟨[.strs x5 x6], x4, 0⟩)]
                          | false => lg4L9a x0 x1 (x2 ++ (((x6.getD (A.toN x3) []).take (A.toN (A.mn (A.ofN ((x6.getD (A.toN x3) []).length)) 200))).drop 0)) (A.ib .add .i64 x3 1) x4 x5 x6 (g4t15 A x3 x6 x7 x8 x9 x10 x11 x12) (g4t16 A x3 x6 x7 x8 x9 x10 x11 x12) (g4t17 A x3 x6 x7 x8 x9 x10 x11 x12) (g4t18 A x3 x6 x7 x8 x9 x10 x11 x12) (g4t19 A x3 x6 x7 x8 x9 x10 x11 x12) (g4t20 A x3 x6 x7 x8 x9 x10 x11 x12)
                        | false => none
                    | false => none
                  | false => none
                | false => none
              | false => none
            | false => none
        | false => none
    | false => none
def g4L9a {R : Type} (A : Ar) (n : Nat) (kk : AV → Heap → Option R)  : Nat → Nat → Bool → List Nat → Int → Nat → Nat → List (List Nat) → List Nat → Nat → Nat → Int → Nat → List Nat → Option R
  | 0, _, _, _, _, _, _, _, _, _, _, _, _, _ => none
  | m + 1, x0, x1, x2, x3, x4, x5, x6, x7, x8, x9, x10, x11, x12 => match (generalizing := false) A.ic .lss x3 (A.ofN x0) with
  | true => match (generalizing := false) A.ic .lss x3 10 with
    | true => g4J11a A n kk (g4L9a A n kk  m) x0 x1 x2 x3 x4 x5 x6 x7 x8 x9 x10 x11 x12
    | false => kk (bO x1) [(0, ⟨[.strs x5 x6], x4, 0⟩)]
  | false => kk (bO x1) [(0, ⟨[.strs x5 x6], x4, 0⟩)]
def g4J11 {R : Type} (A : Ar) (n : Nat) (kk : AV → Heap → Option R) (lg4L9a : Nat → Bool → List Nat → Int → Nat → Nat → List (List Nat) → List Nat → Nat → Nat → Int → Nat → List Nat → Option R) (x0 : Nat) (x1 : Bool) (x2 : List Nat) (x3 : Int) (x4 x5 : Nat) (x6 : List (List Nat)) (x7 : List Nat) (x8 : Nat) (x9 : Int) (x10 : Nat) (x11 : List Nat) : Option R :=
  match (generalizing := false) A.neg x3 with
  | true => none
  | false => match (generalizing := false) A.lt (A.toN x3) x0 with
    | true => match (generalizing := false) A.neg x3 with
      | true => none
      | false => match (generalizing := false) A.lt (A.toN x3) x0 with
        | true => match (generalizing := false) A.neg (A.mn (A.ofN ((x6.getD (A.toN x3) []).length)) 200) with
          | true => none
          | false => match (generalizing := false) A.le (A.toN (A.mn (A.ofN ((x6.getD (A.toN x3) []).length)) 200)) ((x6.getD (A.toN x3) []).length) with
            | true => match (generalizing := false) g12ok A (((x6.getD (A.toN x3) []).take (A.toN (A.mn (A.ofN ((x6.getD (A.toN x3) []).length)) 200))).drop 0) x7 0 x8 x9 x10 x11 with
              | true => match (generalizing := false) A.le (x2.length + (((x6.getD (A.toN x3) []).take (A.toN (A.mn (A.ofN ((x6.getD (A.toN x3) []).length)) 200))).drop 0).length) 9223372036854775807 with
                | true => match (generalizing := false) g13ok A (g12r0 A (((x6.getD (A.toN x3) []).take (A.toN (A.mn (A.ofN ((x6.getD (A.toN x3) []).length)) 200))).drop 0) x7 0 x8 x9 x10 x11) (g12r1 A (((x6.getD (A.toN x3) []).take (A.toN (A.mn (A.ofN ((x6.getD (A.toN x3) []).length)) 200))).drop 0) x7 0 x8 x9 x10 x11) (g12r2 A (((x6.getD (A.toN x3) []).take (A.toN (A.mn (A.ofN ((x6.getD (A.toN x3) []).length)) 200))).drop 0) x7 0 x8 x9 x10 x11) (g12r3 A (((x6.getD (A.toN x3) []).take (A.toN (A.mn (A.ofN ((x6.getD (A.toN x3) []).length)) 200))).drop 0) x7 0 x8 x9 x10 x11) (g12r4 A (((x6.getD (A.toN x3) []).take (A.toN (A.mn (A.ofN ((x6.getD (A.toN x3) []).length)) 200))).drop 0) x7 0 x8 x9 x10 x11) (g12r5 A (((x6.getD (A.toN x3) []).take (A.toN (A.mn (A.ofN ((x6.getD (A.toN x3) []).length)) 200))).drop 0) x7 0 x8 x9 x10 x11) with
                  | true => match (generalizing := false) g10ok A (x2 ++ (((x6.getD (A.toN x3) []).take (A.toN (A.mn (A.ofN ((x6.getD (A.toN x3) []).length)) 200))).drop 0)) with
                    | true => match (generalizing := false) A.sc .neq (g4t21 A x3 x6 x7 x8 x9 x10 x11) (g10r0 A (x2 ++ (((x6.getD (A.toN x3) []).take (A.toN (A.mn (A.ofN ((x6.getD (A.toN x3) []).length)) 200))).drop 0))) with
                      | true => kk (bO false) [(0, ⟨[.strs x5 x6], x4, 0⟩)]
                      | false => match (generalizing := false) g14ok A (g4t22 A x3 x6 x7 x8 x9 x10 x11) (g4t23 A x3 x6 x7 x8 x9 x10 x11) (g4t24 A x3 x6 x7 x8 x9 x10 x11) (g4t25 A x3 x6 x7 x8 x9 x10 x11) (g4t26 A x3 x6 x7 x8 x9 x10 x11) (g4t27 A x3 x6 x7 x8 x9 x10 x11) with
                        | true => match (generalizing := false) A.ic .neq (g4t28 A x3 x6 x7 x8 x9 x10 x11) (A.ofN ((x2 ++ (((x6.getD (A.toN x3) []).take (A.toN (A.mn (A.ofN ((x6.getD (A.toN x3) []).length)) 200))).drop 0)).length)) with
                          | true => kk (bO false) [(0, ⟨[.strs x5 x6], x4, 0⟩)]
                          | false => lg4L9a x0 x1 (x2 ++ (((x6.getD (A.toN x3) []).take (A.toN (A.mn (A.ofN ((x6.getD (A.toN x3) []).length)) 200))).drop 0)) (A.ib .add .i64 x3 1) x4 x5 x6 (g4t29 A x3 x6 x7 x8 x9 x10 x11) (g4t30 A x3 x6 x7 x8 x9 x10 x11) (g4t31 A x3 x6 x7 x8 x9 x10 x11) (g4t32 A x3 x6 x7 x8 x9 x10 x11) (g4t33 A x3 x6 x7 x8 x9 x10 x11) (g4t34 A x3 x6 x7 x8 x9 x10 x11)
                        | false => none
                    | false => none
                  | false => none
                | false => none
              | false => none
            | false => none
        | false => none
    | false => none
def g4L9 {R : Type} (A : Ar) (n : Nat) (kk : AV → Heap → Option R)  : Nat → Nat → Bool → List Nat → Int → Nat → Nat → List (List Nat) → List Nat → Nat → Int → Nat → List Nat → Option R
  | 0, _, _, _, _, _, _, _, _, _, _, _, _ => none
  | m + 1, x0, x1, x2, x3, x4, x5, x6, x7, x8, x9, x10, x11 => match (generalizing := false) A.ic .lss x3 (A.ofN x0) with
  | true => match (generalizing := false) A.ic .lss x3 10 with
    | true => g4J11 A n kk (g4L9a A n kk  m) x0 x1 x2 x3 x4 x5 x6 x7 x8 x9 x10 x11
    | false => kk (bO x1) [(0, ⟨[.strs x5 x6], x4, 0⟩)]
  | false => kk (bO x1) [(0, ⟨[.strs x5 x6], x4, 0⟩)]
def g4J7 {R : Type} (A : Ar) (n : Nat) (kk : AV → Heap → Option R)  (x0 : Nat) (x1 : Bool) (x2 x3 : Nat) (x4 : List (List Nat)) (x5 : List Nat) (x6 : Nat) (x7 : Int) (x8 : Nat) (x9 : List Nat) : Option R :=
  g4L9 A n kk  n x0 x1 [] 0 x2 x3 x4 x5 x6 x7 x8 x9
def g4J4 {R : Type} (A : Ar) (n : Nat) (kk : AV → Heap → Option R)  (x0 : Nat) (x1 : Bool) (x2 x3 : Nat) (x4 : List (List Nat)) : Option R :=
  match (generalizing := false) g11ok A with
  | true => g4J7 A n kk  x0 x1 x2 x3 x4 (g11r0 A) 0 (g11r1 A) 0 []
  | false => none
def g4 {R : Type} (A : Ar) (n : Nat) (kk : AV → Heap → Option R) (x0 x1 x2 : Nat) (x3 : List (List Nat)) : Option R :=
  match (generalizing := false) g8ok A with
  | true => match (generalizing := false) !(g8r0 A) with
    | true => kk (bO false) [(0, ⟨[.strs x2 x3], x1, 0⟩)]
    | false => g4J4 A n kk  x0 (g8r0 A) x1 x2 x3
  | false => none
end Go.Sx
