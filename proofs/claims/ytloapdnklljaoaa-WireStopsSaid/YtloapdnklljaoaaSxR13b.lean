/- printed by sxgen -/
import Derived.Test.YtloapdnklljaoaaSxR13a
namespace Go.Sx
open Go.Proofs
set_option linter.unusedVariables false
abbrev g7t0 (A : Ar) (x0 : Nat) (x3 x4 : Int) (x5 x6 : Nat) (x7 : List Nat) : List Nat := g17r0 A (g11r0 A (A.ofN x0) x3 x4 x5 x6 x7) (g11r1 A (A.ofN x0) x3 x4 x5 x6 x7) (g11r2 A (A.ofN x0) x3 x4 x5 x6 x7) (g11r3 A (A.ofN x0) x3 x4 x5 x6 x7)
abbrev g7t1 (A : Ar) (x0 : Nat) (x3 x4 : Int) (x5 x6 : Nat) (x7 : List Nat) : Int := g17r1 A (g11r0 A (A.ofN x0) x3 x4 x5 x6 x7) (g11r1 A (A.ofN x0) x3 x4 x5 x6 x7) (g11r2 A (A.ofN x0) x3 x4 x5 x6 x7) (g11r3 A (A.ofN x0) x3 x4 x5 x6 x7)
abbrev g7t6 (A : Ar) (x1 : Nat) (x3 x8 : Int) (x9 x10 : Nat) (x11 : List Nat) : List Nat := g17r0 A (g11r0 A (A.ofN x1) x3 x8 x9 x10 x11) (g11r1 A (A.ofN x1) x3 x8 x9 x10 x11) (g11r2 A (A.ofN x1) x3 x8 x9 x10 x11) (g11r3 A (A.ofN x1) x3 x8 x9 x10 x11)
abbrev g7t7 (A : Ar) (x1 : Nat) (x3 x8 : Int) (x9 x10 : Nat) (x11 : List Nat) : Int := g17r1 A (g11r0 A (A.ofN x1) x3 x8 x9 x10 x11) (g11r1 A (A.ofN x1) x3 x8 x9 x10 x11) (g11r2 A (A.ofN x1) x3 x8 x9 x10 x11) (g11r3 A (A.ofN x1) x3 x8 x9 x10 x11)
section
variable {R : Type} (A : Ar) (n : Nat) (K : Ex → St → Option R) (s : St)
end
def g7J9 {R : Type} (A : Ar) (n : Nat) (kk : AV → Heap → Option R)  (x0 x1 : Nat) (x2 : Bool) (x3 x4 : Int) (x5 x6 : Nat) (x7 : List Nat) (x8 : Int) (x9 x10 : Nat) (x11 : List Nat) : Option R :=
  match (generalizing := false) g11ok A (A.ofN x0) x3 x4 x5 x6 x7 with
  | true => match (generalizing := false) g11ok A (A.ofN x1) x3 x8 x9 x10 x11 with
    | true => match (generalizing := false) g17ok A (g11r0 A (A.ofN x0) x3 x4 x5 x6 x7) (g11r1 A (A.ofN x0) x3 x4 x5 x6 x7) (g11r2 A (A.ofN x0) x3 x4 x5 x6 x7) (g11r3 A (A.ofN x0) x3 x4 x5 x6 x7) with
      | true => match (generalizing := false) g17ok A (g11r0 A (A.ofN x1) x3 x8 x9 x10 x11) (g11r1 A (A.ofN x1) x3 x8 x9 x10 x11) (g11r2 A (A.ofN x1) x3 x8 x9 x10 x11) (g11r3 A (A.ofN x1) x3 x8 x9 x10 x11) with
        | true => match (generalizing := false) x2 with
          | true => match (generalizing := false) A.ic .eql (g7t1 A x0 x3 x4 x5 x6 x7) 0 with
            | true => match (generalizing := false) A.ic .eql (g7t7 A x1 x3 x8 x9 x10 x11) 0 with
              | true => match (generalizing := false) A.ic .eql (A.ofN ((g7t0 A x0 x3 x4 x5 x6 x7).length)) x3 with
                | true => match (generalizing := false) A.ic .eql (A.ofN ((g7t6 A x1 x3 x8 x9 x10 x11).length)) x3 with
                  | true => match (generalizing := false) (A.sc .lss (g7t0 A x0 x3 x4 x5 x6 x7) (g7t6 A x1 x3 x8 x9 x10 x11)) == (A.nc .lss x0 x1) with
                    | true => kk (bO ((A.sc .eql (g7t0 A x0 x3 x4 x5 x6 x7) (g7t6 A x1 x3 x8 x9 x10 x11)) == (A.nc .eql x0 x1))) []
                    | false => kk (bO false) []
                  | false => kk (bO false) []
                | false => kk (bO false) []
              | false => kk (bO false) []
            | false => kk (bO false) []
          | false => kk (bO false) []
        | false => none
      | false => none
    | false => none
  | false => none
def g7J4 {R : Type} (A : Ar) (n : Nat) (kk : AV → Heap → Option R)  (x0 x1 x2 : Nat) (x3 : Bool) : Option R :=
  match (generalizing := false) g9ok A with
  | true => match (generalizing := false) g9ok A with
    | true => g7J9 A n kk  x0 x1 x3 (A.ib .add .i64 4 (A.ofN (A.nb .rem .u8 x2 4))) (g9r0 A) 0 0 [] (g9r0 A) 0 0 []
    | false => none
  | false => none
def g7 {R : Type} (A : Ar) (n : Nat) (kk : AV → Heap → Option R) (a b c : Nat) : Option R :=
  match (generalizing := false) g8ok A with
  | true => match (generalizing := false) !(g8r0 A) with
    | true => kk (bO false) []
    | false => g7J4 A n kk  a b c (g8r0 A)
  | false => none
/- engrosser/engrosserlaw13.WireStops -/
def g6O (A : Ar) : Orc := orcN [(9, (1, 1, ⟨[.nums .u8 0 []], 5, 2⟩))] (orcH [(8, g8o A)] [(9, ⟨[], none, (g9o A)⟩), (18, ⟨[], none, (g18o A)⟩), (11, ⟨[0, 1], (some (0, 1, 1, ⟨[.nums .u8 0 []], 5, 2⟩)), (g11o A)⟩), (21, ⟨[], none, (g21o A)⟩), (13, ⟨[0, 1], (some (0, 1, 1, ⟨[.nums .u8 0 []], 5, 2⟩)), (g13o A)⟩), (15, ⟨[0, 1], (some (0, 1, 1, ⟨[.nums .u8 0 []], 5, 2⟩)), (g15o A)⟩), (19, ⟨[], none, (g19o A)⟩), (23, ⟨[], none, (g23o A)⟩), (25, ⟨[], none, (g25o A)⟩), (17, ⟨[0, 1], none, (g17o A)⟩), (27, ⟨[], none, (g27o A)⟩)])
theorem g6O_sound : OSound Try.prog (g6O realA) := orcN_sound <| orcH_sound (fun f g hm args v hv => by
    simp only [List.mem_cons, List.not_mem_nil, or_false, Prod.mk.injEq] at hm
    rcases hm with ⟨rfl, rfl⟩
    · exact g8o_sound _ _ hv) (fun f e hm args h v h' hv => by
    simp only [List.mem_cons, List.not_mem_nil, or_false, Prod.mk.injEq] at hm
    rcases hm with ⟨rfl, rfl⟩ | ⟨rfl, rfl⟩ | ⟨rfl, rfl⟩ | ⟨rfl, rfl⟩ | ⟨rfl, rfl⟩ | ⟨rfl, rfl⟩ | ⟨rfl, rfl⟩ | ⟨rfl, rfl⟩ | ⟨rfl, rfl⟩ | ⟨rfl, rfl⟩ | ⟨rfl, rfl⟩
    · exact g9o_sound _ _ _ _ hv
    · exact g18o_sound _ _ _ _ hv
    · exact g11o_sound _ _ _ _ hv
    · exact g21o_sound _ _ _ _ hv
    · exact g13o_sound _ _ _ _ hv
    · exact g15o_sound _ _ _ _ hv
    · exact g19o_sound _ _ _ _ hv
    · exact g23o_sound _ _ _ _ hv
    · exact g25o_sound _ _ _ _ hv
    · exact g17o_sound _ _ _ _ hv
    · exact g27o_sound _ _ _ _ hv)
theorem g6O_det : ODet (g6O realA) := orcN_det <| orcH_det _ _
def g6an : Ann := [(0, ([0, 1, 2], [0])), (1, ([0, 1, 2], [0])), (2, ([0, 1, 2, 7], [0])), (3, ([], [0])), (4, ([0, 1, 2, 7], [0])), (5, ([0, 1, 2, 7, 8], [0, 5000, 5500])), (6, ([0, 1, 2, 7, 8, 9], [0, 5000, 5500, 6001])), (7, ([], [])), (8, ([0, 1, 2, 7, 8, 9], [0, 5000, 5500, 6001])), (9, ([0, 1, 2, 7, 8, 9], [0, 5000, 5500, 6001])), (10, ([0, 2, 7, 8, 9], [0, 5000, 5500, 6001])), (11, ([0, 2, 7, 8, 9, 10], [0, 5000, 5500, 6001])), (12, ([0, 2, 7, 8, 9, 10], [0, 5000, 5500, 6001])), (13, ([0, 2, 7, 8, 9, 10], [0, 5000, 5500, 6001])), (14, ([0, 2, 7, 8, 9, 10], [0, 5000, 5500, 6001])), (15, ([0, 2, 7, 8, 9, 10], [0, 5000, 5500, 6001])), (16, ([], [0])), (17, ([7, 8, 9], [0, 5000, 5500, 6001])), (18, ([7, 9, 11, 12], [0, 6001]))]
def g6res : List ResultVar := [.tmp 6]
abbrev g6t0 (A : Ar) (x1 x3 : Int) (x9 : List (List Nat)) (x10 : Int) (x11 x12 : Nat) (x13 : List Nat) : Int := g15r0 A (x9.getD (A.toN x3) []) x1 (g13r0 A (x9.getD (A.toN x3) []) x10 x11 x12 x13) (g13r1 A (x9.getD (A.toN x3) []) x10 x11 x12 x13) (g13r2 A (x9.getD (A.toN x3) []) x10 x11 x12 x13) (g13r3 A (x9.getD (A.toN x3) []) x10 x11 x12 x13)
abbrev g6t1 (A : Ar) (x1 x3 : Int) (x9 : List (List Nat)) (x10 : Int) (x11 x12 : Nat) (x13 : List Nat) : Nat := g15r1 A (x9.getD (A.toN x3) []) x1 (g13r0 A (x9.getD (A.toN x3) []) x10 x11 x12 x13) (g13r1 A (x9.getD (A.toN x3) []) x10 x11 x12 x13) (g13r2 A (x9.getD (A.toN x3) []) x10 x11 x12 x13) (g13r3 A (x9.getD (A.toN x3) []) x10 x11 x12 x13)
abbrev g6t2 (A : Ar) (x1 x3 : Int) (x9 : List (List Nat)) (x10 : Int) (x11 x12 : Nat) (x13 : List Nat) : Nat := g15r2 A (x9.getD (A.toN x3) []) x1 (g13r0 A (x9.getD (A.toN x3) []) x10 x11 x12 x13) (g13r1 A (x9.getD (A.toN x3) []) x10 x11 x12 x13) (g13r2 A (x9.getD (A.toN x3) []) x10 x11 x12 x13) (g13r3 A (x9.getD (A.toN x3) []) x10 x11 x12 x13)
abbrev g6t3 (A : Ar) (x1 x3 : Int) (x9 : List (List Nat)) (x10 : Int) (x11 x12 : Nat) (x13 : List Nat) : List Nat := g15r3 A (x9.getD (A.toN x3) []) x1 (g13r0 A (x9.getD (A.toN x3) []) x10 x11 x12 x13) (g13r1 A (x9.getD (A.toN x3) []) x10 x11 x12 x13) (g13r2 A (x9.getD (A.toN x3) []) x10 x11 x12 x13) (g13r3 A (x9.getD (A.toN x3) []) x10 x11 x12 x13)
abbrev g6t4 (A : Ar) (x1 x3 : Int) (x7 x8 : List Int) (x14 : Int) (x15 : List Nat) : List Nat := g23r0 A x1 (g21r1 A (x7.getD (A.toN x3) 0) (g19r1 A (x8.getD (A.toN x3) 0) x14 x15) (g19r2 A (x8.getD (A.toN x3) 0) x14 x15)) (g21r2 A (x7.getD (A.toN x3) 0) (g19r1 A (x8.getD (A.toN x3) 0) x14 x15) (g19r2 A (x8.getD (A.toN x3) 0) x14 x15))
abbrev g6t5 (A : Ar) (x1 x3 : Int) (x7 x8 : List Int) (x14 : Int) (x15 : List Nat) : Int := g23r1 A x1 (g21r1 A (x7.getD (A.toN x3) 0) (g19r1 A (x8.getD (A.toN x3) 0) x14 x15) (g19r2 A (x8.getD (A.toN x3) 0) x14 x15)) (g21r2 A (x7.getD (A.toN x3) 0) (g19r1 A (x8.getD (A.toN x3) 0) x14 x15) (g19r2 A (x8.getD (A.toN x3) 0) x14 x15))
abbrev g6t6 (A : Ar) (x1 x3 : Int) (x7 x8 : List Int) (x14 : Int) (x15 : List Nat) : List Nat := g23r2 A x1 (g21r1 A (x7.getD (A.toN x3) 0) (g19r1 A (x8.getD (A.toN x3) 0) x14 x15) (g19r2 A (x8.getD (A.toN x3) 0) x14 x15)) (g21r2 A (x7.getD (A.toN x3) 0) (g19r1 A (x8.getD (A.toN x3) 0) x14 x15) (g19r2 A (x8.getD (A.toN x3) 0) x14 x15))
noncomputable def g6D {R : Type} (A : Ar) (n : Nat) (p : List Bool) (K : Ex → St → Option R) (s : St) : Option R := codeD A gtys (g6O A) g6an n (sub (bodyOf Try.f6) p) K s
noncomputable def g6V {R : Type} (A : Ar) (n : Nat) (p : List Bool) (m : Nat) (K : Ex → St → Option R) (s : St) : Option R := loopD (fun K' s'' => codeD A gtys (g6O A) g6an n (sub (bodyOf Try.f6) p) K' s'') m K s
noncomputable def g6Q {R : Type} (A : Ar) (n : Nat) (p : List Bool) (K : Ex → St → Option R) : Ex → St → Option R := seqC (g6D A n p K) K
noncomputable def g6W {R : Type} (A : Ar) (n : Nat) (p : List Bool) (m : Nat) (K : Ex → St → Option R) : Ex → St → Option R := seqC (g6V A n p m K) K
noncomputable def g6T {R : Type} (kk : AV → Heap → Option R) : Ex → St → Option R := finD gtys g6res kk
theorem g6Qn {R : Type} (A : Ar) (n : Nat) (p : List Bool) (K : Ex → St → Option R) (s : St) : g6Q A n p K .normal s = g6D A n p K s := rfl
theorem g6Qe {R : Type} (A : Ar) (n : Nat) (p : List Bool) (K : Ex → St → Option R) (i : Nat) (s : St) : g6Q A n p K (.exit i) s = K (.exit i) s := rfl
theorem g6Qr {R : Type} (A : Ar) (n : Nat) (p : List Bool) (K : Ex → St → Option R) (s : St) : g6Q A n p K .ret s = K .ret s := rfl
theorem g6Wn {R : Type} (A : Ar) (n : Nat) (p : List Bool) (m : Nat) (K : Ex → St → Option R) (s : St) : g6W A n p m K .normal s = g6V A n p m K s := rfl
theorem g6We {R : Type} (A : Ar) (n : Nat) (p : List Bool) (m : Nat) (K : Ex → St → Option R) (i : Nat) (s : St) : g6W A n p m K (.exit i) s = K (.exit i) s := rfl
theorem g6Wr {R : Type} (A : Ar) (n : Nat) (p : List Bool) (m : Nat) (K : Ex → St → Option R) (s : St) : g6W A n p m K .ret s = K .ret s := rfl
theorem g6Vs {R : Type} (A : Ar) (n : Nat) (p : List Bool) (m : Nat) (K : Ex → St → Option R) (s : St) : g6V A n p (m + 1) K s = g6D A n p (g6W A n p m K) s := rfl
theorem g6F {R : Type} (A : Ar) (n : Nat) (p : List Bool) (i : Nat) (K : Ex → St → Option R) (s s' : St) (hf : firstReg (sub (bodyOf Try.f6) p) = some i) (h : keep g6an i s = keep g6an i s') : g6D A n p K s = g6D A n p K s' := codeD_first hf h K
section
variable {R : Type} (A : Ar) (n : Nat) (K : Ex → St → Option R) (s : St)
theorem g6p1 : g6D A n (pth 1) K s = g6D A n (pth 2) (g6Q A n (pth 3) K) s := by kernel_rfl
theorem g6p3 : g6D A n (pth 3) K s = g6D A n (pth 5) (g6Q A n (pth 7) K) s := by kernel_rfl
theorem g6p7 : g6D A n (pth 7) K s = g6D A n (pth 11) (g6Q A n (pth 15) K) s := by kernel_rfl
theorem g6p11 : g6D A n (pth 11) K s = g6D A n (pth 19) (g6Q A n (pth 27) K) s := by kernel_rfl
theorem g6p27 (t : Bool) : ev s (.tmp 15) = some (.v (.cell (.bool t))) → g6D A n (pth 27) K s = (match t with
    | true => g6D A n (pth 43) K s
    | false => g6D A n (pth 59) K s) := codeD_cond t
theorem g6p43 : g6D A n (pth 43) K s = g6D A n (pth 75) (g6Q A n (pth 107) K) s := by kernel_rfl
theorem g6p107 : g6D A n (pth 107) K s = K .ret s := by kernel_rfl
theorem g6p59 : g6D A n (pth 59) K s = K .normal s := by kernel_rfl
theorem g6p15 : g6D A n (pth 15) K s = g6D A n (pth 23) (g6Q A n (pth 31) K) s := by kernel_rfl
theorem g6p31 : g6D A n (pth 31) K s = g6D A n (pth 47) (g6Q A n (pth 63) K) s := by kernel_rfl
theorem g6p63 : g6D A n (pth 63) K s = g6D A n (pth 95) (g6Q A n (pth 127) K) s := by kernel_rfl
theorem g6p95 : g6D A n (pth 95) K s = g6D A n (pth 159) (g6Q A n (pth 223) K) s := by kernel_rfl
theorem g6p223 (t : Bool) : ev s (.tmp 24) = some (.v (.cell (.bool t))) → g6D A n (pth 223) K s = (match t with
    | true => g6D A n (pth 351) K s
    | false => g6D A n (pth 479) K s) := codeD_cond t
theorem g6p479 : g6D A n (pth 479) K s = K .normal s := by kernel_rfl
theorem g6p127 : g6D A n (pth 127) K s = g6D A n (pth 191) (g6Q A n (pth 255) K) s := by kernel_rfl
theorem g6p255 : g6D A n (pth 255) K s = g6D A n (pth 383) (g6Q A n (pth 511) K) s := by kernel_rfl
theorem g6p511 : g6D A n (pth 511) K s = g6D A n (pth 767) (g6Q A n (pth 1023) K) s := by kernel_rfl
theorem g6p767 : g6D A n (pth 767) K s = g6D A n (pth 1279) (g6Q A n (pth 1791) K) s := by kernel_rfl
theorem g6p1791 : g6D A n (pth 1791) K s = g6D A n (pth 2815) (blockK 0 K) s := by kernel_rfl
theorem g6p2815 : g6D A n (pth 2815) K s = g6V A n (pth 4863) n K s := by kernel_rfl
theorem g6p4863 : g6D A n (pth 4863) K s = g6D A n (pth 8959) (g6Q A n (pth 13055) K) s := by kernel_rfl
theorem g6p8959 : g6D A n (pth 8959) K s = g6D A n (pth 17151) (g6Q A n (pth 25343) K) s := by kernel_rfl
theorem g6p25343 (t : Bool) : ev s (.tmp 39) = some (.v (.cell (.bool t))) → g6D A n (pth 25343) K s = (match t with
    | true => g6D A n (pth 41727) K s
    | false => g6D A n (pth 58111) K s) := codeD_cond t
theorem g6p41727 : g6D A n (pth 41727) K s = K .normal s := by kernel_rfl
theorem g6p58111 : g6D A n (pth 58111) K s = K (.exit 0) s := by kernel_rfl
theorem g6p13055 : g6D A n (pth 13055) K s = g6D A n (pth 21247) (g6Q A n (pth 29439) K) s := by kernel_rfl
theorem g6p21247 : g6D A n (pth 21247) K s = g6D A n (pth 37631) (blockK 1 K) s := by kernel_rfl
theorem g6p37631 : g6D A n (pth 37631) K s = g6D A n (pth 70399) (g6Q A n (pth 103167) K) s := by kernel_rfl
theorem g6p103167 : g6D A n (pth 103167) K s = g6D A n (pth 168703) (g6Q A n (pth 234239) K) s := by kernel_rfl
theorem g6p234239 : g6D A n (pth 234239) K s = g6D A n (pth 365311) (g6Q A n (pth 496383) K) s := by kernel_rfl
theorem g6p496383 (t : Bool) : ev s (.tmp 85) = some (.v (.cell (.bool t))) → g6D A n (pth 496383) K s = (match t with
    | true => g6D A n (pth 758527) K s
    | false => g6D A n (pth 1020671) K s) := codeD_cond t
theorem g6p758527 : g6D A n (pth 758527) K s = g6D A n (pth 1282815) (g6Q A n (pth 1807103) K) s := by kernel_rfl
theorem g6p1807103 : g6D A n (pth 1807103) K s = K .ret s := by kernel_rfl
theorem g6p1020671 : g6D A n (pth 1020671) K s = K .normal s := by kernel_rfl
theorem g6p1023 : g6D A n (pth 1023) K s = g6D A n (pth 1535) (g6Q A n (pth 2047) K) s := by kernel_rfl
theorem g6p2047 : g6D A n (pth 2047) K s = g6D A n (pth 3071) (g6Q A n (pth 4095) K) s := by kernel_rfl
theorem g6p4095 : g6D A n (pth 4095) K s = K .ret s := by kernel_rfl
def g6R13s0 (A : Ar) (x0 : Nat) (x1 : Int) (x2 : Bool) (x3 : Int) (x4 x5 : Nat) (x6 x7 x8 : List Int) (x9 : List (List Nat)) (x10 : Int) (x11 x12 : Nat) (x13 : List Nat) (x14 : Int) (x15 : List Nat) : St := ⟨[(48, (.tup [])), (47, (tS (x9.getD (A.toN x3) []))), (46, (.v (.cell (.ptr 0 0 (some ⟨((A.toN x3) * 4) + 3, 1, x0 * 4, A.toN x3, 3, 4⟩))))), (45, (.v (.cell (.ptr 0 0 (some ⟨(A.toN x3) * 4, 4, x0 * 4, A.toN x3, 0, 4⟩))))), (44, (i6 x3)), (43, (sL 0 none x0 4)), (42, (pT 5000 0)), (0, (sL 0 none x0 4)), (2, (i6 x1)), (7, (bO x2)), (8, (pT 5000 0)), (9, (pT 6001 0)), (10, (i6 x3))], [(0, ⟨[.recs x5 [.ints .i64 x6, .ints .i64 x7, .ints .i64 x8, .strs x9]], x4, 0⟩), (5000, ⟨[.one (.int .i64 (g13r0 A (x9.getD (A.toN x3) []) x10 x11 x12 x13)), .one (.sl 5500 none (g13r1 A (x9.getD (A.toN x3) []) x10 x11 x12 x13) 1)], 56, 1⟩), (5500, ⟨[.nums .u8 (g13r2 A (x9.getD (A.toN x3) []) x10 x11 x12 x13) (g13r3 A (x9.getD (A.toN x3) []) x10 x11 x12 x13)], 5, 2⟩), (6001, ⟨[.one (.int .i64 x14), .one (.str x15)], 59, 1⟩)]⟩
theorem g6R13 (x0 : Nat) (x1 : Int) (x2 : Bool) (x3 : Int) (x4 x5 : Nat) (x6 x7 x8 : List Int) (x9 : List (List Nat)) (x10 : Int) (x11 x12 : Nat) (x13 : List Nat) (x14 : Int) (x15 : List Nat) : g6D A n (pth 70399) K ⟨[(0, (sL 0 none x0 4)), (2, (i6 x1)), (7, (bO x2)), (8, (pT 5000 0)), (9, (pT 6001 0)), (10, (i6 x3))], [(0, ⟨[.recs x5 [.ints .i64 x6, .ints .i64 x7, .ints .i64 x8, .strs x9]], x4, 0⟩), (5000, ⟨[.one (.int .i64 x10), .one (.sl 5500 none x11 1)], 56, 1⟩), (5500, ⟨[.nums .u8 x12 x13], 5, 2⟩), (6001, ⟨[.one (.int .i64 x14), .one (.str x15)], 59, 1⟩)]⟩ = match (generalizing := false) A.neg x3 with
    | true => none
    | false => match (generalizing := false) A.lt (A.toN x3) x0 with
      | true => match (generalizing := false) g13ok A (x9.getD (A.toN x3) []) x10 x11 x12 x13 with
        | true => K .normal (g6R13s0 A x0 x1 x2 x3 x4 x5 x6 x7 x8 x9 x10 x11 x12 x13 x14 x15)
        | false => none
      | false => none := by kernel_rfl
def g6R14s0 (A : Ar) (x0 : Nat) (x1 : Int) (x2 : Bool) (x3 : Int) (x4 x5 : Nat) (x6 x7 x8 : List Int) (x9 : List (List Nat)) (x10 : Int) (x11 x12 : Nat) (x13 : List Nat) (x14 : Int) (x15 : List Nat) : St := ⟨[(56, (.tup [])), (55, (i6 x1)), (54, (tS (x9.getD (A.toN x3) []))), (53, (.v (.cell (.ptr 0 0 (some ⟨((A.toN x3) * 4) + 3, 1, x0 * 4, A.toN x3, 3, 4⟩))))), (52, (.v (.cell (.ptr 0 0 (some ⟨(A.toN x3) * 4, 4, x0 * 4, A.toN x3, 0, 4⟩))))), (51, (i6 x3)), (50, (sL 0 none x0 4)), (49, (pT 5000 0)), (0, (sL 0 none x0 4)), (2, (i6 x1)), (7, (bO x2)), (8, (pT 5000 0)), (9, (pT 6001 0)), (10, (i6 x3))], [(0, ⟨[.recs x5 [.ints .i64 x6, .ints .i64 x7, .ints .i64 x8, .strs x9]], x4, 0⟩), (5000, ⟨[.one (.int .i64 (g15r0 A (x9.getD (A.toN x3) []) x1 x10 x11 x12 x13)), .one (.sl 5500 none (g15r1 A (x9.getD (A.toN x3) []) x1 x10 x11 x12 x13) 1)], 56, 1⟩), (5500, ⟨[.nums .u8 (g15r2 A (x9.getD (A.toN x3) []) x1 x10 x11 x12 x13) (g15r3 A (x9.getD (A.toN x3) []) x1 x10 x11 x12 x13)], 5, 2⟩), (6001, ⟨[.one (.int .i64 x14), .one (.str x15)], 59, 1⟩)]⟩
theorem g6R14 (x0 : Nat) (x1 : Int) (x2 : Bool) (x3 : Int) (x4 x5 : Nat) (x6 x7 x8 : List Int) (x9 : List (List Nat)) (x10 : Int) (x11 x12 : Nat) (x13 : List Nat) (x14 : Int) (x15 : List Nat) : g6D A n (pth 168703) K ⟨[(0, (sL 0 none x0 4)), (2, (i6 x1)), (7, (bO x2)), (8, (pT 5000 0)), (9, (pT 6001 0)), (10, (i6 x3))], [(0, ⟨[.recs x5 [.ints .i64 x6, .ints .i64 x7, .ints .i64 x8, .strs x9]], x4, 0⟩), (5000, ⟨[.one (.int .i64 x10), .one (.sl 5500 none x11 1)], 56, 1⟩), (5500, ⟨[.nums .u8 x12 x13], 5, 2⟩), (6001, ⟨[.one (.int .i64 x14), .one (.str x15)], 59, 1⟩)]⟩ = match (generalizing := false) A.neg x3 with
    | true => none
    | false => match (generalizing := false) A.lt (A.toN x3) x0 with
      | true => match (generalizing := false) g15ok A (x9.getD (A.toN x3) []) x1 x10 x11 x12 x13 with
        | true => K .normal (g6R14s0 A x0 x1 x2 x3 x4 x5 x6 x7 x8 x9 x10 x11 x12 x13 x14 x15)
        | false => none
      | false => none := by kernel_rfl
def g6R15s0 (A : Ar) (x0 : Nat) (x1 : Int) (x2 : Bool) (x3 : Int) (x4 x5 : Nat) (x6 x7 x8 : List Int) (x9 : List (List Nat)) (x10 : Int) (x11 x12 : Nat) (x13 : List Nat) (x14 : Int) (x15 : List Nat) : St := ⟨[(85, (bO true)), (84, uN), (83, uN), (82, uN), (81, (bO true)), (80, (bO true)), (79, uN), (78, uN), (77, uN), (76, uN), (75, (bO true)), (74, (bO true)), (73, uN), (72, uN), (71, uN), (70, uN), (69, uN), (68, uN), (67, uN), (66, uN), (65, (bO true)), (64, (bO (A.ic .neq (g19r0 A (x8.getD (A.toN x3) 0) x14 x15) 0))), (63, (i6 (g19r0 A (x8.getD (A.toN x3) 0) x14 x15))), (62, (i6 (x8.getD (A.toN x3) 0))), (61, (.v (.cell (.ptr 0 0 (some ⟨((A.toN x3) * 4) + 2, 1, x0 * 4, A.toN x3, 2, 4⟩))))), (60, (.v (.cell (.ptr 0 0 (some ⟨(A.toN x3) * 4, 4, x0 * 4, A.toN x3, 0, 4⟩))))), (59, (i6 x3)), (58, (sL 0 none x0 4)), (57, (pT 6001 0)), (0, (sL 0 none x0 4)), (2, (i6 x1)), (7, (bO x2)), (8, (pT 5000 0)), (9, (pT 6001 0)), (10, (i6 x3))], [(0, ⟨[.recs x5 [.ints .i64 x6, .ints .i64 x7, .ints .i64 x8, .strs x9]], x4, 0⟩), (5000, ⟨[.one (.int .i64 x10), .one (.sl 5500 none x11 1)], 56, 1⟩), (5500, ⟨[.nums .u8 x12 x13], 5, 2⟩), (6001, ⟨[.one (.int .i64 (g19r1 A (x8.getD (A.toN x3) 0) x14 x15)), .one (.str (g19r2 A (x8.getD (A.toN x3) 0) x14 x15))], 59, 1⟩)]⟩
def g6R15s1 (A : Ar) (x0 : Nat) (x1 : Int) (x2 : Bool) (x3 : Int) (x4 x5 : Nat) (x6 x7 x8 : List Int) (x9 : List (List Nat)) (x10 : Int) (x11 x12 : Nat) (x13 : List Nat) (x14 : Int) (x15 : List Nat) : St := ⟨[(85, (bO true)), (84, uN), (83, uN), (82, uN), (81, (bO true)), (80, (bO true)), (79, uN), (78, uN), (77, uN), (76, uN), (75, (bO true)), (74, (bO (A.sc .neq (g21r0 A (x7.getD (A.toN x3) 0) (g19r1 A (x8.getD (A.toN x3) 0) x14 x15) (g19r2 A (x8.getD (A.toN x3) 0) x14 x15)) []))), (73, (bO (A.sc .neq (g21r0 A (x7.getD (A.toN x3) 0) (g19r1 A (x8.getD (A.toN x3) 0) x14 x15) (g19r2 A (x8.getD (A.toN x3) 0) x14 x15)) []))), (72, (tS (g21r0 A (x7.getD (A.toN x3) 0) (g19r1 A (x8.getD (A.toN x3) 0) x14 x15) (g19r2 A (x8.getD (A.toN x3) 0) x14 x15)))), (71, (i6 (x7.getD (A.toN x3) 0))), (70, (.v (.cell (.ptr 0 0 (some ⟨((A.toN x3) * 4) + 1, 1, x0 * 4, A.toN x3, 1, 4⟩))))), (69, (.v (.cell (.ptr 0 0 (some ⟨(A.toN x3) * 4, 4, x0 * 4, A.toN x3, 0, 4⟩))))), (68, (i6 x3)), (67, (sL 0 none x0 4)), (66, (pT 6001 0)), (65, (bO false)), (64, (bO (A.ic .neq (g19r0 A (x8.getD (A.toN x3) 0) x14 x15) 0))), (63, (i6 (g19r0 A (x8.getD (A.toN x3) 0) x14 x15))), (62, (i6 (x8.getD (A.toN x3) 0))), (61, (.v (.cell (.ptr 0 0 (some ⟨((A.toN x3) * 4) + 2, 1, x0 * 4, A.toN x3, 2, 4⟩))))), (60, (.v (.cell (.ptr 0 0 (some ⟨(A.toN x3) * 4, 4, x0 * 4, A.toN x3, 0, 4⟩))))), (59, (i6 x3)), (58, (sL 0 none x0 4)), (57, (pT 6001 0)), (0, (sL 0 none x0 4)), (2, (i6 x1)), (7, (bO x2)), (8, (pT 5000 0)), (9, (pT 6001 0)), (10, (i6 x3))], [(0, ⟨[.recs x5 [.ints .i64 x6, .ints .i64 x7, .ints .i64 x8, .strs x9]], x4, 0⟩), (5000, ⟨[.one (.int .i64 x10), .one (.sl 5500 none x11 1)], 56, 1⟩), (5500, ⟨[.nums .u8 x12 x13], 5, 2⟩), (6001, ⟨[.one (.int .i64 (g21r1 A (x7.getD (A.toN x3) 0) (g19r1 A (x8.getD (A.toN x3) 0) x14 x15) (g19r2 A (x8.getD (A.toN x3) 0) x14 x15))), .one (.str (g21r2 A (x7.getD (A.toN x3) 0) (g19r1 A (x8.getD (A.toN x3) 0) x14 x15) (g19r2 A (x8.getD (A.toN x3) 0) x14 x15)))], 59, 1⟩)]⟩
def g6R15s2 (A : Ar) (x0 : Nat) (x1 : Int) (x2 : Bool) (x3 : Int) (x4 x5 : Nat) (x6 x7 x8 : List Int) (x9 : List (List Nat)) (x10 : Int) (x11 x12 : Nat) (x13 : List Nat) (x14 : Int) (x15 : List Nat) : St := ⟨[(85, (bO true)), (84, uN), (83, uN), (82, uN), (81, (bO true)), (80, (bO (A.sc .neq (g6t4 A x1 x3 x7 x8 x14 x15) []))), (79, (bO (A.sc .neq (g6t4 A x1 x3 x7 x8 x14 x15) []))), (78, (tS (g6t4 A x1 x3 x7 x8 x14 x15))), (77, (i6 x1)), (76, (pT 6001 0)), (75, (bO false)), (74, (bO (A.sc .neq (g21r0 A (x7.getD (A.toN x3) 0) (g19r1 A (x8.getD (A.toN x3) 0) x14 x15) (g19r2 A (x8.getD (A.toN x3) 0) x14 x15)) []))), (73, (bO (A.sc .neq (g21r0 A (x7.getD (A.toN x3) 0) (g19r1 A (x8.getD (A.toN x3) 0) x14 x15) (g19r2 A (x8.getD (A.toN x3) 0) x14 x15)) []))), (72, (tS (g21r0 A (x7.getD (A.toN x3) 0) (g19r1 A (x8.getD (A.toN x3) 0) x14 x15) (g19r2 A (x8.getD (A.toN x3) 0) x14 x15)))), (71, (i6 (x7.getD (A.toN x3) 0))), (70, (.v (.cell (.ptr 0 0 (some ⟨((A.toN x3) * 4) + 1, 1, x0 * 4, A.toN x3, 1, 4⟩))))), (69, (.v (.cell (.ptr 0 0 (some ⟨(A.toN x3) * 4, 4, x0 * 4, A.toN x3, 0, 4⟩))))), (68, (i6 x3)), (67, (sL 0 none x0 4)), (66, (pT 6001 0)), (65, (bO false)), (64, (bO (A.ic .neq (g19r0 A (x8.getD (A.toN x3) 0) x14 x15) 0))), (63, (i6 (g19r0 A (x8.getD (A.toN x3) 0) x14 x15))), (62, (i6 (x8.getD (A.toN x3) 0))), (61, (.v (.cell (.ptr 0 0 (some ⟨((A.toN x3) * 4) + 2, 1, x0 * 4, A.toN x3, 2, 4⟩))))), (60, (.v (.cell (.ptr 0 0 (some ⟨(A.toN x3) * 4, 4, x0 * 4, A.toN x3, 0, 4⟩))))), (59, (i6 x3)), (58, (sL 0 none x0 4)), (57, (pT 6001 0)), (0, (sL 0 none x0 4)), (2, (i6 x1)), (7, (bO x2)), (8, (pT 5000 0)), (9, (pT 6001 0)), (10, (i6 x3))], [(0, ⟨[.recs x5 [.ints .i64 x6, .ints .i64 x7, .ints .i64 x8, .strs x9]], x4, 0⟩), (5000, ⟨[.one (.int .i64 x10), .one (.sl 5500 none x11 1)], 56, 1⟩), (5500, ⟨[.nums .u8 x12 x13], 5, 2⟩), (6001, ⟨[.one (.int .i64 (g6t5 A x1 x3 x7 x8 x14 x15)), .one (.str (g6t6 A x1 x3 x7 x8 x14 x15))], 59, 1⟩)]⟩
def g6R15s3 (A : Ar) (x0 : Nat) (x1 : Int) (x2 : Bool) (x3 : Int) (x4 x5 : Nat) (x6 x7 x8 : List Int) (x9 : List (List Nat)) (x10 : Int) (x11 x12 : Nat) (x13 : List Nat) (x14 : Int) (x15 : List Nat) : St := ⟨[(85, (bO (A.ic .neq (g25r0 A (g6t5 A x1 x3 x7 x8 x14 x15) (g6t6 A x1 x3 x7 x8 x14 x15)) 0))), (84, (bO (A.ic .neq (g25r0 A (g6t5 A x1 x3 x7 x8 x14 x15) (g6t6 A x1 x3 x7 x8 x14 x15)) 0))), (83, (i6 (g25r0 A (g6t5 A x1 x3 x7 x8 x14 x15) (g6t6 A x1 x3 x7 x8 x14 x15)))), (82, (pT 6001 0)), (81, (bO false)), (80, (bO (A.sc .neq (g6t4 A x1 x3 x7 x8 x14 x15) []))), (79, (bO (A.sc .neq (g6t4 A x1 x3 x7 x8 x14 x15) []))), (78, (tS (g6t4 A x1 x3 x7 x8 x14 x15))), (77, (i6 x1)), (76, (pT 6001 0)), (75, (bO false)), (74, (bO (A.sc .neq (g21r0 A (x7.getD (A.toN x3) 0) (g19r1 A (x8.getD (A.toN x3) 0) x14 x15) (g19r2 A (x8.getD (A.toN x3) 0) x14 x15)) []))), (73, (bO (A.sc .neq (g21r0 A (x7.getD (A.toN x3) 0) (g19r1 A (x8.getD (A.toN x3) 0) x14 x15) (g19r2 A (x8.getD (A.toN x3) 0) x14 x15)) []))), (72, (tS (g21r0 A (x7.getD (A.toN x3) 0) (g19r1 A (x8.getD (A.toN x3) 0) x14 x15) (g19r2 A (x8.getD (A.toN x3) 0) x14 x15)))), (71, (i6 (x7.getD (A.toN x3) 0))), (70, (.v (.cell (.ptr 0 0 (some ⟨((A.toN x3) * 4) + 1, 1, x0 * 4, A.toN x3, 1, 4⟩))))), (69, (.v (.cell (.ptr 0 0 (some ⟨(A.toN x3) * 4, 4, x0 * 4, A.toN x3, 0, 4⟩))))), (68, (i6 x3)), (67, (sL 0 none x0 4)), (66, (pT 6001 0)), (65, (bO false)), (64, (bO (A.ic .neq (g19r0 A (x8.getD (A.toN x3) 0) x14 x15) 0))), (63, (i6 (g19r0 A (x8.getD (A.toN x3) 0) x14 x15))), (62, (i6 (x8.getD (A.toN x3) 0))), (61, (.v (.cell (.ptr 0 0 (some ⟨((A.toN x3) * 4) + 2, 1, x0 * 4, A.toN x3, 2, 4⟩))))), (60, (.v (.cell (.ptr 0 0 (some ⟨(A.toN x3) * 4, 4, x0 * 4, A.toN x3, 0, 4⟩))))), (59, (i6 x3)), (58, (sL 0 none x0 4)), (57, (pT 6001 0)), (0, (sL 0 none x0 4)), (2, (i6 x1)), (7, (bO x2)), (8, (pT 5000 0)), (9, (pT 6001 0)), (10, (i6 x3))], [(0, ⟨[.recs x5 [.ints .i64 x6, .ints .i64 x7, .ints .i64 x8, .strs x9]], x4, 0⟩), (5000, ⟨[.one (.int .i64 x10), .one (.sl 5500 none x11 1)], 56, 1⟩), (5500, ⟨[.nums .u8 x12 x13], 5, 2⟩), (6001, ⟨[.one (.int .i64 (g25r1 A (g6t5 A x1 x3 x7 x8 x14 x15) (g6t6 A x1 x3 x7 x8 x14 x15))), .one (.str (g25r2 A (g6t5 A x1 x3 x7 x8 x14 x15) (g6t6 A x1 x3 x7 x8 x14 x15)))], 59, 1⟩)]⟩
theorem g6R15 (x0 : Nat) (x1 : Int) (x2 : Bool) (x3 : Int) (x4 x5 : Nat) (x6 x7 x8 : List Int) (x9 : List (List Nat)) (x10 : Int) (x11 x12 : Nat) (x13 : List Nat) (x14 : Int) (x15 : List Nat) : g6D A n (pth 365311) K ⟨[(0, (sL 0 none x0 4)), (2, (i6 x1)), (7, (bO x2)), (8, (pT 5000 0)), (9, (pT 6001 0)), (10, (i6 x3))], [(0, ⟨[.recs x5 [.ints .i64 x6, .ints .i64 x7, .ints .i64 x8, .strs x9]], x4, 0⟩), (5000, ⟨[.one (.int .i64 x10), .one (.sl 5500 none x11 1)], 56, 1⟩), (5500, ⟨[.nums .u8 x12 x13], 5, 2⟩), (6001, ⟨[.one (.int .i64 x14), .one (.str x15)], 59, 1⟩)]⟩ = match (generalizing := false) A.neg x3 with
    | true => none
    | false => match (generalizing := false) A.lt (A.toN x3) x0 with
      | true => match (generalizing := false) g19ok A (x8.getD (A.toN x3) 0) x14 x15 with
        | true => match (generalizing := false) A.ic .neq (g19r0 A (x8.getD (A.toN x3) 0) x14 x15) 0 with
          | true => K .normal (g6R15s0 A x0 x1 x2 x3 x4 x5 x6 x7 x8 x9 x10 x11 x12 x13 x14 x15)
          | false => match (generalizing := false) A.neg x3 with
            | true => none
            | false => match (generalizing := false) A.lt (A.toN x3) x0 with
              | true => match (generalizing := false) g21ok A (x7.getD (A.toN x3) 0) (g19r1 A (x8.getD (A.toN x3) 0) x14 x15) (g19r2 A (x8.getD (A.toN x3) 0) x14 x15) with
                | true => match (generalizing := false) A.sc .neq (g21r0 A (x7.getD (A.toN x3) 0) (g19r1 A (x8.getD (A.toN x3) 0) x14 x15) (g19r2 A (x8.getD (A.toN x3) 0) x14 x15)) [] with
                  | true => K .normal (g6R15s1 A x0 x1 x2 x3 x4 x5 x6 x7 x8 x9 x10 x11 x12 x13 x14 x15)
                  | false => match (generalizing := false) g23ok A x1 (g21r1 A (x7.getD (A.toN x3) 0) (g19r1 A (x8.getD (A.toN x3) 0) x14 x15) (g19r2 A (x8.getD (A.toN x3) 0) x14 x15)) (g21r2 A (x7.getD (A.toN x3) 0) (g19r1 A (x8.getD (A.toN x3) 0) x14 x15) (g19r2 A (x8.getD (A.toN x3) 0) x14 x15)) with
                    | true => match (generalizing := false) A.sc .neq (g6t4 A x1 x3 x7 x8 x14 x15) [] with
                      | true => K .normal (g6R15s2 A x0 x1 x2 x3 x4 x5 x6 x7 x8 x9 x10 x11 x12 x13 x14 x15)
                      | false => match (generalizing := false) g25ok A (g6t5 A x1 x3 x7 x8 x14 x15) (g6t6 A x1 x3 x7 x8 x14 x15) with
                        | true => K .normal (g6R15s3 A x0 x1 x2 x3 x4 x5 x6 x7 x8 x9 x10 x11 x12 x13 x14 x15)
                        | false => none
                    | false => none
                | false => none
              | false => none
        | false => none
      | false => none := by kernel_rfl
def g6R16s0 (A : Ar) (x0 x1 : Nat) (x2 x3 x4 : List Int) (x5 : List (List Nat)) : St := ⟨[(6, (bO false))], [(0, ⟨[.recs x1 [.ints .i64 x2, .ints .i64 x3, .ints .i64 x4, .strs x5]], x0, 0⟩)]⟩
theorem g6R16 (x0 x1 : Nat) (x2 x3 x4 : List Int) (x5 : List (List Nat)) : g6D A n (pth 1282815) K ⟨[], [(0, ⟨[.recs x1 [.ints .i64 x2, .ints .i64 x3, .ints .i64 x4, .strs x5]], x0, 0⟩)]⟩ = K .normal (g6R16s0 A x0 x1 x2 x3 x4 x5) := by kernel_rfl
def g6R12s0 (A : Ar) (x0 : Nat) (x1 : Int) (x2 : Bool) (x3 : Int) (x4 x5 : Nat) (x6 x7 x8 : List Int) (x9 : List (List Nat)) (x10 : Int) (x11 x12 : Nat) (x13 : List Nat) (x14 : Int) (x15 : List Nat) : St := ⟨[(10, (i6 (A.ib .add .i64 x3 1))), (41, (i6 (A.ib .add .i64 x3 1))), (40, (i6 x3)), (0, (sL 0 none x0 4)), (2, (i6 x1)), (7, (bO x2)), (8, (pT 5000 0)), (9, (pT 6001 0)), (10, (i6 x3))], [(0, ⟨[.recs x5 [.ints .i64 x6, .ints .i64 x7, .ints .i64 x8, .strs x9]], x4, 0⟩), (5000, ⟨[.one (.int .i64 x10), .one (.sl 5500 none x11 1)], 56, 1⟩), (5500, ⟨[.nums .u8 x12 x13], 5, 2⟩), (6001, ⟨[.one (.int .i64 x14), .one (.str x15)], 59, 1⟩)]⟩
theorem g6R12 (x0 : Nat) (x1 : Int) (x2 : Bool) (x3 : Int) (x4 x5 : Nat) (x6 x7 x8 : List Int) (x9 : List (List Nat)) (x10 : Int) (x11 x12 : Nat) (x13 : List Nat) (x14 : Int) (x15 : List Nat) : g6D A n (pth 29439) K ⟨[(0, (sL 0 none x0 4)), (2, (i6 x1)), (7, (bO x2)), (8, (pT 5000 0)), (9, (pT 6001 0)), (10, (i6 x3))], [(0, ⟨[.recs x5 [.ints .i64 x6, .ints .i64 x7, .ints .i64 x8, .strs x9]], x4, 0⟩), (5000, ⟨[.one (.int .i64 x10), .one (.sl 5500 none x11 1)], 56, 1⟩), (5500, ⟨[.nums .u8 x12 x13], 5, 2⟩), (6001, ⟨[.one (.int .i64 x14), .one (.str x15)], 59, 1⟩)]⟩ = K .normal (g6R12s0 A x0 x1 x2 x3 x4 x5 x6 x7 x8 x9 x10 x11 x12 x13 x14 x15) := by kernel_rfl
def g6R17s0 (A : Ar) (x0 : Bool) (x1 x2 : Nat) (x3 x4 x5 : List Int) (x6 : List (List Nat)) (x7 : Int) (x8 x9 : Nat) (x10 : List Nat) (x11 : Int) (x12 : List Nat) : St := ⟨[(12, (i6 (g17r1 A x7 x8 x9 x10))), (11, (tS (g17r0 A x7 x8 x9 x10))), (90, (i6 (g17r1 A x7 x8 x9 x10))), (89, (tS (g17r0 A x7 x8 x9 x10))), (86, (.tup [(.cell (.str (g17r0 A x7 x8 x9 x10))), (.cell (.int .i64 (g17r1 A x7 x8 x9 x10)))])), (88, (.tup [(.cell (.str (g17r0 A x7 x8 x9 x10))), (.cell (.int .i64 (g17r1 A x7 x8 x9 x10)))])), (87, (pT 5000 0)), (7, (bO x0)), (8, (pT 5000 0)), (9, (pT 6001 0))], [(0, ⟨[.recs x2 [.ints .i64 x3, .ints .i64 x4, .ints .i64 x5, .strs x6]], x1, 0⟩), (5000, ⟨[.one (.int .i64 (g17r2 A x7 x8 x9 x10)), .one (.sl 5500 none (g17r3 A x7 x8 x9 x10) 1)], 56, 1⟩), (5500, ⟨[.nums .u8 (g17r4 A x7 x8 x9 x10) (g17r5 A x7 x8 x9 x10)], 5, 2⟩), (6001, ⟨[.one (.int .i64 x11), .one (.str x12)], 59, 1⟩)]⟩
theorem g6R17 (x0 : Bool) (x1 x2 : Nat) (x3 x4 x5 : List Int) (x6 : List (List Nat)) (x7 : Int) (x8 x9 : Nat) (x10 : List Nat) (x11 : Int) (x12 : List Nat) : g6D A n (pth 1535) K ⟨[(7, (bO x0)), (8, (pT 5000 0)), (9, (pT 6001 0))], [(0, ⟨[.recs x2 [.ints .i64 x3, .ints .i64 x4, .ints .i64 x5, .strs x6]], x1, 0⟩), (5000, ⟨[.one (.int .i64 x7), .one (.sl 5500 none x8 1)], 56, 1⟩), (5500, ⟨[.nums .u8 x9 x10], 5, 2⟩), (6001, ⟨[.one (.int .i64 x11), .one (.str x12)], 59, 1⟩)]⟩ = match (generalizing := false) g17ok A x7 x8 x9 x10 with
    | true => K .normal (g6R17s0 A x0 x1 x2 x3 x4 x5 x6 x7 x8 x9 x10 x11 x12)
    | false => none := by kernel_rfl
def g6R18s0 (A : Ar) (x0 : Bool) (x1 : List Nat) (x2 : Int) (x3 x4 : Nat) (x5 x6 x7 : List Int) (x8 : List (List Nat)) (x9 : Int) (x10 : List Nat) : St := ⟨[(6, (bO (A.ic .eql (g27r0 A x9 x10) 2))), (104, (bO (A.ic .eql (g27r0 A x9 x10) 2))), (103, (bO (A.ic .eql (g27r0 A x9 x10) 2))), (102, (i6 (g27r0 A x9 x10))), (101, (pT 6001 0)), (100, (bO true)), (99, (bO (A.ic .eql x2 1))), (98, (bO (A.ic .eql x2 1))), (97, (i6 x2)), (96, (bO true)), (95, (bO (A.sc .eql x1 []))), (94, (bO (A.sc .eql x1 []))), (93, (tS x1)), (92, (bO true)), (91, (bO x0)), (7, (bO x0)), (9, (pT 6001 0)), (11, (tS x1)), (12, (i6 x2))], [(0, ⟨[.recs x4 [.ints .i64 x5, .ints .i64 x6, .ints .i64 x7, .strs x8]], x3, 0⟩), (6001, ⟨[.one (.int .i64 (g27r1 A x9 x10)), .one (.str (g27r2 A x9 x10))], 59, 1⟩)]⟩
def g6R18s1 (A : Ar) (x0 : Bool) (x1 : List Nat) (x2 : Int) (x3 x4 : Nat) (x5 x6 x7 : List Int) (x8 : List (List Nat)) (x9 : Int) (x10 : List Nat) : St := ⟨[(6, (bO false)), (104, (bO false)), (103, uN), (102, uN), (101, uN), (100, (bO false)), (99, (bO (A.ic .eql x2 1))), (98, (bO (A.ic .eql x2 1))), (97, (i6 x2)), (96, (bO true)), (95, (bO (A.sc .eql x1 []))), (94, (bO (A.sc .eql x1 []))), (93, (tS x1)), (92, (bO true)), (91, (bO x0)), (7, (bO x0)), (9, (pT 6001 0)), (11, (tS x1)), (12, (i6 x2))], [(0, ⟨[.recs x4 [.ints .i64 x5, .ints .i64 x6, .ints .i64 x7, .strs x8]], x3, 0⟩), (6001, ⟨[.one (.int .i64 x9), .one (.str x10)], 59, 1⟩)]⟩
def g6R18s2 (A : Ar) (x0 : Bool) (x1 : List Nat) (x2 : Int) (x3 x4 : Nat) (x5 x6 x7 : List Int) (x8 : List (List Nat)) (x9 : Int) (x10 : List Nat) : St := ⟨[(6, (bO false)), (104, (bO false)), (103, uN), (102, uN), (101, uN), (100, (bO false)), (99, (bO false)), (98, uN), (97, uN), (96, (bO false)), (95, (bO (A.sc .eql x1 []))), (94, (bO (A.sc .eql x1 []))), (93, (tS x1)), (92, (bO true)), (91, (bO x0)), (7, (bO x0)), (9, (pT 6001 0)), (11, (tS x1)), (12, (i6 x2))], [(0, ⟨[.recs x4 [.ints .i64 x5, .ints .i64 x6, .ints .i64 x7, .strs x8]], x3, 0⟩), (6001, ⟨[.one (.int .i64 x9), .one (.str x10)], 59, 1⟩)]⟩
def g6R18s3 (A : Ar) (x0 : Bool) (x1 : List Nat) (x2 : Int) (x3 x4 : Nat) (x5 x6 x7 : List Int) (x8 : List (List Nat)) (x9 : Int) (x10 : List Nat) : St := ⟨[(6, (bO false)), (104, (bO false)), (103, uN), (102, uN), (101, uN), (100, (bO false)), (99, (bO false)), (98, uN), (97, uN), (96, (bO false)), (95, (bO false)), (94, uN), (93, uN), (92, (bO false)), (91, (bO x0)), (7, (bO x0)), (9, (pT 6001 0)), (11, (tS x1)), (12, (i6 x2))], [(0, ⟨[.recs x4 [.ints .i64 x5, .ints .i64 x6, .ints .i64 x7, .strs x8]], x3, 0⟩), (6001, ⟨[.one (.int .i64 x9), .one (.str x10)], 59, 1⟩)]⟩
theorem g6R18 (x0 : Bool) (x1 : List Nat) (x2 : Int) (x3 x4 : Nat) (x5 x6 x7 : List Int) (x8 : List (List Nat)) (x9 : Int) (x10 : List Nat) : g6D A n (pth 3071) K ⟨[(7, (bO x0)), (9, (pT 6001 0)), (11, (tS x1)), (12, (i6 x2))], [(0, ⟨[.recs x4 [.ints .i64 x5, .ints .i64 x6, .ints .i64 x7, .strs x8]], x3, 0⟩), (6001, ⟨[.one (.int .i64 x9), .one (.str x10)], 59, 1⟩)]⟩ = match (generalizing := false) x0 with
    | true => match (generalizing := false) A.sc .eql x1 [] with
      | true => match (generalizing := false) A.ic .eql x2 1 with
        | true => match (generalizing := false) g27ok A x9 x10 with
          | true => K .normal (g6R18s0 A x0 x1 x2 x3 x4 x5 x6 x7 x8 x9 x10)
          | false => none
        | false => K .normal (g6R18s1 A x0 x1 x2 x3 x4 x5 x6 x7 x8 x9 x10)
      | false => K .normal (g6R18s2 A x0 x1 x2 x3 x4 x5 x6 x7 x8 x9 x10)
    | false => K .normal (g6R18s3 A x0 x1 x2 x3 x4 x5 x6 x7 x8 x9 x10) := by kernel_rfl
def g6R11s0 (A : Ar) (x0 : Nat) (x1 : Int) (x2 : Bool) (x3 : Int) (x4 x5 : Nat) (x6 x7 x8 : List Int) (x9 : List (List Nat)) (x10 : Int) (x11 x12 : Nat) (x13 : List Nat) (x14 : Int) (x15 : List Nat) : St := ⟨[(39, (bO (A.ic .lss x3 10))), (38, (bO (A.ic .lss x3 10))), (37, (i6 x3)), (36, (bO true)), (35, (bO (A.ic .lss x3 (A.ofN x0)))), (34, (i6 (A.ofN x0))), (33, (sL 0 none x0 4)), (32, (i6 x3)), (0, (sL 0 none x0 4)), (2, (i6 x1)), (7, (bO x2)), (8, (pT 5000 0)), (9, (pT 6001 0)), (10, (i6 x3))], [(0, ⟨[.recs x5 [.ints .i64 x6, .ints .i64 x7, .ints .i64 x8, .strs x9]], x4, 0⟩), (5000, ⟨[.one (.int .i64 x10), .one (.sl 5500 none x11 1)], 56, 1⟩), (5500, ⟨[.nums .u8 x12 x13], 5, 2⟩), (6001, ⟨[.one (.int .i64 x14), .one (.str x15)], 59, 1⟩)]⟩
def g6R11s1 (A : Ar) (x0 : Nat) (x1 : Int) (x2 : Bool) (x3 : Int) (x4 x5 : Nat) (x6 x7 x8 : List Int) (x9 : List (List Nat)) (x10 : Int) (x11 x12 : Nat) (x13 : List Nat) (x14 : Int) (x15 : List Nat) : St := ⟨[(39, (bO false)), (38, uN), (37, uN), (36, (bO false)), (35, (bO (A.ic .lss x3 (A.ofN x0)))), (34, (i6 (A.ofN x0))), (33, (sL 0 none x0 4)), (32, (i6 x3)), (0, (sL 0 none x0 4)), (2, (i6 x1)), (7, (bO x2)), (8, (pT 5000 0)), (9, (pT 6001 0)), (10, (i6 x3))], [(0, ⟨[.recs x5 [.ints .i64 x6, .ints .i64 x7, .ints .i64 x8, .strs x9]], x4, 0⟩), (5000, ⟨[.one (.int .i64 x10), .one (.sl 5500 none x11 1)], 56, 1⟩), (5500, ⟨[.nums .u8 x12 x13], 5, 2⟩), (6001, ⟨[.one (.int .i64 x14), .one (.str x15)], 59, 1⟩)]⟩
theorem g6R11 (x0 : Nat) (x1 : Int) (x2 : Bool) (x3 : Int) (x4 x5 : Nat) (x6 x7 x8 : List Int) (x9 : List (List Nat)) (x10 : Int) (x11 x12 : Nat) (x13 : List Nat) (x14 : Int) (x15 : List Nat) : g6D A n (pth 17151) K ⟨[(0, (sL 0 none x0 4)), (2, (i6 x1)), (7, (bO x2)), (8, (pT 5000 0)), (9, (pT 6001 0)), (10, (i6 x3))], [(0, ⟨[.recs x5 [.ints .i64 x6, .ints .i64 x7, .ints .i64 x8, .strs x9]], x4, 0⟩), (5000, ⟨[.one (.int .i64 x10), .one (.sl 5500 none x11 1)], 56, 1⟩), (5500, ⟨[.nums .u8 x12 x13], 5, 2⟩), (6001, ⟨[.one (.int .i64 x14), .one (.str x15)], 59, 1⟩)]⟩ = match (generalizing := false) A.ic .lss x3 (A.ofN x0) with
    | true => K .normal (g6R11s0 A x0 x1 x2 x3 x4 x5 x6 x7 x8 x9 x10 x11 x12 x13 x14 x15)
    | false => K .normal (g6R11s1 A x0 x1 x2 x3 x4 x5 x6 x7 x8 x9 x10 x11 x12 x13 x14 x15) := by kernel_rfl
def g6R8s0 (A : Ar) (x0 : Nat) (x1 : List Nat) (x2 : Int) (x3 : Bool) (x4 x5 : Nat) (x6 x7 x8 : List Int) (x9 : List (List Nat)) (x10 : Int) (x11 x12 : Nat) (x13 : List Nat) (x14 : Int) (x15 : List Nat) : St := ⟨[(26, (.tup [])), (25, (pT 5000 0)), (0, (sL 0 none x0 4)), (1, (tS x1)), (2, (i6 x2)), (7, (bO x3)), (8, (pT 5000 0)), (9, (pT 6001 0))], [(0, ⟨[.recs x5 [.ints .i64 x6, .ints .i64 x7, .ints .i64 x8, .strs x9]], x4, 0⟩), (5000, ⟨[.one (.int .i64 (g11r0 A (-1) 2 x10 x11 x12 x13)), .one (.sl 5500 none (g11r1 A (-1) 2 x10 x11 x12 x13) 1)], 56, 1⟩), (5500, ⟨[.nums .u8 (g11r2 A (-1) 2 x10 x11 x12 x13) (g11r3 A (-1) 2 x10 x11 x12 x13)], 5, 2⟩), (6001, ⟨[.one (.int .i64 x14), .one (.str x15)], 59, 1⟩)]⟩
theorem g6R8 (x0 : Nat) (x1 : List Nat) (x2 : Int) (x3 : Bool) (x4 x5 : Nat) (x6 x7 x8 : List Int) (x9 : List (List Nat)) (x10 : Int) (x11 x12 : Nat) (x13 : List Nat) (x14 : Int) (x15 : List Nat) : g6D A n (pth 191) K ⟨[(0, (sL 0 none x0 4)), (1, (tS x1)), (2, (i6 x2)), (7, (bO x3)), (8, (pT 5000 0)), (9, (pT 6001 0))], [(0, ⟨[.recs x5 [.ints .i64 x6, .ints .i64 x7, .ints .i64 x8, .strs x9]], x4, 0⟩), (5000, ⟨[.one (.int .i64 x10), .one (.sl 5500 none x11 1)], 56, 1⟩), (5500, ⟨[.nums .u8 x12 x13], 5, 2⟩), (6001, ⟨[.one (.int .i64 x14), .one (.str x15)], 59, 1⟩)]⟩ = match (generalizing := false) g11ok A (-1) 2 x10 x11 x12 x13 with
    | true => K .normal (g6R8s0 A x0 x1 x2 x3 x4 x5 x6 x7 x8 x9 x10 x11 x12 x13 x14 x15)
    | false => none := by kernel_rfl
def g6R9s0 (A : Ar) (x0 : Nat) (x1 : List Nat) (x2 : Int) (x3 : Bool) (x4 x5 : Nat) (x6 x7 x8 : List Int) (x9 : List (List Nat)) (x10 : Int) (x11 x12 : Nat) (x13 : List Nat) (x14 : Int) (x15 : List Nat) : St := ⟨[(31, (tS (g21r0 A (A.ib .add .i64 (A.ofN x1.length) 1) x14 x15))), (30, (i6 (A.ib .add .i64 (A.ofN x1.length) 1))), (29, (i6 (A.ofN x1.length))), (28, (tS x1)), (27, (pT 6001 0)), (0, (sL 0 none x0 4)), (1, (tS x1)), (2, (i6 x2)), (7, (bO x3)), (8, (pT 5000 0)), (9, (pT 6001 0))], [(0, ⟨[.recs x5 [.ints .i64 x6, .ints .i64 x7, .ints .i64 x8, .strs x9]], x4, 0⟩), (5000, ⟨[.one (.int .i64 x10), .one (.sl 5500 none x11 1)], 56, 1⟩), (5500, ⟨[.nums .u8 x12 x13], 5, 2⟩), (6001, ⟨[.one (.int .i64 (g21r1 A (A.ib .add .i64 (A.ofN x1.length) 1) x14 x15)), .one (.str (g21r2 A (A.ib .add .i64 (A.ofN x1.length) 1) x14 x15))], 59, 1⟩)]⟩
theorem g6R9 (x0 : Nat) (x1 : List Nat) (x2 : Int) (x3 : Bool) (x4 x5 : Nat) (x6 x7 x8 : List Int) (x9 : List (List Nat)) (x10 : Int) (x11 x12 : Nat) (x13 : List Nat) (x14 : Int) (x15 : List Nat) : g6D A n (pth 383) K ⟨[(0, (sL 0 none x0 4)), (1, (tS x1)), (2, (i6 x2)), (7, (bO x3)), (8, (pT 5000 0)), (9, (pT 6001 0))], [(0, ⟨[.recs x5 [.ints .i64 x6, .ints .i64 x7, .ints .i64 x8, .strs x9]], x4, 0⟩), (5000, ⟨[.one (.int .i64 x10), .one (.sl 5500 none x11 1)], 56, 1⟩), (5500, ⟨[.nums .u8 x12 x13], 5, 2⟩), (6001, ⟨[.one (.int .i64 x14), .one (.str x15)], 59, 1⟩)]⟩ = match (generalizing := false) g21ok A (A.ib .add .i64 (A.ofN x1.length) 1) x14 x15 with
    | true => K .normal (g6R9s0 A x0 x1 x2 x3 x4 x5 x6 x7 x8 x9 x10 x11 x12 x13 x14 x15)
    | false => none := by kernel_rfl
def g6R10s0 (A : Ar) (x0 : Nat) (x1 : Int) (x2 : Bool) (x3 x4 : Nat) (x5 x6 x7 : List Int) (x8 : List (List Nat)) (x9 : Int) (x10 x11 : Nat) (x12 : List Nat) (x13 : Int) (x14 : List Nat) : St := ⟨[(10, (i6 0)), (0, (sL 0 none x0 4)), (2, (i6 x1)), (7, (bO x2)), (8, (pT 5000 0)), (9, (pT 6001 0))], [(0, ⟨[.recs x4 [.ints .i64 x5, .ints .i64 x6, .ints .i64 x7, .strs x8]], x3, 0⟩), (5000, ⟨[.one (.int .i64 x9), .one (.sl 5500 none x10 1)], 56, 1⟩), (5500, ⟨[.nums .u8 x11 x12], 5, 2⟩), (6001, ⟨[.one (.int .i64 x13), .one (.str x14)], 59, 1⟩)]⟩
theorem g6R10 (x0 : Nat) (x1 : Int) (x2 : Bool) (x3 x4 : Nat) (x5 x6 x7 : List Int) (x8 : List (List Nat)) (x9 : Int) (x10 x11 : Nat) (x12 : List Nat) (x13 : Int) (x14 : List Nat) : g6D A n (pth 1279) K ⟨[(0, (sL 0 none x0 4)), (2, (i6 x1)), (7, (bO x2)), (8, (pT 5000 0)), (9, (pT 6001 0))], [(0, ⟨[.recs x4 [.ints .i64 x5, .ints .i64 x6, .ints .i64 x7, .strs x8]], x3, 0⟩), (5000, ⟨[.one (.int .i64 x9), .one (.sl 5500 none x10 1)], 56, 1⟩), (5500, ⟨[.nums .u8 x11 x12], 5, 2⟩), (6001, ⟨[.one (.int .i64 x13), .one (.str x14)], 59, 1⟩)]⟩ = K .normal (g6R10s0 A x0 x1 x2 x3 x4 x5 x6 x7 x8 x9 x10 x11 x12 x13 x14) := by kernel_rfl
def g6R4s0 (A : Ar) (x0 : Nat) (x1 : List Nat) (x2 : Int) (x3 : Bool) (x4 x5 : Nat) (x6 x7 x8 : List Int) (x9 : List (List Nat)) : St := ⟨[(8, (pT 5000 0)), (16, (pT 5000 0)), (0, (sL 0 none x0 4)), (1, (tS x1)), (2, (i6 x2)), (7, (bO x3))], [(5500, ⟨[.nums .u8 0 []], 5, 2⟩), (5000, ⟨[.one (.int .i64 (g9r0 A)), .one (.sl 5500 none 0 1)], 56, 1⟩), (0, ⟨[.recs x5 [.ints .i64 x6, .ints .i64 x7, .ints .i64 x8, .strs x9]], x4, 0⟩)]⟩
theorem g6R4 (x0 : Nat) (x1 : List Nat) (x2 : Int) (x3 : Bool) (x4 x5 : Nat) (x6 x7 x8 : List Int) (x9 : List (List Nat)) : g6D A n (pth 23) K ⟨[(0, (sL 0 none x0 4)), (1, (tS x1)), (2, (i6 x2)), (7, (bO x3))], [(0, ⟨[.recs x5 [.ints .i64 x6, .ints .i64 x7, .ints .i64 x8, .strs x9]], x4, 0⟩)]⟩ = match (generalizing := false) g9ok A with
    | true => K .normal (g6R4s0 A x0 x1 x2 x3 x4 x5 x6 x7 x8 x9)
    | false => none := by kernel_rfl
def g6R5s0 (A : Ar) (x0 : Nat) (x1 : List Nat) (x2 : Int) (x3 : Bool) (x4 x5 : Nat) (x6 x7 x8 : List Int) (x9 : List (List Nat)) (x10 : Int) (x11 x12 : Nat) (x13 : List Nat) : St := ⟨[(9, (pT 6001 0)), (18, (pT 6001 0)), (17, (tS x1)), (0, (sL 0 none x0 4)), (1, (tS x1)), (2, (i6 x2)), (7, (bO x3)), (8, (pT 5000 0))], [(6001, ⟨[.one (.int .i64 (g18r0 A x1)), .one (.str (g18r1 A x1))], 59, 1⟩), (0, ⟨[.recs x5 [.ints .i64 x6, .ints .i64 x7, .ints .i64 x8, .strs x9]], x4, 0⟩), (5000, ⟨[.one (.int .i64 x10), .one (.sl 5500 none x11 1)], 56, 1⟩), (5500, ⟨[.nums .u8 x12 x13], 5, 2⟩)]⟩
theorem g6R5 (x0 : Nat) (x1 : List Nat) (x2 : Int) (x3 : Bool) (x4 x5 : Nat) (x6 x7 x8 : List Int) (x9 : List (List Nat)) (x10 : Int) (x11 x12 : Nat) (x13 : List Nat) : g6D A n (pth 47) K ⟨[(0, (sL 0 none x0 4)), (1, (tS x1)), (2, (i6 x2)), (7, (bO x3)), (8, (pT 5000 0))], [(0, ⟨[.recs x5 [.ints .i64 x6, .ints .i64 x7, .ints .i64 x8, .strs x9]], x4, 0⟩), (5000, ⟨[.one (.int .i64 x10), .one (.sl 5500 none x11 1)], 56, 1⟩), (5500, ⟨[.nums .u8 x12 x13], 5, 2⟩)]⟩ = match (generalizing := false) g18ok A x1 with
    | true => K .normal (g6R5s0 A x0 x1 x2 x3 x4 x5 x6 x7 x8 x9 x10 x11 x12 x13)
    | false => none := by kernel_rfl
def g6R6s0 (A : Ar) (x0 : Nat) (x1 : List Nat) (x2 : Int) (x3 : Bool) (x4 x5 : Nat) (x6 x7 x8 : List Int) (x9 : List (List Nat)) (x10 : Int) (x11 x12 : Nat) (x13 : List Nat) (x14 : Int) (x15 : List Nat) : St := ⟨[(24, (bO false)), (23, (bO false)), (22, (pT 6001 0)), (21, (bO false)), (20, (bO false)), (19, (pT 5000 0)), (0, (sL 0 none x0 4)), (1, (tS x1)), (2, (i6 x2)), (7, (bO x3)), (8, (pT 5000 0)), (9, (pT 6001 0))], [(0, ⟨[.recs x5 [.ints .i64 x6, .ints .i64 x7, .ints .i64 x8, .strs x9]], x4, 0⟩), (5000, ⟨[.one (.int .i64 x10), .one (.sl 5500 none x11 1)], 56, 1⟩), (5500, ⟨[.nums .u8 x12 x13], 5, 2⟩), (6001, ⟨[.one (.int .i64 x14), .one (.str x15)], 59, 1⟩)]⟩
theorem g6R6 (x0 : Nat) (x1 : List Nat) (x2 : Int) (x3 : Bool) (x4 x5 : Nat) (x6 x7 x8 : List Int) (x9 : List (List Nat)) (x10 : Int) (x11 x12 : Nat) (x13 : List Nat) (x14 : Int) (x15 : List Nat) : g6D A n (pth 159) K ⟨[(0, (sL 0 none x0 4)), (1, (tS x1)), (2, (i6 x2)), (7, (bO x3)), (8, (pT 5000 0)), (9, (pT 6001 0))], [(0, ⟨[.recs x5 [.ints .i64 x6, .ints .i64 x7, .ints .i64 x8, .strs x9]], x4, 0⟩), (5000, ⟨[.one (.int .i64 x10), .one (.sl 5500 none x11 1)], 56, 1⟩), (5500, ⟨[.nums .u8 x12 x13], 5, 2⟩), (6001, ⟨[.one (.int .i64 x14), .one (.str x15)], 59, 1⟩)]⟩ = K .normal (g6R6s0 A x0 x1 x2 x3 x4 x5 x6 x7 x8 x9 x10 x11 x12 x13 x14 x15) := by kernel_rfl
def g6R0s0 (A : Ar) (x0 : Nat) (x1 : List Nat) (x2 : Int) (x3 x4 : Nat) (x5 x6 x7 : List Int) (x8 : List (List Nat)) : St := ⟨[(6, (bO false)), (0, (sL 0 none x0 4)), (1, (tS x1)), (2, (i6 x2))], [(0, ⟨[.recs x4 [.ints .i64 x5, .ints .i64 x6, .ints .i64 x7, .strs x8]], x3, 0⟩)]⟩
theorem g6R0 (x0 : Nat) (x1 : List Nat) (x2 : Int) (x3 x4 : Nat) (x5 x6 x7 : List Int) (x8 : List (List Nat)) : g6D A n (pth 2) K ⟨[(0, (sL 0 none x0 4)), (1, (tS x1)), (2, (i6 x2))], [(0, ⟨[.recs x4 [.ints .i64 x5, .ints .i64 x6, .ints .i64 x7, .strs x8]], x3, 0⟩)]⟩ = K .normal (g6R0s0 A x0 x1 x2 x3 x4 x5 x6 x7 x8) := by kernel_rfl
def g6R1s0 (A : Ar) (x0 : Nat) (x1 : List Nat) (x2 : Int) (x3 x4 : Nat) (x5 x6 x7 : List Int) (x8 : List (List Nat)) : St := ⟨[(7, (bO (g8r0 A))), (13, (bO (g8r0 A))), (0, (sL 0 none x0 4)), (1, (tS x1)), (2, (i6 x2))], [(0, ⟨[.recs x4 [.ints .i64 x5, .ints .i64 x6, .ints .i64 x7, .strs x8]], x3, 0⟩)]⟩
theorem g6R1 (x0 : Nat) (x1 : List Nat) (x2 : Int) (x3 x4 : Nat) (x5 x6 x7 : List Int) (x8 : List (List Nat)) : g6D A n (pth 5) K ⟨[(0, (sL 0 none x0 4)), (1, (tS x1)), (2, (i6 x2))], [(0, ⟨[.recs x4 [.ints .i64 x5, .ints .i64 x6, .ints .i64 x7, .strs x8]], x3, 0⟩)]⟩ = match (generalizing := false) g8ok A with
    | true => K .normal (g6R1s0 A x0 x1 x2 x3 x4 x5 x6 x7 x8)
    | false => none := by kernel_rfl
def g6R2s0 (A : Ar) (x0 : Nat) (x1 : List Nat) (x2 : Int) (x3 : Bool) (x4 x5 : Nat) (x6 x7 x8 : List Int) (x9 : List (List Nat)) : St := ⟨[(15, (bO (!x3))), (14, (bO x3)), (0, (sL 0 none x0 4)), (1, (tS x1)), (2, (i6 x2)), (7, (bO x3))], [(0, ⟨[.recs x5 [.ints .i64 x6, .ints .i64 x7, .ints .i64 x8, .strs x9]], x4, 0⟩)]⟩
theorem g6R2 (x0 : Nat) (x1 : List Nat) (x2 : Int) (x3 : Bool) (x4 x5 : Nat) (x6 x7 x8 : List Int) (x9 : List (List Nat)) : g6D A n (pth 19) K ⟨[(0, (sL 0 none x0 4)), (1, (tS x1)), (2, (i6 x2)), (7, (bO x3))], [(0, ⟨[.recs x5 [.ints .i64 x6, .ints .i64 x7, .ints .i64 x8, .strs x9]], x4, 0⟩)]⟩ = K .normal (g6R2s0 A x0 x1 x2 x3 x4 x5 x6 x7 x8 x9) := by kernel_rfl
def g6R3s0 (A : Ar) (x0 x1 : Nat) (x2 x3 x4 : List Int) (x5 : List (List Nat)) : St := ⟨[(6, (bO false))], [(0, ⟨[.recs x1 [.ints .i64 x2, .ints .i64 x3, .ints .i64 x4, .strs x5]], x0, 0⟩)]⟩
theorem g6R3 (x0 x1 : Nat) (x2 x3 x4 : List Int) (x5 : List (List Nat)) : g6D A n (pth 75) K ⟨[], [(0, ⟨[.recs x1 [.ints .i64 x2, .ints .i64 x3, .ints .i64 x4, .strs x5]], x0, 0⟩)]⟩ = K .normal (g6R3s0 A x0 x1 x2 x3 x4 x5) := by kernel_rfl
end
def g6J13 {R : Type} (A : Ar) (n : Nat) (kk : AV → Heap → Option R) (lg6L11 : Nat → Int → Bool → Int → Nat → Nat → List Int → List Int → List Int → List (List Nat) → Int → Nat → Nat → List Nat → Int → List Nat → Option R) (x0 : Nat) (x1 : Int) (x2 : Bool) (x3 : Int) (x4 x5 : Nat) (x6 x7 x8 : List Int) (x9 : List (List Nat)) (x10 : Int) (x11 x12 : Nat) (x13 : List Nat) (x14 : Int) (x15 : List Nat) : Option R :=
  match (generalizing := false) A.neg x3 with
  | true => none
  | false => match (generalizing := false) A.lt (A.toN x3) x0 with
    | true => match (generalizing := false) g13ok A (x9.getD (A.toN x3) []) x10 x11 x12 x13 with
      | true => match (generalizing := false) A.neg x3 with
        | true => none
        | false => match (generalizing := false) A.lt (A.toN x3) x0 with
          | true => match (generalizing := false) g15ok A (x9.getD (A.toN x3) []) x1 (g13r0 A (x9.getD (A.toN x3) []) x10 x11 x12 x13) (g13r1 A (x9.getD (A.toN x3) []) x10 x11 x12 x13) (g13r2 A (x9.getD (A.toN x3) []) x10 x11 x12 x13) (g13r3 A (x9.getD (A.toN x3) []) x10 x11 x12 x13) with
            | true => match (generalizing := false) A.neg x3 with
              | true => none
              | false => match (generalizing := false) A.lt (A.toN x3) x0 with
                | true => match (generalizing := false) g19ok A (x8.getD (A.toN x3) 0) x14 x15 with
                  | true => match (generalizing := false) A.ic .neq (g19r0 A (x8.getD (A.toN x3) 0) x14 x15) 0 with
                    | true => kk (bO false) [(0, ⟨[.recs x5 [.ints .i64 x6, .ints .i64 x7, .ints .i64 x8, .strs x9]], x4, 0⟩)]
                    | false => match (generalizing := false) A.neg x3 with
                      | true => none
                      | false => match (generalizing := false) A.lt (A.toN x3) x0 with
                        | true => match (generalizing := false) g21ok A (x7.getD (A.toN x3) 0) (g19r1 A (x8.getD (A.toN x3) 0) x14 x15) (g19r2 A (x8.getD (A.toN x3) 0) x14 x15) with
                          | true => match (generalizing := false) A.sc .neq (g21r0 A (x7.getD (A.toN x3) 0) (g19r1 A (x8.getD (A.toN x3) 0) x14 x15) (g19r2 A (x8.getD (A.toN x3) 0) x14 x15)) [] with
                            | true => kk (bO false) [(0, ⟨[.recs x5 [.ints .i64 x6, .ints .i64 x7, .ints .i64 x8, .strs x9]], x4, 0⟩)]
                            | false => match (generalizing := false) g23ok A x1 (g21r1 A (x7.getD (A.toN x3) 0) (g19r1 A (x8.getD (A.toN x3) 0) x14 x15) (g19r2 A (x8.getD (A.toN x3) 0) x14 x15)) (g21r2 A (x7.getD (A.toN x3) 0) (g19r1 A (x8.getD (A.toN x3) 0) x14 x15) (g19r2 A (x8.getD (A.toN x3) 0) x14 x15)) with
                              | true => match (generalizing := false) A.sc .neq (g6t4 A x1 x3 x7 x8 x14 x15) [] with
                                | true => kk (bO false) [(0, ⟨[.recs x5 [.ints .i64 x6, .ints .i64 x7, .ints .i64 x8, .strs x9]], x4, 0⟩)]
                                | false => match (generalizing := false) g25ok A (g6t5 A x1 x3 x7 x8 x14 x15) (g6t6 A x1 x3 x7 x8 x14 x15) with
                                  | true => match (generalizing := false) A.ic .neq (g25r0 A (g6t5 A x1 x3 x7 x8 x14 x15) (g6t6 A x1 x3 x7 x8 x14 x15)) 0 with
                                    | true => kk (bO false) [(0, ⟨[.recs x5 [.ints .i64 x6, .ints .i64 x7, .ints .i64 x8, .strs x9]], x4, 0⟩)]
                                    | false => lg6L11 x0 x1 x2 (A.ib .add .i64 x3 1) x4 x5 x6 x7 x8 x9 (g6t0 A x1 x3 x9 x10 x11 x12 x13) (g6t1 A x1 x3 x9 x10 x11 x12 x13) (g6t2 A x1 x3 x9 x10 x11 x12 x13) (g6t3 A x1 x3 x9 x10 x11 x12 x13) (g25r1 A (g6t5 A x1 x3 x7 x8 x14 x15) (g6t6 A x1 x3 x7 x8 x14 x15)) (g25r2 A (g6t5 A x1 x3 x7 x8 x14 x15) (g6t6 A x1 x3 x7 x8 x14 x15))
                                  | false => none
                              | false => none
                          | false => none
                        | false => none
                  | false => none
                | false => none
            | false => none
          | false => none
      | false => none
    | false => none
set_option maxRecDepth 100000 in
theorem g6J13_eq {R : Type} (A : Ar) (n : Nat) (kk : AV → Heap → Option R) (m0 : Nat) (lg6L11 : Nat → Int → Bool → Int → Nat → Nat → List Int → List Int → List Int → List (List Nat) → Int → Nat → Nat → List Nat → Int → List Nat → Option R) 
    (hg6L11 : ∀ (s : St) (x0 : Nat) (x1 : Int) (x2 : Bool) (x3 : Int) (x4 x5 : Nat) (x6 x7 x8 : List Int) (x9 : List (List Nat)) (x10 : Int) (x11 x12 : Nat) (x13 : List Nat) (x14 : Int) (x15 : List Nat), keep g6an 11 s = ⟨[(0, (sL 0 none x0 4)), (2, (i6 x1)), (7, (bO x2)), (8, (pT 5000 0)), (9, (pT 6001 0)), (10, (i6 x3))], [(0, ⟨[.recs x5 [.ints .i64 x6, .ints .i64 x7, .ints .i64 x8, .strs x9]], x4, 0⟩), (5000, ⟨[.one (.int .i64 x10), .one (.sl 5500 none x11 1)], 56, 1⟩), (5500, ⟨[.nums .u8 x12 x13], 5, 2⟩), (6001, ⟨[.one (.int .i64 x14), .one (.str x15)], 59, 1⟩)]⟩ → g6V A n (pth 4863) m0 (blockK 0 (g6Q A n (pth 1023) (g6T kk))) s = lg6L11 x0 x1 x2 x3 x4 x5 x6 x7 x8 x9 x10 x11 x12 x13 x14 x15) (s : St) (x0 : Nat) (x1 : Int) (x2 : Bool) (x3 : Int) (x4 x5 : Nat) (x6 x7 x8 : List Int) (x9 : List (List Nat)) (x10 : Int) (x11 x12 : Nat) (x13 : List Nat) (x14 : Int) (x15 : List Nat) (h : keep g6an 13 s = ⟨[(0, (sL 0 none x0 4)), (2, (i6 x1)), (7, (bO x2)), (8, (pT 5000 0)), (9, (pT 6001 0)), (10, (i6 x3))], [(0, ⟨[.recs x5 [.ints .i64 x6, .ints .i64 x7, .ints .i64 x8, .strs x9]], x4, 0⟩), (5000, ⟨[.one (.int .i64 x10), .one (.sl 5500 none x11 1)], 56, 1⟩), (5500, ⟨[.nums .u8 x12 x13], 5, 2⟩), (6001, ⟨[.one (.int .i64 x14), .one (.str x15)], 59, 1⟩)]⟩) :
    g6D A n (pth 13055) (g6W A n (pth 4863) m0 (blockK 0 (g6Q A n (pth 1023) (g6T kk)))) s = g6J13 A n kk lg6L11 x0 x1 x2 x3 x4 x5 x6 x7 x8 x9 x10 x11 x12 x13 x14 x15 := by
  have h1 : (g6T kk) .ret (g6R16s0 A x4 x5 x6 x7 x8 x9) = kk (bO false) [(0, ⟨[.recs x5 [.ints .i64 x6, .ints .i64 x7, .ints .i64 x8, .strs x9]], x4, 0⟩)] := by kernel_rfl
  have h2 := (g6Qr A n (pth 1023) _ _).trans h1
  have h3 := (blockK_r 0 _ _).trans h2
  have h4 := (g6Wr A n (pth 4863) m0 _ _).trans h3
  have h5 := (g6Qr A n (pth 29439) _ _).trans h4
  have h6 := (blockK_r 1 _ _).trans h5
  have h7 := (g6p1807103 A n _ _).trans h6
  have h8 := (g6Qn A n _ _ _).trans h7
  have h9 := (g6F A n _ 16 _ (g6R15s0 A x0 x1 x2 x3 x4 x5 x6 x7 x8 x9 (g6t0 A x1 x3 x9 x10 x11 x12 x13) (g6t1 A x1 x3 x9 x10 x11 x12 x13) (g6t2 A x1 x3 x9 x10 x11 x12 x13) (g6t3 A x1 x3 x9 x10 x11 x12 x13) x14 x15) _ (by kernel_rfl) (by kernel_rfl)).trans (g6R16 A n (g6Q A n (pth 1807103) (blockK 1 (g6Q A n (pth 29439) (g6W A n (pth 4863) m0 (blockK 0 (g6Q A n (pth 1023) (g6T kk))))))) x4 x5 x6 x7 x8 x9)
  rw [h8] at h9
  have h10 := (g6p758527 A n _ _).trans h9
  have h11 := (g6p496383 A n (blockK 1 (g6Q A n (pth 29439) (g6W A n (pth 4863) m0 (blockK 0 (g6Q A n (pth 1023) (g6T kk)))))) (g6R15s0 A x0 x1 x2 x3 x4 x5 x6 x7 x8 x9 (g6t0 A x1 x3 x9 x10 x11 x12 x13) (g6t1 A x1 x3 x9 x10 x11 x12 x13) (g6t2 A x1 x3 x9 x10 x11 x12 x13) (g6t3 A x1 x3 x9 x10 x11 x12 x13) x14 x15) true (by kernel_rfl)).trans h10
  have h12 := (g6Qn A n _ _ _).trans h11
  have h13 : (g6T kk) .ret (g6R16s0 A x4 x5 x6 x7 x8 x9) = kk (bO false) [(0, ⟨[.recs x5 [.ints .i64 x6, .ints .i64 x7, .ints .i64 x8, .strs x9]], x4, 0⟩)] := by kernel_rfl
  have h14 := (g6Qr A n (pth 1023) _ _).trans h13
  have h15 := (blockK_r 0 _ _).trans h14
  have h16 := (g6Wr A n (pth 4863) m0 _ _).trans h15
  have h17 := (g6Qr A n (pth 29439) _ _).trans h16
  have h18 := (blockK_r 1 _ _).trans h17
  have h19 := (g6p1807103 A n _ _).trans h18
  have h20 := (g6Qn A n _ _ _).trans h19
  have h21 := (g6F A n _ 16 _ (g6R15s1 A x0 x1 x2 x3 x4 x5 x6 x7 x8 x9 (g6t0 A x1 x3 x9 x10 x11 x12 x13) (g6t1 A x1 x3 x9 x10 x11 x12 x13) (g6t2 A x1 x3 x9 x10 x11 x12 x13) (g6t3 A x1 x3 x9 x10 x11 x12 x13) x14 x15) _ (by kernel_rfl) (by kernel_rfl)).trans (g6R16 A n (g6Q A n (pth 1807103) (blockK 1 (g6Q A n (pth 29439) (g6W A n (pth 4863) m0 (blockK 0 (g6Q A n (pth 1023) (g6T kk))))))) x4 x5 x6 x7 x8 x9)
  rw [h20] at h21
  have h22 := (g6p758527 A n _ _).trans h21
  have h23 := (g6p496383 A n (blockK 1 (g6Q A n (pth 29439) (g6W A n (pth 4863) m0 (blockK 0 (g6Q A n (pth 1023) (g6T kk)))))) (g6R15s1 A x0 x1 x2 x3 x4 x5 x6 x7 x8 x9 (g6t0 A x1 x3 x9 x10 x11 x12 x13) (g6t1 A x1 x3 x9 x10 x11 x12 x13) (g6t2 A x1 x3 x9 x10 x11 x12 x13) (g6t3 A x1 x3 x9 x10 x11 x12 x13) x14 x15) true (by kernel_rfl)).trans h22
  have h24 := (g6Qn A n _ _ _).trans h23
  have h25 : (g6T kk) .ret (g6R16s0 A x4 x5 x6 x7 x8 x9) = kk (bO false) [(0, ⟨[.recs x5 [.ints .i64 x6, .ints .i64 x7, .ints .i64 x8, .strs x9]], x4, 0⟩)] := by kernel_rfl
  have h26 := (g6Qr A n (pth 1023) _ _).trans h25
  have h27 := (blockK_r 0 _ _).trans h26
  have h28 := (g6Wr A n (pth 4863) m0 _ _).trans h27
  have h29 := (g6Qr A n (pth 29439) _ _).trans h28
  have h30 := (blockK_r 1 _ _).trans h29
  have h31 := (g6p1807103 A n _ _).trans h30
  have h32 := (g6Qn A n _ _ _).trans h31
  have h33 := (g6F A n _ 16 _ (g6R15s2 A x0 x1 x2 x3 x4 x5 x6 x7 x8 x9 (g6t0 A x1 x3 x9 x10 x11 x12 x13) (g6t1 A x1 x3 x9 x10 x11 x12 x13) (g6t2 A x1 x3 x9 x10 x11 x12 x13) (g6t3 A x1 x3 x9 x10 x11 x12 x13) x14 x15) _ (by kernel_rfl) (by kernel_rfl)).trans (g6R16 A n (g6Q A n (pth 1807103) (blockK 1 (g6Q A n (pth 29439) (g6W A n (pth 4863) m0 (blockK 0 (g6Q A n (pth 1023) (g6T kk))))))) x4 x5 x6 x7 x8 x9)
  rw [h32] at h33
  have h34 := (g6p758527 A n _ _).trans h33
  have h35 := (g6p496383 A n (blockK 1 (g6Q A n (pth 29439) (g6W A n (pth 4863) m0 (blockK 0 (g6Q A n (pth 1023) (g6T kk)))))) (g6R15s2 A x0 x1 x2 x3 x4 x5 x6 x7 x8 x9 (g6t0 A x1 x3 x9 x10 x11 x12 x13) (g6t1 A x1 x3 x9 x10 x11 x12 x13) (g6t2 A x1 x3 x9 x10 x11 x12 x13) (g6t3 A x1 x3 x9 x10 x11 x12 x13) x14 x15) true (by kernel_rfl)).trans h34
  have h36 := (g6Qn A n _ _ _).trans h35
  have h37 : (g6T kk) .ret (g6R16s0 A x4 x5 x6 x7 x8 x9) = kk (bO false) [(0, ⟨[.recs x5 [.ints .i64 x6, .ints .i64 x7, .ints .i64 x8, .strs x9]], x4, 0⟩)] := by kernel_rfl
  have h38 := (g6Qr A n (pth 1023) _ _).trans h37
  have h39 := (blockK_r 0 _ _).trans h38
  have h40 := (g6Wr A n (pth 4863) m0 _ _).trans h39
  have h41 := (g6Qr A n (pth 29439) _ _).trans h40
  have h42 := (blockK_r 1 _ _).trans h41
  have h43 := (g6p1807103 A n _ _).trans h42
  have h44 := (g6Qn A n _ _ _).trans h43
  have h45 := (g6F A n _ 16 _ (g6R15s3 A x0 x1 x2 x3 x4 x5 x6 x7 x8 x9 (g6t0 A x1 x3 x9 x10 x11 x12 x13) (g6t1 A x1 x3 x9 x10 x11 x12 x13) (g6t2 A x1 x3 x9 x10 x11 x12 x13) (g6t3 A x1 x3 x9 x10 x11 x12 x13) x14 x15) _ (by kernel_rfl) (by kernel_rfl)).trans (g6R16 A n (g6Q A n (pth 1807103) (blockK 1 (g6Q A n (pth 29439) (g6W A n (pth 4863) m0 (blockK 0 (g6Q A n (pth 1023) (g6T kk))))))) x4 x5 x6 x7 x8 x9)
  rw [h44] at h45
  have h46 := (g6p758527 A n _ _).trans h45
  have h47 := (g6Wn A n _ _ _ _).trans (hg6L11 (g6R12s0 A x0 x1 x2 x3 x4 x5 x6 x7 x8 x9 (g6t0 A x1 x3 x9 x10 x11 x12 x13) (g6t1 A x1 x3 x9 x10 x11 x12 x13) (g6t2 A x1 x3 x9 x10 x11 x12 x13) (g6t3 A x1 x3 x9 x10 x11 x12 x13) (g25r1 A (g6t5 A x1 x3 x7 x8 x14 x15) (g6t6 A x1 x3 x7 x8 x14 x15)) (g25r2 A (g6t5 A x1 x3 x7 x8 x14 x15) (g6t6 A x1 x3 x7 x8 x14 x15))) x0 x1 x2 (A.ib .add .i64 x3 1) x4 x5 x6 x7 x8 x9 (g6t0 A x1 x3 x9 x10 x11 x12 x13) (g6t1 A x1 x3 x9 x10 x11 x12 x13) (g6t2 A x1 x3 x9 x10 x11 x12 x13) (g6t3 A x1 x3 x9 x10 x11 x12 x13) (g25r1 A (g6t5 A x1 x3 x7 x8 x14 x15) (g6t6 A x1 x3 x7 x8 x14 x15)) (g25r2 A (g6t5 A x1 x3 x7 x8 x14 x15) (g6t6 A x1 x3 x7 x8 x14 x15)) (by kernel_rfl))
  have h48 := (g6F A n _ 12 _ (g6R15s3 A x0 x1 x2 x3 x4 x5 x6 x7 x8 x9 (g6t0 A x1 x3 x9 x10 x11 x12 x13) (g6t1 A x1 x3 x9 x10 x11 x12 x13) (g6t2 A x1 x3 x9 x10 x11 x12 x13) (g6t3 A x1 x3 x9 x10 x11 x12 x13) x14 x15) _ (by kernel_rfl) (by kernel_rfl)).trans (g6R12 A n (g6W A n (pth 4863) m0 (blockK 0 (g6Q A n (pth 1023) (g6T kk)))) x0 x1 x2 x3 x4 x5 x6 x7 x8 x9 (g6t0 A x1 x3 x9 x10 x11 x12 x13) (g6t1 A x1 x3 x9 x10 x11 x12 x13) (g6t2 A x1 x3 x9 x10 x11 x12 x13) (g6t3 A x1 x3 x9 x10 x11 x12 x13) (g25r1 A (g6t5 A x1 x3 x7 x8 x14 x15) (g6t6 A x1 x3 x7 x8 x14 x15)) (g25r2 A (g6t5 A x1 x3 x7 x8 x14 x15) (g6t6 A x1 x3 x7 x8 x14 x15)))
  rw [h47] at h48
  have h49 := (g6Qn A n _ _ _).trans h48
  have h50 := (blockK_n 1 _ _).trans h49
  have h51 := (g6p1020671 A n _ _).trans h50
  have h52 := g6p496383 A n (blockK 1 (g6Q A n (pth 29439) (g6W A n (pth 4863) m0 (blockK 0 (g6Q A n (pth 1023) (g6T kk)))))) (g6R15s3 A x0 x1 x2 x3 x4 x5 x6 x7 x8 x9 (g6t0 A x1 x3 x9 x10 x11 x12 x13) (g6t1 A x1 x3 x9 x10 x11 x12 x13) (g6t2 A x1 x3 x9 x10 x11 x12 x13) (g6t3 A x1 x3 x9 x10 x11 x12 x13) x14 x15) (A.ic .neq (g25r0 A (g6t5 A x1 x3 x7 x8 x14 x15) (g6t6 A x1 x3 x7 x8 x14 x15)) 0) (by kernel_rfl)
  rw [h46, h51] at h52
  have h53 := (g6Qn A n _ _ _).trans h52
  have h54 := (g6F A n _ 15 _ (g6R14s0 A x0 x1 x2 x3 x4 x5 x6 x7 x8 x9 (g13r0 A (x9.getD (A.toN x3) []) x10 x11 x12 x13) (g13r1 A (x9.getD (A.toN x3) []) x10 x11 x12 x13) (g13r2 A (x9.getD (A.toN x3) []) x10 x11 x12 x13) (g13r3 A (x9.getD (A.toN x3) []) x10 x11 x12 x13) x14 x15) _ (by kernel_rfl) (by kernel_rfl)).trans (g6R15 A n (g6Q A n (pth 496383) (blockK 1 (g6Q A n (pth 29439) (g6W A n (pth 4863) m0 (blockK 0 (g6Q A n (pth 1023) (g6T kk))))))) x0 x1 x2 x3 x4 x5 x6 x7 x8 x9 (g6t0 A x1 x3 x9 x10 x11 x12 x13) (g6t1 A x1 x3 x9 x10 x11 x12 x13) (g6t2 A x1 x3 x9 x10 x11 x12 x13) (g6t3 A x1 x3 x9 x10 x11 x12 x13) x14 x15)
  rw [h12, h24, h36, h53] at h54
  have h55 := (g6p234239 A n _ _).trans h54
  have h56 := (g6Qn A n _ _ _).trans h55
  have h57 := (g6F A n _ 14 _ (g6R13s0 A x0 x1 x2 x3 x4 x5 x6 x7 x8 x9 x10 x11 x12 x13 x14 x15) _ (by kernel_rfl) (by kernel_rfl)).trans (g6R14 A n (g6Q A n (pth 234239) (blockK 1 (g6Q A n (pth 29439) (g6W A n (pth 4863) m0 (blockK 0 (g6Q A n (pth 1023) (g6T kk))))))) x0 x1 x2 x3 x4 x5 x6 x7 x8 x9 (g13r0 A (x9.getD (A.toN x3) []) x10 x11 x12 x13) (g13r1 A (x9.getD (A.toN x3) []) x10 x11 x12 x13) (g13r2 A (x9.getD (A.toN x3) []) x10 x11 x12 x13) (g13r3 A (x9.getD (A.toN x3) []) x10 x11 x12 x13) x14 x15)
  rw [h56] at h57
  have h58 := (g6p103167 A n _ _).trans h57
  have h59 := (g6Qn A n _ _ _).trans h58
  have h60 := (g6F A n _ 13 _ ⟨[(0, (sL 0 none x0 4)), (2, (i6 x1)), (7, (bO x2)), (8, (pT 5000 0)), (9, (pT 6001 0)), (10, (i6 x3))], [(0, ⟨[.recs x5 [.ints .i64 x6, .ints .i64 x7, .ints .i64 x8, .strs x9]], x4, 0⟩), (5000, ⟨[.one (.int .i64 x10), .one (.sl 5500 none x11 1)], 56, 1⟩), (5500, ⟨[.nums .u8 x12 x13], 5, 2⟩), (6001, ⟨[.one (.int .i64 x14), .one (.str x15)], 59, 1⟩)]⟩ _ (by kernel_rfl) (by kernel_rfl)).trans (g6R13 A n (g6Q A n (pth 103167) (blockK 1 (g6Q A n (pth 29439) (g6W A n (pth 4863) m0 (blockK 0 (g6Q A n (pth 1023) (g6T kk))))))) x0 x1 x2 x3 x4 x5 x6 x7 x8 x9 x10 x11 x12 x13 x14 x15)
  rw [h59] at h60
  have h61 := (g6p37631 A n _ _).trans h60
  have h62 := (g6p21247 A n _ _).trans h61
  have h63 := (g6p13055 A n _ _).trans h62
  exact (g6F A n _ 13 _ _ ⟨[(0, (sL 0 none x0 4)), (2, (i6 x1)), (7, (bO x2)), (8, (pT 5000 0)), (9, (pT 6001 0)), (10, (i6 x3))], [(0, ⟨[.recs x5 [.ints .i64 x6, .ints .i64 x7, .ints .i64 x8, .strs x9]], x4, 0⟩), (5000, ⟨[.one (.int .i64 x10), .one (.sl 5500 none x11 1)], 56, 1⟩), (5500, ⟨[.nums .u8 x12 x13], 5, 2⟩), (6001, ⟨[.one (.int .i64 x14), .one (.str x15)], 59, 1⟩)]⟩ (by kernel_rfl) (h.trans (by kernel_rfl))).trans (h63.trans (by kernel_rfl))
def g6J17 {R : Type} (A : Ar) (n : Nat) (kk : AV → Heap → Option R)  (x0 : Bool) (x1 x2 : Nat) (x3 x4 x5 : List Int) (x6 : List (List Nat)) (x7 : Int) (x8 x9 : Nat) (x10 : List Nat) (x11 : Int) (x12 : List Nat) : Option R :=
  match (generalizing := false) g17ok A x7 x8 x9 x10 with
  | true => match (generalizing := false) x0 with
    | true => match (generalizing := false) A.sc .eql (g17r0 A x7 x8 x9 x10) [] with
      | true => match (generalizing := false) A.ic .eql (g17r1 A x7 x8 x9 x10) 1 with
        | true => match (generalizing := false) g27ok A x11 x12 with
          | true => kk (bO (A.ic .eql (g27r0 A x11 x12) 2)) [(0, ⟨[.recs x2 [.ints .i64 x3, .ints .i64 x4, .ints .i64 x5, .strs x6]], x1, 0⟩), (6001, ⟨[.one (.int .i64 (g27r1 A x11 x12)), .one (.str (g27r2 A x11 x12))], 59, 1⟩)]
          | false => none
        | false => kk (bO false) [(0, ⟨[.recs x2 [.ints .i64 x3, .ints .i64 x4, .ints .i64 x5, .strs x6]], x1, 0⟩), (6001, ⟨[.one (.int .i64 x11), .one (.str x12)], 59, 1⟩)]
      | false => kk (bO false) [(0, ⟨[.recs x2 [.ints .i64 x3, .ints .i64 x4, .ints .i64 x5, .strs x6]], x1, 0⟩), (6001, ⟨[.one (.int .i64 x11), .one (.str x12)], 59, 1⟩)]
    | false => kk (bO false) [(0, ⟨[.recs x2 [.ints .i64 x3, .ints .i64 x4, .ints .i64 x5, .strs x6]], x1, 0⟩), (6001, ⟨[.one (.int .i64 x11), .one (.str x12)], 59, 1⟩)]
  | false => none
set_option maxRecDepth 100000 in
theorem g6J17_eq {R : Type} (A : Ar) (n : Nat) (kk : AV → Heap → Option R)    (s : St) (x0 : Bool) (x1 x2 : Nat) (x3 x4 x5 : List Int) (x6 : List (List Nat)) (x7 : Int) (x8 x9 : Nat) (x10 : List Nat) (x11 : Int) (x12 : List Nat) (h : keep g6an 17 s = ⟨[(7, (bO x0)), (8, (pT 5000 0)), (9, (pT 6001 0))], [(0, ⟨[.recs x2 [.ints .i64 x3, .ints .i64 x4, .ints .i64 x5, .strs x6]], x1, 0⟩), (5000, ⟨[.one (.int .i64 x7), .one (.sl 5500 none x8 1)], 56, 1⟩), (5500, ⟨[.nums .u8 x9 x10], 5, 2⟩), (6001, ⟨[.one (.int .i64 x11), .one (.str x12)], 59, 1⟩)]⟩) :
    g6D A n (pth 1023) (g6T kk) s = g6J17 A n kk  x0 x1 x2 x3 x4 x5 x6 x7 x8 x9 x10 x11 x12 := by
  have h1 : (g6T kk) .ret (g6R18s0 A x0 (g17r0 A x7 x8 x9 x10) (g17r1 A x7 x8 x9 x10) x1 x2 x3 x4 x5 x6 x11 x12) = kk (bO (A.ic .eql (g27r0 A x11 x12) 2)) [(0, ⟨[.recs x2 [.ints .i64 x3, .ints .i64 x4, .ints .i64 x5, .strs x6]], x1, 0⟩), (6001, ⟨[.one (.int .i64 (g27r1 A x11 x12)), .one (.str (g27r2 A x11 x12))], 59, 1⟩)] := by kernel_rfl
  have h2 := (g6p4095 A n _ _).trans h1
  have h3 := (g6Qn A n _ _ _).trans h2
  have h4 : (g6T kk) .ret (g6R18s1 A x0 (g17r0 A x7 x8 x9 x10) (g17r1 A x7 x8 x9 x10) x1 x2 x3 x4 x5 x6 x11 x12) = kk (bO false) [(0, ⟨[.recs x2 [.ints .i64 x3, .ints .i64 x4, .ints .i64 x5, .strs x6]], x1, 0⟩), (6001, ⟨[.one (.int .i64 x11), .one (.str x12)], 59, 1⟩)] := by kernel_rfl
  have h5 := (g6p4095 A n _ _).trans h4
  have h6 := (g6Qn A n _ _ _).trans h5
  have h7 : (g6T kk) .ret (g6R18s2 A x0 (g17r0 A x7 x8 x9 x10) (g17r1 A x7 x8 x9 x10) x1 x2 x3 x4 x5 x6 x11 x12) = kk (bO false) [(0, ⟨[.recs x2 [.ints .i64 x3, .ints .i64 x4, .ints .i64 x5, .strs x6]], x1, 0⟩), (6001, ⟨[.one (.int .i64 x11), .one (.str x12)], 59, 1⟩)] := by kernel_rfl
  have h8 := (g6p4095 A n _ _).trans h7
  have h9 := (g6Qn A n _ _ _).trans h8
  have h10 : (g6T kk) .ret (g6R18s3 A x0 (g17r0 A x7 x8 x9 x10) (g17r1 A x7 x8 x9 x10) x1 x2 x3 x4 x5 x6 x11 x12) = kk (bO false) [(0, ⟨[.recs x2 [.ints .i64 x3, .ints .i64 x4, .ints .i64 x5, .strs x6]], x1, 0⟩), (6001, ⟨[.one (.int .i64 x11), .one (.str x12)], 59, 1⟩)] := by kernel_rfl
  have h11 := (g6p4095 A n _ _).trans h10
  have h12 := (g6Qn A n _ _ _).trans h11
  have h13 := (g6F A n _ 18 _ (g6R17s0 A x0 x1 x2 x3 x4 x5 x6 x7 x8 x9 x10 x11 x12) _ (by kernel_rfl) (by kernel_rfl)).trans (g6R18 A n (g6Q A n (pth 4095) (g6T kk)) x0 (g17r0 A x7 x8 x9 x10) (g17r1 A x7 x8 x9 x10) x1 x2 x3 x4 x5 x6 x11 x12)
  rw [h3, h6, h9, h12] at h13
  have h14 := (g6p2047 A n _ _).trans h13
  have h15 := (g6Qn A n _ _ _).trans h14
  have h16 := (g6F A n _ 17 _ ⟨[(7, (bO x0)), (8, (pT 5000 0)), (9, (pT 6001 0))], [(0, ⟨[.recs x2 [.ints .i64 x3, .ints .i64 x4, .ints .i64 x5, .strs x6]], x1, 0⟩), (5000, ⟨[.one (.int .i64 x7), .one (.sl 5500 none x8 1)], 56, 1⟩), (5500, ⟨[.nums .u8 x9 x10], 5, 2⟩), (6001, ⟨[.one (.int .i64 x11), .one (.str x12)], 59, 1⟩)]⟩ _ (by kernel_rfl) (by kernel_rfl)).trans (g6R17 A n (g6Q A n (pth 2047) (g6T kk)) x0 x1 x2 x3 x4 x5 x6 x7 x8 x9 x10 x11 x12)
  rw [h15] at h16
  have h17 := (g6p1023 A n _ _).trans h16
  exact (g6F A n _ 17 _ _ ⟨[(7, (bO x0)), (8, (pT 5000 0)), (9, (pT 6001 0))], [(0, ⟨[.recs x2 [.ints .i64 x3, .ints .i64 x4, .ints .i64 x5, .strs x6]], x1, 0⟩), (5000, ⟨[.one (.int .i64 x7), .one (.sl 5500 none x8 1)], 56, 1⟩), (5500, ⟨[.nums .u8 x9 x10], 5, 2⟩), (6001, ⟨[.one (.int .i64 x11), .one (.str x12)], 59, 1⟩)]⟩ (by kernel_rfl) (h.trans (by kernel_rfl))).trans (h17.trans (by kernel_rfl))
def g6L11 {R : Type} (A : Ar) (n : Nat) (kk : AV → Heap → Option R)  : Nat → Nat → Int → Bool → Int → Nat → Nat → List Int → List Int → List Int → List (List Nat) → Int → Nat → Nat → List Nat → Int → List Nat → Option R
  | 0, _, _, _, _, _, _, _, _, _, _, _, _, _, _, _, _ => none
  | m + 1, x0, x1, x2, x3, x4, x5, x6, x7, x8, x9, x10, x11, x12, x13, x14, x15 => match (generalizing := false) A.ic .lss x3 (A.ofN x0) with
  | true => match (generalizing := false) A.ic .lss x3 10 with
    | true => g6J13 A n kk (g6L11 A n kk  m) x0 x1 x2 x3 x4 x5 x6 x7 x8 x9 x10 x11 x12 x13 x14 x15
    | false => g6J17 A n kk  x2 x4 x5 x6 x7 x8 x9 x10 x11 x12 x13 x14 x15
  | false => g6J17 A n kk  x2 x4 x5 x6 x7 x8 x9 x10 x11 x12 x13 x14 x15
set_option maxRecDepth 100000 in
theorem g6L11_eq {R : Type} (A : Ar) (n : Nat) (kk : AV → Heap → Option R)    (m : Nat) (s : St) (x0 : Nat) (x1 : Int) (x2 : Bool) (x3 : Int) (x4 x5 : Nat) (x6 x7 x8 : List Int) (x9 : List (List Nat)) (x10 : Int) (x11 x12 : Nat) (x13 : List Nat) (x14 : Int) (x15 : List Nat) (h : keep g6an 11 s = ⟨[(0, (sL 0 none x0 4)), (2, (i6 x1)), (7, (bO x2)), (8, (pT 5000 0)), (9, (pT 6001 0)), (10, (i6 x3))], [(0, ⟨[.recs x5 [.ints .i64 x6, .ints .i64 x7, .ints .i64 x8, .strs x9]], x4, 0⟩), (5000, ⟨[.one (.int .i64 x10), .one (.sl 5500 none x11 1)], 56, 1⟩), (5500, ⟨[.nums .u8 x12 x13], 5, 2⟩), (6001, ⟨[.one (.int .i64 x14), .one (.str x15)], 59, 1⟩)]⟩) :
    g6V A n (pth 4863) m (blockK 0 (g6Q A n (pth 1023) (g6T kk))) s = g6L11 A n kk  m x0 x1 x2 x3 x4 x5 x6 x7 x8 x9 x10 x11 x12 x13 x14 x15 := by
  induction m generalizing s x0 x1 x2 x3 x4 x5 x6 x7 x8 x9 x10 x11 x12 x13 x14 x15 with
  | zero => rfl
  | succ m ih =>
    have h1 := (g6Qn A n _ _ _).trans (g6J13_eq A n kk m (g6L11 A n kk  m) ih  (g6R11s0 A x0 x1 x2 x3 x4 x5 x6 x7 x8 x9 x10 x11 x12 x13 x14 x15) x0 x1 x2 x3 x4 x5 x6 x7 x8 x9 x10 x11 x12 x13 x14 x15 (by kernel_rfl))
    have h2 := (g6p41727 A n _ _).trans h1
    have h3 := (g6Qn A n _ _ _).trans (g6J17_eq A n kk     (g6R11s0 A x0 x1 x2 x3 x4 x5 x6 x7 x8 x9 x10 x11 x12 x13 x14 x15) x2 x4 x5 x6 x7 x8 x9 x10 x11 x12 x13 x14 x15 (by kernel_rfl))
    have h4 := (blockK_hit 0 _ _).trans h3
    have h5 := (g6We A n (pth 4863) m _ _ _).trans h4
    have h6 := (g6Qe A n (pth 13055) _ _ _).trans h5
    have h7 := (g6p58111 A n _ _).trans h6
    have h8 := g6p25343 A n (g6Q A n (pth 13055) (g6W A n (pth 4863) m (blockK 0 (g6Q A n (pth 1023) (g6T kk))))) (g6R11s0 A x0 x1 x2 x3 x4 x5 x6 x7 x8 x9 x10 x11 x12 x13 x14 x15) (A.ic .lss x3 10) (by kernel_rfl)
    rw [h2, h7] at h8
    have h9 := (g6Qn A n _ _ _).trans h8
    have h10 := (g6Qn A n _ _ _).trans (g6J17_eq A n kk     (g6R11s1 A x0 x1 x2 x3 x4 x5 x6 x7 x8 x9 x10 x11 x12 x13 x14 x15) x2 x4 x5 x6 x7 x8 x9 x10 x11 x12 x13 x14 x15 (by kernel_rfl))
    have h11 := (blockK_hit 0 _ _).trans h10
    have h12 := (g6We A n (pth 4863) m _ _ _).trans h11
    have h13 := (g6Qe A n (pth 13055) _ _ _).trans h12
    have h14 := (g6p58111 A n _ _).trans h13
    have h15 := (g6p25343 A n (g6Q A n (pth 13055) (g6W A n (pth 4863) m (blockK 0 (g6Q A n (pth 1023) (g6T kk))))) (g6R11s1 A x0 x1 x2 x3 x4 x5 x6 x7 x8 x9 x10 x11 x12 x13 x14 x15) false (by kernel_rfl)).trans h14
    have h16 := (g6Qn A n _ _ _).trans h15
    have h17 := (g6F A n _ 11 _ ⟨[(0, (sL 0 none x0 4)), (2, (i6 x1)), (7, (bO x2)), (8, (pT 5000 0)), (9, (pT 6001 0)), (10, (i6 x3))], [(0, ⟨[.recs x5 [.ints .i64 x6, .ints .i64 x7, .ints .i64 x8, .strs x9]], x4, 0⟩), (5000, ⟨[.one (.int .i64 x10), .one (.sl 5500 none x11 1)], 56, 1⟩), (5500, ⟨[.nums .u8 x12 x13], 5, 2⟩), (6001, ⟨[.one (.int .i64 x14), .one (.str x15)], 59, 1⟩)]⟩ _ (by kernel_rfl) (by kernel_rfl)).trans (g6R11 A n (g6Q A n (pth 25343) (g6Q A n (pth 13055) (g6W A n (pth 4863) m (blockK 0 (g6Q A n (pth 1023) (g6T kk)))))) x0 x1 x2 x3 x4 x5 x6 x7 x8 x9 x10 x11 x12 x13 x14 x15)
    rw [h9, h16] at h17
    have h18 := (g6p8959 A n _ _).trans h17
    have h19 := (g6p4863 A n _ _).trans h18
    exact (loopD_first (s' := ⟨[(0, (sL 0 none x0 4)), (2, (i6 x1)), (7, (bO x2)), (8, (pT 5000 0)), (9, (pT 6001 0)), (10, (i6 x3))], [(0, ⟨[.recs x5 [.ints .i64 x6, .ints .i64 x7, .ints .i64 x8, .strs x9]], x4, 0⟩), (5000, ⟨[.one (.int .i64 x10), .one (.sl 5500 none x11 1)], 56, 1⟩), (5500, ⟨[.nums .u8 x12 x13], 5, 2⟩), (6001, ⟨[.one (.int .i64 x14), .one (.str x15)], 59, 1⟩)]⟩) (id := 11) (by kernel_rfl) (h.trans (by kernel_rfl)) _).trans ((g6Vs A n _ m _ _).trans (h19.trans (by kernel_rfl)))
def g6J8 {R : Type} (A : Ar) (n : Nat) (kk : AV → Heap → Option R)  (x0 : Nat) (x1 : List Nat) (x2 : Int) (x3 : Bool) (x4 x5 : Nat) (x6 x7 x8 : List Int) (x9 : List (List Nat)) (x10 : Int) (x11 x12 : Nat) (x13 : List Nat) (x14 : Int) (x15 : List Nat) : Option R :=
  match (generalizing := false) g11ok A (-1) 2 x10 x11 x12 x13 with
  | true => match (generalizing := false) g21ok A (A.ib .add .i64 (A.ofN x1.length) 1) x14 x15 with
    | true => g6L11 A n kk  n x0 x2 x3 0 x4 x5 x6 x7 x8 x9 (g11r0 A (-1) 2 x10 x11 x12 x13) (g11r1 A (-1) 2 x10 x11 x12 x13) (g11r2 A (-1) 2 x10 x11 x12 x13) (g11r3 A (-1) 2 x10 x11 x12 x13) (g21r1 A (A.ib .add .i64 (A.ofN x1.length) 1) x14 x15) (g21r2 A (A.ib .add .i64 (A.ofN x1.length) 1) x14 x15)
    | false => none
  | false => none
set_option maxRecDepth 100000 in
theorem g6J8_eq {R : Type} (A : Ar) (n : Nat) (kk : AV → Heap → Option R)    (s : St) (x0 : Nat) (x1 : List Nat) (x2 : Int) (x3 : Bool) (x4 x5 : Nat) (x6 x7 x8 : List Int) (x9 : List (List Nat)) (x10 : Int) (x11 x12 : Nat) (x13 : List Nat) (x14 : Int) (x15 : List Nat) (h : keep g6an 8 s = ⟨[(0, (sL 0 none x0 4)), (1, (tS x1)), (2, (i6 x2)), (7, (bO x3)), (8, (pT 5000 0)), (9, (pT 6001 0))], [(0, ⟨[.recs x5 [.ints .i64 x6, .ints .i64 x7, .ints .i64 x8, .strs x9]], x4, 0⟩), (5000, ⟨[.one (.int .i64 x10), .one (.sl 5500 none x11 1)], 56, 1⟩), (5500, ⟨[.nums .u8 x12 x13], 5, 2⟩), (6001, ⟨[.one (.int .i64 x14), .one (.str x15)], 59, 1⟩)]⟩) :
    g6D A n (pth 127) (g6T kk) s = g6J8 A n kk  x0 x1 x2 x3 x4 x5 x6 x7 x8 x9 x10 x11 x12 x13 x14 x15 := by
  have h1 := (g6p2815 A n _ _).trans (g6L11_eq A n kk    n (g6R10s0 A x0 x2 x3 x4 x5 x6 x7 x8 x9 (g11r0 A (-1) 2 x10 x11 x12 x13) (g11r1 A (-1) 2 x10 x11 x12 x13) (g11r2 A (-1) 2 x10 x11 x12 x13) (g11r3 A (-1) 2 x10 x11 x12 x13) (g21r1 A (A.ib .add .i64 (A.ofN x1.length) 1) x14 x15) (g21r2 A (A.ib .add .i64 (A.ofN x1.length) 1) x14 x15)) x0 x2 x3 0 x4 x5 x6 x7 x8 x9 (g11r0 A (-1) 2 x10 x11 x12 x13) (g11r1 A (-1) 2 x10 x11 x12 x13) (g11r2 A (-1) 2 x10 x11 x12 x13) (g11r3 A (-1) 2 x10 x11 x12 x13) (g21r1 A (A.ib .add .i64 (A.ofN x1.length) 1) x14 x15) (g21r2 A (A.ib .add .i64 (A.ofN x1.length) 1) x14 x15) (by kernel_rfl))
  have h2 := (g6p1791 A n _ _).trans h1
  have h3 := (g6Qn A n _ _ _).trans h2
  have h4 := (g6F A n _ 10 _ (g6R9s0 A x0 x1 x2 x3 x4 x5 x6 x7 x8 x9 (g11r0 A (-1) 2 x10 x11 x12 x13) (g11r1 A (-1) 2 x10 x11 x12 x13) (g11r2 A (-1) 2 x10 x11 x12 x13) (g11r3 A (-1) 2 x10 x11 x12 x13) x14 x15) _ (by kernel_rfl) (by kernel_rfl)).trans (g6R10 A n (g6Q A n (pth 1791) (g6Q A n (pth 1023) (g6T kk))) x0 x2 x3 x4 x5 x6 x7 x8 x9 (g11r0 A (-1) 2 x10 x11 x12 x13) (g11r1 A (-1) 2 x10 x11 x12 x13) (g11r2 A (-1) 2 x10 x11 x12 x13) (g11r3 A (-1) 2 x10 x11 x12 x13) (g21r1 A (A.ib .add .i64 (A.ofN x1.length) 1) x14 x15) (g21r2 A (A.ib .add .i64 (A.ofN x1.length) 1) x14 x15))
  rw [h3] at h4
  have h5 := (g6p767 A n _ _).trans h4
  have h6 := (g6p511 A n _ _).trans h5
  have h7 := (g6Qn A n _ _ _).trans h6
  have h8 := (g6F A n _ 9 _ (g6R8s0 A x0 x1 x2 x3 x4 x5 x6 x7 x8 x9 x10 x11 x12 x13 x14 x15) _ (by kernel_rfl) (by kernel_rfl)).trans (g6R9 A n (g6Q A n (pth 511) (g6T kk)) x0 x1 x2 x3 x4 x5 x6 x7 x8 x9 (g11r0 A (-1) 2 x10 x11 x12 x13) (g11r1 A (-1) 2 x10 x11 x12 x13) (g11r2 A (-1) 2 x10 x11 x12 x13) (g11r3 A (-1) 2 x10 x11 x12 x13) x14 x15)
  rw [h7] at h8
  have h9 := (g6p255 A n _ _).trans h8
  have h10 := (g6Qn A n _ _ _).trans h9
  have h11 := (g6F A n _ 8 _ ⟨[(0, (sL 0 none x0 4)), (1, (tS x1)), (2, (i6 x2)), (7, (bO x3)), (8, (pT 5000 0)), (9, (pT 6001 0))], [(0, ⟨[.recs x5 [.ints .i64 x6, .ints .i64 x7, .ints .i64 x8, .strs x9]], x4, 0⟩), (5000, ⟨[.one (.int .i64 x10), .one (.sl 5500 none x11 1)], 56, 1⟩), (5500, ⟨[.nums .u8 x12 x13], 5, 2⟩), (6001, ⟨[.one (.int .i64 x14), .one (.str x15)], 59, 1⟩)]⟩ _ (by kernel_rfl) (by kernel_rfl)).trans (g6R8 A n (g6Q A n (pth 255) (g6T kk)) x0 x1 x2 x3 x4 x5 x6 x7 x8 x9 x10 x11 x12 x13 x14 x15)
  rw [h10] at h11
  have h12 := (g6p127 A n _ _).trans h11
  exact (g6F A n _ 8 _ _ ⟨[(0, (sL 0 none x0 4)), (1, (tS x1)), (2, (i6 x2)), (7, (bO x3)), (8, (pT 5000 0)), (9, (pT 6001 0))], [(0, ⟨[.recs x5 [.ints .i64 x6, .ints .i64 x7, .ints .i64 x8, .strs x9]], x4, 0⟩), (5000, ⟨[.one (.int .i64 x10), .one (.sl 5500 none x11 1)], 56, 1⟩), (5500, ⟨[.nums .u8 x12 x13], 5, 2⟩), (6001, ⟨[.one (.int .i64 x14), .one (.str x15)], 59, 1⟩)]⟩ (by kernel_rfl) (h.trans (by kernel_rfl))).trans (h12.trans (by kernel_rfl))
def g6J4 {R : Type} (A : Ar) (n : Nat) (kk : AV → Heap → Option R)  (x0 : Nat) (x1 : List Nat) (x2 : Int) (x3 : Bool) (x4 x5 : Nat) (x6 x7 x8 : List Int) (x9 : List (List Nat)) : Option R :=
  match (generalizing := false) g9ok A with
  | true => match (generalizing := false) g18ok A x1 with
    | true => g6J8 A n kk  x0 x1 x2 x3 x4 x5 x6 x7 x8 x9 (g9r0 A) 0 0 [] (g18r0 A x1) (g18r1 A x1)
    | false => none
  | false => none
set_option maxRecDepth 100000 in
theorem g6J4_eq {R : Type} (A : Ar) (n : Nat) (kk : AV → Heap → Option R)    (s : St) (x0 : Nat) (x1 : List Nat) (x2 : Int) (x3 : Bool) (x4 x5 : Nat) (x6 x7 x8 : List Int) (x9 : List (List Nat)) (h : keep g6an 4 s = ⟨[(0, (sL 0 none x0 4)), (1, (tS x1)), (2, (i6 x2)), (7, (bO x3))], [(0, ⟨[.recs x5 [.ints .i64 x6, .ints .i64 x7, .ints .i64 x8, .strs x9]], x4, 0⟩)]⟩) :
    g6D A n (pth 15) (g6T kk) s = g6J4 A n kk  x0 x1 x2 x3 x4 x5 x6 x7 x8 x9 := by
  have h1 := (g6Qn A n _ _ _).trans (g6J8_eq A n kk     (g6R6s0 A x0 x1 x2 x3 x4 x5 x6 x7 x8 x9 (g9r0 A) 0 0 [] (g18r0 A x1) (g18r1 A x1)) x0 x1 x2 x3 x4 x5 x6 x7 x8 x9 (g9r0 A) 0 0 [] (g18r0 A x1) (g18r1 A x1) (by kernel_rfl))
  have h2 := (g6p479 A n _ _).trans h1
  have h3 := (g6p223 A n (g6Q A n (pth 127) (g6T kk)) (g6R6s0 A x0 x1 x2 x3 x4 x5 x6 x7 x8 x9 (g9r0 A) 0 0 [] (g18r0 A x1) (g18r1 A x1)) false (by kernel_rfl)).trans h2
  have h4 := (g6Qn A n _ _ _).trans h3
  have h5 := (g6F A n _ 6 _ (g6R5s0 A x0 x1 x2 x3 x4 x5 x6 x7 x8 x9 (g9r0 A) 0 0 []) _ (by kernel_rfl) (by kernel_rfl)).trans (g6R6 A n (g6Q A n (pth 223) (g6Q A n (pth 127) (g6T kk))) x0 x1 x2 x3 x4 x5 x6 x7 x8 x9 (g9r0 A) 0 0 [] (g18r0 A x1) (g18r1 A x1))
  rw [h4] at h5
  have h6 := (g6p95 A n _ _).trans h5
  have h7 := (g6p63 A n _ _).trans h6
  have h8 := (g6Qn A n _ _ _).trans h7
  have h9 := (g6F A n _ 5 _ (g6R4s0 A x0 x1 x2 x3 x4 x5 x6 x7 x8 x9) _ (by kernel_rfl) (by kernel_rfl)).trans (g6R5 A n (g6Q A n (pth 63) (g6T kk)) x0 x1 x2 x3 x4 x5 x6 x7 x8 x9 (g9r0 A) 0 0 [])
  rw [h8] at h9
  have h10 := (g6p31 A n _ _).trans h9
  have h11 := (g6Qn A n _ _ _).trans h10
  have h12 := (g6F A n _ 4 _ ⟨[(0, (sL 0 none x0 4)), (1, (tS x1)), (2, (i6 x2)), (7, (bO x3))], [(0, ⟨[.recs x5 [.ints .i64 x6, .ints .i64 x7, .ints .i64 x8, .strs x9]], x4, 0⟩)]⟩ _ (by kernel_rfl) (by kernel_rfl)).trans (g6R4 A n (g6Q A n (pth 31) (g6T kk)) x0 x1 x2 x3 x4 x5 x6 x7 x8 x9)
  rw [h11] at h12
  have h13 := (g6p15 A n _ _).trans h12
  exact (g6F A n _ 4 _ _ ⟨[(0, (sL 0 none x0 4)), (1, (tS x1)), (2, (i6 x2)), (7, (bO x3))], [(0, ⟨[.recs x5 [.ints .i64 x6, .ints .i64 x7, .ints .i64 x8, .strs x9]], x4, 0⟩)]⟩ (by kernel_rfl) (h.trans (by kernel_rfl))).trans (h13.trans (by kernel_rfl))
def g6 {R : Type} (A : Ar) (n : Nat) (kk : AV → Heap → Option R) (x0 : Nat) (x1 : List Nat) (x2 : Int) (x3 x4 : Nat) (x5 x6 x7 : List Int) (x8 : List (List Nat)) : Option R :=
  match (generalizing := false) g8ok A with
  | true => match (generalizing := false) !(g8r0 A) with
    | true => kk (bO false) [(0, ⟨[.recs x4 [.ints .i64 x5, .ints .i64 x6, .ints .i64 x7, .strs x8]], x3, 0⟩)]
    | false => g6J4 A n kk  x0 x1 x2 (g8r0 A) x3 x4 x5 x6 x7 x8
  | false => none
set_option maxRecDepth 100000 in
theorem g6_eq {R : Type} (A : Ar) (n : Nat) (kk : AV → Heap → Option R) (x0 : Nat) (x1 : List Nat) (x2 : Int) (x3 x4 : Nat) (x5 x6 x7 : List Int) (x8 : List (List Nat)) :
    funD A gtys (g6O A) g6an n (bodyOf Try.f6) g6res [(sL 0 none x0 4), (tS x1), (i6 x2)] [(0, ⟨[.recs x4 [.ints .i64 x5, .ints .i64 x6, .ints .i64 x7, .strs x8]], x3, 0⟩)] kk = g6 A n kk x0 x1 x2 x3 x4 x5 x6 x7 x8 := by
  have h1 : (g6T kk) .ret (g6R3s0 A x3 x4 x5 x6 x7 x8) = kk (bO false) [(0, ⟨[.recs x4 [.ints .i64 x5, .ints .i64 x6, .ints .i64 x7, .strs x8]], x3, 0⟩)] := by kernel_rfl
  have h2 := (g6Qr A n (pth 15) _ _).trans h1
  have h3 := (g6p107 A n _ _).trans h2
  have h4 := (g6Qn A n _ _ _).trans h3
  have h5 := (g6F A n _ 3 _ (g6R2s0 A x0 x1 x2 (g8r0 A) x3 x4 x5 x6 x7 x8) _ (by kernel_rfl) (by kernel_rfl)).trans (g6R3 A n (g6Q A n (pth 107) (g6Q A n (pth 15) (g6T kk))) x3 x4 x5 x6 x7 x8)
  rw [h4] at h5
  have h6 := (g6p43 A n _ _).trans h5
  have h7 := (g6Qn A n _ _ _).trans (g6J4_eq A n kk     (g6R2s0 A x0 x1 x2 (g8r0 A) x3 x4 x5 x6 x7 x8) x0 x1 x2 (g8r0 A) x3 x4 x5 x6 x7 x8 (by kernel_rfl))
  have h8 := (g6p59 A n _ _).trans h7
  have h9 := g6p27 A n (g6Q A n (pth 15) (g6T kk)) (g6R2s0 A x0 x1 x2 (g8r0 A) x3 x4 x5 x6 x7 x8) (!(g8r0 A)) (by kernel_rfl)
  rw [h6, h8] at h9
  have h10 := (g6Qn A n _ _ _).trans h9
  have h11 := (g6F A n _ 2 _ (g6R1s0 A x0 x1 x2 x3 x4 x5 x6 x7 x8) _ (by kernel_rfl) (by kernel_rfl)).trans (g6R2 A n (g6Q A n (pth 27) (g6Q A n (pth 15) (g6T kk))) x0 x1 x2 (g8r0 A) x3 x4 x5 x6 x7 x8)
  rw [h10] at h11
  have h12 := (g6p11 A n _ _).trans h11
  have h13 := (g6p7 A n _ _).trans h12
  have h14 := (g6Qn A n _ _ _).trans h13
  have h15 := (g6F A n _ 1 _ (g6R0s0 A x0 x1 x2 x3 x4 x5 x6 x7 x8) _ (by kernel_rfl) (by kernel_rfl)).trans (g6R1 A n (g6Q A n (pth 7) (g6T kk)) x0 x1 x2 x3 x4 x5 x6 x7 x8)
  rw [h14] at h15
  have h16 := (g6p3 A n _ _).trans h15
  have h17 := (g6Qn A n _ _ _).trans h16
  have h18 := (g6F A n _ 0 _ ⟨[(0, (sL 0 none x0 4)), (1, (tS x1)), (2, (i6 x2))], [(0, ⟨[.recs x4 [.ints .i64 x5, .ints .i64 x6, .ints .i64 x7, .strs x8]], x3, 0⟩)]⟩ _ (by kernel_rfl) (by kernel_rfl)).trans (g6R0 A n (g6Q A n (pth 3) (g6T kk)) x0 x1 x2 x3 x4 x5 x6 x7 x8)
  rw [h17] at h18
  have h19 := (g6p1 A n _ _).trans h18
  exact (show funD A gtys (g6O A) g6an n (bodyOf Try.f6) g6res [(sL 0 none x0 4), (tS x1), (i6 x2)] [(0, ⟨[.recs x4 [.ints .i64 x5, .ints .i64 x6, .ints .i64 x7, .strs x8]], x3, 0⟩)] kk = g6D A n (pth 1) (g6T kk) ⟨[(0, (sL 0 none x0 4)), (1, (tS x1)), (2, (i6 x2))], [(0, ⟨[.recs x4 [.ints .i64 x5, .ints .i64 x6, .ints .i64 x7, .strs x8]], x3, 0⟩)]⟩ from by kernel_rfl).trans (h19.trans (by kernel_rfl))
def g6is (o : Option (AV × Heap)) : Bool := match o with
  | some (.v (.cell (.bool _)), [(n0, ⟨[.recs _ [.ints .i64 _, .ints .i64 _, .ints .i64 _, .strs _]], _, n1⟩)]) => Nat.beq n0 0 && (Nat.beq n1 0)
  | _ => false
def g6g0 (o : Option (AV × Heap)) : Bool := match o with
  | some (.v (.cell (.bool x)), [(_, ⟨[.recs _ [.ints .i64 _, .ints .i64 _, .ints .i64 _, .strs _]], _, _⟩)]) => x
  | _ => false
def g6g1 (o : Option (AV × Heap)) : Nat := match o with
  | some (.v (.cell (.bool _)), [(_, ⟨[.recs _ [.ints .i64 _, .ints .i64 _, .ints .i64 _, .strs _]], x, _⟩)]) => x
  | _ => 0
def g6g2 (o : Option (AV × Heap)) : Nat := match o with
  | some (.v (.cell (.bool _)), [(_, ⟨[.recs x [.ints .i64 _, .ints .i64 _, .ints .i64 _, .strs _]], _, _⟩)]) => x
  | _ => 0
def g6g3 (o : Option (AV × Heap)) : List Int := match o with
  | some (.v (.cell (.bool _)), [(_, ⟨[.recs _ [.ints .i64 x, .ints .i64 _, .ints .i64 _, .strs _]], _, _⟩)]) => x
  | _ => []
def g6g4 (o : Option (AV × Heap)) : List Int := match o with
  | some (.v (.cell (.bool _)), [(_, ⟨[.recs _ [.ints .i64 _, .ints .i64 x, .ints .i64 _, .strs _]], _, _⟩)]) => x
  | _ => []
def g6g5 (o : Option (AV × Heap)) : List Int := match o with
  | some (.v (.cell (.bool _)), [(_, ⟨[.recs _ [.ints .i64 _, .ints .i64 _, .ints .i64 x, .strs _]], _, _⟩)]) => x
  | _ => []
def g6g6 (o : Option (AV × Heap)) : List (List Nat) := match o with
  | some (.v (.cell (.bool _)), [(_, ⟨[.recs _ [.ints .i64 _, .ints .i64 _, .ints .i64 _, .strs x]], _, _⟩)]) => x
  | _ => []
theorem g6is_spec {o : Option (AV × Heap)} (h : g6is o = true) : o = some ((bO (g6g0 o)), [(0, ⟨[.recs (g6g2 o) [.ints .i64 (g6g3 o), .ints .i64 (g6g4 o), .ints .i64 (g6g5 o), .strs (g6g6 o)]], (g6g1 o), 0⟩)]) := by
  unfold g6is at h
  split at h
  · rename_i z0 n0 z2 z3 z4 z5 z6 z7 n1
    simp only [Bool.and_eq_true] at h
    have en0 := beq_true h.1
    subst en0
    replace h := h.2
    have en1 := beq_true h
    subst en1
    rfl
  · cases h
def g6v (A : Ar) (x0 : Nat) (x1 : List Nat) (x2 : Int) (x3 x4 : Nat) (x5 x6 x7 : List Int) (x8 : List (List Nat)) : Option (AV × Heap) := g6 A (100000) (outH [0] none) x0 x1 x2 x3 x4 x5 x6 x7 x8
def g6ok (A : Ar) (x0 : Nat) (x1 : List Nat) (x2 : Int) (x3 x4 : Nat) (x5 x6 x7 : List Int) (x8 : List (List Nat)) : Bool := g6is (g6v A x0 x1 x2 x3 x4 x5 x6 x7 x8)
def g6r0 (A : Ar) (x0 : Nat) (x1 : List Nat) (x2 : Int) (x3 x4 : Nat) (x5 x6 x7 : List Int) (x8 : List (List Nat)) : Bool := g6g0 (g6v A x0 x1 x2 x3 x4 x5 x6 x7 x8)
def g6r1 (A : Ar) (x0 : Nat) (x1 : List Nat) (x2 : Int) (x3 x4 : Nat) (x5 x6 x7 : List Int) (x8 : List (List Nat)) : Nat := g6g1 (g6v A x0 x1 x2 x3 x4 x5 x6 x7 x8)
def g6r2 (A : Ar) (x0 : Nat) (x1 : List Nat) (x2 : Int) (x3 x4 : Nat) (x5 x6 x7 : List Int) (x8 : List (List Nat)) : Nat := g6g2 (g6v A x0 x1 x2 x3 x4 x5 x6 x7 x8)
def g6r3 (A : Ar) (x0 : Nat) (x1 : List Nat) (x2 : Int) (x3 x4 : Nat) (x5 x6 x7 : List Int) (x8 : List (List Nat)) : List Int := g6g3 (g6v A x0 x1 x2 x3 x4 x5 x6 x7 x8)
def g6r4 (A : Ar) (x0 : Nat) (x1 : List Nat) (x2 : Int) (x3 x4 : Nat) (x5 x6 x7 : List Int) (x8 : List (List Nat)) : List Int := g6g4 (g6v A x0 x1 x2 x3 x4 x5 x6 x7 x8)
def g6r5 (A : Ar) (x0 : Nat) (x1 : List Nat) (x2 : Int) (x3 x4 : Nat) (x5 x6 x7 : List Int) (x8 : List (List Nat)) : List Int := g6g5 (g6v A x0 x1 x2 x3 x4 x5 x6 x7 x8)
def g6r6 (A : Ar) (x0 : Nat) (x1 : List Nat) (x2 : Int) (x3 x4 : Nat) (x5 x6 x7 : List Int) (x8 : List (List Nat)) : List (List Nat) := g6g6 (g6v A x0 x1 x2 x3 x4 x5 x6 x7 x8)
theorem g6ok_spec {A : Ar} {x0 x1 x2 x3 x4 x5 x6 x7 x8} (h : g6ok A x0 x1 x2 x3 x4 x5 x6 x7 x8 = true) : g6v A x0 x1 x2 x3 x4 x5 x6 x7 x8 = some ((bO (g6r0 A x0 x1 x2 x3 x4 x5 x6 x7 x8)), [(0, ⟨[.recs (g6r2 A x0 x1 x2 x3 x4 x5 x6 x7 x8) [.ints .i64 (g6r3 A x0 x1 x2 x3 x4 x5 x6 x7 x8), .ints .i64 (g6r4 A x0 x1 x2 x3 x4 x5 x6 x7 x8), .ints .i64 (g6r5 A x0 x1 x2 x3 x4 x5 x6 x7 x8), .strs (g6r6 A x0 x1 x2 x3 x4 x5 x6 x7 x8)]], (g6r1 A x0 x1 x2 x3 x4 x5 x6 x7 x8), 0⟩)]) := g6is_spec h
def g6o (A : Ar) (args : List AV) (h : Heap) : Option (Bool × AV × Heap) := match args, h with
  | [.v (.cell (.sl n0 none x0 n1)), .v (.cell (.str x1)), .v (.cell (.int .i64 x2))], [(n2, ⟨[.recs x4 [.ints .i64 x5, .ints .i64 x6, .ints .i64 x7, .strs x8]], x3, n3⟩)] => match Nat.beq n0 0 && (Nat.beq n1 4 && (Nat.beq n2 0 && (Nat.beq n3 0))) with
    | true => some (g6ok A x0 x1 x2 x3 x4 x5 x6 x7 x8, (bO (g6r0 A x0 x1 x2 x3 x4 x5 x6 x7 x8)), [(0, ⟨[.recs (g6r2 A x0 x1 x2 x3 x4 x5 x6 x7 x8) [.ints .i64 (g6r3 A x0 x1 x2 x3 x4 x5 x6 x7 x8), .ints .i64 (g6r4 A x0 x1 x2 x3 x4 x5 x6 x7 x8), .ints .i64 (g6r5 A x0 x1 x2 x3 x4 x5 x6 x7 x8), .strs (g6r6 A x0 x1 x2 x3 x4 x5 x6 x7 x8)]], (g6r1 A x0 x1 x2 x3 x4 x5 x6 x7 x8), 0⟩)])
    | false => none
  | _, _ => none
theorem g6o_sound : ∀ args h v h', g6o realA args h = some (true, v, h') → FnH Try.prog 6 args h v h' := by
  intro args h v h' hh
  unfold g6o at hh
  split at hh
  · rename_i n0 x0 n1 x1 x2 n2 x4 x5 x6 x7 x8 x3 n3
    split at hh
    case h_2 => cases hh
    rename_i hc0
    simp only [Option.some.injEq, Prod.mk.injEq] at hh
    obtain ⟨hc, hv, hh⟩ := hh
    subst hv
    subst hh
    simp only [Bool.and_eq_true] at hc0
    have en0 := beq_true hc0.1
    subst en0
    replace hc0 := hc0.2
    have en1 := beq_true hc0.1
    subst en1
    replace hc0 := hc0.2
    have en2 := beq_true hc0.1
    subst en2
    replace hc0 := hc0.2
    have en3 := beq_true hc0
    subst en3
    exact fnh_of mixed gtysOK g6O_sound g6O_det (an := g6an) (n := 100000) Try.func6 (c := bodyOf Try.f6) rfl (by kernel_rfl) Try.call6 (Nat.le_of_ble_eq_true rfl) (pins := [0]) (nilr := none) (fun _ => (g6_eq realA (100000) (outH [0] none) x0 x1 x2 x3 x4 x5 x6 x7 x8).trans (show g6v realA x0 x1 x2 x3 x4 x5 x6 x7 x8 = _ from g6ok_spec hc))
  · cases hh
section
variable {R : Type} (A : Ar) (n : Nat) (K : Ex → St → Option R) (s : St)
end
section
variable {R : Type} (A : Ar) (n : Nat) (K : Ex → St → Option R) (s : St)
end
section
variable {R : Type} (A : Ar) (n : Nat) (K : Ex → St → Option R) (s : St)
end
section
variable {R : Type} (A : Ar) (n : Nat) (K : Ex → St → Option R) (s : St)
end
end Go.Sx
