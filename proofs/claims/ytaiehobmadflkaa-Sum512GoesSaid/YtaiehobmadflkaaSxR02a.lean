import Derived.Test.YtaiehobmadflkaaChecked
import Derived.Test.YtaiehobmadflkaaSxK3
import Derived.Test.YtaiehobmadflkaaSxNi
namespace Go.Sx
abbrev LN : Type := List Nat
abbrev KK (R : Type) : Type := AV → Heap → Option R
abbrev bH (b : Nat) (x : LN) (o : Option Nat) (n : Nat) (t : Int) : Blk := ⟨[.nums .u64 88 x, .one (.sl b o n 1), .one (.int .i64 t)], 45, 1⟩
abbrev bY (m : Nat) (l : LN) : Blk := ⟨[.nums .u8 m l], 5, 2⟩
open Go.Proofs
set_option linter.unusedVariables false
set_option maxRecDepth 100000
theorem mixed : Try.prog.follows .mixedOrders = true := Try.checked.mixed
def gtyList : List (Nat × Ty) := [(3, ⟨.int .i64, 1, 8, (.cell (.int .i64 0)), [], 0, 0, false⟩),
  (5, ⟨.int .u8, 1, 1, (.cell (.nat .u8 0)), [], 0, 0, false⟩),
  (9, ⟨.string, 1, 16, (.cell (.str [])), [], 0, 0, false⟩),
  (25, ⟨.slice, 1, 24, (.cell .nils), [], 0, 9, false⟩),
  (26, ⟨.ptr, 1, 8, (.cell .nilp), [], 0, 0, false⟩),
  (33, ⟨.slice, 1, 24, (.cell .nils), [], 0, 5, false⟩),
  (36, ⟨.int .u64, 1, 8, (.cell (.nat .u64 0)), [], 0, 0, false⟩),
  (38, ⟨.int .u64, 1, 8, (.cell (.nat .u64 0)), [], 0, 0, false⟩),
  (40, ⟨.struct, 8, 64, (.agg [.nums .u64 8 [0, 0, 0, 0, 0, 0, 0, 0]]), [(0, 36), (1, 36), (2, 36), (3, 36), (4, 36), (5, 36), (6, 36), (7, 36)], 0, 0, false⟩),
  (42, ⟨.array, 8, 64, (.agg [.nums .u64 8 [0, 0, 0, 0, 0, 0, 0, 0]]), [], 8, 36, true⟩),
  (43, ⟨.array, 80, 640, (.agg [.nums .u64 80 [0, 0, 0, 0, 0, 0, 0, 0, 0, 0, 0, 0, 0, 0, 0, 0, 0, 0, 0, 0, 0, 0, 0, 0, 0, 0, 0, 0, 0, 0, 0, 0, 0, 0, 0, 0, 0, 0, 0, 0, 0, 0, 0, 0, 0, 0, 0, 0, 0, 0, 0, 0, 0, 0, 0, 0, 0, 0, 0, 0, 0, 0, 0, 0, 0, 0, 0, 0, 0, 0, 0, 0, 0, 0, 0, 0, 0, 0, 0, 0]]), [], 80, 36, true⟩),
  (45, ⟨.struct, 90, 736, (.agg [.nums .u64 88 [0, 0, 0, 0, 0, 0, 0, 0, 0, 0, 0, 0, 0, 0, 0, 0, 0, 0, 0, 0, 0, 0, 0, 0, 0, 0, 0, 0, 0, 0, 0, 0, 0, 0, 0, 0, 0, 0, 0, 0, 0, 0, 0, 0, 0, 0, 0, 0, 0, 0, 0, 0, 0, 0, 0, 0, 0, 0, 0, 0, 0, 0, 0, 0, 0, 0, 0, 0, 0, 0, 0, 0, 0, 0, 0, 0, 0, 0, 0, 0, 0, 0, 0, 0, 0, 0, 0, 0], .one .nils, .one (.int .i64 0)]), [(0, 42), (8, 43), (88, 33), (89, 3)], 0, 0, false⟩),
  (46, ⟨.slice, 1, 24, (.cell .nils), [], 0, 36, false⟩),
  (55, ⟨.array, 6, 48, (.agg [.nums .u64 6 [0, 0, 0, 0, 0, 0]]), [], 6, 36, true⟩)]
def gtys : Tys := fun t => lk t gtyList
theorem gtysOK0 : allL (fun p => tyB Try.prog p.1 p.2) gtyList = true := by kernel_rfl
theorem gtysOK : TyOK Try.prog gtys := tyOK_of gtysOK0 (eqB_spec gtysOK0 (by kernel_rfl))
def g21O (A : Ar) : Orc := orcOf []
theorem g21O_sound : OSound Try.prog (g21O realA) := orc_sound fun f g hm args v hv => by
  cases hm
theorem g21O_det : ODet (g21O realA) := orc_det _
def g21an : Ann := [(0, ([0, 1], [])), (1, ([0, 1], [])), (2, ([0, 1, 6], [])), (3, ([0, 1, 6, 7], [])), (4, ([0, 1, 6, 7, 8], [])), (5, ([0, 1, 6, 7, 8, 9], [])), (6, ([0, 1, 6, 7, 8, 9, 10], [])), (7, ([0, 1, 6, 7, 9, 11], [])), (8, ([0, 1, 6, 7, 9, 11, 12], [])), (9, ([0, 1, 6, 7, 9, 12, 13], [])), (10, ([0, 1, 7, 9, 12, 13], [])), (11, ([0, 1, 4], []))]
def g21res : List ResultVar := [.tmp 4, .tmp 5]
noncomputable def g21D {R : Type} (A : Ar) (n : Nat) (p : List Bool) (K : Ex → St → Option R) (s : St) : Option R := codeD A gtys (g21O A) g21an n (sub (bodyOf Try.f21) p) K s
noncomputable def g21Q {R : Type} (A : Ar) (n : Nat) (p : List Bool) (K : Ex → St → Option R) : Ex → St → Option R := seqC (g21D A n p K) K
noncomputable def g21T {R : Type} (kk : KK R) : Ex → St → Option R := finD gtys g21res kk
theorem g21Qn {R : Type} (A : Ar) (n : Nat) (p : List Bool) (K : Ex → St → Option R) (s : St) : g21Q A n p K .normal s = g21D A n p K s := rfl
theorem g21F {R : Type} (A : Ar) (n : Nat) (p : List Bool) (i : Nat) (K : Ex → St → Option R) (s s' : St) (hf : firstReg (sub (bodyOf Try.f21) p) = some i) (h : keep g21an i s = keep g21an i s') : g21D A n p K s = g21D A n p K s' := codeD_first hf h K
section
variable {R : Type} (A : Ar) (n : Nat) (K : Ex → St → Option R) (s : St)
theorem g21p1 : g21D A n (pth 1) K s = g21D A n (pth 2) (g21Q A n (pth 3) K) s := by kernel_rfl
theorem g21p3 : g21D A n (pth 3) K s = g21D A n (pth 5) (g21Q A n (pth 7) K) s := by kernel_rfl
theorem g21p7 : g21D A n (pth 7) K s = g21D A n (pth 11) (g21Q A n (pth 15) K) s := by kernel_rfl
theorem g21p15 : g21D A n (pth 15) K s = g21D A n (pth 23) (g21Q A n (pth 31) K) s := by kernel_rfl
theorem g21p31 : g21D A n (pth 31) K s = g21D A n (pth 47) (g21Q A n (pth 63) K) s := by kernel_rfl
theorem g21p63 : g21D A n (pth 63) K s = g21D A n (pth 95) (g21Q A n (pth 127) K) s := by kernel_rfl
theorem g21p127 : g21D A n (pth 127) K s = g21D A n (pth 191) (g21Q A n (pth 255) K) s := by kernel_rfl
theorem g21p255 : g21D A n (pth 255) K s = g21D A n (pth 383) (g21Q A n (pth 511) K) s := by kernel_rfl
theorem g21p511 : g21D A n (pth 511) K s = g21D A n (pth 767) (g21Q A n (pth 1023) K) s := by kernel_rfl
theorem g21p1023 : g21D A n (pth 1023) K s = g21D A n (pth 1535) (g21Q A n (pth 2047) K) s := by kernel_rfl
theorem g21p2047 : g21D A n (pth 2047) K s = g21D A n (pth 3071) (g21Q A n (pth 4095) K) s := by kernel_rfl
theorem g21p4095 : g21D A n (pth 4095) K s = g21D A n (pth 6143) (g21Q A n (pth 8191) K) s := by kernel_rfl
theorem g21p8191 : g21D A n (pth 8191) K s = K .ret s := by kernel_rfl
def g21R0s0 (A : Ar) (x0 x1 : Nat) : St := ⟨[(5, u64v 0), (4, u64v 0), (0, u64v x0), (1, u64v x1)], []⟩
theorem g21R0 (x0 x1 : Nat) : g21D A n (pth 2) K ⟨[(0, u64v x0), (1, u64v x1)], []⟩ = K .normal (g21R0s0 A x0 x1) := by kernel_rfl
def g21R1s0 (A : Ar) (x0 x1 : Nat) : St := ⟨[(6, u64v (A.nb .and .u64 x0 4294967295)), (15, u64v (A.nb .and .u64 x0 4294967295)), (14, u64v x0), (0, u64v x0), (1, u64v x1)], []⟩
theorem g21R1 (x0 x1 : Nat) : g21D A n (pth 5) K ⟨[(0, u64v x0), (1, u64v x1)], []⟩ = K .normal (g21R1s0 A x0 x1) := by kernel_rfl
def g21R2s0 (A : Ar) (x0 x1 x2 : Nat) : St := ⟨[(7, u64v (A.nsh .shr .u64 x0 32)), (17, u64v (A.nsh .shr .u64 x0 32)), (16, u64v x0), (0, u64v x0), (1, u64v x1), (6, u64v x2)], []⟩
theorem g21R2 (x0 x1 x2 : Nat) : g21D A n (pth 11) K ⟨[(0, u64v x0), (1, u64v x1), (6, u64v x2)], []⟩ = K .normal (g21R2s0 A x0 x1 x2) := by kernel_rfl
def g21R3s0 (A : Ar) (x0 x1 : Nat) (x2 x3 : Nat) : St := ⟨[(8, u64v (A.nb .and .u64 x1 4294967295)), (19, u64v (A.nb .and .u64 x1 4294967295)), (18, u64v x1), (0, u64v x0), (1, u64v x1), (6, u64v x2), (7, u64v x3)], []⟩
theorem g21R3 (x0 x1 : Nat) (x2 x3 : Nat) : g21D A n (pth 23) K ⟨[(0, u64v x0), (1, u64v x1), (6, u64v x2), (7, u64v x3)], []⟩ = K .normal (g21R3s0 A x0 x1 x2 x3) := by kernel_rfl
def g21R4s0 (A : Ar) (x0 x1 : Nat) (x2 x3 x4 : Nat) : St := ⟨[(9, u64v (A.nsh .shr .u64 x1 32)), (21, u64v (A.nsh .shr .u64 x1 32)), (20, u64v x1), (0, u64v x0), (1, u64v x1), (6, u64v x2), (7, u64v x3), (8, u64v x4)], []⟩
theorem g21R4 (x0 x1 : Nat) (x2 x3 x4 : Nat) : g21D A n (pth 47) K ⟨[(0, u64v x0), (1, u64v x1), (6, u64v x2), (7, u64v x3), (8, u64v x4)], []⟩ = K .normal (g21R4s0 A x0 x1 x2 x3 x4) := by kernel_rfl
def g21R5s0 (A : Ar) (x0 x1 : Nat) (x2 x3 : Nat) (x4 x5 : Nat) : St := ⟨[(10, u64v (A.nb .mul .u64 x2 x4)), (24, u64v (A.nb .mul .u64 x2 x4)), (23, u64v x4), (22, u64v x2), (0, u64v x0), (1, u64v x1), (6, u64v x2), (7, u64v x3), (8, u64v x4), (9, u64v x5)], []⟩
theorem g21R5 (x0 x1 : Nat) (x2 x3 : Nat) (x4 x5 : Nat) : g21D A n (pth 95) K ⟨[(0, u64v x0), (1, u64v x1), (6, u64v x2), (7, u64v x3), (8, u64v x4), (9, u64v x5)], []⟩ = K .normal (g21R5s0 A x0 x1 x2 x3 x4 x5) := by kernel_rfl
def g21R6s0 (A : Ar) (x0 x1 : Nat) (x2 x3 : Nat) (x4 x5 x6 : Nat) : St := ⟨[(11, u64v (A.nb .add .u64 (A.nb .mul .u64 x3 x4) (A.nsh .shr .u64 x6 32))), (30, u64v (A.nb .add .u64 (A.nb .mul .u64 x3 x4) (A.nsh .shr .u64 x6 32))), (29, u64v (A.nsh .shr .u64 x6 32)), (28, u64v x6), (27, u64v (A.nb .mul .u64 x3 x4)), (26, u64v x4), (25, u64v x3), (0, u64v x0), (1, u64v x1), (6, u64v x2), (7, u64v x3), (8, u64v x4), (9, u64v x5), (10, u64v x6)], []⟩
theorem g21R6 (x0 x1 : Nat) (x2 x3 : Nat) (x4 x5 x6 : Nat) : g21D A n (pth 191) K ⟨[(0, u64v x0), (1, u64v x1), (6, u64v x2), (7, u64v x3), (8, u64v x4), (9, u64v x5), (10, u64v x6)], []⟩ = K .normal (g21R6s0 A x0 x1 x2 x3 x4 x5 x6) := by kernel_rfl
def g21R7s0 (A : Ar) (x0 x1 : Nat) (x2 x3 : Nat) (x4 x5 : Nat) : St := ⟨[(12, u64v (A.nb .and .u64 x5 4294967295)), (32, u64v (A.nb .and .u64 x5 4294967295)), (31, u64v x5), (0, u64v x0), (1, u64v x1), (6, u64v x2), (7, u64v x3), (9, u64v x4), (11, u64v x5)], []⟩
theorem g21R7 (x0 x1 : Nat) (x2 x3 : Nat) (x4 x5 : Nat) : g21D A n (pth 383) K ⟨[(0, u64v x0), (1, u64v x1), (6, u64v x2), (7, u64v x3), (9, u64v x4), (11, u64v x5)], []⟩ = K .normal (g21R7s0 A x0 x1 x2 x3 x4 x5) := by kernel_rfl
def g21R8s0 (A : Ar) (x0 x1 : Nat) (x2 x3 : Nat) (x4 x5 x6 : Nat) : St := ⟨[(13, u64v (A.nsh .shr .u64 x5 32)), (34, u64v (A.nsh .shr .u64 x5 32)), (33, u64v x5), (0, u64v x0), (1, u64v x1), (6, u64v x2), (7, u64v x3), (9, u64v x4), (11, u64v x5), (12, u64v x6)], []⟩
theorem g21R8 (x0 x1 : Nat) (x2 x3 : Nat) (x4 x5 x6 : Nat) : g21D A n (pth 767) K ⟨[(0, u64v x0), (1, u64v x1), (6, u64v x2), (7, u64v x3), (9, u64v x4), (11, u64v x5), (12, u64v x6)], []⟩ = K .normal (g21R8s0 A x0 x1 x2 x3 x4 x5 x6) := by kernel_rfl
def g21R9s0 (A : Ar) (x0 x1 : Nat) (x2 x3 : Nat) (x4 x5 x6 : Nat) : St := ⟨[(12, u64v (A.nb .add .u64 x5 (A.nb .mul .u64 x2 x4))), (39, u64v (A.nb .add .u64 x5 (A.nb .mul .u64 x2 x4))), (38, u64v (A.nb .mul .u64 x2 x4)), (37, u64v x4), (36, u64v x2), (35, u64v x5), (0, u64v x0), (1, u64v x1), (6, u64v x2), (7, u64v x3), (9, u64v x4), (12, u64v x5), (13, u64v x6)], []⟩
theorem g21R9 (x0 x1 : Nat) (x2 x3 : Nat) (x4 x5 x6 : Nat) : g21D A n (pth 1535) K ⟨[(0, u64v x0), (1, u64v x1), (6, u64v x2), (7, u64v x3), (9, u64v x4), (12, u64v x5), (13, u64v x6)], []⟩ = K .normal (g21R9s0 A x0 x1 x2 x3 x4 x5 x6) := by kernel_rfl
def g21R10s0 (A : Ar) (x0 x1 : Nat) (x2 x3 : Nat) (x4 x5 : Nat) : St := ⟨[(4, u64v (A.nb .add .u64 (A.nb .add .u64 (A.nb .mul .u64 x2 x3) x5) (A.nsh .shr .u64 x4 32))), (47, u64v (A.nb .add .u64 (A.nb .add .u64 (A.nb .mul .u64 x2 x3) x5) (A.nsh .shr .u64 x4 32))), (46, u64v (A.nsh .shr .u64 x4 32)), (45, u64v x4), (44, u64v (A.nb .add .u64 (A.nb .mul .u64 x2 x3) x5)), (43, u64v x5), (42, u64v (A.nb .mul .u64 x2 x3)), (41, u64v x3), (40, u64v x2), (0, u64v x0), (1, u64v x1), (7, u64v x2), (9, u64v x3), (12, u64v x4), (13, u64v x5)], []⟩
theorem g21R10 (x0 x1 : Nat) (x2 x3 : Nat) (x4 x5 : Nat) : g21D A n (pth 3071) K ⟨[(0, u64v x0), (1, u64v x1), (7, u64v x2), (9, u64v x3), (12, u64v x4), (13, u64v x5)], []⟩ = K .normal (g21R10s0 A x0 x1 x2 x3 x4 x5) := by kernel_rfl
def g21R11s0 (A : Ar) (x0 x1 x2 : Nat) : St := ⟨[(5, u64v (A.nb .mul .u64 x0 x1)), (50, u64v (A.nb .mul .u64 x0 x1)), (49, u64v x1), (48, u64v x0), (0, u64v x0), (1, u64v x1), (4, u64v x2)], []⟩
theorem g21R11 (x0 x1 x2 : Nat) : g21D A n (pth 6143) K ⟨[(0, u64v x0), (1, u64v x1), (4, u64v x2)], []⟩ = K .normal (g21R11s0 A x0 x1 x2) := by kernel_rfl
end
def g21 {R : Type} (A : Ar) (n : Nat) (kk : KK R) (a b : Nat) : Option R :=
  kk (.tup [(.cell (.nat .u64 (A.nb .add .u64 (A.nb .add .u64 (A.nb .mul .u64 (A.nsh .shr .u64 a 32) (A.nsh .shr .u64 b 32)) (A.nsh .shr .u64 (A.nb .add .u64 (A.nb .mul .u64 (A.nsh .shr .u64 a 32) (A.nb .and .u64 b 4294967295)) (A.nsh .shr .u64 (A.nb .mul .u64 (A.nb .and .u64 a 4294967295) (A.nb .and .u64 b 4294967295)) 32)) 32)) (A.nsh .shr .u64 (A.nb .add .u64 (A.nb .and .u64 (A.nb .add .u64 (A.nb .mul .u64 (A.nsh .shr .u64 a 32) (A.nb .and .u64 b 4294967295)) (A.nsh .shr .u64 (A.nb .mul .u64 (A.nb .and .u64 a 4294967295) (A.nb .and .u64 b 4294967295)) 32)) 4294967295) (A.nb .mul .u64 (A.nb .and .u64 a 4294967295) (A.nsh .shr .u64 b 32))) 32)))), (.cell (.nat .u64 (A.nb .mul .u64 a b)))]) []
abbrev u0 (A : Ar) (a : Nat) (b : Nat) := A.nb .add .u64 (A.nb .mul .u64 (A.nsh .shr .u64 a 32) (A.nb .and .u64 b 4294967295)) (A.nsh .shr .u64 (A.nb .mul .u64 (A.nb .and .u64 a 4294967295) (A.nb .and .u64 b 4294967295)) 32)
abbrev u1 (A : Ar) (a : Nat) (b : Nat) := A.nb .add .u64 (A.nb .add .u64 (A.nb .mul .u64 (A.nsh .shr .u64 a 32) (A.nsh .shr .u64 b 32)) (A.nsh .shr .u64 (u0 A a b) 32)) (A.nsh .shr .u64 (A.nb .add .u64 (A.nb .and .u64 (u0 A a b) 4294967295) (A.nb .mul .u64 (A.nb .and .u64 a 4294967295) (A.nsh .shr .u64 b 32))) 32)
abbrev u2 (A : Ar) (a : Nat) := A.nb .and .u64 a 4294967295
abbrev u3 (A : Ar) (a : Nat) := A.nsh .shr .u64 a 32
abbrev u4 (A : Ar) (b : Nat) := A.nsh .shr .u64 b 32
abbrev u5 (A : Ar) (b : Nat) := A.nb .and .u64 b 4294967295
abbrev u6 (A : Ar) (a : Nat) (b : Nat) := A.nb .and .u64 (u0 A a b) 4294967295
abbrev u7 (A : Ar) (a : Nat) (b : Nat) := A.nsh .shr .u64 (u0 A a b) 32
theorem g21_eq {R : Type} (A : Ar) (n : Nat) (kk : KK R) (a b : Nat) :
    funD A gtys (g21O A) g21an n (bodyOf Try.f21) g21res [(u64v a), (u64v b)] [] kk = g21 A n kk a b := by
  have h1 : (g21T kk) .ret (g21R11s0 A a b (u1 A a b)) = kk (.tup [(.cell (.nat .u64 (u1 A a b))), (.cell (.nat .u64 (A.nb .mul .u64 a b)))]) [] := by kernel_rfl
  have h2 := (g21p8191 A n _ _).trans h1
  have h3 := (g21Qn A n _ _ _).trans h2
  have h4 := (g21F A n _ 11 _ (g21R10s0 A a b (u3 A a) (u4 A b) (A.nb .add .u64 (u6 A a b) (A.nb .mul .u64 (u2 A a) (u4 A b))) (u7 A a b)) _ (by kernel_rfl) (by kernel_rfl)).trans (g21R11 A n (g21Q A n (pth 8191) (g21T kk)) a b (u1 A a b))
  rw [h3] at h4
  have h5 := (g21p4095 A n _ _).trans h4
  have h6 := (g21Qn A n _ _ _).trans h5
  have h7 := (g21F A n _ 10 _ (g21R9s0 A a b (u2 A a) (u3 A a) (u4 A b) (u6 A a b) (u7 A a b)) _ (by kernel_rfl) (by kernel_rfl)).trans (g21R10 A n (g21Q A n (pth 4095) (g21T kk)) a b (u3 A a) (u4 A b) (A.nb .add .u64 (u6 A a b) (A.nb .mul .u64 (u2 A a) (u4 A b))) (u7 A a b))
  rw [h6] at h7
  have h8 := (g21p2047 A n _ _).trans h7
  have h9 := (g21Qn A n _ _ _).trans h8
  have h10 := (g21F A n _ 9 _ (g21R8s0 A a b (u2 A a) (u3 A a) (u4 A b) (u0 A a b) (u6 A a b)) _ (by kernel_rfl) (by kernel_rfl)).trans (g21R9 A n (g21Q A n (pth 2047) (g21T kk)) a b (u2 A a) (u3 A a) (u4 A b) (u6 A a b) (u7 A a b))
  rw [h9] at h10
  have h11 := (g21p1023 A n _ _).trans h10
  have h12 := (g21Qn A n _ _ _).trans h11
  have h13 := (g21F A n _ 8 _ (g21R7s0 A a b (u2 A a) (u3 A a) (u4 A b) (u0 A a b)) _ (by kernel_rfl) (by kernel_rfl)).trans (g21R8 A n (g21Q A n (pth 1023) (g21T kk)) a b (u2 A a) (u3 A a) (u4 A b) (u0 A a b) (u6 A a b))
  rw [h12] at h13
  have h14 := (g21p511 A n _ _).trans h13
  have h15 := (g21Qn A n _ _ _).trans h14
  have h16 := (g21F A n _ 7 _ (g21R6s0 A a b (u2 A a) (u3 A a) (u5 A b) (u4 A b) (A.nb .mul .u64 (u2 A a) (u5 A b))) _ (by kernel_rfl) (by kernel_rfl)).trans (g21R7 A n (g21Q A n (pth 511) (g21T kk)) a b (u2 A a) (u3 A a) (u4 A b) (u0 A a b))
  rw [h15] at h16
  have h17 := (g21p255 A n _ _).trans h16
  have h18 := (g21Qn A n _ _ _).trans h17
  have h19 := (g21F A n _ 6 _ (g21R5s0 A a b (u2 A a) (u3 A a) (u5 A b) (u4 A b)) _ (by kernel_rfl) (by kernel_rfl)).trans (g21R6 A n (g21Q A n (pth 255) (g21T kk)) a b (u2 A a) (u3 A a) (u5 A b) (u4 A b) (A.nb .mul .u64 (u2 A a) (u5 A b)))
  rw [h18] at h19
  have h20 := (g21p127 A n _ _).trans h19
  have h21 := (g21Qn A n _ _ _).trans h20
  have h22 := (g21F A n _ 5 _ (g21R4s0 A a b (u2 A a) (u3 A a) (u5 A b)) _ (by kernel_rfl) (by kernel_rfl)).trans (g21R5 A n (g21Q A n (pth 127) (g21T kk)) a b (u2 A a) (u3 A a) (u5 A b) (u4 A b))
  rw [h21] at h22
  have h23 := (g21p63 A n _ _).trans h22
  have h24 := (g21Qn A n _ _ _).trans h23
  have h25 := (g21F A n _ 4 _ (g21R3s0 A a b (u2 A a) (u3 A a)) _ (by kernel_rfl) (by kernel_rfl)).trans (g21R4 A n (g21Q A n (pth 63) (g21T kk)) a b (u2 A a) (u3 A a) (u5 A b))
  rw [h24] at h25
  have h26 := (g21p31 A n _ _).trans h25
  have h27 := (g21Qn A n _ _ _).trans h26
  have h28 := (g21F A n _ 3 _ (g21R2s0 A a b (u2 A a)) _ (by kernel_rfl) (by kernel_rfl)).trans (g21R3 A n (g21Q A n (pth 31) (g21T kk)) a b (u2 A a) (u3 A a))
  rw [h27] at h28
  have h29 := (g21p15 A n _ _).trans h28
  have h30 := (g21Qn A n _ _ _).trans h29
  have h31 := (g21F A n _ 2 _ (g21R1s0 A a b) _ (by kernel_rfl) (by kernel_rfl)).trans (g21R2 A n (g21Q A n (pth 15) (g21T kk)) a b (u2 A a))
  rw [h30] at h31
  have h32 := (g21p7 A n _ _).trans h31
  have h33 := (g21Qn A n _ _ _).trans h32
  have h34 := (g21F A n _ 1 _ (g21R0s0 A a b) _ (by kernel_rfl) (by kernel_rfl)).trans (g21R1 A n (g21Q A n (pth 7) (g21T kk)) a b)
  rw [h33] at h34
  have h35 := (g21p3 A n _ _).trans h34
  have h36 := (g21Qn A n _ _ _).trans h35
  have h37 := (g21F A n _ 0 _ ⟨[(0, u64v a), (1, u64v b)], []⟩ _ (by kernel_rfl) (by kernel_rfl)).trans (g21R0 A n (g21Q A n (pth 3) (g21T kk)) a b)
  rw [h36] at h37
  have h38 := (g21p1 A n _ _).trans h37
  exact (show funD A gtys (g21O A) g21an n (bodyOf Try.f21) g21res [(u64v a), (u64v b)] [] kk = g21D A n (pth 1) (g21T kk) ⟨[(0, u64v a), (1, u64v b)], []⟩ from by kernel_rfl).trans (h38.trans (by kernel_rfl))
def g21is (o : Option AV) : Bool := match o with
  | some (.tup [.cell (.nat .u64 _), .cell (.nat .u64 _)]) => true
  | _ => false
def g21g0 (o : Option AV) : Nat := match o with
  | some (.tup [.cell (.nat .u64 x), .cell (.nat .u64 _)]) => x
  | _ => 0
def g21g1 (o : Option AV) : Nat := match o with
  | some (.tup [.cell (.nat .u64 _), .cell (.nat .u64 x)]) => x
  | _ => 0
theorem g21is_spec {o : Option AV} (h : g21is o = true) : o = some (.tup [.cell (.nat .u64 (g21g0 o)), .cell (.nat .u64 (g21g1 o))]) := by
  unfold g21is at h
  split at h
  · rfl
  · cases h
def g21v (A : Ar) (a b : Nat) : Option AV := g21 A (100000) (fun v _ => some v) a b
def g21ok (A : Ar) (a b : Nat) : Bool := g21is (g21v A a b)
def g21r0 (A : Ar) (a b : Nat) : Nat := g21g0 (g21v A a b)
def g21r1 (A : Ar) (a b : Nat) : Nat := g21g1 (g21v A a b)
theorem g21ok_spec {A : Ar} {a b} (h : g21ok A a b = true) : g21v A a b = some (.tup [.cell (.nat .u64 (g21r0 A a b)), .cell (.nat .u64 (g21r1 A a b))]) := g21is_spec h
def g21o (A : Ar) (args : List AV) : Option (Bool × AV) := match args with
  | [.v (.cell (.nat .u64 a)), .v (.cell (.nat .u64 b))] => some (g21ok A a b, .tup [.cell (.nat .u64 (g21r0 A a b)), .cell (.nat .u64 (g21r1 A a b))])
  | _ => none
theorem g21o_sound : ∀ args v, g21o realA args = some (true, v) → Fn1 Try.prog 21 args v := by
  intro args v h
  unfold g21o at h
  split at h
  · rename_i a b
    simp only [Option.some.injEq, Prod.mk.injEq] at h
    obtain ⟨hc, h⟩ := h
    subst h
    · skip
      exact fn1_of mixed gtysOK g21O_sound g21O_det (an := g21an) (n := 100000) Try.func21 (c := bodyOf Try.f21) rfl (by kernel_rfl) Try.call21 (Nat.le_of_ble_eq_true rfl) (fun b => rfl) (fun _ => (g21_eq realA (100000) (fun v _ => some v) a b).trans (show g21v realA a b = _ from g21ok_spec hc))
  · cases h
def g28o (A : Ar) := add64o
theorem g28o_sound : ∀ args v, g28o realA args = some (true, v) → Fn1 Try.prog 28 args v := add64o_sound Try.func28 (by kernel_rfl) (by kernel_rfl) (by kernel_rfl) (by kernel_rfl)
def g25O (A : Ar) : Orc := orcOf [(21, g21o A), (28, g28o A)]
theorem g25O_sound : OSound Try.prog (g25O realA) := orc_sound fun f g hm args v hv => by
  simp only [List.mem_cons, List.not_mem_nil, or_false, Prod.mk.injEq] at hm
  rcases hm with ⟨rfl, rfl⟩ | ⟨rfl, rfl⟩
  · exact g21o_sound _ _ hv
  · exact g28o_sound _ _ hv
theorem g25O_det : ODet (g25O realA) := orc_det _
def g25an : Ann := [(0, ([0, 1], [])), (1, ([2, 3, 4], [1000, 1001, 1002])), (2, ([3, 4, 12, 13], [1001, 1002])), (3, ([3, 4, 12, 13], [1001, 1002])), (4, ([3, 4, 5, 6, 12, 13], [1001, 1002])), (5, ([3, 4, 5, 6, 7, 12, 13], [1001, 1002])), (6, ([3, 4, 5, 6, 7, 8, 12, 13], [1001, 1002])), (7, ([3, 4, 5, 6, 7, 8, 12, 13], [1001, 1002])), (8, ([3, 4, 5, 6, 7, 8, 12, 13], [1001, 1002])), (9, ([3, 4, 5, 6, 7, 8, 9, 10, 12, 13], [1001, 1002])), (10, ([3, 4, 5, 6, 7, 8, 9, 10, 12, 13], [1001, 1002])), (11, ([3, 4, 5, 6, 7, 8, 9, 11, 12, 13], [1001, 1002])), (12, ([3, 4, 5, 6, 7, 8, 9, 12, 13], [1001, 1002])), (13, ([3, 4, 5, 6, 8, 9, 11, 12, 13], [1001, 1002])), (14, ([3, 4, 12, 13], [1001, 1002])), (15, ([4], [1002]))]
def g25res : List ResultVar := [.cell 4 55]
noncomputable def g25D {R : Type} (A : Ar) (n : Nat) (p : List Bool) (K : Ex → St → Option R) (s : St) : Option R := codeD A gtys (g25O A) g25an n (sub (bodyOf Try.f25) p) K s
noncomputable def g25V {R : Type} (A : Ar) (n : Nat) (p : List Bool) (m : Nat) (K : Ex → St → Option R) (s : St) : Option R := loopD (fun K' s'' => codeD A gtys (g25O A) g25an n (sub (bodyOf Try.f25) p) K' s'') m K s
noncomputable def g25Q {R : Type} (A : Ar) (n : Nat) (p : List Bool) (K : Ex → St → Option R) : Ex → St → Option R := seqC (g25D A n p K) K
noncomputable def g25W {R : Type} (A : Ar) (n : Nat) (p : List Bool) (m : Nat) (K : Ex → St → Option R) : Ex → St → Option R := seqC (g25V A n p m K) K
noncomputable def g25T {R : Type} (kk : KK R) : Ex → St → Option R := finD gtys g25res kk
theorem g25Qn {R : Type} (A : Ar) (n : Nat) (p : List Bool) (K : Ex → St → Option R) (s : St) : g25Q A n p K .normal s = g25D A n p K s := rfl
theorem g25Qe {R : Type} (A : Ar) (n : Nat) (p : List Bool) (K : Ex → St → Option R) (i : Nat) (s : St) : g25Q A n p K (.exit i) s = K (.exit i) s := rfl
theorem g25Wn {R : Type} (A : Ar) (n : Nat) (p : List Bool) (m : Nat) (K : Ex → St → Option R) (s : St) : g25W A n p m K .normal s = g25V A n p m K s := rfl
theorem g25We {R : Type} (A : Ar) (n : Nat) (p : List Bool) (m : Nat) (K : Ex → St → Option R) (i : Nat) (s : St) : g25W A n p m K (.exit i) s = K (.exit i) s := rfl
theorem g25Vs {R : Type} (A : Ar) (n : Nat) (p : List Bool) (m : Nat) (K : Ex → St → Option R) (s : St) : g25V A n p (m + 1) K s = g25D A n p (g25W A n p m K) s := rfl
theorem g25F {R : Type} (A : Ar) (n : Nat) (p : List Bool) (i : Nat) (K : Ex → St → Option R) (s s' : St) (hf : firstReg (sub (bodyOf Try.f25) p) = some i) (h : keep g25an i s = keep g25an i s') : g25D A n p K s = g25D A n p K s' := codeD_first hf h K
section
variable {R : Type} (A : Ar) (n : Nat) (K : Ex → St → Option R) (s : St)
theorem g25p1 : g25D A n (pth 1) K s = g25D A n (pth 2) (g25Q A n (pth 3) K) s := by kernel_rfl
theorem g25p3 : g25D A n (pth 3) K s = g25D A n (pth 5) (g25Q A n (pth 7) K) s := by kernel_rfl
theorem g25p5 : g25D A n (pth 5) K s = g25D A n (pth 9) (g25Q A n (pth 13) K) s := by kernel_rfl
theorem g25p13 : g25D A n (pth 13) K s = g25D A n (pth 21) (blockK 0 K) s := by kernel_rfl
theorem g25p21 : g25D A n (pth 21) K s = g25V A n (pth 37) n K s := by kernel_rfl
theorem g25p37 : g25D A n (pth 37) K s = g25D A n (pth 69) (g25Q A n (pth 101) K) s := by kernel_rfl
theorem g25p101 : g25D A n (pth 101) K s = g25D A n (pth 165) (g25Q A n (pth 229) K) s := by kernel_rfl
theorem g25p165 (t : Bool) : ev s (.tmp 14) = some (.v (.cell (.bool t))) → g25D A n (pth 165) K s = (match t with
    | true => g25D A n (pth 293) K s
    | false => g25D A n (pth 421) K s) := codeD_cond t
theorem g25p293 : g25D A n (pth 293) K s = K .normal s := by kernel_rfl
theorem g25p421 : g25D A n (pth 421) K s = K (.exit 0) s := by kernel_rfl
theorem g25p229 : g25D A n (pth 229) K s = g25D A n (pth 357) (g25Q A n (pth 485) K) s := by kernel_rfl
theorem g25p357 : g25D A n (pth 357) K s = g25D A n (pth 613) (blockK 1 K) s := by kernel_rfl
theorem g25p613 : g25D A n (pth 613) K s = g25D A n (pth 1125) (g25Q A n (pth 1637) K) s := by kernel_rfl
theorem g25p1637 : g25D A n (pth 1637) K s = g25D A n (pth 2661) (g25Q A n (pth 3685) K) s := by kernel_rfl
theorem g25p3685 : g25D A n (pth 3685) K s = g25D A n (pth 5733) (g25Q A n (pth 7781) K) s := by kernel_rfl
theorem g25p7781 : g25D A n (pth 7781) K s = g25D A n (pth 11877) (blockK 2 K) s := by kernel_rfl
theorem g25p11877 : g25D A n (pth 11877) K s = g25V A n (pth 20069) n K s := by kernel_rfl
theorem g25p20069 : g25D A n (pth 20069) K s = g25D A n (pth 36453) (g25Q A n (pth 52837) K) s := by kernel_rfl
theorem g25p36453 : g25D A n (pth 36453) K s = g25D A n (pth 69221) (g25Q A n (pth 101989) K) s := by kernel_rfl
theorem g25p101989 (t : Bool) : ev s (.tmp 20) = some (.v (.cell (.bool t))) → g25D A n (pth 101989) K s = (match t with
    | true => g25D A n (pth 167525) K s
    | false => g25D A n (pth 233061) K s) := codeD_cond t
theorem g25p167525 : g25D A n (pth 167525) K s = K .normal s := by kernel_rfl
theorem g25p233061 : g25D A n (pth 233061) K s = K (.exit 2) s := by kernel_rfl
theorem g25p52837 : g25D A n (pth 52837) K s = g25D A n (pth 85605) (g25Q A n (pth 118373) K) s := by kernel_rfl
theorem g25p85605 : g25D A n (pth 85605) K s = g25D A n (pth 151141) (blockK 3 K) s := by kernel_rfl
theorem g25p151141 : g25D A n (pth 151141) K s = g25D A n (pth 282213) (g25Q A n (pth 413285) K) s := by kernel_rfl
theorem g25p413285 : g25D A n (pth 413285) K s = g25D A n (pth 675429) (g25Q A n (pth 937573) K) s := by kernel_rfl
theorem g25p937573 : g25D A n (pth 937573) K s = g25D A n (pth 1461861) (g25Q A n (pth 1986149) K) s := by kernel_rfl
theorem g25p1986149 : g25D A n (pth 1986149) K s = g25D A n (pth 3034725) (g25Q A n (pth 4083301) K) s := by kernel_rfl
theorem g25p4083301 : g25D A n (pth 4083301) K s = g25D A n (pth 6180453) (g25Q A n (pth 8277605) K) s := by kernel_rfl
theorem g25p7 : g25D A n (pth 7) K s = g25D A n (pth 11) (g25Q A n (pth 15) K) s := by kernel_rfl
theorem g25p15 : g25D A n (pth 15) K s = K .ret s := by kernel_rfl
def g25R8s0 (A : Ar) (x0 : Int) (x1 x2 : Nat) (x3 : Int) (x4 : LN) (x5 : Int) (x6 x7 : LN) : St := ⟨[(10, u64v (g21r1 A x1 (x6.getD (A.toN x3) 0))), (9, u64v (g21r0 A x1 (x6.getD (A.toN x3) 0))), (30, u64v (g21r1 A x1 (x6.getD (A.toN x3) 0))), (29, u64v (g21r0 A x1 (x6.getD (A.toN x3) 0))), (23, (.tup [(.cell (.nat .u64 (g21r0 A x1 (x6.getD (A.toN x3) 0)))), (.cell (.nat .u64 (g21r1 A x1 (x6.getD (A.toN x3) 0))))])), (28, (.tup [(.cell (.nat .u64 (g21r0 A x1 (x6.getD (A.toN x3) 0)))), (.cell (.nat .u64 (g21r1 A x1 (x6.getD (A.toN x3) 0))))])), (27, u64v (x6.getD (A.toN x3) 0)), (26, (.v (.cell (.ptr 1001 0 (some ⟨A.toN x3, 1, 6, 0, 0, 0⟩))))), (25, i6 x3), (24, u64v x1), (3, pT 1001 0), (4, pT 1002 0), (5, i6 x0), (6, u64v x1), (7, u64v x2), (8, i6 x3), (12, aN .u64 6 x4), (13, i6 x5)], [(1001, bU 6 x6 55), (1002, bU 6 x7 55)]⟩
theorem g25R8 (x0 : Int) (x1 x2 : Nat) (x3 : Int) (x4 : LN) (x5 : Int) (x6 x7 : LN) : g25D A n (pth 282213) K ⟨[(3, pT 1001 0), (4, pT 1002 0), (5, i6 x0), (6, u64v x1), (7, u64v x2), (8, i6 x3), (12, aN .u64 6 x4), (13, i6 x5)], [(1001, bU 6 x6 55), (1002, bU 6 x7 55)]⟩ = match A.neg x3 with
    | true => none
    | false => match A.lt (A.toN x3) 6 with
      | true => match g21ok A x1 (x6.getD (A.toN x3) 0) with
        | true => K .normal (g25R8s0 A x0 x1 x2 x3 x4 x5 x6 x7)
        | false => none
      | false => none := by kernel_rfl
def g25R9s0 (A : Ar) (x0 : Int) (x1 x2 : Nat) (x3 : Int) (x4 x5 : Nat) (x6 : LN) (x7 : Int) (x8 x9 : LN) : St := ⟨[(11, u64v 0), (3, pT 1001 0), (4, pT 1002 0), (5, i6 x0), (6, u64v x1), (7, u64v x2), (8, i6 x3), (9, u64v x4), (10, u64v x5), (12, aN .u64 6 x6), (13, i6 x7)], [(1001, bU 6 x8 55), (1002, bU 6 x9 55)]⟩
theorem g25R9 (x0 : Int) (x1 x2 : Nat) (x3 : Int) (x4 x5 : Nat) (x6 : LN) (x7 : Int) (x8 x9 : LN) : g25D A n (pth 675429) K ⟨[(3, pT 1001 0), (4, pT 1002 0), (5, i6 x0), (6, u64v x1), (7, u64v x2), (8, i6 x3), (9, u64v x4), (10, u64v x5), (12, aN .u64 6 x6), (13, i6 x7)], [(1001, bU 6 x8 55), (1002, bU 6 x9 55)]⟩ = K .normal (g25R9s0 A x0 x1 x2 x3 x4 x5 x6 x7 x8 x9) := by kernel_rfl
def g25R10s0 (A : Ar) (x0 : Int) (x1 x2 : Nat) (x3 : Int) (x4 x5 : Nat) (x6 : LN) (x7 : Int) (x8 x9 : LN) : St := ⟨[(11, u64v (add64b (x9.getD (A.toN (A.ib .add .i64 x0 x3)) 0) x5 0)), (44, (.v (.cell (.ptr 1002 0 (some ⟨A.toN (A.ib .add .i64 x0 x3), 1, 6, 0, 0, 0⟩))))), (43, u64v (add64b (x9.getD (A.toN (A.ib .add .i64 x0 x3)) 0) x5 0)), (42, u64v (add64a (x9.getD (A.toN (A.ib .add .i64 x0 x3)) 0) x5 0)), (31, (.tup [(.cell (.nat .u64 (add64a (x9.getD (A.toN (A.ib .add .i64 x0 x3)) 0) x5 0))), (.cell (.nat .u64 (add64b (x9.getD (A.toN (A.ib .add .i64 x0 x3)) 0) x5 0)))])), (41, (.tup [(.cell (.nat .u64 (add64a (x9.getD (A.toN (A.ib .add .i64 x0 x3)) 0) x5 0))), (.cell (.nat .u64 (add64b (x9.getD (A.toN (A.ib .add .i64 x0 x3)) 0) x5 0)))])), (40, u64v x5), (39, u64v (x9.getD (A.toN (A.ib .add .i64 x0 x3)) 0)), (38, (.v (.cell (.ptr 1002 0 (some ⟨A.toN (A.ib .add .i64 x0 x3), 1, 6, 0, 0, 0⟩))))), (37, i6 (A.ib .add .i64 x0 x3)), (36, i6 x3), (35, i6 x0), (34, i6 (A.ib .add .i64 x0 x3)), (33, i6 x3), (32, i6 x0), (3, pT 1001 0), (4, pT 1002 0), (5, i6 x0), (6, u64v x1), (7, u64v x2), (8, i6 x3), (9, u64v x4), (10, u64v x5), (12, aN .u64 6 x6), (13, i6 x7)], [(1001, bU 6 x8 55), (1002, bU 6 (x9.set (A.toN (A.ib .add .i64 x0 x3)) (add64a (x9.getD (A.toN (A.ib .add .i64 x0 x3)) 0) x5 0)) 55)]⟩
theorem g25R10 (x0 : Int) (x1 x2 : Nat) (x3 : Int) (x4 x5 : Nat) (x6 : LN) (x7 : Int) (x8 x9 : LN) : g25D A n (pth 1461861) K ⟨[(3, pT 1001 0), (4, pT 1002 0), (5, i6 x0), (6, u64v x1), (7, u64v x2), (8, i6 x3), (9, u64v x4), (10, u64v x5), (12, aN .u64 6 x6), (13, i6 x7)], [(1001, bU 6 x8 55), (1002, bU 6 x9 55)]⟩ = match A.neg (A.ib .add .i64 x0 x3) with
    | true => none
    | false => match A.lt (A.toN (A.ib .add .i64 x0 x3)) 6 with
      | true => match carryok (x9.getD (A.toN (A.ib .add .i64 x0 x3)) 0) x5 0 with
        | true => match A.neg (A.ib .add .i64 x0 x3) with
          | true => none
          | false => match A.lt (A.toN (A.ib .add .i64 x0 x3)) 6 with
            | true => K .normal (g25R10s0 A x0 x1 x2 x3 x4 x5 x6 x7 x8 x9)
            | false => none
        | false => none
      | false => none := by kernel_rfl
def g25R11s0 (A : Ar) (x0 : Int) (x1 x2 : Nat) (x3 : Int) (x4 x5 : Nat) (x6 : LN) (x7 : Int) (x8 x9 : LN) : St := ⟨[(9, u64v (A.nb .add .u64 x4 x5)), (47, u64v (A.nb .add .u64 x4 x5)), (46, u64v x5), (45, u64v x4), (3, pT 1001 0), (4, pT 1002 0), (5, i6 x0), (6, u64v x1), (7, u64v x2), (8, i6 x3), (9, u64v x4), (11, u64v x5), (12, aN .u64 6 x6), (13, i6 x7)], [(1001, bU 6 x8 55), (1002, bU 6 x9 55)]⟩
theorem g25R11 (x0 : Int) (x1 x2 : Nat) (x3 : Int) (x4 x5 : Nat) (x6 : LN) (x7 : Int) (x8 x9 : LN) : g25D A n (pth 3034725) K ⟨[(3, pT 1001 0), (4, pT 1002 0), (5, i6 x0), (6, u64v x1), (7, u64v x2), (8, i6 x3), (9, u64v x4), (11, u64v x5), (12, aN .u64 6 x6), (13, i6 x7)], [(1001, bU 6 x8 55), (1002, bU 6 x9 55)]⟩ = K .normal (g25R11s0 A x0 x1 x2 x3 x4 x5 x6 x7 x8 x9) := by kernel_rfl
def g25R12s0 (A : Ar) (x0 : Int) (x1 x2 : Nat) (x3 : Int) (x4 : Nat) (x5 : LN) (x6 : Int) (x7 x8 : LN) : St := ⟨[(11, u64v (add64b (x8.getD (A.toN (A.ib .add .i64 x0 x3)) 0) x2 0)), (61, (.v (.cell (.ptr 1002 0 (some ⟨A.toN (A.ib .add .i64 x0 x3), 1, 6, 0, 0, 0⟩))))), (60, u64v (add64b (x8.getD (A.toN (A.ib .add .i64 x0 x3)) 0) x2 0)), (59, u64v (add64a (x8.getD (A.toN (A.ib .add .i64 x0 x3)) 0) x2 0)), (48, (.tup [(.cell (.nat .u64 (add64a (x8.getD (A.toN (A.ib .add .i64 x0 x3)) 0) x2 0))), (.cell (.nat .u64 (add64b (x8.getD (A.toN (A.ib .add .i64 x0 x3)) 0) x2 0)))])), (58, (.tup [(.cell (.nat .u64 (add64a (x8.getD (A.toN (A.ib .add .i64 x0 x3)) 0) x2 0))), (.cell (.nat .u64 (add64b (x8.getD (A.toN (A.ib .add .i64 x0 x3)) 0) x2 0)))])), (57, u64v x2), (56, u64v (x8.getD (A.toN (A.ib .add .i64 x0 x3)) 0)), (55, (.v (.cell (.ptr 1002 0 (some ⟨A.toN (A.ib .add .i64 x0 x3), 1, 6, 0, 0, 0⟩))))), (54, i6 (A.ib .add .i64 x0 x3)), (53, i6 x3), (52, i6 x0), (51, i6 (A.ib .add .i64 x0 x3)), (50, i6 x3), (49, i6 x0), (3, pT 1001 0), (4, pT 1002 0), (5, i6 x0), (6, u64v x1), (7, u64v x2), (8, i6 x3), (9, u64v x4), (12, aN .u64 6 x5), (13, i6 x6)], [(1001, bU 6 x7 55), (1002, bU 6 (x8.set (A.toN (A.ib .add .i64 x0 x3)) (add64a (x8.getD (A.toN (A.ib .add .i64 x0 x3)) 0) x2 0)) 55)]⟩
theorem g25R12 (x0 : Int) (x1 x2 : Nat) (x3 : Int) (x4 : Nat) (x5 : LN) (x6 : Int) (x7 x8 : LN) : g25D A n (pth 6180453) K ⟨[(3, pT 1001 0), (4, pT 1002 0), (5, i6 x0), (6, u64v x1), (7, u64v x2), (8, i6 x3), (9, u64v x4), (12, aN .u64 6 x5), (13, i6 x6)], [(1001, bU 6 x7 55), (1002, bU 6 x8 55)]⟩ = match A.neg (A.ib .add .i64 x0 x3) with
    | true => none
    | false => match A.lt (A.toN (A.ib .add .i64 x0 x3)) 6 with
      | true => match carryok (x8.getD (A.toN (A.ib .add .i64 x0 x3)) 0) x2 0 with
        | true => match A.neg (A.ib .add .i64 x0 x3) with
          | true => none
          | false => match A.lt (A.toN (A.ib .add .i64 x0 x3)) 6 with
            | true => K .normal (g25R12s0 A x0 x1 x2 x3 x4 x5 x6 x7 x8)
            | false => none
        | false => none
      | false => none := by kernel_rfl
def g25R13s0 (A : Ar) (x0 : Int) (x1 : Nat) (x2 : Int) (x3 x4 : Nat) (x5 : LN) (x6 : Int) (x7 x8 : LN) : St := ⟨[(7, u64v (A.nb .add .u64 x3 x4)), (64, u64v (A.nb .add .u64 x3 x4)), (63, u64v x4), (62, u64v x3), (3, pT 1001 0), (4, pT 1002 0), (5, i6 x0), (6, u64v x1), (8, i6 x2), (9, u64v x3), (11, u64v x4), (12, aN .u64 6 x5), (13, i6 x6)], [(1001, bU 6 x7 55), (1002, bU 6 x8 55)]⟩
theorem g25R13 (x0 : Int) (x1 : Nat) (x2 : Int) (x3 x4 : Nat) (x5 : LN) (x6 : Int) (x7 x8 : LN) : g25D A n (pth 8277605) K ⟨[(3, pT 1001 0), (4, pT 1002 0), (5, i6 x0), (6, u64v x1), (8, i6 x2), (9, u64v x3), (11, u64v x4), (12, aN .u64 6 x5), (13, i6 x6)], [(1001, bU 6 x7 55), (1002, bU 6 x8 55)]⟩ = K .normal (g25R13s0 A x0 x1 x2 x3 x4 x5 x6 x7 x8) := by kernel_rfl
def g25R7s0 (A : Ar) (x0 : Int) (x1 x2 : Nat) (x3 : Int) (x4 : LN) (x5 : Int) (x6 x7 : LN) : St := ⟨[(8, i6 (A.ib .add .i64 x3 1)), (22, i6 (A.ib .add .i64 x3 1)), (21, i6 x3), (3, pT 1001 0), (4, pT 1002 0), (5, i6 x0), (6, u64v x1), (7, u64v x2), (8, i6 x3), (12, aN .u64 6 x4), (13, i6 x5)], [(1001, bU 6 x6 55), (1002, bU 6 x7 55)]⟩
theorem g25R7 (x0 : Int) (x1 x2 : Nat) (x3 : Int) (x4 : LN) (x5 : Int) (x6 x7 : LN) : g25D A n (pth 118373) K ⟨[(3, pT 1001 0), (4, pT 1002 0), (5, i6 x0), (6, u64v x1), (7, u64v x2), (8, i6 x3), (12, aN .u64 6 x4), (13, i6 x5)], [(1001, bU 6 x6 55), (1002, bU 6 x7 55)]⟩ = K .normal (g25R7s0 A x0 x1 x2 x3 x4 x5 x6 x7) := by kernel_rfl
def g25R6s0 (A : Ar) (x0 : Int) (x1 x2 : Nat) (x3 : Int) (x4 : LN) (x5 : Int) (x6 x7 : LN) : St := ⟨[(20, bO (A.ic .lss (A.ib .add .i64 x0 x3) 6)), (19, i6 (A.ib .add .i64 x0 x3)), (18, i6 x3), (17, i6 x0), (3, pT 1001 0), (4, pT 1002 0), (5, i6 x0), (6, u64v x1), (7, u64v x2), (8, i6 x3), (12, aN .u64 6 x4), (13, i6 x5)], [(1001, bU 6 x6 55), (1002, bU 6 x7 55)]⟩
theorem g25R6 (x0 : Int) (x1 x2 : Nat) (x3 : Int) (x4 : LN) (x5 : Int) (x6 x7 : LN) : g25D A n (pth 69221) K ⟨[(3, pT 1001 0), (4, pT 1002 0), (5, i6 x0), (6, u64v x1), (7, u64v x2), (8, i6 x3), (12, aN .u64 6 x4), (13, i6 x5)], [(1001, bU 6 x6 55), (1002, bU 6 x7 55)]⟩ = K .normal (g25R6s0 A x0 x1 x2 x3 x4 x5 x6 x7) := by kernel_rfl
def g25R14s0 (A : Ar) (x0 : LN) (x1 : Int) (x2 x3 : LN) : St := ⟨[(13, i6 (A.ib .add .i64 x1 1)), (65, i6 (A.ib .add .i64 x1 1)), (3, pT 1001 0), (4, pT 1002 0), (12, aN .u64 6 x0), (13, i6 x1)], [(1001, bU 6 x2 55), (1002, bU 6 x3 55)]⟩
theorem g25R14 (x0 : LN) (x1 : Int) (x2 x3 : LN) : g25D A n (pth 485) K ⟨[(3, pT 1001 0), (4, pT 1002 0), (12, aN .u64 6 x0), (13, i6 x1)], [(1001, bU 6 x2 55), (1002, bU 6 x3 55)]⟩ = K .normal (g25R14s0 A x0 x1 x2 x3) := by kernel_rfl
def g25R3s0 (A : Ar) (x0 : LN) (x1 : Int) (x2 x3 : LN) : St := ⟨[(6, u64v (x0.getD (A.toN x1) 0)), (5, i6 x1), (16, u64v (x0.getD (A.toN x1) 0)), (15, i6 x1), (3, pT 1001 0), (4, pT 1002 0), (12, aN .u64 6 x0), (13, i6 x1)], [(1001, bU 6 x2 55), (1002, bU 6 x3 55)]⟩
theorem g25R3 (x0 : LN) (x1 : Int) (x2 x3 : LN) : g25D A n (pth 1125) K ⟨[(3, pT 1001 0), (4, pT 1002 0), (12, aN .u64 6 x0), (13, i6 x1)], [(1001, bU 6 x2 55), (1002, bU 6 x3 55)]⟩ = match A.neg x1 with
    | true => none
    | false => match A.lt (A.toN x1) 6 with
      | true => K .normal (g25R3s0 A x0 x1 x2 x3)
      | false => none := by kernel_rfl
def g25R4s0 (A : Ar) (x0 : Int) (x1 : Nat) (x2 : LN) (x3 : Int) (x4 x5 : LN) : St := ⟨[(7, u64v 0), (3, pT 1001 0), (4, pT 1002 0), (5, i6 x0), (6, u64v x1), (12, aN .u64 6 x2), (13, i6 x3)], [(1001, bU 6 x4 55), (1002, bU 6 x5 55)]⟩
theorem g25R4 (x0 : Int) (x1 : Nat) (x2 : LN) (x3 : Int) (x4 x5 : LN) : g25D A n (pth 2661) K ⟨[(3, pT 1001 0), (4, pT 1002 0), (5, i6 x0), (6, u64v x1), (12, aN .u64 6 x2), (13, i6 x3)], [(1001, bU 6 x4 55), (1002, bU 6 x5 55)]⟩ = K .normal (g25R4s0 A x0 x1 x2 x3 x4 x5) := by kernel_rfl
def g25R5s0 (A : Ar) (x0 : Int) (x1 x2 : Nat) (x3 : LN) (x4 : Int) (x5 x6 : LN) : St := ⟨[(8, i6 0), (3, pT 1001 0), (4, pT 1002 0), (5, i6 x0), (6, u64v x1), (7, u64v x2), (12, aN .u64 6 x3), (13, i6 x4)], [(1001, bU 6 x5 55), (1002, bU 6 x6 55)]⟩
theorem g25R5 (x0 : Int) (x1 x2 : Nat) (x3 : LN) (x4 : Int) (x5 x6 : LN) : g25D A n (pth 5733) K ⟨[(3, pT 1001 0), (4, pT 1002 0), (5, i6 x0), (6, u64v x1), (7, u64v x2), (12, aN .u64 6 x3), (13, i6 x4)], [(1001, bU 6 x5 55), (1002, bU 6 x6 55)]⟩ = K .normal (g25R5s0 A x0 x1 x2 x3 x4 x5 x6) := by kernel_rfl
def g25R2s0 (A : Ar) (x0 : LN) (x1 : Int) (x2 x3 : LN) : St := ⟨[(14, bO (A.ic .lss x1 6)), (3, pT 1001 0), (4, pT 1002 0), (12, aN .u64 6 x0), (13, i6 x1)], [(1001, bU 6 x2 55), (1002, bU 6 x3 55)]⟩
theorem g25R2 (x0 : LN) (x1 : Int) (x2 x3 : LN) : g25D A n (pth 69) K ⟨[(3, pT 1001 0), (4, pT 1002 0), (12, aN .u64 6 x0), (13, i6 x1)], [(1001, bU 6 x2 55), (1002, bU 6 x3 55)]⟩ = K .normal (g25R2s0 A x0 x1 x2 x3) := by kernel_rfl
def g25R15s0 (A : Ar) (x0 : LN) : St := ⟨[(66, aN .u64 6 x0), (4, pT 1002 0)], [(1002, bU 6 x0 55)]⟩
theorem g25R15 (x0 : LN) : g25D A n (pth 11) K ⟨[(4, pT 1002 0)], [(1002, bU 6 x0 55)]⟩ = K .normal (g25R15s0 A x0) := by kernel_rfl
def g25R0s0 (A : Ar) (x0 x1 : LN) : St := ⟨[(4, pT 1002 0), (3, pT 1001 0), (2, pT 1000 0), (0, aN .u64 6 x0), (1, aN .u64 6 x1)], [(1002, bU 6 [0, 0, 0, 0, 0, 0] 55), (1001, bU 6 x1 55), (1000, bU 6 x0 55)]⟩
theorem g25R0 (x0 x1 : LN) : g25D A n (pth 2) K ⟨[(0, aN .u64 6 x0), (1, aN .u64 6 x1)], []⟩ = K .normal (g25R0s0 A x0 x1) := by kernel_rfl
def g25R1s0 (A : Ar) (x0 x1 x2 : LN) : St := ⟨[(13, i6 0), (12, aN .u64 6 x0), (2, pT 1000 0), (3, pT 1001 0), (4, pT 1002 0)], [(1000, bU 6 x0 55), (1001, bU 6 x1 55), (1002, bU 6 x2 55)]⟩
theorem g25R1 (x0 x1 x2 : LN) : g25D A n (pth 9) K ⟨[(2, pT 1000 0), (3, pT 1001 0), (4, pT 1002 0)], [(1000, bU 6 x0 55), (1001, bU 6 x1 55), (1002, bU 6 x2 55)]⟩ = K .normal (g25R1s0 A x0 x1 x2) := by kernel_rfl
end
def g25J8 {R : Type} (A : Ar) (n : Nat) (kk : KK R) (lg25L6 : Int → Nat → Nat → Int → LN → Int → LN → LN → Option R) (x0 : Int) (x1 x2 : Nat) (x3 : Int) (x4 : LN) (x5 : Int) (x6 x7 : LN) : Option R :=
  match A.neg x3 with
  | true => none
  | false => match A.lt (A.toN x3) 6 with
    | true => match g21ok A x1 (x6.getD (A.toN x3) 0) with
      | true => match A.neg (A.ib .add .i64 x0 x3) with
        | true => none
        | false => match A.lt (A.toN (A.ib .add .i64 x0 x3)) 6 with
          | true => match carryok (x7.getD (A.toN (A.ib .add .i64 x0 x3)) 0) (g21r1 A x1 (x6.getD (A.toN x3) 0)) 0 with
            | true => match A.neg (A.ib .add .i64 x0 x3) with
              | true => none
              | false => match A.lt (A.toN (A.ib .add .i64 x0 x3)) 6 with
                | true => match A.neg (A.ib .add .i64 x0 x3) with
                  | true => none
                  | false => match A.lt (A.toN (A.ib .add .i64 x0 x3)) 6 with
                    | true => match carryok ((x7.set (A.toN (A.ib .add .i64 x0 x3)) (add64a (x7.getD (A.toN (A.ib .add .i64 x0 x3)) 0) (g21r1 A x1 (x6.getD (A.toN x3) 0)) 0)).getD (A.toN (A.ib .add .i64 x0 x3)) 0) x2 0 with
                      | true => match A.neg (A.ib .add .i64 x0 x3) with
                        | true => none
                        | false => match A.lt (A.toN (A.ib .add .i64 x0 x3)) 6 with
                          | true => lg25L6 x0 x1 (A.nb .add .u64 (A.nb .add .u64 (g21r0 A x1 (x6.getD (A.toN x3) 0)) (add64b (x7.getD (A.toN (A.ib .add .i64 x0 x3)) 0) (g21r1 A x1 (x6.getD (A.toN x3) 0)) 0)) (add64b ((x7.set (A.toN (A.ib .add .i64 x0 x3)) (add64a (x7.getD (A.toN (A.ib .add .i64 x0 x3)) 0) (g21r1 A x1 (x6.getD (A.toN x3) 0)) 0)).getD (A.toN (A.ib .add .i64 x0 x3)) 0) x2 0)) (A.ib .add .i64 x3 1) x4 x5 x6 ((x7.set (A.toN (A.ib .add .i64 x0 x3)) (add64a (x7.getD (A.toN (A.ib .add .i64 x0 x3)) 0) (g21r1 A x1 (x6.getD (A.toN x3) 0)) 0)).set (A.toN (A.ib .add .i64 x0 x3)) (add64a ((x7.set (A.toN (A.ib .add .i64 x0 x3)) (add64a (x7.getD (A.toN (A.ib .add .i64 x0 x3)) 0) (g21r1 A x1 (x6.getD (A.toN x3) 0)) 0)).getD (A.toN (A.ib .add .i64 x0 x3)) 0) x2 0))
                          | false => none
                      | false => none
                    | false => none
                | false => none
            | false => none
          | false => none
      | false => none
    | false => none
abbrev u8 (A : Ar) (x7 : LN) (x0 : Int) (x3 : Int) (x1 : Nat) (x6 : LN) := x7.set (A.toN (A.ib .add .i64 x0 x3)) (add64a (x7.getD (A.toN (A.ib .add .i64 x0 x3)) 0) (g21r1 A x1 (x6.getD (A.toN x3) 0)) 0)
abbrev u9 (A : Ar) (x1 : Nat) (x6 : LN) (x3 : Int) (x7 : LN) (x0 : Int) := A.nb .add .u64 (g21r0 A x1 (x6.getD (A.toN x3) 0)) (add64b (x7.getD (A.toN (A.ib .add .i64 x0 x3)) 0) (g21r1 A x1 (x6.getD (A.toN x3) 0)) 0)
abbrev u10 (A : Ar) (x7 : LN) (x0 : Int) (x3 : Int) (x1 : Nat) (x6 : LN) (x2 : Nat) := (u8 A x7 x0 x3 x1 x6).set (A.toN (A.ib .add .i64 x0 x3)) (add64a ((u8 A x7 x0 x3 x1 x6).getD (A.toN (A.ib .add .i64 x0 x3)) 0) x2 0)
abbrev u11 (A : Ar) (x7 : LN) (x0 : Int) (x3 : Int) (x1 : Nat) (x6 : LN) (x2 : Nat) := add64b ((u8 A x7 x0 x3 x1 x6).getD (A.toN (A.ib .add .i64 x0 x3)) 0) x2 0
abbrev u12 (A : Ar) (x6 : LN) (x3 : Int) := x6.getD (A.toN x3) 0
theorem g25J8_eq {R : Type} (A : Ar) (n : Nat) (kk : KK R) (m0 m1 : Nat) (lg25L6 : Int → Nat → Nat → Int → LN → Int → LN → LN → Option R)
    (hg25L6 : ∀ (s : St) (x0 : Int) (x1 x2 : Nat) (x3 : Int) (x4 : LN) (x5 : Int) (x6 x7 : LN), keep g25an 6 s = ⟨[(3, pT 1001 0), (4, pT 1002 0), (5, i6 x0), (6, u64v x1), (7, u64v x2), (8, i6 x3), (12, aN .u64 6 x4), (13, i6 x5)], [(1001, bU 6 x6 55), (1002, bU 6 x7 55)]⟩ → g25V A n (pth 20069) m1 (blockK 2 (blockK 1 (g25Q A n (pth 485) (g25W A n (pth 37) m0 (blockK 0 (g25Q A n (pth 7) (g25T kk))))))) s = lg25L6 x0 x1 x2 x3 x4 x5 x6 x7) (s : St) (x0 : Int) (x1 x2 : Nat) (x3 : Int) (x4 : LN) (x5 : Int) (x6 x7 : LN) (h : keep g25an 8 s = ⟨[(3, pT 1001 0), (4, pT 1002 0), (5, i6 x0), (6, u64v x1), (7, u64v x2), (8, i6 x3), (12, aN .u64 6 x4), (13, i6 x5)], [(1001, bU 6 x6 55), (1002, bU 6 x7 55)]⟩) :
    g25D A n (pth 52837) (g25W A n (pth 20069) m1 (blockK 2 (blockK 1 (g25Q A n (pth 485) (g25W A n (pth 37) m0 (blockK 0 (g25Q A n (pth 7) (g25T kk)))))))) s = g25J8 A n kk lg25L6 x0 x1 x2 x3 x4 x5 x6 x7 := by
  have h1 := (g25Wn A n _ _ _ _).trans (hg25L6 (g25R7s0 A x0 x1 (A.nb .add .u64 (u9 A x1 x6 x3 x7 x0) (u11 A x7 x0 x3 x1 x6 x2)) x3 x4 x5 x6 (u10 A x7 x0 x3 x1 x6 x2)) x0 x1 (A.nb .add .u64 (u9 A x1 x6 x3 x7 x0) (u11 A x7 x0 x3 x1 x6 x2)) (A.ib .add .i64 x3 1) x4 x5 x6 (u10 A x7 x0 x3 x1 x6 x2) (by kernel_rfl))
  have h2 := (g25F A n _ 7 _ (g25R13s0 A x0 x1 x3 (u9 A x1 x6 x3 x7 x0) (u11 A x7 x0 x3 x1 x6 x2) x4 x5 x6 (u10 A x7 x0 x3 x1 x6 x2)) _ (by kernel_rfl) (by kernel_rfl)).trans (g25R7 A n (g25W A n (pth 20069) m1 (blockK 2 (blockK 1 (g25Q A n (pth 485) (g25W A n (pth 37) m0 (blockK 0 (g25Q A n (pth 7) (g25T kk)))))))) x0 x1 (A.nb .add .u64 (u9 A x1 x6 x3 x7 x0) (u11 A x7 x0 x3 x1 x6 x2)) x3 x4 x5 x6 (u10 A x7 x0 x3 x1 x6 x2))
  rw [h1] at h2
  have h3 := (g25Qn A n _ _ _).trans h2
  have h4 := (blockK_n 3 _ _).trans h3
  have h5 := (g25F A n _ 13 _ (g25R12s0 A x0 x1 x2 x3 (u9 A x1 x6 x3 x7 x0) x4 x5 x6 (u8 A x7 x0 x3 x1 x6)) _ (by kernel_rfl) (by kernel_rfl)).trans (g25R13 A n (blockK 3 (g25Q A n (pth 118373) (g25W A n (pth 20069) m1 (blockK 2 (blockK 1 (g25Q A n (pth 485) (g25W A n (pth 37) m0 (blockK 0 (g25Q A n (pth 7) (g25T kk)))))))))) x0 x1 x3 (u9 A x1 x6 x3 x7 x0) (u11 A x7 x0 x3 x1 x6 x2) x4 x5 x6 (u10 A x7 x0 x3 x1 x6 x2))
  rw [h4] at h5
  have h6 := (g25Qn A n _ _ _).trans h5
  have h7 := (g25F A n _ 12 _ (g25R11s0 A x0 x1 x2 x3 (g21r0 A x1 (u12 A x6 x3)) (add64b (x7.getD (A.toN (A.ib .add .i64 x0 x3)) 0) (g21r1 A x1 (u12 A x6 x3)) 0) x4 x5 x6 (u8 A x7 x0 x3 x1 x6)) _ (by kernel_rfl) (by kernel_rfl)).trans (g25R12 A n (g25Q A n (pth 8277605) (blockK 3 (g25Q A n (pth 118373) (g25W A n (pth 20069) m1 (blockK 2 (blockK 1 (g25Q A n (pth 485) (g25W A n (pth 37) m0 (blockK 0 (g25Q A n (pth 7) (g25T kk))))))))))) x0 x1 x2 x3 (u9 A x1 x6 x3 x7 x0) x4 x5 x6 (u8 A x7 x0 x3 x1 x6))
  rw [h6] at h7
  have h8 := (g25p4083301 A n _ _).trans h7
  have h9 := (g25Qn A n _ _ _).trans h8
  have h10 := (g25F A n _ 11 _ (g25R10s0 A x0 x1 x2 x3 (g21r0 A x1 (u12 A x6 x3)) (g21r1 A x1 (u12 A x6 x3)) x4 x5 x6 x7) _ (by kernel_rfl) (by kernel_rfl)).trans (g25R11 A n (g25Q A n (pth 4083301) (blockK 3 (g25Q A n (pth 118373) (g25W A n (pth 20069) m1 (blockK 2 (blockK 1 (g25Q A n (pth 485) (g25W A n (pth 37) m0 (blockK 0 (g25Q A n (pth 7) (g25T kk))))))))))) x0 x1 x2 x3 (g21r0 A x1 (u12 A x6 x3)) (add64b (x7.getD (A.toN (A.ib .add .i64 x0 x3)) 0) (g21r1 A x1 (u12 A x6 x3)) 0) x4 x5 x6 (u8 A x7 x0 x3 x1 x6))
  rw [h9] at h10
  have h11 := (g25p1986149 A n _ _).trans h10
  have h12 := (g25Qn A n _ _ _).trans h11
  have h13 := (g25F A n _ 10 _ (g25R9s0 A x0 x1 x2 x3 (g21r0 A x1 (u12 A x6 x3)) (g21r1 A x1 (u12 A x6 x3)) x4 x5 x6 x7) _ (by kernel_rfl) (by kernel_rfl)).trans (g25R10 A n (g25Q A n (pth 1986149) (blockK 3 (g25Q A n (pth 118373) (g25W A n (pth 20069) m1 (blockK 2 (blockK 1 (g25Q A n (pth 485) (g25W A n (pth 37) m0 (blockK 0 (g25Q A n (pth 7) (g25T kk))))))))))) x0 x1 x2 x3 (g21r0 A x1 (u12 A x6 x3)) (g21r1 A x1 (u12 A x6 x3)) x4 x5 x6 x7)
  rw [h12] at h13
  have h14 := (g25p937573 A n _ _).trans h13
  have h15 := (g25Qn A n _ _ _).trans h14
  have h16 := (g25F A n _ 9 _ (g25R8s0 A x0 x1 x2 x3 x4 x5 x6 x7) _ (by kernel_rfl) (by kernel_rfl)).trans (g25R9 A n (g25Q A n (pth 937573) (blockK 3 (g25Q A n (pth 118373) (g25W A n (pth 20069) m1 (blockK 2 (blockK 1 (g25Q A n (pth 485) (g25W A n (pth 37) m0 (blockK 0 (g25Q A n (pth 7) (g25T kk))))))))))) x0 x1 x2 x3 (g21r0 A x1 (u12 A x6 x3)) (g21r1 A x1 (u12 A x6 x3)) x4 x5 x6 x7)
  rw [h15] at h16
  have h17 := (g25p413285 A n _ _).trans h16
  have h18 := (g25Qn A n _ _ _).trans h17
  have h19 := (g25F A n _ 8 _ ⟨[(3, pT 1001 0), (4, pT 1002 0), (5, i6 x0), (6, u64v x1), (7, u64v x2), (8, i6 x3), (12, aN .u64 6 x4), (13, i6 x5)], [(1001, bU 6 x6 55), (1002, bU 6 x7 55)]⟩ _ (by kernel_rfl) (by kernel_rfl)).trans (g25R8 A n (g25Q A n (pth 413285) (blockK 3 (g25Q A n (pth 118373) (g25W A n (pth 20069) m1 (blockK 2 (blockK 1 (g25Q A n (pth 485) (g25W A n (pth 37) m0 (blockK 0 (g25Q A n (pth 7) (g25T kk))))))))))) x0 x1 x2 x3 x4 x5 x6 x7)
  rw [h18] at h19
  have h20 := (g25p151141 A n _ _).trans h19
  have h21 := (g25p85605 A n _ _).trans h20
  have h22 := (g25p52837 A n _ _).trans h21
  exact (g25F A n _ 8 _ _ ⟨[(3, pT 1001 0), (4, pT 1002 0), (5, i6 x0), (6, u64v x1), (7, u64v x2), (8, i6 x3), (12, aN .u64 6 x4), (13, i6 x5)], [(1001, bU 6 x6 55), (1002, bU 6 x7 55)]⟩ (by kernel_rfl) (h.trans (by kernel_rfl))).trans (h22.trans (by kernel_rfl))
def g25L6 {R : Type} (A : Ar) (n : Nat) (kk : KK R) (lg25L2 : LN → Int → LN → LN → Option R) : Nat → Int → Nat → Nat → Int → LN → Int → LN → LN → Option R
  | 0, _, _, _, _, _, _, _, _ => none
  | m + 1, x0, x1, x2, x3, x4, x5, x6, x7 => match A.ic .lss (A.ib .add .i64 x0 x3) 6 with
  | true => g25J8 A n kk (g25L6 A n kk lg25L2 m) x0 x1 x2 x3 x4 x5 x6 x7
  | false => lg25L2 x4 (A.ib .add .i64 x5 1) x6 x7
theorem g25L6_eq {R : Type} (A : Ar) (n : Nat) (kk : KK R) (m0 : Nat) (lg25L2 : LN → Int → LN → LN → Option R)
    (hg25L2 : ∀ (s : St) (x0 : LN) (x1 : Int) (x2 x3 : LN), keep g25an 2 s = ⟨[(3, pT 1001 0), (4, pT 1002 0), (12, aN .u64 6 x0), (13, i6 x1)], [(1001, bU 6 x2 55), (1002, bU 6 x3 55)]⟩ → g25V A n (pth 37) m0 (blockK 0 (g25Q A n (pth 7) (g25T kk))) s = lg25L2 x0 x1 x2 x3) (m : Nat) (s : St) (x0 : Int) (x1 x2 : Nat) (x3 : Int) (x4 : LN) (x5 : Int) (x6 x7 : LN) (h : keep g25an 6 s = ⟨[(3, pT 1001 0), (4, pT 1002 0), (5, i6 x0), (6, u64v x1), (7, u64v x2), (8, i6 x3), (12, aN .u64 6 x4), (13, i6 x5)], [(1001, bU 6 x6 55), (1002, bU 6 x7 55)]⟩) :
    g25V A n (pth 20069) m (blockK 2 (blockK 1 (g25Q A n (pth 485) (g25W A n (pth 37) m0 (blockK 0 (g25Q A n (pth 7) (g25T kk))))))) s = g25L6 A n kk lg25L2 m x0 x1 x2 x3 x4 x5 x6 x7 := by
  induction m generalizing s x0 x1 x2 x3 x4 x5 x6 x7 with
  | zero => rfl
  | succ m ih =>
    have h1 := (g25Qn A n _ _ _).trans (g25J8_eq A n kk m0 m (g25L6 A n kk lg25L2 m) ih (g25R6s0 A x0 x1 x2 x3 x4 x5 x6 x7) x0 x1 x2 x3 x4 x5 x6 x7 (by kernel_rfl))
    have h2 := (g25p167525 A n _ _).trans h1
    have h3 := (g25Wn A n _ _ _ _).trans (hg25L2 (g25R14s0 A x4 x5 x6 x7) x4 (A.ib .add .i64 x5 1) x6 x7 (by kernel_rfl))
    have h4 := (g25F A n _ 14 _ (g25R6s0 A x0 x1 x2 x3 x4 x5 x6 x7) _ (by kernel_rfl) (by kernel_rfl)).trans (g25R14 A n (g25W A n (pth 37) m0 (blockK 0 (g25Q A n (pth 7) (g25T kk)))) x4 x5 x6 x7)
    rw [h3] at h4
    have h5 := (g25Qn A n _ _ _).trans h4
    have h6 := (blockK_n 1 _ _).trans h5
    have h7 := (blockK_hit 2 _ _).trans h6
    have h8 := (g25We A n (pth 20069) m _ _ _).trans h7
    have h9 := (g25Qe A n (pth 52837) _ _ _).trans h8
    have h10 := (g25p233061 A n _ _).trans h9
    have h11 := g25p101989 A n (g25Q A n (pth 52837) (g25W A n (pth 20069) m (blockK 2 (blockK 1 (g25Q A n (pth 485) (g25W A n (pth 37) m0 (blockK 0 (g25Q A n (pth 7) (g25T kk))))))))) (g25R6s0 A x0 x1 x2 x3 x4 x5 x6 x7) (A.ic .lss (A.ib .add .i64 x0 x3) 6) (by kernel_rfl)
    rw [h2, h10] at h11
    have h12 := (g25Qn A n _ _ _).trans h11
    have h13 := (g25F A n _ 6 _ ⟨[(3, pT 1001 0), (4, pT 1002 0), (5, i6 x0), (6, u64v x1), (7, u64v x2), (8, i6 x3), (12, aN .u64 6 x4), (13, i6 x5)], [(1001, bU 6 x6 55), (1002, bU 6 x7 55)]⟩ _ (by kernel_rfl) (by kernel_rfl)).trans (g25R6 A n (g25Q A n (pth 101989) (g25Q A n (pth 52837) (g25W A n (pth 20069) m (blockK 2 (blockK 1 (g25Q A n (pth 485) (g25W A n (pth 37) m0 (blockK 0 (g25Q A n (pth 7) (g25T kk)))))))))) x0 x1 x2 x3 x4 x5 x6 x7)
    rw [h12] at h13
    have h14 := (g25p36453 A n _ _).trans h13
    have h15 := (g25p20069 A n _ _).trans h14
    exact (loopD_first (s' := ⟨[(3, pT 1001 0), (4, pT 1002 0), (5, i6 x0), (6, u64v x1), (7, u64v x2), (8, i6 x3), (12, aN .u64 6 x4), (13, i6 x5)], [(1001, bU 6 x6 55), (1002, bU 6 x7 55)]⟩) (id := 6) (by kernel_rfl) (h.trans (by kernel_rfl)) _).trans ((g25Vs A n _ m _ _).trans (h15.trans (by kernel_rfl)))
def g25J3 {R : Type} (A : Ar) (n : Nat) (kk : KK R) (lg25L2 : LN → Int → LN → LN → Option R) (x0 : LN) (x1 : Int) (x2 x3 : LN) : Option R :=
  match A.neg x1 with
  | true => none
  | false => match A.lt (A.toN x1) 6 with
    | true => g25L6 A n kk lg25L2 n x1 (x0.getD (A.toN x1) 0) 0 0 x0 x1 x2 x3
    | false => none
theorem g25J3_eq {R : Type} (A : Ar) (n : Nat) (kk : KK R) (m0 : Nat) (lg25L2 : LN → Int → LN → LN → Option R)
    (hg25L2 : ∀ (s : St) (x0 : LN) (x1 : Int) (x2 x3 : LN), keep g25an 2 s = ⟨[(3, pT 1001 0), (4, pT 1002 0), (12, aN .u64 6 x0), (13, i6 x1)], [(1001, bU 6 x2 55), (1002, bU 6 x3 55)]⟩ → g25V A n (pth 37) m0 (blockK 0 (g25Q A n (pth 7) (g25T kk))) s = lg25L2 x0 x1 x2 x3) (s : St) (x0 : LN) (x1 : Int) (x2 x3 : LN) (h : keep g25an 3 s = ⟨[(3, pT 1001 0), (4, pT 1002 0), (12, aN .u64 6 x0), (13, i6 x1)], [(1001, bU 6 x2 55), (1002, bU 6 x3 55)]⟩) :
    g25D A n (pth 229) (g25W A n (pth 37) m0 (blockK 0 (g25Q A n (pth 7) (g25T kk)))) s = g25J3 A n kk lg25L2 x0 x1 x2 x3 := by
  have h1 := (g25p11877 A n _ _).trans (g25L6_eq A n kk m0 lg25L2 hg25L2 n (g25R5s0 A x1 (x0.getD (A.toN x1) 0) 0 x0 x1 x2 x3) x1 (x0.getD (A.toN x1) 0) 0 0 x0 x1 x2 x3 (by kernel_rfl))
  have h2 := (g25p7781 A n _ _).trans h1
  have h3 := (g25Qn A n _ _ _).trans h2
  have h4 := (g25F A n _ 5 _ (g25R4s0 A x1 (x0.getD (A.toN x1) 0) x0 x1 x2 x3) _ (by kernel_rfl) (by kernel_rfl)).trans (g25R5 A n (g25Q A n (pth 7781) (blockK 1 (g25Q A n (pth 485) (g25W A n (pth 37) m0 (blockK 0 (g25Q A n (pth 7) (g25T kk))))))) x1 (x0.getD (A.toN x1) 0) 0 x0 x1 x2 x3)
  rw [h3] at h4
  have h5 := (g25p3685 A n _ _).trans h4
  have h6 := (g25Qn A n _ _ _).trans h5
  have h7 := (g25F A n _ 4 _ (g25R3s0 A x0 x1 x2 x3) _ (by kernel_rfl) (by kernel_rfl)).trans (g25R4 A n (g25Q A n (pth 3685) (blockK 1 (g25Q A n (pth 485) (g25W A n (pth 37) m0 (blockK 0 (g25Q A n (pth 7) (g25T kk))))))) x1 (x0.getD (A.toN x1) 0) x0 x1 x2 x3)
  rw [h6] at h7
  have h8 := (g25p1637 A n _ _).trans h7
  have h9 := (g25Qn A n _ _ _).trans h8
  have h10 := (g25F A n _ 3 _ ⟨[(3, pT 1001 0), (4, pT 1002 0), (12, aN .u64 6 x0), (13, i6 x1)], [(1001, bU 6 x2 55), (1002, bU 6 x3 55)]⟩ _ (by kernel_rfl) (by kernel_rfl)).trans (g25R3 A n (g25Q A n (pth 1637) (blockK 1 (g25Q A n (pth 485) (g25W A n (pth 37) m0 (blockK 0 (g25Q A n (pth 7) (g25T kk))))))) x0 x1 x2 x3)
  rw [h9] at h10
  have h11 := (g25p613 A n _ _).trans h10
  have h12 := (g25p357 A n _ _).trans h11
  have h13 := (g25p229 A n _ _).trans h12
  exact (g25F A n _ 3 _ _ ⟨[(3, pT 1001 0), (4, pT 1002 0), (12, aN .u64 6 x0), (13, i6 x1)], [(1001, bU 6 x2 55), (1002, bU 6 x3 55)]⟩ (by kernel_rfl) (h.trans (by kernel_rfl))).trans (h13.trans (by kernel_rfl))
def g25L2 {R : Type} (A : Ar) (n : Nat) (kk : KK R) : Nat → LN → Int → LN → LN → Option R
  | 0, _, _, _, _ => none
  | m + 1, x0, x1, x2, x3 => match A.ic .lss x1 6 with
  | true => g25J3 A n kk (g25L2 A n kk m) x0 x1 x2 x3
  | false => kk (aN .u64 6 x3) [(1002, bU 6 x3 55)]
theorem g25L2_eq {R : Type} (A : Ar) (n : Nat) (kk : KK R) (m : Nat) (s : St) (x0 : LN) (x1 : Int) (x2 x3 : LN) (h : keep g25an 2 s = ⟨[(3, pT 1001 0), (4, pT 1002 0), (12, aN .u64 6 x0), (13, i6 x1)], [(1001, bU 6 x2 55), (1002, bU 6 x3 55)]⟩) :
    g25V A n (pth 37) m (blockK 0 (g25Q A n (pth 7) (g25T kk))) s = g25L2 A n kk m x0 x1 x2 x3 := by
  induction m generalizing s x0 x1 x2 x3 with
  | zero => rfl
  | succ m ih =>
    have h1 := (g25Qn A n _ _ _).trans (g25J3_eq A n kk m (g25L2 A n kk m) ih (g25R2s0 A x0 x1 x2 x3) x0 x1 x2 x3 (by kernel_rfl))
    have h2 := (g25p293 A n _ _).trans h1
    have h3 : (g25T kk) .ret (g25R15s0 A x3) = kk (aN .u64 6 x3) [(1002, bU 6 x3 55)] := by kernel_rfl
    have h4 := (g25p15 A n _ _).trans h3
    have h5 := (g25Qn A n _ _ _).trans h4
    have h6 := (g25F A n _ 15 _ (g25R2s0 A x0 x1 x2 x3) _ (by kernel_rfl) (by kernel_rfl)).trans (g25R15 A n (g25Q A n (pth 15) (g25T kk)) x3)
    rw [h5] at h6
    have h7 := (g25p7 A n _ _).trans h6
    have h8 := (g25Qn A n _ _ _).trans h7
    have h9 := (blockK_hit 0 _ _).trans h8
    have h10 := (g25We A n (pth 37) m _ _ _).trans h9
    have h11 := (g25Qe A n (pth 229) _ _ _).trans h10
    have h12 := (g25p421 A n _ _).trans h11
    have h13 := g25p165 A n (g25Q A n (pth 229) (g25W A n (pth 37) m (blockK 0 (g25Q A n (pth 7) (g25T kk))))) (g25R2s0 A x0 x1 x2 x3) (A.ic .lss x1 6) (by kernel_rfl)
    rw [h2, h12] at h13
    have h14 := (g25p101 A n _ _).trans h13
    have h15 := (g25Qn A n _ _ _).trans h14
    have h16 := (g25F A n _ 2 _ ⟨[(3, pT 1001 0), (4, pT 1002 0), (12, aN .u64 6 x0), (13, i6 x1)], [(1001, bU 6 x2 55), (1002, bU 6 x3 55)]⟩ _ (by kernel_rfl) (by kernel_rfl)).trans (g25R2 A n (g25Q A n (pth 101) (g25W A n (pth 37) m (blockK 0 (g25Q A n (pth 7) (g25T kk))))) x0 x1 x2 x3)
    rw [h15] at h16
    have h17 := (g25p37 A n _ _).trans h16
    exact (loopD_first (s' := ⟨[(3, pT 1001 0), (4, pT 1002 0), (12, aN .u64 6 x0), (13, i6 x1)], [(1001, bU 6 x2 55), (1002, bU 6 x3 55)]⟩) (id := 2) (by kernel_rfl) (h.trans (by kernel_rfl)) _).trans ((g25Vs A n _ m _ _).trans (h17.trans (by kernel_rfl)))
def g25 {R : Type} (A : Ar) (n : Nat) (kk : KK R) (a b : LN) : Option R :=
  g25L2 A n kk n a 0 b [0, 0, 0, 0, 0, 0]
theorem g25_eq {R : Type} (A : Ar) (n : Nat) (kk : KK R) (a b : LN) :
    funD A gtys (g25O A) g25an n (bodyOf Try.f25) g25res [(aN .u64 6 a), (aN .u64 6 b)] [] kk = g25 A n kk a b := by
  have h1 := (g25p21 A n _ _).trans (g25L2_eq A n kk n (g25R1s0 A a b [0, 0, 0, 0, 0, 0]) a 0 b [0, 0, 0, 0, 0, 0] (by kernel_rfl))
  have h2 := (g25p13 A n _ _).trans h1
  have h3 := (g25Qn A n _ _ _).trans h2
  have h4 := (g25F A n _ 1 _ (g25R0s0 A a b) _ (by kernel_rfl) (by kernel_rfl)).trans (g25R1 A n (g25Q A n (pth 13) (g25Q A n (pth 7) (g25T kk))) a b [0, 0, 0, 0, 0, 0])
  rw [h3] at h4
  have h5 := (g25p5 A n _ _).trans h4
  have h6 := (g25p3 A n _ _).trans h5
  have h7 := (g25Qn A n _ _ _).trans h6
  have h8 := (g25F A n _ 0 _ ⟨[(0, aN .u64 6 a), (1, aN .u64 6 b)], []⟩ _ (by kernel_rfl) (by kernel_rfl)).trans (g25R0 A n (g25Q A n (pth 3) (g25T kk)) a b)
  rw [h7] at h8
  have h9 := (g25p1 A n _ _).trans h8
  exact (show funD A gtys (g25O A) g25an n (bodyOf Try.f25) g25res [(aN .u64 6 a), (aN .u64 6 b)] [] kk = g25D A n (pth 1) (g25T kk) ⟨[(0, aN .u64 6 a), (1, aN .u64 6 b)], []⟩ from by kernel_rfl).trans (h9.trans (by kernel_rfl))
def g25is (o : Option AV) : Bool := match o with
  | some (aN .u64 6 _) => true
  | _ => false
def g25g0 (o : Option AV) : LN := match o with
  | some (aN .u64 6 x) => x
  | _ => []
theorem g25is_spec {o : Option AV} (h : g25is o = true) : o = some (aN .u64 6 (g25g0 o)) := by
  unfold g25is at h
  split at h
  · rfl
  · cases h
def g25v (A : Ar) (a b : LN) : Option AV := g25 A (100000) (fun v _ => some v) a b
def g25ok (A : Ar) (a b : LN) : Bool := g25is (g25v A a b)
def g25r0 (A : Ar) (a b : LN) : LN := g25g0 (g25v A a b)
theorem g25ok_spec {A : Ar} {a b} (h : g25ok A a b = true) : g25v A a b = some (aN .u64 6 (g25r0 A a b)) := g25is_spec h
def g25o (A : Ar) (args : List AV) : Option (Bool × AV) := match args with
  | [.v (.agg [.nums .u64 n0 a]), .v (.agg [.nums .u64 n1 b])] => some (Nat.beq n0 6 && (Nat.beq n1 6 && (g25ok A a b)), .v (.agg [.nums .u64 6 (g25r0 A a b)]))
  | _ => none
theorem g25o_sound : ∀ args v, g25o realA args = some (true, v) → Fn1 Try.prog 25 args v := by
  intro args v h
  unfold g25o at h
  split at h
  · rename_i n0 a n1 b
    simp only [Option.some.injEq, Prod.mk.injEq] at h
    obtain ⟨hc, h⟩ := h
    subst h
    · skip
      simp only [Bool.and_eq_true] at hc
      have en0 := beq_true hc.1
      subst en0
      replace hc := hc.2
      have en1 := beq_true hc.1
      subst en1
      replace hc := hc.2
      exact fn1_of mixed gtysOK g25O_sound g25O_det (an := g25an) (n := 100000) Try.func25 (c := bodyOf Try.f25) rfl (by kernel_rfl) Try.call25 (Nat.le_of_ble_eq_true rfl) (fun b => rfl) (fun _ => (g25_eq realA (100000) (fun v _ => some v) a b).trans (show g25v realA a b = _ from g25ok_spec hc))
  · cases h
def g26O (A : Ar) : Orc := orcOf []
theorem g26O_sound : OSound Try.prog (g26O realA) := orc_sound fun f g hm args v hv => by
  cases hm
theorem g26O_det : ODet (g26O realA) := orc_det _
def g26an : Ann := [(0, ([0, 1], [])), (1, ([2, 3], [1000, 1001])), (2, ([2, 3, 5], [1000, 1001])), (3, ([2, 3, 5], [1000, 1001])), (4, ([2, 3, 5], [1000, 1001])), (5, ([2, 3, 5], [1000, 1001])), (6, ([], []))]
def g26res : List ResultVar := [.tmp 4]
noncomputable def g26D {R : Type} (A : Ar) (n : Nat) (p : List Bool) (K : Ex → St → Option R) (s : St) : Option R := codeD A gtys (g26O A) g26an n (sub (bodyOf Try.f26) p) K s
noncomputable def g26V {R : Type} (A : Ar) (n : Nat) (p : List Bool) (m : Nat) (K : Ex → St → Option R) (s : St) : Option R := loopD (fun K' s'' => codeD A gtys (g26O A) g26an n (sub (bodyOf Try.f26) p) K' s'') m K s
noncomputable def g26Q {R : Type} (A : Ar) (n : Nat) (p : List Bool) (K : Ex → St → Option R) : Ex → St → Option R := seqC (g26D A n p K) K
noncomputable def g26W {R : Type} (A : Ar) (n : Nat) (p : List Bool) (m : Nat) (K : Ex → St → Option R) : Ex → St → Option R := seqC (g26V A n p m K) K
noncomputable def g26T {R : Type} (kk : KK R) : Ex → St → Option R := finD gtys g26res kk
theorem g26Qn {R : Type} (A : Ar) (n : Nat) (p : List Bool) (K : Ex → St → Option R) (s : St) : g26Q A n p K .normal s = g26D A n p K s := rfl
theorem g26Qe {R : Type} (A : Ar) (n : Nat) (p : List Bool) (K : Ex → St → Option R) (i : Nat) (s : St) : g26Q A n p K (.exit i) s = K (.exit i) s := rfl
theorem g26Qr {R : Type} (A : Ar) (n : Nat) (p : List Bool) (K : Ex → St → Option R) (s : St) : g26Q A n p K .ret s = K .ret s := rfl
theorem g26Wn {R : Type} (A : Ar) (n : Nat) (p : List Bool) (m : Nat) (K : Ex → St → Option R) (s : St) : g26W A n p m K .normal s = g26V A n p m K s := rfl
theorem g26We {R : Type} (A : Ar) (n : Nat) (p : List Bool) (m : Nat) (K : Ex → St → Option R) (i : Nat) (s : St) : g26W A n p m K (.exit i) s = K (.exit i) s := rfl
theorem g26Wr {R : Type} (A : Ar) (n : Nat) (p : List Bool) (m : Nat) (K : Ex → St → Option R) (s : St) : g26W A n p m K .ret s = K .ret s := rfl
theorem g26Vs {R : Type} (A : Ar) (n : Nat) (p : List Bool) (m : Nat) (K : Ex → St → Option R) (s : St) : g26V A n p (m + 1) K s = g26D A n p (g26W A n p m K) s := rfl
theorem g26F {R : Type} (A : Ar) (n : Nat) (p : List Bool) (i : Nat) (K : Ex → St → Option R) (s s' : St) (hf : firstReg (sub (bodyOf Try.f26) p) = some i) (h : keep g26an i s = keep g26an i s') : g26D A n p K s = g26D A n p K s' := codeD_first hf h K
section
variable {R : Type} (A : Ar) (n : Nat) (K : Ex → St → Option R) (s : St)
theorem g26p1 : g26D A n (pth 1) K s = g26D A n (pth 2) (g26Q A n (pth 3) K) s := by kernel_rfl
theorem g26p3 : g26D A n (pth 3) K s = g26D A n (pth 5) (g26Q A n (pth 7) K) s := by kernel_rfl
theorem g26p5 : g26D A n (pth 5) K s = g26D A n (pth 9) (g26Q A n (pth 13) K) s := by kernel_rfl
theorem g26p13 : g26D A n (pth 13) K s = g26D A n (pth 21) (blockK 0 K) s := by kernel_rfl
theorem g26p21 : g26D A n (pth 21) K s = g26V A n (pth 37) n K s := by kernel_rfl
theorem g26p37 : g26D A n (pth 37) K s = g26D A n (pth 69) (g26Q A n (pth 101) K) s := by kernel_rfl
theorem g26p69 : g26D A n (pth 69) K s = g26D A n (pth 133) (g26Q A n (pth 197) K) s := by kernel_rfl
theorem g26p197 (t : Bool) : ev s (.tmp 7) = some (.v (.cell (.bool t))) → g26D A n (pth 197) K s = (match t with
    | true => g26D A n (pth 325) K s
    | false => g26D A n (pth 453) K s) := codeD_cond t
theorem g26p325 : g26D A n (pth 325) K s = K .normal s := by kernel_rfl
theorem g26p453 : g26D A n (pth 453) K s = K (.exit 0) s := by kernel_rfl
theorem g26p101 : g26D A n (pth 101) K s = g26D A n (pth 165) (g26Q A n (pth 229) K) s := by kernel_rfl
theorem g26p165 : g26D A n (pth 165) K s = g26D A n (pth 293) (blockK 1 K) s := by kernel_rfl
theorem g26p293 : g26D A n (pth 293) K s = g26D A n (pth 549) (g26Q A n (pth 805) K) s := by kernel_rfl
theorem g26p805 (t : Bool) : ev s (.tmp 16) = some (.v (.cell (.bool t))) → g26D A n (pth 805) K s = (match t with
    | true => g26D A n (pth 1317) K s
    | false => g26D A n (pth 1829) K s) := codeD_cond t
theorem g26p1317 : g26D A n (pth 1317) K s = g26D A n (pth 2341) (g26Q A n (pth 3365) K) s := by kernel_rfl
theorem g26p3365 : g26D A n (pth 3365) K s = K .ret s := by kernel_rfl
theorem g26p1829 : g26D A n (pth 1829) K s = K .normal s := by kernel_rfl
theorem g26p7 : g26D A n (pth 7) K s = g26D A n (pth 11) (g26Q A n (pth 15) K) s := by kernel_rfl
theorem g26p15 : g26D A n (pth 15) K s = K .ret s := by kernel_rfl
def g26R4s0 (A : Ar) (x0 : Int) (x1 x2 : LN) : St := ⟨[(16, bO (A.nc .neq (x1.getD (A.toN x0) 0) (x2.getD (A.toN x0) 0))), (15, u64v (x2.getD (A.toN x0) 0)), (14, (.v (.cell (.ptr 1001 0 (some ⟨A.toN x0, 1, 6, 0, 0, 0⟩))))), (13, i6 x0), (12, u64v (x1.getD (A.toN x0) 0)), (11, (.v (.cell (.ptr 1000 0 (some ⟨A.toN x0, 1, 6, 0, 0, 0⟩))))), (10, i6 x0), (2, pT 1000 0), (3, pT 1001 0), (5, i6 x0)], [(1000, bU 6 x1 55), (1001, bU 6 x2 55)]⟩
theorem g26R4 (x0 : Int) (x1 x2 : LN) : g26D A n (pth 549) K ⟨[(2, pT 1000 0), (3, pT 1001 0), (5, i6 x0)], [(1000, bU 6 x1 55), (1001, bU 6 x2 55)]⟩ = match A.neg x0 with
    | true => none
    | false => match A.lt (A.toN x0) 6 with
      | true => match A.neg x0 with
        | true => none
        | false => match A.lt (A.toN x0) 6 with
          | true => K .normal (g26R4s0 A x0 x1 x2)
          | false => none
      | false => none := by kernel_rfl
def g26R5s0 (A : Ar) (x0 : Int) (x1 x2 : LN) : St := ⟨[(4, bO (A.nc .gtr (x1.getD (A.toN x0) 0) (x2.getD (A.toN x0) 0))), (23, bO (A.nc .gtr (x1.getD (A.toN x0) 0) (x2.getD (A.toN x0) 0))), (22, u64v (x2.getD (A.toN x0) 0)), (21, (.v (.cell (.ptr 1001 0 (some ⟨A.toN x0, 1, 6, 0, 0, 0⟩))))), (20, i6 x0), (19, u64v (x1.getD (A.toN x0) 0)), (18, (.v (.cell (.ptr 1000 0 (some ⟨A.toN x0, 1, 6, 0, 0, 0⟩))))), (17, i6 x0), (2, pT 1000 0), (3, pT 1001 0), (5, i6 x0)], [(1000, bU 6 x1 55), (1001, bU 6 x2 55)]⟩
theorem g26R5 (x0 : Int) (x1 x2 : LN) : g26D A n (pth 2341) K ⟨[(2, pT 1000 0), (3, pT 1001 0), (5, i6 x0)], [(1000, bU 6 x1 55), (1001, bU 6 x2 55)]⟩ = match A.neg x0 with
    | true => none
    | false => match A.lt (A.toN x0) 6 with
      | true => match A.neg x0 with
        | true => none
        | false => match A.lt (A.toN x0) 6 with
          | true => K .normal (g26R5s0 A x0 x1 x2)
          | false => none
      | false => none := by kernel_rfl
def g26R3s0 (A : Ar) (x0 : Int) (x1 x2 : LN) : St := ⟨[(5, i6 (A.ib .sub .i64 x0 1)), (9, i6 (A.ib .sub .i64 x0 1)), (8, i6 x0), (2, pT 1000 0), (3, pT 1001 0), (5, i6 x0)], [(1000, bU 6 x1 55), (1001, bU 6 x2 55)]⟩
theorem g26R3 (x0 : Int) (x1 x2 : LN) : g26D A n (pth 229) K ⟨[(2, pT 1000 0), (3, pT 1001 0), (5, i6 x0)], [(1000, bU 6 x1 55), (1001, bU 6 x2 55)]⟩ = K .normal (g26R3s0 A x0 x1 x2) := by kernel_rfl
def g26R2s0 (A : Ar) (x0 : Int) (x1 x2 : LN) : St := ⟨[(7, bO (A.ic .geq x0 0)), (6, i6 x0), (2, pT 1000 0), (3, pT 1001 0), (5, i6 x0)], [(1000, bU 6 x1 55), (1001, bU 6 x2 55)]⟩
theorem g26R2 (x0 : Int) (x1 x2 : LN) : g26D A n (pth 133) K ⟨[(2, pT 1000 0), (3, pT 1001 0), (5, i6 x0)], [(1000, bU 6 x1 55), (1001, bU 6 x2 55)]⟩ = K .normal (g26R2s0 A x0 x1 x2) := by kernel_rfl
def g26R6s0 (A : Ar) : St := ⟨[(4, bO false)], []⟩
theorem g26R6 : g26D A n (pth 11) K ⟨[], []⟩ = K .normal (g26R6s0 A) := by kernel_rfl
def g26R0s0 (A : Ar) (x0 x1 : LN) : St := ⟨[(4, bO false), (3, pT 1001 0), (2, pT 1000 0), (0, aN .u64 6 x0), (1, aN .u64 6 x1)], [(1001, bU 6 x1 55), (1000, bU 6 x0 55)]⟩
theorem g26R0 (x0 x1 : LN) : g26D A n (pth 2) K ⟨[(0, aN .u64 6 x0), (1, aN .u64 6 x1)], []⟩ = K .normal (g26R0s0 A x0 x1) := by kernel_rfl
def g26R1s0 (A : Ar) (x0 x1 : LN) : St := ⟨[(5, i6 5), (2, pT 1000 0), (3, pT 1001 0)], [(1000, bU 6 x0 55), (1001, bU 6 x1 55)]⟩
theorem g26R1 (x0 x1 : LN) : g26D A n (pth 9) K ⟨[(2, pT 1000 0), (3, pT 1001 0)], [(1000, bU 6 x0 55), (1001, bU 6 x1 55)]⟩ = K .normal (g26R1s0 A x0 x1) := by kernel_rfl
end
def g26J4 {R : Type} (A : Ar) (n : Nat) (kk : KK R) (lg26L2 : Int → LN → LN → Option R) (x0 : Int) (x1 x2 : LN) : Option R :=
  match A.neg x0 with
  | true => none
  | false => match A.lt (A.toN x0) 6 with
    | true => match A.neg x0 with
      | true => none
      | false => match A.lt (A.toN x0) 6 with
        | true => match A.nc .neq (x1.getD (A.toN x0) 0) (x2.getD (A.toN x0) 0) with
          | true => match A.neg x0 with
            | true => none
            | false => match A.lt (A.toN x0) 6 with
              | true => match A.neg x0 with
                | true => none
                | false => match A.lt (A.toN x0) 6 with
                  | true => kk (bO (A.nc .gtr (x1.getD (A.toN x0) 0) (x2.getD (A.toN x0) 0))) [(1000, bU 6 x1 55), (1001, bU 6 x2 55)]
                  | false => none
              | false => none
          | false => lg26L2 (A.ib .sub .i64 x0 1) x1 x2
        | false => none
    | false => none
theorem g26J4_eq {R : Type} (A : Ar) (n : Nat) (kk : KK R) (m0 : Nat) (lg26L2 : Int → LN → LN → Option R)
    (hg26L2 : ∀ (s : St) (x0 : Int) (x1 x2 : LN), keep g26an 2 s = ⟨[(2, pT 1000 0), (3, pT 1001 0), (5, i6 x0)], [(1000, bU 6 x1 55), (1001, bU 6 x2 55)]⟩ → g26V A n (pth 37) m0 (blockK 0 (g26Q A n (pth 7) (g26T kk))) s = lg26L2 x0 x1 x2) (s : St) (x0 : Int) (x1 x2 : LN) (h : keep g26an 4 s = ⟨[(2, pT 1000 0), (3, pT 1001 0), (5, i6 x0)], [(1000, bU 6 x1 55), (1001, bU 6 x2 55)]⟩) :
    g26D A n (pth 101) (g26W A n (pth 37) m0 (blockK 0 (g26Q A n (pth 7) (g26T kk)))) s = g26J4 A n kk lg26L2 x0 x1 x2 := by
  have h1 : (g26T kk) .ret (g26R5s0 A x0 x1 x2) = kk (bO (A.nc .gtr (x1.getD (A.toN x0) 0) (x2.getD (A.toN x0) 0))) [(1000, bU 6 x1 55), (1001, bU 6 x2 55)] := by kernel_rfl
  have h2 := (g26Qr A n (pth 7) _ _).trans h1
  have h3 := (blockK_r 0 _ _).trans h2
  have h4 := (g26Wr A n (pth 37) m0 _ _).trans h3
  have h5 := (g26Qr A n (pth 229) _ _).trans h4
  have h6 := (blockK_r 1 _ _).trans h5
  have h7 := (g26p3365 A n _ _).trans h6
  have h8 := (g26Qn A n _ _ _).trans h7
  have h9 := (g26F A n _ 5 _ (g26R4s0 A x0 x1 x2) _ (by kernel_rfl) (by kernel_rfl)).trans (g26R5 A n (g26Q A n (pth 3365) (blockK 1 (g26Q A n (pth 229) (g26W A n (pth 37) m0 (blockK 0 (g26Q A n (pth 7) (g26T kk))))))) x0 x1 x2)
  rw [h8] at h9
  have h10 := (g26p1317 A n _ _).trans h9
  have h11 := (g26Wn A n _ _ _ _).trans (hg26L2 (g26R3s0 A x0 x1 x2) (A.ib .sub .i64 x0 1) x1 x2 (by kernel_rfl))
  have h12 := (g26F A n _ 3 _ (g26R4s0 A x0 x1 x2) _ (by kernel_rfl) (by kernel_rfl)).trans (g26R3 A n (g26W A n (pth 37) m0 (blockK 0 (g26Q A n (pth 7) (g26T kk)))) x0 x1 x2)
  rw [h11] at h12
  have h13 := (g26Qn A n _ _ _).trans h12
  have h14 := (blockK_n 1 _ _).trans h13
  have h15 := (g26p1829 A n _ _).trans h14
  have h16 := g26p805 A n (blockK 1 (g26Q A n (pth 229) (g26W A n (pth 37) m0 (blockK 0 (g26Q A n (pth 7) (g26T kk)))))) (g26R4s0 A x0 x1 x2) (A.nc .neq (x1.getD (A.toN x0) 0) (x2.getD (A.toN x0) 0)) (by kernel_rfl)
  rw [h10, h15] at h16
  have h17 := (g26Qn A n _ _ _).trans h16
  have h18 := (g26F A n _ 4 _ ⟨[(2, pT 1000 0), (3, pT 1001 0), (5, i6 x0)], [(1000, bU 6 x1 55), (1001, bU 6 x2 55)]⟩ _ (by kernel_rfl) (by kernel_rfl)).trans (g26R4 A n (g26Q A n (pth 805) (blockK 1 (g26Q A n (pth 229) (g26W A n (pth 37) m0 (blockK 0 (g26Q A n (pth 7) (g26T kk))))))) x0 x1 x2)
  rw [h17] at h18
  have h19 := (g26p293 A n _ _).trans h18
  have h20 := (g26p165 A n _ _).trans h19
  have h21 := (g26p101 A n _ _).trans h20
  exact (g26F A n _ 4 _ _ ⟨[(2, pT 1000 0), (3, pT 1001 0), (5, i6 x0)], [(1000, bU 6 x1 55), (1001, bU 6 x2 55)]⟩ (by kernel_rfl) (h.trans (by kernel_rfl))).trans (h21.trans (by kernel_rfl))
def g26L2 {R : Type} (A : Ar) (n : Nat) (kk : KK R) : Nat → Int → LN → LN → Option R
  | 0, _, _, _ => none
  | m + 1, x0, x1, x2 => match A.ic .geq x0 0 with
  | true => g26J4 A n kk (g26L2 A n kk m) x0 x1 x2
  | false => kk (bO false) []
theorem g26L2_eq {R : Type} (A : Ar) (n : Nat) (kk : KK R) (m : Nat) (s : St) (x0 : Int) (x1 x2 : LN) (h : keep g26an 2 s = ⟨[(2, pT 1000 0), (3, pT 1001 0), (5, i6 x0)], [(1000, bU 6 x1 55), (1001, bU 6 x2 55)]⟩) :
    g26V A n (pth 37) m (blockK 0 (g26Q A n (pth 7) (g26T kk))) s = g26L2 A n kk m x0 x1 x2 := by
  induction m generalizing s x0 x1 x2 with
  | zero => rfl
  | succ m ih =>
    have h1 := (g26Qn A n _ _ _).trans (g26J4_eq A n kk m (g26L2 A n kk m) ih (g26R2s0 A x0 x1 x2) x0 x1 x2 (by kernel_rfl))
    have h2 := (g26p325 A n _ _).trans h1
    have h3 : (g26T kk) .ret (g26R6s0 A) = kk (bO false) [] := by kernel_rfl
    have h4 := (g26p15 A n _ _).trans h3
    have h5 := (g26Qn A n _ _ _).trans h4
    have h6 := (g26F A n _ 6 _ (g26R2s0 A x0 x1 x2) _ (by kernel_rfl) (by kernel_rfl)).trans (g26R6 A n (g26Q A n (pth 15) (g26T kk)) )
    rw [h5] at h6
    have h7 := (g26p7 A n _ _).trans h6
    have h8 := (g26Qn A n _ _ _).trans h7
    have h9 := (blockK_hit 0 _ _).trans h8
    have h10 := (g26We A n (pth 37) m _ _ _).trans h9
    have h11 := (g26Qe A n (pth 101) _ _ _).trans h10
    have h12 := (g26p453 A n _ _).trans h11
    have h13 := g26p197 A n (g26Q A n (pth 101) (g26W A n (pth 37) m (blockK 0 (g26Q A n (pth 7) (g26T kk))))) (g26R2s0 A x0 x1 x2) (A.ic .geq x0 0) (by kernel_rfl)
    rw [h2, h12] at h13
    have h14 := (g26Qn A n _ _ _).trans h13
    have h15 := (g26F A n _ 2 _ ⟨[(2, pT 1000 0), (3, pT 1001 0), (5, i6 x0)], [(1000, bU 6 x1 55), (1001, bU 6 x2 55)]⟩ _ (by kernel_rfl) (by kernel_rfl)).trans (g26R2 A n (g26Q A n (pth 197) (g26Q A n (pth 101) (g26W A n (pth 37) m (blockK 0 (g26Q A n (pth 7) (g26T kk)))))) x0 x1 x2)
    rw [h14] at h15
    have h16 := (g26p69 A n _ _).trans h15
    have h17 := (g26p37 A n _ _).trans h16
    exact (loopD_first (s' := ⟨[(2, pT 1000 0), (3, pT 1001 0), (5, i6 x0)], [(1000, bU 6 x1 55), (1001, bU 6 x2 55)]⟩) (id := 2) (by kernel_rfl) (h.trans (by kernel_rfl)) _).trans ((g26Vs A n _ m _ _).trans (h17.trans (by kernel_rfl)))
def g26 {R : Type} (A : Ar) (n : Nat) (kk : KK R) (a b : LN) : Option R :=
  g26L2 A n kk n 5 a b
theorem g26_eq {R : Type} (A : Ar) (n : Nat) (kk : KK R) (a b : LN) :
    funD A gtys (g26O A) g26an n (bodyOf Try.f26) g26res [(aN .u64 6 a), (aN .u64 6 b)] [] kk = g26 A n kk a b := by
  have h1 := (g26p21 A n _ _).trans (g26L2_eq A n kk n (g26R1s0 A a b) 5 a b (by kernel_rfl))
  have h2 := (g26p13 A n _ _).trans h1
  have h3 := (g26Qn A n _ _ _).trans h2
  have h4 := (g26F A n _ 1 _ (g26R0s0 A a b) _ (by kernel_rfl) (by kernel_rfl)).trans (g26R1 A n (g26Q A n (pth 13) (g26Q A n (pth 7) (g26T kk))) a b)
  rw [h3] at h4
  have h5 := (g26p5 A n _ _).trans h4
  have h6 := (g26p3 A n _ _).trans h5
  have h7 := (g26Qn A n _ _ _).trans h6
  have h8 := (g26F A n _ 0 _ ⟨[(0, aN .u64 6 a), (1, aN .u64 6 b)], []⟩ _ (by kernel_rfl) (by kernel_rfl)).trans (g26R0 A n (g26Q A n (pth 3) (g26T kk)) a b)
  rw [h7] at h8
  have h9 := (g26p1 A n _ _).trans h8
  exact (show funD A gtys (g26O A) g26an n (bodyOf Try.f26) g26res [(aN .u64 6 a), (aN .u64 6 b)] [] kk = g26D A n (pth 1) (g26T kk) ⟨[(0, aN .u64 6 a), (1, aN .u64 6 b)], []⟩ from by kernel_rfl).trans (h9.trans (by kernel_rfl))
def g26is (o : Option AV) : Bool := match o with
  | some (.v (.cell (.bool _))) => true
  | _ => false
def g26g0 (o : Option AV) : Bool := match o with
  | some (.v (.cell (.bool x))) => x
  | _ => false
theorem g26is_spec {o : Option AV} (h : g26is o = true) : o = some (.v (.cell (.bool (g26g0 o)))) := by
  unfold g26is at h
  split at h
  · rfl
  · cases h
def g26v (A : Ar) (a b : LN) : Option AV := g26 A (100000) (fun v _ => some v) a b
def g26ok (A : Ar) (a b : LN) : Bool := g26is (g26v A a b)
def g26r0 (A : Ar) (a b : LN) : Bool := g26g0 (g26v A a b)
theorem g26ok_spec {A : Ar} {a b} (h : g26ok A a b = true) : g26v A a b = some (.v (.cell (.bool (g26r0 A a b)))) := g26is_spec h
def g26o (A : Ar) (args : List AV) : Option (Bool × AV) := match args with
  | [.v (.agg [.nums .u64 n0 a]), .v (.agg [.nums .u64 n1 b])] => some (Nat.beq n0 6 && (Nat.beq n1 6 && (g26ok A a b)), .v (.cell (.bool (g26r0 A a b))))
  | _ => none
theorem g26o_sound : ∀ args v, g26o realA args = some (true, v) → Fn1 Try.prog 26 args v := by
  intro args v h
  unfold g26o at h
  split at h
  · rename_i n0 a n1 b
    simp only [Option.some.injEq, Prod.mk.injEq] at h
    obtain ⟨hc, h⟩ := h
    subst h
    · skip
      simp only [Bool.and_eq_true] at hc
      have en0 := beq_true hc.1
      subst en0
      replace hc := hc.2
      have en1 := beq_true hc.1
      subst en1
      replace hc := hc.2
      exact fn1_of mixed gtysOK g26O_sound g26O_det (an := g26an) (n := 100000) Try.func26 (c := bodyOf Try.f26) rfl (by kernel_rfl) Try.call26 (Nat.le_of_ble_eq_true rfl) (fun b => rfl) (fun _ => (g26_eq realA (100000) (fun v _ => some v) a b).trans (show g26v realA a b = _ from g26ok_spec hc))
  · cases h
def g19O (A : Ar) : Orc := orcOf [(25, g25o A), (26, g26o A)]
theorem g19O_sound : OSound Try.prog (g19O realA) := orc_sound fun f g hm args v hv => by
  simp only [List.mem_cons, List.not_mem_nil, or_false, Prod.mk.injEq] at hm
  rcases hm with ⟨rfl, rfl⟩ | ⟨rfl, rfl⟩
  · exact g25o_sound _ _ hv
  · exact g26o_sound _ _ hv
theorem g19O_det : ODet (g19O realA) := orc_det _
def g19an : Ann := [(0, ([0, 1], [])), (1, ([0, 1], [])), (2, ([0, 1, 5], [2002])), (3, ([0, 1, 5], [2002])), (4, ([1, 5], [2002])), (5, ([1, 5, 6], [2002, 5000])), (6, ([1, 5, 6, 7], [2002, 5000])), (7, ([1, 5, 6, 7], [2002, 5000])), (8, ([1, 5, 6, 7], [2002, 5000])), (9, ([1, 5, 6, 7, 8], [2002, 5000, 9001])), (10, ([1, 5, 6, 7, 8], [2002, 5000, 9001])), (11, ([1, 5, 6, 7, 8, 9], [2002, 5000, 9001, 11003])), (12, ([1, 5, 6, 7, 8, 9], [2002, 5000, 9001, 11003])), (13, ([1, 5, 6, 7, 8, 9], [2002, 5000, 9001, 11003])), (14, ([1, 5, 6, 7, 8], [2002, 5000, 9001])), (15, ([6], [5000]))]
def g19res : List ResultVar := [.tmp 4]
abbrev g19t0 (A : Ar) (x1 : Int) (x3 : LN) : LN := g25r0 A (x3.set (A.toN (A.ib .quo .i64 x1 64)) (A.nb .or .u64 (x3.getD (A.toN (A.ib .quo .i64 x1 64)) 0) (A.nsh .shl .u64 1 (A.toN (A.ib .rem .i64 x1 64))))) (x3.set (A.toN (A.ib .quo .i64 x1 64)) (A.nb .or .u64 (x3.getD (A.toN (A.ib .quo .i64 x1 64)) 0) (A.nsh .shl .u64 1 (A.toN (A.ib .rem .i64 x1 64)))))
abbrev g19t1 (A : Ar) (x1 : Int) (x3 : LN) : LN := g25r0 A (g19t0 A x1 x3) (x3.set (A.toN (A.ib .quo .i64 x1 64)) (A.nb .or .u64 (x3.getD (A.toN (A.ib .quo .i64 x1 64)) 0) (A.nsh .shl .u64 1 (A.toN (A.ib .rem .i64 x1 64)))))
noncomputable def g19D {R : Type} (A : Ar) (n : Nat) (p : List Bool) (K : Ex → St → Option R) (s : St) : Option R := codeD A gtys (g19O A) g19an n (sub (bodyOf Try.f19) p) K s
noncomputable def g19V {R : Type} (A : Ar) (n : Nat) (p : List Bool) (m : Nat) (K : Ex → St → Option R) (s : St) : Option R := loopD (fun K' s'' => codeD A gtys (g19O A) g19an n (sub (bodyOf Try.f19) p) K' s'') m K s
noncomputable def g19Q {R : Type} (A : Ar) (n : Nat) (p : List Bool) (K : Ex → St → Option R) : Ex → St → Option R := seqC (g19D A n p K) K
noncomputable def g19W {R : Type} (A : Ar) (n : Nat) (p : List Bool) (m : Nat) (K : Ex → St → Option R) : Ex → St → Option R := seqC (g19V A n p m K) K
noncomputable def g19T {R : Type} (kk : KK R) : Ex → St → Option R := finD gtys g19res kk
theorem g19Qn {R : Type} (A : Ar) (n : Nat) (p : List Bool) (K : Ex → St → Option R) (s : St) : g19Q A n p K .normal s = g19D A n p K s := rfl
theorem g19Qe {R : Type} (A : Ar) (n : Nat) (p : List Bool) (K : Ex → St → Option R) (i : Nat) (s : St) : g19Q A n p K (.exit i) s = K (.exit i) s := rfl
theorem g19Wn {R : Type} (A : Ar) (n : Nat) (p : List Bool) (m : Nat) (K : Ex → St → Option R) (s : St) : g19W A n p m K .normal s = g19V A n p m K s := rfl
theorem g19We {R : Type} (A : Ar) (n : Nat) (p : List Bool) (m : Nat) (K : Ex → St → Option R) (i : Nat) (s : St) : g19W A n p m K (.exit i) s = K (.exit i) s := rfl
theorem g19Vs {R : Type} (A : Ar) (n : Nat) (p : List Bool) (m : Nat) (K : Ex → St → Option R) (s : St) : g19V A n p (m + 1) K s = g19D A n p (g19W A n p m K) s := rfl
theorem g19F {R : Type} (A : Ar) (n : Nat) (p : List Bool) (i : Nat) (K : Ex → St → Option R) (s s' : St) (hf : firstReg (sub (bodyOf Try.f19) p) = some i) (h : keep g19an i s = keep g19an i s') : g19D A n p K s = g19D A n p K s' := codeD_first hf h K
section
variable {R : Type} (A : Ar) (n : Nat) (K : Ex → St → Option R) (s : St)
theorem g19p1 : g19D A n (pth 1) K s = g19D A n (pth 2) (g19Q A n (pth 3) K) s := by kernel_rfl
theorem g19p3 : g19D A n (pth 3) K s = g19D A n (pth 5) K s := by kernel_rfl
theorem g19p5 : g19D A n (pth 5) K s = g19D A n (pth 9) (g19Q A n (pth 13) K) s := by kernel_rfl
theorem g19p13 : g19D A n (pth 13) K s = g19D A n (pth 21) (g19Q A n (pth 29) K) s := by kernel_rfl
theorem g19p21 : g19D A n (pth 21) K s = g19D A n (pth 37) (g19Q A n (pth 53) K) s := by kernel_rfl
theorem g19p53 (t : Bool) : ev s (.tmp 12) = some (.v (.cell (.bool t))) → g19D A n (pth 53) K s = (match t with
    | true => g19D A n (pth 85) K s
    | false => g19D A n (pth 117) K s) := codeD_cond t
theorem g19p117 : g19D A n (pth 117) K s = K .normal s := by kernel_rfl
theorem g19p29 : g19D A n (pth 29) K s = g19D A n (pth 45) (g19Q A n (pth 61) K) s := by kernel_rfl
theorem g19p61 : g19D A n (pth 61) K s = g19D A n (pth 93) (g19Q A n (pth 125) K) s := by kernel_rfl
theorem g19p93 : g19D A n (pth 93) K s = K .normal s := by kernel_rfl
theorem g19p125 : g19D A n (pth 125) K s = g19D A n (pth 189) (g19Q A n (pth 253) K) s := by kernel_rfl
theorem g19p189 : g19D A n (pth 189) K s = g19D A n (pth 317) (g19Q A n (pth 445) K) s := by kernel_rfl
theorem g19p445 : g19D A n (pth 445) K s = g19D A n (pth 701) (blockK 0 K) s := by kernel_rfl
theorem g19p701 : g19D A n (pth 701) K s = g19V A n (pth 1213) n K s := by kernel_rfl
theorem g19p1213 : g19D A n (pth 1213) K s = g19D A n (pth 2237) (g19Q A n (pth 3261) K) s := by kernel_rfl
theorem g19p2237 : g19D A n (pth 2237) K s = g19D A n (pth 4285) (g19Q A n (pth 6333) K) s := by kernel_rfl
theorem g19p6333 (t : Bool) : ev s (.tmp 16) = some (.v (.cell (.bool t))) → g19D A n (pth 6333) K s = (match t with
    | true => g19D A n (pth 10429) K s
    | false => g19D A n (pth 14525) K s) := codeD_cond t
theorem g19p10429 : g19D A n (pth 10429) K s = K .normal s := by kernel_rfl
theorem g19p14525 : g19D A n (pth 14525) K s = K (.exit 0) s := by kernel_rfl
theorem g19p3261 : g19D A n (pth 3261) K s = g19D A n (pth 5309) (g19Q A n (pth 7357) K) s := by kernel_rfl
theorem g19p5309 : g19D A n (pth 5309) K s = g19D A n (pth 9405) (blockK 1 K) s := by kernel_rfl
theorem g19p9405 : g19D A n (pth 9405) K s = g19D A n (pth 17597) (g19Q A n (pth 25789) K) s := by kernel_rfl
theorem g19p25789 : g19D A n (pth 25789) K s = g19D A n (pth 42173) (g19Q A n (pth 58557) K) s := by kernel_rfl
theorem g19p58557 : g19D A n (pth 58557) K s = g19D A n (pth 91325) (g19Q A n (pth 124093) K) s := by kernel_rfl
theorem g19p124093 : g19D A n (pth 124093) K s = g19D A n (pth 189629) (g19Q A n (pth 255165) K) s := by kernel_rfl
theorem g19p189629 : g19D A n (pth 189629) K s = g19D A n (pth 320701) (g19Q A n (pth 451773) K) s := by kernel_rfl
theorem g19p451773 (t : Bool) : ev s (.tmp 32) = some (.v (.cell (.bool t))) → g19D A n (pth 451773) K s = (match t with
    | true => g19D A n (pth 713917) K s
    | false => g19D A n (pth 976061) K s) := codeD_cond t
theorem g19p976061 : g19D A n (pth 976061) K s = K .normal s := by kernel_rfl
theorem g19p255165 : g19D A n (pth 255165) K s = g19D A n (pth 386237) (g19Q A n (pth 517309) K) s := by kernel_rfl
theorem g19p386237 : g19D A n (pth 386237) K s = g19D A n (pth 648381) (g19Q A n (pth 910525) K) s := by kernel_rfl
theorem g19p910525 (t : Bool) : ev s (.tmp 38) = some (.v (.cell (.bool t))) → g19D A n (pth 910525) K s = (match t with
    | true => g19D A n (pth 1434813) K s
    | false => g19D A n (pth 1959101) K s) := codeD_cond t
theorem g19p1434813 : g19D A n (pth 1434813) K s = K (.exit 1) s := by kernel_rfl
theorem g19p1959101 : g19D A n (pth 1959101) K s = K .normal s := by kernel_rfl
theorem g19p253 : g19D A n (pth 253) K s = g19D A n (pth 381) (g19Q A n (pth 509) K) s := by kernel_rfl
theorem g19p509 : g19D A n (pth 509) K s = K .ret s := by kernel_rfl
def g19R13s0 (A : Ar) (x0 : Bool) (x1 : Int) (x2 x3 : LN) (x4 x5 : LN) : St := ⟨[(38, bO (g26r0 A x5 x2)), (37, aN .u64 6 x2), (36, aN .u64 6 x5), (1, bO x0), (5, pT 2002 0), (6, pT 5000 0), (7, i6 x1), (8, pT 9001 0), (9, pT 11003 0)], [(2002, bU 6 x2 55), (5000, bU 6 x3 55), (9001, bU 6 x4 55), (11003, bU 6 x5 55)]⟩
theorem g19R13 (x0 : Bool) (x1 : Int) (x2 x3 : LN) (x4 x5 : LN) : g19D A n (pth 648381) K ⟨[(1, bO x0), (5, pT 2002 0), (6, pT 5000 0), (7, i6 x1), (8, pT 9001 0), (9, pT 11003 0)], [(2002, bU 6 x2 55), (5000, bU 6 x3 55), (9001, bU 6 x4 55), (11003, bU 6 x5 55)]⟩ = match g26ok A x5 x2 with
    | true => K .normal (g19R13s0 A x0 x1 x2 x3 x4 x5)
    | false => none := by kernel_rfl
def g19R7s0 (A : Ar) (x0 : Bool) (x1 : Int) (x2 x3 : LN) : St := ⟨[(7, i6 (A.ib .sub .i64 x1 1)), (18, i6 (A.ib .sub .i64 x1 1)), (17, i6 x1), (1, bO x0), (5, pT 2002 0), (6, pT 5000 0), (7, i6 x1)], [(2002, bU 6 x2 55), (5000, bU 6 x3 55)]⟩
theorem g19R7 (x0 : Bool) (x1 : Int) (x2 x3 : LN) : g19D A n (pth 7357) K ⟨[(1, bO x0), (5, pT 2002 0), (6, pT 5000 0), (7, i6 x1)], [(2002, bU 6 x2 55), (5000, bU 6 x3 55)]⟩ = K .normal (g19R7s0 A x0 x1 x2 x3) := by kernel_rfl
def g19R14s0 (A : Ar) (x0 : Bool) (x1 : Int) (x2 x3 x4 : LN) : St := ⟨[(39, aN .u64 6 x4), (1, bO x0), (5, pT 2002 0), (6, pT 5000 0), (7, i6 x1), (8, pT 9001 0)], [(2002, bU 6 x2 55), (5000, bU 6 x4 55), (9001, bU 6 x4 55)]⟩
theorem g19R14 (x0 : Bool) (x1 : Int) (x2 x3 x4 : LN) : g19D A n (pth 517309) K ⟨[(1, bO x0), (5, pT 2002 0), (6, pT 5000 0), (7, i6 x1), (8, pT 9001 0)], [(2002, bU 6 x2 55), (5000, bU 6 x3 55), (9001, bU 6 x4 55)]⟩ = K .normal (g19R14s0 A x0 x1 x2 x3 x4) := by kernel_rfl
def g19R8s0 (A : Ar) (x0 : Bool) (x1 : Int) (x2 x3 : LN) : St := ⟨[(8, pT 9001 0), (19, aN .u64 6 x3), (1, bO x0), (5, pT 2002 0), (6, pT 5000 0), (7, i6 x1)], [(9001, bU 6 x3 55), (2002, bU 6 x2 55), (5000, bU 6 x3 55)]⟩
theorem g19R8 (x0 : Bool) (x1 : Int) (x2 x3 : LN) : g19D A n (pth 17597) K ⟨[(1, bO x0), (5, pT 2002 0), (6, pT 5000 0), (7, i6 x1)], [(2002, bU 6 x2 55), (5000, bU 6 x3 55)]⟩ = K .normal (g19R8s0 A x0 x1 x2 x3) := by kernel_rfl
def g19R9s0 (A : Ar) (x0 : Bool) (x1 : Int) (x2 x3 x4 : LN) : St := ⟨[(28, (.v (.cell (.ptr 9001 0 (some ⟨A.toN (A.ib .quo .i64 x1 64), 1, 6, 0, 0, 0⟩))))), (27, u64v (A.nb .or .u64 (x4.getD (A.toN (A.ib .quo .i64 x1 64)) 0) (A.nsh .shl .u64 1 (A.toN (A.ib .rem .i64 x1 64))))), (26, u64v (A.nsh .shl .u64 1 (A.toN (A.ib .rem .i64 x1 64)))), (25, i6 (A.ib .rem .i64 x1 64)), (24, i6 x1), (23, u64v (x4.getD (A.toN (A.ib .quo .i64 x1 64)) 0)), (22, (.v (.cell (.ptr 9001 0 (some ⟨A.toN (A.ib .quo .i64 x1 64), 1, 6, 0, 0, 0⟩))))), (21, i6 (A.ib .quo .i64 x1 64)), (20, i6 x1), (1, bO x0), (5, pT 2002 0), (6, pT 5000 0), (7, i6 x1), (8, pT 9001 0)], [(2002, bU 6 x2 55), (5000, bU 6 x3 55), (9001, bU 6 (x4.set (A.toN (A.ib .quo .i64 x1 64)) (A.nb .or .u64 (x4.getD (A.toN (A.ib .quo .i64 x1 64)) 0) (A.nsh .shl .u64 1 (A.toN (A.ib .rem .i64 x1 64))))) 55)]⟩
theorem g19R9 (x0 : Bool) (x1 : Int) (x2 x3 x4 : LN) : g19D A n (pth 42173) K ⟨[(1, bO x0), (5, pT 2002 0), (6, pT 5000 0), (7, i6 x1), (8, pT 9001 0)], [(2002, bU 6 x2 55), (5000, bU 6 x3 55), (9001, bU 6 x4 55)]⟩ = match A.neg (A.ib .quo .i64 x1 64) with
    | true => none
    | false => match A.lt (A.toN (A.ib .quo .i64 x1 64)) 6 with
      | true => match A.neg (A.ib .rem .i64 x1 64) with
        | true => none
        | false => match A.neg (A.ib .quo .i64 x1 64) with
          | true => none
          | false => match A.lt (A.toN (A.ib .quo .i64 x1 64)) 6 with
            | true => K .normal (g19R9s0 A x0 x1 x2 x3 x4)
            | false => none
      | false => none := by kernel_rfl
def g19R10s0 (A : Ar) (x0 : Bool) (x1 : Int) (x2 x3 x4 : LN) : St := ⟨[(9, pT 11003 0), (31, aN .u64 6 (g25r0 A x4 x4)), (30, aN .u64 6 x4), (29, aN .u64 6 x4), (1, bO x0), (5, pT 2002 0), (6, pT 5000 0), (7, i6 x1), (8, pT 9001 0)], [(11003, bU 6 (g25r0 A x4 x4) 55), (2002, bU 6 x2 55), (5000, bU 6 x3 55), (9001, bU 6 x4 55)]⟩
theorem g19R10 (x0 : Bool) (x1 : Int) (x2 x3 x4 : LN) : g19D A n (pth 91325) K ⟨[(1, bO x0), (5, pT 2002 0), (6, pT 5000 0), (7, i6 x1), (8, pT 9001 0)], [(2002, bU 6 x2 55), (5000, bU 6 x3 55), (9001, bU 6 x4 55)]⟩ = match g25ok A x4 x4 with
    | true => K .normal (g19R10s0 A x0 x1 x2 x3 x4)
    | false => none := by kernel_rfl
def g19R11s0 (A : Ar) (x0 : Bool) (x1 : Int) (x2 x3 : LN) (x4 x5 : LN) : St := ⟨[(32, bO x0), (1, bO x0), (5, pT 2002 0), (6, pT 5000 0), (7, i6 x1), (8, pT 9001 0), (9, pT 11003 0)], [(2002, bU 6 x2 55), (5000, bU 6 x3 55), (9001, bU 6 x4 55), (11003, bU 6 x5 55)]⟩
theorem g19R11 (x0 : Bool) (x1 : Int) (x2 x3 : LN) (x4 x5 : LN) : g19D A n (pth 320701) K ⟨[(1, bO x0), (5, pT 2002 0), (6, pT 5000 0), (7, i6 x1), (8, pT 9001 0), (9, pT 11003 0)], [(2002, bU 6 x2 55), (5000, bU 6 x3 55), (9001, bU 6 x4 55), (11003, bU 6 x5 55)]⟩ = K .normal (g19R11s0 A x0 x1 x2 x3 x4 x5) := by kernel_rfl
def g19R12s0 (A : Ar) (x0 : Bool) (x1 : Int) (x2 x3 : LN) (x4 x5 : LN) : St := ⟨[(35, aN .u64 6 (g25r0 A x5 x4)), (34, aN .u64 6 x4), (33, aN .u64 6 x5), (1, bO x0), (5, pT 2002 0), (6, pT 5000 0), (7, i6 x1), (8, pT 9001 0), (9, pT 11003 0)], [(2002, bU 6 x2 55), (5000, bU 6 x3 55), (9001, bU 6 x4 55), (11003, bU 6 (g25r0 A x5 x4) 55)]⟩
theorem g19R12 (x0 : Bool) (x1 : Int) (x2 x3 : LN) (x4 x5 : LN) : g19D A n (pth 713917) K ⟨[(1, bO x0), (5, pT 2002 0), (6, pT 5000 0), (7, i6 x1), (8, pT 9001 0), (9, pT 11003 0)], [(2002, bU 6 x2 55), (5000, bU 6 x3 55), (9001, bU 6 x4 55), (11003, bU 6 x5 55)]⟩ = match g25ok A x5 x4 with
    | true => K .normal (g19R12s0 A x0 x1 x2 x3 x4 x5)
    | false => none := by kernel_rfl
def g19R6s0 (A : Ar) (x0 : Bool) (x1 : Int) (x2 x3 : LN) : St := ⟨[(16, bO (A.ic .geq x1 0)), (15, i6 x1), (1, bO x0), (5, pT 2002 0), (6, pT 5000 0), (7, i6 x1)], [(2002, bU 6 x2 55), (5000, bU 6 x3 55)]⟩
theorem g19R6 (x0 : Bool) (x1 : Int) (x2 x3 : LN) : g19D A n (pth 4285) K ⟨[(1, bO x0), (5, pT 2002 0), (6, pT 5000 0), (7, i6 x1)], [(2002, bU 6 x2 55), (5000, bU 6 x3 55)]⟩ = K .normal (g19R6s0 A x0 x1 x2 x3) := by kernel_rfl
def g19R15s0 (A : Ar) (x0 : LN) : St := ⟨[(4, u64v (x0.getD 0 0)), (41, u64v (x0.getD 0 0)), (40, pT 5000 0), (6, pT 5000 0)], [(5000, bU 6 x0 55)]⟩
theorem g19R15 (x0 : LN) : g19D A n (pth 381) K ⟨[(6, pT 5000 0)], [(5000, bU 6 x0 55)]⟩ = K .normal (g19R15s0 A x0) := by kernel_rfl
def g19R4s0 (A : Ar) (x0 : Bool) (x1 : LN) : St := ⟨[(6, pT 5000 0), (1, bO x0), (5, pT 2002 0)], [(5000, bU 6 [0, 0, 0, 0, 0, 0] 55), (2002, bU 6 x1 55)]⟩
theorem g19R4 (x0 : Bool) (x1 : LN) : g19D A n (pth 45) K ⟨[(1, bO x0), (5, pT 2002 0)], [(2002, bU 6 x1 55)]⟩ = K .normal (g19R4s0 A x0 x1) := by kernel_rfl
def g19R5s0 (A : Ar) (x0 : Bool) (x1 x2 : LN) : St := ⟨[(7, i6 69), (1, bO x0), (5, pT 2002 0), (6, pT 5000 0)], [(2002, bU 6 x1 55), (5000, bU 6 x2 55)]⟩
theorem g19R5 (x0 : Bool) (x1 x2 : LN) : g19D A n (pth 317) K ⟨[(1, bO x0), (5, pT 2002 0), (6, pT 5000 0)], [(2002, bU 6 x1 55), (5000, bU 6 x2 55)]⟩ = K .normal (g19R5s0 A x0 x1 x2) := by kernel_rfl
def g19R0s0 (A : Ar) (x0 : Nat) (x1 : Bool) : St := ⟨[(4, u64v 0), (0, u64v x0), (1, bO x1)], []⟩
theorem g19R0 (x0 : Nat) (x1 : Bool) : g19D A n (pth 2) K ⟨[(0, u64v x0), (1, bO x1)], []⟩ = K .normal (g19R0s0 A x0 x1) := by kernel_rfl
def g19R1s0 (A : Ar) (x0 : Nat) (x1 : Bool) : St := ⟨[(5, pT 2002 0), (11, aN .u64 6 ([0, 0, 0, 0, 0, 0].set 2 x0)), (10, u64v x0), (0, u64v x0), (1, bO x1)], [(2002, bU 6 ([0, 0, 0, 0, 0, 0].set 2 x0) 55)]⟩
theorem g19R1 (x0 : Nat) (x1 : Bool) : g19D A n (pth 9) K ⟨[(0, u64v x0), (1, bO x1)], []⟩ = K .normal (g19R1s0 A x0 x1) := by kernel_rfl
def g19R2s0 (A : Ar) (x0 : Nat) (x1 : Bool) (x2 : LN) : St := ⟨[(12, bO x1), (0, u64v x0), (1, bO x1), (5, pT 2002 0)], [(2002, bU 6 x2 55)]⟩
theorem g19R2 (x0 : Nat) (x1 : Bool) (x2 : LN) : g19D A n (pth 37) K ⟨[(0, u64v x0), (1, bO x1), (5, pT 2002 0)], [(2002, bU 6 x2 55)]⟩ = K .normal (g19R2s0 A x0 x1 x2) := by kernel_rfl
def g19R3s0 (A : Ar) (x0 : Nat) (x1 : Bool) (x2 : LN) : St := ⟨[(14, aN .u64 6 ([0, 0, 0, 0, 0, 0].set 3 x0)), (13, u64v x0), (0, u64v x0), (1, bO x1), (5, pT 2002 0)], [(2002, bU 6 ([0, 0, 0, 0, 0, 0].set 3 x0) 55)]⟩
theorem g19R3 (x0 : Nat) (x1 : Bool) (x2 : LN) : g19D A n (pth 85) K ⟨[(0, u64v x0), (1, bO x1), (5, pT 2002 0)], [(2002, bU 6 x2 55)]⟩ = K .normal (g19R3s0 A x0 x1 x2) := by kernel_rfl
end
def g19J13 {R : Type} (A : Ar) (n : Nat) (kk : KK R) (lg19L6 : Bool → Int → LN → LN → Option R) (x0 : Bool) (x1 : Int) (x2 x3 : LN) (x4 x5 : LN) : Option R :=
  match g26ok A x5 x2 with
  | true => match g26r0 A x5 x2 with
    | true => lg19L6 x0 (A.ib .sub .i64 x1 1) x2 x3
    | false => lg19L6 x0 (A.ib .sub .i64 x1 1) x2 x4
  | false => none
theorem g19J13_eq {R : Type} (A : Ar) (n : Nat) (kk : KK R) (m0 : Nat) (lg19L6 : Bool → Int → LN → LN → Option R)
    (hg19L6 : ∀ (s : St) (x0 : Bool) (x1 : Int) (x2 x3 : LN), keep g19an 6 s = ⟨[(1, bO x0), (5, pT 2002 0), (6, pT 5000 0), (7, i6 x1)], [(2002, bU 6 x2 55), (5000, bU 6 x3 55)]⟩ → g19V A n (pth 1213) m0 (blockK 0 (g19Q A n (pth 253) (g19T kk))) s = lg19L6 x0 x1 x2 x3) (s : St) (x0 : Bool) (x1 : Int) (x2 x3 : LN) (x4 x5 : LN) (h : keep g19an 13 s = ⟨[(1, bO x0), (5, pT 2002 0), (6, pT 5000 0), (7, i6 x1), (8, pT 9001 0), (9, pT 11003 0)], [(2002, bU 6 x2 55), (5000, bU 6 x3 55), (9001, bU 6 x4 55), (11003, bU 6 x5 55)]⟩) :
    g19D A n (pth 255165) (blockK 1 (g19Q A n (pth 7357) (g19W A n (pth 1213) m0 (blockK 0 (g19Q A n (pth 253) (g19T kk)))))) s = g19J13 A n kk lg19L6 x0 x1 x2 x3 x4 x5 := by
  have h1 := (g19Wn A n _ _ _ _).trans (hg19L6 (g19R7s0 A x0 x1 x2 x3) x0 (A.ib .sub .i64 x1 1) x2 x3 (by kernel_rfl))
  have h2 := (g19F A n _ 7 _ (g19R13s0 A x0 x1 x2 x3 x4 x5) _ (by kernel_rfl) (by kernel_rfl)).trans (g19R7 A n (g19W A n (pth 1213) m0 (blockK 0 (g19Q A n (pth 253) (g19T kk)))) x0 x1 x2 x3)
  rw [h1] at h2
  have h3 := (g19Qn A n _ _ _).trans h2
  have h4 := (blockK_hit 1 _ _).trans h3
  have h5 := (g19Qe A n (pth 517309) _ _ _).trans h4
  have h6 := (g19p1434813 A n _ _).trans h5
  have h7 := (g19Wn A n _ _ _ _).trans (hg19L6 (g19R7s0 A x0 x1 x2 x4) x0 (A.ib .sub .i64 x1 1) x2 x4 (by kernel_rfl))
  have h8 := (g19F A n _ 7 _ (g19R14s0 A x0 x1 x2 x3 x4) _ (by kernel_rfl) (by kernel_rfl)).trans (g19R7 A n (g19W A n (pth 1213) m0 (blockK 0 (g19Q A n (pth 253) (g19T kk)))) x0 x1 x2 x4)
  rw [h7] at h8
  have h9 := (g19Qn A n _ _ _).trans h8
  have h10 := (blockK_n 1 _ _).trans h9
  have h11 := (g19F A n _ 14 _ (g19R13s0 A x0 x1 x2 x3 x4 x5) _ (by kernel_rfl) (by kernel_rfl)).trans (g19R14 A n (blockK 1 (g19Q A n (pth 7357) (g19W A n (pth 1213) m0 (blockK 0 (g19Q A n (pth 253) (g19T kk)))))) x0 x1 x2 x3 x4)
  rw [h10] at h11
  have h12 := (g19Qn A n _ _ _).trans h11
  have h13 := (g19p1959101 A n _ _).trans h12
  have h14 := g19p910525 A n (g19Q A n (pth 517309) (blockK 1 (g19Q A n (pth 7357) (g19W A n (pth 1213) m0 (blockK 0 (g19Q A n (pth 253) (g19T kk))))))) (g19R13s0 A x0 x1 x2 x3 x4 x5) (g26r0 A x5 x2) (by kernel_rfl)
  rw [h6, h13] at h14
  have h15 := (g19Qn A n _ _ _).trans h14
  have h16 := (g19F A n _ 13 _ ⟨[(1, bO x0), (5, pT 2002 0), (6, pT 5000 0), (7, i6 x1), (8, pT 9001 0), (9, pT 11003 0)], [(2002, bU 6 x2 55), (5000, bU 6 x3 55), (9001, bU 6 x4 55), (11003, bU 6 x5 55)]⟩ _ (by kernel_rfl) (by kernel_rfl)).trans (g19R13 A n (g19Q A n (pth 910525) (g19Q A n (pth 517309) (blockK 1 (g19Q A n (pth 7357) (g19W A n (pth 1213) m0 (blockK 0 (g19Q A n (pth 253) (g19T kk)))))))) x0 x1 x2 x3 x4 x5)
  rw [h15] at h16
  have h17 := (g19p386237 A n _ _).trans h16
  have h18 := (g19p255165 A n _ _).trans h17
  exact (g19F A n _ 13 _ _ ⟨[(1, bO x0), (5, pT 2002 0), (6, pT 5000 0), (7, i6 x1), (8, pT 9001 0), (9, pT 11003 0)], [(2002, bU 6 x2 55), (5000, bU 6 x3 55), (9001, bU 6 x4 55), (11003, bU 6 x5 55)]⟩ (by kernel_rfl) (h.trans (by kernel_rfl))).trans (h18.trans (by kernel_rfl))
def g19J8 {R : Type} (A : Ar) (n : Nat) (kk : KK R) (lg19L6 : Bool → Int → LN → LN → Option R) (x0 : Bool) (x1 : Int) (x2 x3 : LN) : Option R :=
  match A.neg (A.ib .quo .i64 x1 64) with
  | true => none
  | false => match A.lt (A.toN (A.ib .quo .i64 x1 64)) 6 with
    | true => match A.neg (A.ib .rem .i64 x1 64) with
      | true => none
      | false => match A.neg (A.ib .quo .i64 x1 64) with
        | true => none
        | false => match A.lt (A.toN (A.ib .quo .i64 x1 64)) 6 with
          | true => match g25ok A (x3.set (A.toN (A.ib .quo .i64 x1 64)) (A.nb .or .u64 (x3.getD (A.toN (A.ib .quo .i64 x1 64)) 0) (A.nsh .shl .u64 1 (A.toN (A.ib .rem .i64 x1 64))))) (x3.set (A.toN (A.ib .quo .i64 x1 64)) (A.nb .or .u64 (x3.getD (A.toN (A.ib .quo .i64 x1 64)) 0) (A.nsh .shl .u64 1 (A.toN (A.ib .rem .i64 x1 64))))) with
            | true => match x0 with
              | true => match g25ok A (g19t0 A x1 x3) (x3.set (A.toN (A.ib .quo .i64 x1 64)) (A.nb .or .u64 (x3.getD (A.toN (A.ib .quo .i64 x1 64)) 0) (A.nsh .shl .u64 1 (A.toN (A.ib .rem .i64 x1 64))))) with
                | true => g19J13 A n kk lg19L6 x0 x1 x2 x3 (x3.set (A.toN (A.ib .quo .i64 x1 64)) (A.nb .or .u64 (x3.getD (A.toN (A.ib .quo .i64 x1 64)) 0) (A.nsh .shl .u64 1 (A.toN (A.ib .rem .i64 x1 64))))) (g19t1 A x1 x3)
                | false => none
              | false => g19J13 A n kk lg19L6 x0 x1 x2 x3 (x3.set (A.toN (A.ib .quo .i64 x1 64)) (A.nb .or .u64 (x3.getD (A.toN (A.ib .quo .i64 x1 64)) 0) (A.nsh .shl .u64 1 (A.toN (A.ib .rem .i64 x1 64))))) (g19t0 A x1 x3)
            | false => none
          | false => none
    | false => none
abbrev u13 (A : Ar) (x3 : LN) (x1 : Int) := x3.set (A.toN (A.ib .quo .i64 x1 64)) (A.nb .or .u64 (x3.getD (A.toN (A.ib .quo .i64 x1 64)) 0) (A.nsh .shl .u64 1 (A.toN (A.ib .rem .i64 x1 64))))
theorem g19J8_eq {R : Type} (A : Ar) (n : Nat) (kk : KK R) (m0 : Nat) (lg19L6 : Bool → Int → LN → LN → Option R)
    (hg19L6 : ∀ (s : St) (x0 : Bool) (x1 : Int) (x2 x3 : LN), keep g19an 6 s = ⟨[(1, bO x0), (5, pT 2002 0), (6, pT 5000 0), (7, i6 x1)], [(2002, bU 6 x2 55), (5000, bU 6 x3 55)]⟩ → g19V A n (pth 1213) m0 (blockK 0 (g19Q A n (pth 253) (g19T kk))) s = lg19L6 x0 x1 x2 x3) (s : St) (x0 : Bool) (x1 : Int) (x2 x3 : LN) (h : keep g19an 8 s = ⟨[(1, bO x0), (5, pT 2002 0), (6, pT 5000 0), (7, i6 x1)], [(2002, bU 6 x2 55), (5000, bU 6 x3 55)]⟩) :
    g19D A n (pth 3261) (g19W A n (pth 1213) m0 (blockK 0 (g19Q A n (pth 253) (g19T kk)))) s = g19J8 A n kk lg19L6 x0 x1 x2 x3 := by
  have h1 := (g19Qn A n _ _ _).trans (g19J13_eq A n kk m0 lg19L6 hg19L6 (g19R12s0 A x0 x1 x2 x3 (u13 A x3 x1) (g19t0 A x1 x3)) x0 x1 x2 x3 (u13 A x3 x1) (g19t1 A x1 x3) (by kernel_rfl))
  have h2 := (g19F A n _ 12 _ (g19R11s0 A x0 x1 x2 x3 (u13 A x3 x1) (g19t0 A x1 x3)) _ (by kernel_rfl) (by kernel_rfl)).trans (g19R12 A n (g19Q A n (pth 255165) (blockK 1 (g19Q A n (pth 7357) (g19W A n (pth 1213) m0 (blockK 0 (g19Q A n (pth 253) (g19T kk))))))) x0 x1 x2 x3 (u13 A x3 x1) (g19t0 A x1 x3))
  rw [h1] at h2
  have h3 := (g19Qn A n _ _ _).trans (g19J13_eq A n kk m0 lg19L6 hg19L6 (g19R11s0 A x0 x1 x2 x3 (u13 A x3 x1) (g19t0 A x1 x3)) x0 x1 x2 x3 (u13 A x3 x1) (g19t0 A x1 x3) (by kernel_rfl))
  have h4 := (g19p976061 A n _ _).trans h3
  have h5 := g19p451773 A n (g19Q A n (pth 255165) (blockK 1 (g19Q A n (pth 7357) (g19W A n (pth 1213) m0 (blockK 0 (g19Q A n (pth 253) (g19T kk))))))) (g19R11s0 A x0 x1 x2 x3 (u13 A x3 x1) (g19t0 A x1 x3)) x0 (by kernel_rfl)
  rw [h2, h4] at h5
  have h6 := (g19Qn A n _ _ _).trans h5
  have h7 := (g19F A n _ 11 _ (g19R10s0 A x0 x1 x2 x3 (u13 A x3 x1)) _ (by kernel_rfl) (by kernel_rfl)).trans (g19R11 A n (g19Q A n (pth 451773) (g19Q A n (pth 255165) (blockK 1 (g19Q A n (pth 7357) (g19W A n (pth 1213) m0 (blockK 0 (g19Q A n (pth 253) (g19T kk)))))))) x0 x1 x2 x3 (u13 A x3 x1) (g19t0 A x1 x3))
  rw [h6] at h7
  have h8 := (g19p189629 A n _ _).trans h7
  have h9 := (g19p124093 A n _ _).trans h8
  have h10 := (g19Qn A n _ _ _).trans h9
  have h11 := (g19F A n _ 10 _ (g19R9s0 A x0 x1 x2 x3 x3) _ (by kernel_rfl) (by kernel_rfl)).trans (g19R10 A n (g19Q A n (pth 124093) (blockK 1 (g19Q A n (pth 7357) (g19W A n (pth 1213) m0 (blockK 0 (g19Q A n (pth 253) (g19T kk))))))) x0 x1 x2 x3 (u13 A x3 x1))
  rw [h10] at h11
  have h12 := (g19p58557 A n _ _).trans h11
  have h13 := (g19Qn A n _ _ _).trans h12
  have h14 := (g19F A n _ 9 _ (g19R8s0 A x0 x1 x2 x3) _ (by kernel_rfl) (by kernel_rfl)).trans (g19R9 A n (g19Q A n (pth 58557) (blockK 1 (g19Q A n (pth 7357) (g19W A n (pth 1213) m0 (blockK 0 (g19Q A n (pth 253) (g19T kk))))))) x0 x1 x2 x3 x3)
  rw [h13] at h14
  have h15 := (g19p25789 A n _ _).trans h14
  have h16 := (g19Qn A n _ _ _).trans h15
  have h17 := (g19F A n _ 8 _ ⟨[(1, bO x0), (5, pT 2002 0), (6, pT 5000 0), (7, i6 x1)], [(2002, bU 6 x2 55), (5000, bU 6 x3 55)]⟩ _ (by kernel_rfl) (by kernel_rfl)).trans (g19R8 A n (g19Q A n (pth 25789) (blockK 1 (g19Q A n (pth 7357) (g19W A n (pth 1213) m0 (blockK 0 (g19Q A n (pth 253) (g19T kk))))))) x0 x1 x2 x3)
  rw [h16] at h17
  have h18 := (g19p9405 A n _ _).trans h17
  have h19 := (g19p5309 A n _ _).trans h18
  have h20 := (g19p3261 A n _ _).trans h19
  exact (g19F A n _ 8 _ _ ⟨[(1, bO x0), (5, pT 2002 0), (6, pT 5000 0), (7, i6 x1)], [(2002, bU 6 x2 55), (5000, bU 6 x3 55)]⟩ (by kernel_rfl) (h.trans (by kernel_rfl))).trans (h20.trans (by kernel_rfl))
def g19L6 {R : Type} (A : Ar) (n : Nat) (kk : KK R) : Nat → Bool → Int → LN → LN → Option R
  | 0, _, _, _, _ => none
  | m + 1, x0, x1, x2, x3 => match A.ic .geq x1 0 with
  | true => g19J8 A n kk (g19L6 A n kk m) x0 x1 x2 x3
  | false => kk (u64v (x3.getD 0 0)) [(5000, bU 6 x3 55)]
theorem g19L6_eq {R : Type} (A : Ar) (n : Nat) (kk : KK R) (m : Nat) (s : St) (x0 : Bool) (x1 : Int) (x2 x3 : LN) (h : keep g19an 6 s = ⟨[(1, bO x0), (5, pT 2002 0), (6, pT 5000 0), (7, i6 x1)], [(2002, bU 6 x2 55), (5000, bU 6 x3 55)]⟩) :
    g19V A n (pth 1213) m (blockK 0 (g19Q A n (pth 253) (g19T kk))) s = g19L6 A n kk m x0 x1 x2 x3 := by
  induction m generalizing s x0 x1 x2 x3 with
  | zero => rfl
  | succ m ih =>
    have h1 := (g19Qn A n _ _ _).trans (g19J8_eq A n kk m (g19L6 A n kk m) ih (g19R6s0 A x0 x1 x2 x3) x0 x1 x2 x3 (by kernel_rfl))
    have h2 := (g19p10429 A n _ _).trans h1
    have h3 : (g19T kk) .ret (g19R15s0 A x3) = kk (u64v (x3.getD 0 0)) [(5000, bU 6 x3 55)] := by kernel_rfl
    have h4 := (g19p509 A n _ _).trans h3
    have h5 := (g19Qn A n _ _ _).trans h4
    have h6 := (g19F A n _ 15 _ (g19R6s0 A x0 x1 x2 x3) _ (by kernel_rfl) (by kernel_rfl)).trans (g19R15 A n (g19Q A n (pth 509) (g19T kk)) x3)
    rw [h5] at h6
    have h7 := (g19p253 A n _ _).trans h6
    have h8 := (g19Qn A n _ _ _).trans h7
    have h9 := (blockK_hit 0 _ _).trans h8
    have h10 := (g19We A n (pth 1213) m _ _ _).trans h9
    have h11 := (g19Qe A n (pth 3261) _ _ _).trans h10
    have h12 := (g19p14525 A n _ _).trans h11
    have h13 := g19p6333 A n (g19Q A n (pth 3261) (g19W A n (pth 1213) m (blockK 0 (g19Q A n (pth 253) (g19T kk))))) (g19R6s0 A x0 x1 x2 x3) (A.ic .geq x1 0) (by kernel_rfl)
    rw [h2, h12] at h13
    have h14 := (g19Qn A n _ _ _).trans h13
    have h15 := (g19F A n _ 6 _ ⟨[(1, bO x0), (5, pT 2002 0), (6, pT 5000 0), (7, i6 x1)], [(2002, bU 6 x2 55), (5000, bU 6 x3 55)]⟩ _ (by kernel_rfl) (by kernel_rfl)).trans (g19R6 A n (g19Q A n (pth 6333) (g19Q A n (pth 3261) (g19W A n (pth 1213) m (blockK 0 (g19Q A n (pth 253) (g19T kk)))))) x0 x1 x2 x3)
    rw [h14] at h15
    have h16 := (g19p2237 A n _ _).trans h15
    have h17 := (g19p1213 A n _ _).trans h16
    exact (loopD_first (s' := ⟨[(1, bO x0), (5, pT 2002 0), (6, pT 5000 0), (7, i6 x1)], [(2002, bU 6 x2 55), (5000, bU 6 x3 55)]⟩) (id := 6) (by kernel_rfl) (h.trans (by kernel_rfl)) _).trans ((g19Vs A n _ m _ _).trans (h17.trans (by kernel_rfl)))
def g19J4 {R : Type} (A : Ar) (n : Nat) (kk : KK R) (x0 : Bool) (x1 : LN) : Option R :=
  g19L6 A n kk n x0 69 x1 [0, 0, 0, 0, 0, 0]
theorem g19J4_eq {R : Type} (A : Ar) (n : Nat) (kk : KK R) (s : St) (x0 : Bool) (x1 : LN) (h : keep g19an 4 s = ⟨[(1, bO x0), (5, pT 2002 0)], [(2002, bU 6 x1 55)]⟩) :
    g19D A n (pth 29) (g19T kk) s = g19J4 A n kk x0 x1 := by
  have h1 := (g19p701 A n _ _).trans (g19L6_eq A n kk n (g19R5s0 A x0 x1 [0, 0, 0, 0, 0, 0]) x0 69 x1 [0, 0, 0, 0, 0, 0] (by kernel_rfl))
  have h2 := (g19p445 A n _ _).trans h1
  have h3 := (g19Qn A n _ _ _).trans h2
  have h4 := (g19F A n _ 5 _ (g19R4s0 A x0 x1) _ (by kernel_rfl) (by kernel_rfl)).trans (g19R5 A n (g19Q A n (pth 445) (g19Q A n (pth 253) (g19T kk))) x0 x1 [0, 0, 0, 0, 0, 0])
  rw [h3] at h4
  have h5 := (g19p189 A n _ _).trans h4
  have h6 := (g19p125 A n _ _).trans h5
  have h7 := (g19Qn A n _ _ _).trans h6
  have h8 := (g19p93 A n _ _).trans h7
  have h9 := (g19p61 A n _ _).trans h8
  have h10 := (g19Qn A n _ _ _).trans h9
  have h11 := (g19F A n _ 4 _ ⟨[(1, bO x0), (5, pT 2002 0)], [(2002, bU 6 x1 55)]⟩ _ (by kernel_rfl) (by kernel_rfl)).trans (g19R4 A n (g19Q A n (pth 61) (g19T kk)) x0 x1)
  rw [h10] at h11
  have h12 := (g19p29 A n _ _).trans h11
  exact (g19F A n _ 4 _ _ ⟨[(1, bO x0), (5, pT 2002 0)], [(2002, bU 6 x1 55)]⟩ (by kernel_rfl) (h.trans (by kernel_rfl))).trans (h12.trans (by kernel_rfl))
def g19 {R : Type} (A : Ar) (n : Nat) (kk : KK R) (a : Nat) (b : Bool) : Option R :=
  match b with
  | true => g19J4 A n kk b ([0, 0, 0, 0, 0, 0].set 3 a)
  | false => g19J4 A n kk b ([0, 0, 0, 0, 0, 0].set 2 a)
abbrev u14 (a : Nat) := [0, 0, 0, 0, 0, 0].set 2 a
theorem g19_eq {R : Type} (A : Ar) (n : Nat) (kk : KK R) (a : Nat) (b : Bool) :
    funD A gtys (g19O A) g19an n (bodyOf Try.f19) g19res [(u64v a), (bO b)] [] kk = g19 A n kk a b := by
  have h1 := (g19Qn A n _ _ _).trans (g19J4_eq A n kk (g19R3s0 A a b (u14 a)) b ([0, 0, 0, 0, 0, 0].set 3 a) (by kernel_rfl))
  have h2 := (g19F A n _ 3 _ (g19R2s0 A a b (u14 a)) _ (by kernel_rfl) (by kernel_rfl)).trans (g19R3 A n (g19Q A n (pth 29) (g19T kk)) a b (u14 a))
  rw [h1] at h2
  have h3 := (g19Qn A n _ _ _).trans (g19J4_eq A n kk (g19R2s0 A a b (u14 a)) b (u14 a) (by kernel_rfl))
  have h4 := (g19p117 A n _ _).trans h3
  have h5 := g19p53 A n (g19Q A n (pth 29) (g19T kk)) (g19R2s0 A a b (u14 a)) b (by kernel_rfl)
  rw [h2, h4] at h5
  have h6 := (g19Qn A n _ _ _).trans h5
  have h7 := (g19F A n _ 2 _ (g19R1s0 A a b) _ (by kernel_rfl) (by kernel_rfl)).trans (g19R2 A n (g19Q A n (pth 53) (g19Q A n (pth 29) (g19T kk))) a b (u14 a))
  rw [h6] at h7
  have h8 := (g19p21 A n _ _).trans h7
  have h9 := (g19p13 A n _ _).trans h8
  have h10 := (g19Qn A n _ _ _).trans h9
  have h11 := (g19F A n _ 1 _ (g19R0s0 A a b) _ (by kernel_rfl) (by kernel_rfl)).trans (g19R1 A n (g19Q A n (pth 13) (g19T kk)) a b)
  rw [h10] at h11
  have h12 := (g19p5 A n _ _).trans h11
  have h13 := (g19p3 A n _ _).trans h12
  have h14 := (g19Qn A n _ _ _).trans h13
  have h15 := (g19F A n _ 0 _ ⟨[(0, u64v a), (1, bO b)], []⟩ _ (by kernel_rfl) (by kernel_rfl)).trans (g19R0 A n (g19Q A n (pth 3) (g19T kk)) a b)
  rw [h14] at h15
  have h16 := (g19p1 A n _ _).trans h15
  exact (show funD A gtys (g19O A) g19an n (bodyOf Try.f19) g19res [(u64v a), (bO b)] [] kk = g19D A n (pth 1) (g19T kk) ⟨[(0, u64v a), (1, bO b)], []⟩ from by kernel_rfl).trans (h16.trans (by kernel_rfl))
def g19is (o : Option AV) : Bool := match o with
  | some (.v (.cell (.nat .u64 _))) => true
  | _ => false
def g19g0 (o : Option AV) : Nat := match o with
  | some (.v (.cell (.nat .u64 x))) => x
  | _ => 0
theorem g19is_spec {o : Option AV} (h : g19is o = true) : o = some (.v (.cell (.nat .u64 (g19g0 o)))) := by
  unfold g19is at h
  split at h
  · rfl
  · cases h
def g19v (A : Ar) (a : Nat) (b : Bool) : Option AV := g19 A (100000) (fun v _ => some v) a b
def g19ok (A : Ar) (a : Nat) (b : Bool) : Bool := g19is (g19v A a b)
def g19r0 (A : Ar) (a : Nat) (b : Bool) : Nat := g19g0 (g19v A a b)
theorem g19ok_spec {A : Ar} {a b} (h : g19ok A a b = true) : g19v A a b = some (.v (.cell (.nat .u64 (g19r0 A a b)))) := g19is_spec h
def g19o (A : Ar) (args : List AV) : Option (Bool × AV) := match args with
  | [.v (.cell (.nat .u64 a)), .v (.cell (.bool b))] => some (g19ok A a b, .v (.cell (.nat .u64 (g19r0 A a b))))
  | _ => none
theorem g19o_sound : ∀ args v, g19o realA args = some (true, v) → Fn1 Try.prog 19 args v := by
  intro args v h
  unfold g19o at h
  split at h
  · rename_i a b
    simp only [Option.some.injEq, Prod.mk.injEq] at h
    obtain ⟨hc, h⟩ := h
    subst h
    · skip
      exact fn1_of mixed gtysOK g19O_sound g19O_det (an := g19an) (n := 100000) Try.func19 (c := bodyOf Try.f19) rfl (by kernel_rfl) Try.call19 (Nat.le_of_ble_eq_true rfl) (fun b => rfl) (fun _ => (g19_eq realA (100000) (fun v _ => some v) a b).trans (show g19v realA a b = _ from g19ok_spec hc))
  · cases h
def g27O (A : Ar) : Orc := orcOf []
theorem g27O_sound : OSound Try.prog (g27O realA) := orc_sound fun f g hm args v hv => by
  cases hm
theorem g27O_det : ODet (g27O realA) := orc_det _
def g27an : Ann := [(0, ([0, 1], [])), (1, ([0, 1], [])), (2, ([0, 5], []))]
def g27res : List ResultVar := [.tmp 4]
noncomputable def g27D {R : Type} (A : Ar) (n : Nat) (p : List Bool) (K : Ex → St → Option R) (s : St) : Option R := codeD A gtys (g27O A) g27an n (sub (bodyOf Try.f27) p) K s
noncomputable def g27Q {R : Type} (A : Ar) (n : Nat) (p : List Bool) (K : Ex → St → Option R) : Ex → St → Option R := seqC (g27D A n p K) K
noncomputable def g27T {R : Type} (kk : KK R) : Ex → St → Option R := finD gtys g27res kk
theorem g27Qn {R : Type} (A : Ar) (n : Nat) (p : List Bool) (K : Ex → St → Option R) (s : St) : g27Q A n p K .normal s = g27D A n p K s := rfl
theorem g27F {R : Type} (A : Ar) (n : Nat) (p : List Bool) (i : Nat) (K : Ex → St → Option R) (s s' : St) (hf : firstReg (sub (bodyOf Try.f27) p) = some i) (h : keep g27an i s = keep g27an i s') : g27D A n p K s = g27D A n p K s' := codeD_first hf h K
section
variable {R : Type} (A : Ar) (n : Nat) (K : Ex → St → Option R) (s : St)
theorem g27p1 : g27D A n (pth 1) K s = g27D A n (pth 2) (g27Q A n (pth 3) K) s := by kernel_rfl
theorem g27p3 : g27D A n (pth 3) K s = g27D A n (pth 5) (g27Q A n (pth 7) K) s := by kernel_rfl
theorem g27p7 : g27D A n (pth 7) K s = g27D A n (pth 11) (g27Q A n (pth 15) K) s := by kernel_rfl
theorem g27p15 : g27D A n (pth 15) K s = K .ret s := by kernel_rfl
def g27R0s0 (A : Ar) (x0 : Nat) (x1 : Int) : St := ⟨[(4, u64v 0), (0, u64v x0), (1, i6 x1)], []⟩
theorem g27R0 (x0 : Nat) (x1 : Int) : g27D A n (pth 2) K ⟨[(0, u64v x0), (1, i6 x1)], []⟩ = K .normal (g27R0s0 A x0 x1) := by kernel_rfl
def g27R1s0 (A : Ar) (x0 : Nat) (x1 : Int) : St := ⟨[(5, u64v (A.nb .and .u64 (A.i2n .u64 x1) 63)), (8, u64v (A.nb .and .u64 (A.i2n .u64 x1) 63)), (7, u64v (A.i2n .u64 x1)), (6, i6 x1), (0, u64v x0), (1, i6 x1)], []⟩
theorem g27R1 (x0 : Nat) (x1 : Int) : g27D A n (pth 5) K ⟨[(0, u64v x0), (1, i6 x1)], []⟩ = K .normal (g27R1s0 A x0 x1) := by kernel_rfl
def g27R2s0 (A : Ar) (x0 x1 : Nat) : St := ⟨[(4, u64v (A.nb .or .u64 (A.nsh .shl .u64 x0 x1) (A.nsh .shr .u64 x0 (A.nb .sub .u64 64 x1)))), (16, u64v (A.nb .or .u64 (A.nsh .shl .u64 x0 x1) (A.nsh .shr .u64 x0 (A.nb .sub .u64 64 x1)))), (15, u64v (A.nsh .shr .u64 x0 (A.nb .sub .u64 64 x1))), (14, u64v (A.nb .sub .u64 64 x1)), (13, u64v x1), (12, u64v x0), (11, u64v (A.nsh .shl .u64 x0 x1)), (10, u64v x1), (9, u64v x0), (0, u64v x0), (5, u64v x1)], []⟩
theorem g27R2 (x0 x1 : Nat) : g27D A n (pth 11) K ⟨[(0, u64v x0), (5, u64v x1)], []⟩ = K .normal (g27R2s0 A x0 x1) := by kernel_rfl
end
def g27 {R : Type} (A : Ar) (n : Nat) (kk : KK R) (a : Nat) (b : Int) : Option R :=
  kk (u64v (A.nb .or .u64 (A.nsh .shl .u64 a (A.nb .and .u64 (A.i2n .u64 b) 63)) (A.nsh .shr .u64 a (A.nb .sub .u64 64 (A.nb .and .u64 (A.i2n .u64 b) 63))))) []
abbrev u15 (A : Ar) (b : Int) := A.nb .and .u64 (A.i2n .u64 b) 63
theorem g27_eq {R : Type} (A : Ar) (n : Nat) (kk : KK R) (a : Nat) (b : Int) :
    funD A gtys (g27O A) g27an n (bodyOf Try.f27) g27res [(u64v a), (i6 b)] [] kk = g27 A n kk a b := by
  have h1 : (g27T kk) .ret (g27R2s0 A a (u15 A b)) = kk (u64v (A.nb .or .u64 (A.nsh .shl .u64 a (u15 A b)) (A.nsh .shr .u64 a (A.nb .sub .u64 64 (u15 A b))))) [] := by kernel_rfl
  have h2 := (g27p15 A n _ _).trans h1
  have h3 := (g27Qn A n _ _ _).trans h2
  have h4 := (g27F A n _ 2 _ (g27R1s0 A a b) _ (by kernel_rfl) (by kernel_rfl)).trans (g27R2 A n (g27Q A n (pth 15) (g27T kk)) a (u15 A b))
  rw [h3] at h4
  have h5 := (g27p7 A n _ _).trans h4
  have h6 := (g27Qn A n _ _ _).trans h5
  have h7 := (g27F A n _ 1 _ (g27R0s0 A a b) _ (by kernel_rfl) (by kernel_rfl)).trans (g27R1 A n (g27Q A n (pth 7) (g27T kk)) a b)
  rw [h6] at h7
  have h8 := (g27p3 A n _ _).trans h7
  have h9 := (g27Qn A n _ _ _).trans h8
  have h10 := (g27F A n _ 0 _ ⟨[(0, u64v a), (1, i6 b)], []⟩ _ (by kernel_rfl) (by kernel_rfl)).trans (g27R0 A n (g27Q A n (pth 3) (g27T kk)) a b)
  rw [h9] at h10
  have h11 := (g27p1 A n _ _).trans h10
  exact (show funD A gtys (g27O A) g27an n (bodyOf Try.f27) g27res [(u64v a), (i6 b)] [] kk = g27D A n (pth 1) (g27T kk) ⟨[(0, u64v a), (1, i6 b)], []⟩ from by kernel_rfl).trans (h11.trans (by kernel_rfl))
def g27is (o : Option AV) : Bool := match o with
  | some (.v (.cell (.nat .u64 _))) => true
  | _ => false
def g27g0 (o : Option AV) : Nat := match o with
  | some (.v (.cell (.nat .u64 x))) => x
  | _ => 0
theorem g27is_spec {o : Option AV} (h : g27is o = true) : o = some (.v (.cell (.nat .u64 (g27g0 o)))) := by
  unfold g27is at h
  split at h
  · rfl
  · cases h
def g27v (A : Ar) (a : Nat) (b : Int) : Option AV := g27 A (100000) (fun v _ => some v) a b
def g27ok (A : Ar) (a : Nat) (b : Int) : Bool := g27is (g27v A a b)
def g27r0 (A : Ar) (a : Nat) (b : Int) : Nat := g27g0 (g27v A a b)
theorem g27ok_spec {A : Ar} {a b} (h : g27ok A a b = true) : g27v A a b = some (.v (.cell (.nat .u64 (g27r0 A a b)))) := g27is_spec h
def g27o (A : Ar) (args : List AV) : Option (Bool × AV) := match args with
  | [.v (.cell (.nat .u64 a)), .v (.cell (.int .i64 b))] => some (g27ok A a b, .v (.cell (.nat .u64 (g27r0 A a b))))
  | _ => none
theorem g27o_sound : ∀ args v, g27o realA args = some (true, v) → Fn1 Try.prog 27 args v := by
  intro args v h
  unfold g27o at h
  split at h
  · rename_i a b
    simp only [Option.some.injEq, Prod.mk.injEq] at h
    obtain ⟨hc, h⟩ := h
    subst h
    · skip
      exact fn1_of mixed gtysOK g27O_sound g27O_det (an := g27an) (n := 100000) Try.func27 (c := bodyOf Try.f27) rfl (by kernel_rfl) Try.call27 (Nat.le_of_ble_eq_true rfl) (fun b => rfl) (fun _ => (g27_eq realA (100000) (fun v _ => some v) a b).trans (show g27v realA a b = _ from g27ok_spec hc))
  · cases h
def g18O (A : Ar) : Orc := orcOf []
theorem g18O_sound : OSound Try.prog (g18O realA) := orc_sound fun f g hm args v hv => by
  cases hm
theorem g18O_det : ODet (g18O realA) := orc_det _
def g18an : Ann := [(0, ([], [])), (1, ([0], [1000])), (2, ([0, 1], [1000])), (3, ([0, 1], [1000])), (4, ([0, 1], [1000])), (5, ([0, 1, 9, 10, 11], [1000])), (6, ([0, 1, 9, 10, 11], [1000])), (7, ([0, 1, 3, 9, 10, 11], [1000])), (8, ([0, 1, 9, 10, 11], [1000])), (9, ([0, 1], [1000])), (10, ([0], [1000]))]
def g18res : List ResultVar := [.tmp 0]
noncomputable def g18D {R : Type} (A : Ar) (n : Nat) (p : List Bool) (K : Ex → St → Option R) (s : St) : Option R := codeD A gtys (g18O A) g18an n (sub (bodyOf Try.f18) p) K s
noncomputable def g18V {R : Type} (A : Ar) (n : Nat) (p : List Bool) (m : Nat) (K : Ex → St → Option R) (s : St) : Option R := loopD (fun K' s'' => codeD A gtys (g18O A) g18an n (sub (bodyOf Try.f18) p) K' s'') m K s
noncomputable def g18Q {R : Type} (A : Ar) (n : Nat) (p : List Bool) (K : Ex → St → Option R) : Ex → St → Option R := seqC (g18D A n p K) K
noncomputable def g18W {R : Type} (A : Ar) (n : Nat) (p : List Bool) (m : Nat) (K : Ex → St → Option R) : Ex → St → Option R := seqC (g18V A n p m K) K
noncomputable def g18T {R : Type} (kk : KK R) : Ex → St → Option R := finD gtys g18res kk
theorem g18Qn {R : Type} (A : Ar) (n : Nat) (p : List Bool) (K : Ex → St → Option R) (s : St) : g18Q A n p K .normal s = g18D A n p K s := rfl
theorem g18Qe {R : Type} (A : Ar) (n : Nat) (p : List Bool) (K : Ex → St → Option R) (i : Nat) (s : St) : g18Q A n p K (.exit i) s = K (.exit i) s := rfl
theorem g18Wn {R : Type} (A : Ar) (n : Nat) (p : List Bool) (m : Nat) (K : Ex → St → Option R) (s : St) : g18W A n p m K .normal s = g18V A n p m K s := rfl
theorem g18We {R : Type} (A : Ar) (n : Nat) (p : List Bool) (m : Nat) (K : Ex → St → Option R) (i : Nat) (s : St) : g18W A n p m K (.exit i) s = K (.exit i) s := rfl
theorem g18Vs {R : Type} (A : Ar) (n : Nat) (p : List Bool) (m : Nat) (K : Ex → St → Option R) (s : St) : g18V A n p (m + 1) K s = g18D A n p (g18W A n p m K) s := rfl
theorem g18F {R : Type} (A : Ar) (n : Nat) (p : List Bool) (i : Nat) (K : Ex → St → Option R) (s s' : St) (hf : firstReg (sub (bodyOf Try.f18) p) = some i) (h : keep g18an i s = keep g18an i s') : g18D A n p K s = g18D A n p K s' := codeD_first hf h K
section
variable {R : Type} (A : Ar) (n : Nat) (K : Ex → St → Option R) (s : St)
theorem g18p1 : g18D A n (pth 1) K s = g18D A n (pth 2) (g18Q A n (pth 3) K) s := by kernel_rfl
theorem g18p3 : g18D A n (pth 3) K s = g18D A n (pth 5) K s := by kernel_rfl
theorem g18p5 : g18D A n (pth 5) K s = g18D A n (pth 9) (g18Q A n (pth 13) K) s := by kernel_rfl
theorem g18p9 : g18D A n (pth 9) K s = K .normal s := by kernel_rfl
theorem g18p13 : g18D A n (pth 13) K s = g18D A n (pth 21) (g18Q A n (pth 29) K) s := by kernel_rfl
theorem g18p21 : g18D A n (pth 21) K s = g18D A n (pth 37) (g18Q A n (pth 53) K) s := by kernel_rfl
theorem g18p53 : g18D A n (pth 53) K s = g18D A n (pth 85) (blockK 0 K) s := by kernel_rfl
theorem g18p85 : g18D A n (pth 85) K s = g18V A n (pth 149) n K s := by kernel_rfl
theorem g18p149 : g18D A n (pth 149) K s = g18D A n (pth 277) (g18Q A n (pth 405) K) s := by kernel_rfl
theorem g18p277 : g18D A n (pth 277) K s = g18D A n (pth 533) (g18Q A n (pth 789) K) s := by kernel_rfl
theorem g18p789 (t : Bool) : ev s (.tmp 6) = some (.v (.cell (.bool t))) → g18D A n (pth 789) K s = (match t with
    | true => g18D A n (pth 1301) K s
    | false => g18D A n (pth 1813) K s) := codeD_cond t
theorem g18p1301 : g18D A n (pth 1301) K s = K .normal s := by kernel_rfl
theorem g18p1813 : g18D A n (pth 1813) K s = K (.exit 0) s := by kernel_rfl
theorem g18p405 : g18D A n (pth 405) K s = g18D A n (pth 661) (g18Q A n (pth 917) K) s := by kernel_rfl
theorem g18p661 : g18D A n (pth 661) K s = g18D A n (pth 1173) (blockK 1 K) s := by kernel_rfl
theorem g18p1173 : g18D A n (pth 1173) K s = g18D A n (pth 2197) (g18Q A n (pth 3221) K) s := by kernel_rfl
theorem g18p2197 : g18D A n (pth 2197) K s = g18D A n (pth 4245) (g18Q A n (pth 6293) K) s := by kernel_rfl
theorem g18p6293 : g18D A n (pth 6293) K s = g18D A n (pth 10389) (blockK 2 K) s := by kernel_rfl
theorem g18p10389 : g18D A n (pth 10389) K s = g18V A n (pth 18581) n K s := by kernel_rfl
theorem g18p18581 : g18D A n (pth 18581) K s = g18D A n (pth 34965) (g18Q A n (pth 51349) K) s := by kernel_rfl
theorem g18p51349 : g18D A n (pth 51349) K s = g18D A n (pth 84117) (g18Q A n (pth 116885) K) s := by kernel_rfl
theorem g18p84117 (t : Bool) : ev s (.tmp 12) = some (.v (.cell (.bool t))) → g18D A n (pth 84117) K s = (match t with
    | true => g18D A n (pth 149653) K s
    | false => g18D A n (pth 215189) K s) := codeD_cond t
theorem g18p149653 : g18D A n (pth 149653) K s = K .normal s := by kernel_rfl
theorem g18p215189 : g18D A n (pth 215189) K s = K (.exit 2) s := by kernel_rfl
theorem g18p116885 : g18D A n (pth 116885) K s = g18D A n (pth 182421) (g18Q A n (pth 247957) K) s := by kernel_rfl
theorem g18p182421 : g18D A n (pth 182421) K s = g18D A n (pth 313493) (blockK 3 K) s := by kernel_rfl
theorem g18p313493 : g18D A n (pth 313493) K s = g18D A n (pth 575637) (g18Q A n (pth 837781) K) s := by kernel_rfl
theorem g18p837781 : g18D A n (pth 837781) K s = g18D A n (pth 1362069) (g18Q A n (pth 1886357) K) s := by kernel_rfl
theorem g18p1886357 (t : Bool) : ev s (.tmp 18) = some (.v (.cell (.bool t))) → g18D A n (pth 1886357) K s = (match t with
    | true => g18D A n (pth 2934933) K s
    | false => g18D A n (pth 3983509) K s) := codeD_cond t
theorem g18p2934933 : g18D A n (pth 2934933) K s = K (.exit 1) s := by kernel_rfl
theorem g18p3983509 : g18D A n (pth 3983509) K s = K .normal s := by kernel_rfl
theorem g18p29 : g18D A n (pth 29) K s = g18D A n (pth 45) (g18Q A n (pth 61) K) s := by kernel_rfl
theorem g18p61 : g18D A n (pth 61) K s = K .ret s := by kernel_rfl
def g18R6s0 (A : Ar) (x0 x1 x2 : Nat) (x3 x4 : Int) (x5 : Nat) (x6 : LN) : St := ⟨[(3, u64v (x6.getD (A.toN x4) 0)), (14, u64v (x6.getD (A.toN x4) 0)), (13, (.v (.cell (.ptr 1000 0 (some ⟨A.toN x4, 1, x2, A.toN x4, 0, 1⟩))))), (0, sL 1000 none x0 1), (1, u64v x1), (9, sL 1000 none x2 1), (10, i6 x3), (11, i6 x4)], [(1000, ⟨[.nums .u64 x5 x6], 36, 2⟩)]⟩
theorem g18R6 (x0 x1 x2 : Nat) (x3 x4 : Int) (x5 : Nat) (x6 : LN) : g18D A n (pth 575637) K ⟨[(0, sL 1000 none x0 1), (1, u64v x1), (9, sL 1000 none x2 1), (10, i6 x3), (11, i6 x4)], [(1000, ⟨[.nums .u64 x5 x6], 36, 2⟩)]⟩ = match A.neg x4 with
    | true => none
    | false => match A.lt (A.toN x4) x2 with
      | true => K .normal (g18R6s0 A x0 x1 x2 x3 x4 x5 x6)
      | false => none := by kernel_rfl
def g18R7s0 (A : Ar) (x0 x1 : Nat) (x2 x3 : Nat) (x4 x5 : Int) (x6 : Nat) (x7 : LN) : St := ⟨[(18, bO (A.nc .eql (A.nb .rem .u64 x1 x2) 0)), (17, u64v (A.nb .rem .u64 x1 x2)), (16, u64v x2), (15, u64v x1), (0, sL 1000 none x0 1), (1, u64v x1), (3, u64v x2), (9, sL 1000 none x3 1), (10, i6 x4), (11, i6 x5)], [(1000, ⟨[.nums .u64 x6 x7], 36, 2⟩)]⟩
theorem g18R7 (x0 x1 : Nat) (x2 x3 : Nat) (x4 x5 : Int) (x6 : Nat) (x7 : LN) : g18D A n (pth 1362069) K ⟨[(0, sL 1000 none x0 1), (1, u64v x1), (3, u64v x2), (9, sL 1000 none x3 1), (10, i6 x4), (11, i6 x5)], [(1000, ⟨[.nums .u64 x6 x7], 36, 2⟩)]⟩ = match A.eq x2 0 with
    | true => none
    | false => K .normal (g18R7s0 A x0 x1 x2 x3 x4 x5 x6 x7) := by kernel_rfl
def g18R3s0 (A : Ar) (x0 x1 x2 : Nat) (x3 : LN) : St := ⟨[(1, u64v (A.nb .add .u64 x1 1)), (8, u64v (A.nb .add .u64 x1 1)), (7, u64v x1), (0, sL 1000 none x0 1), (1, u64v x1)], [(1000, ⟨[.nums .u64 x2 x3], 36, 2⟩)]⟩
theorem g18R3 (x0 x1 x2 : Nat) (x3 : LN) : g18D A n (pth 917) K ⟨[(0, sL 1000 none x0 1), (1, u64v x1)], [(1000, ⟨[.nums .u64 x2 x3], 36, 2⟩)]⟩ = K .normal (g18R3s0 A x0 x1 x2 x3) := by kernel_rfl
def g18R8s0 (A : Ar) (x0 x1 x2 : Nat) (x3 x4 : Int) (x5 : Nat) (x6 : LN) : St := ⟨[(11, i6 (A.ib .add .i64 x4 1)), (19, i6 (A.ib .add .i64 x4 1)), (0, sL 1000 none x0 1), (1, u64v x1), (9, sL 1000 none x2 1), (10, i6 x3), (11, i6 x4)], [(1000, ⟨[.nums .u64 x5 x6], 36, 2⟩)]⟩
theorem g18R8 (x0 x1 x2 : Nat) (x3 x4 : Int) (x5 : Nat) (x6 : LN) : g18D A n (pth 247957) K ⟨[(0, sL 1000 none x0 1), (1, u64v x1), (9, sL 1000 none x2 1), (10, i6 x3), (11, i6 x4)], [(1000, ⟨[.nums .u64 x5 x6], 36, 2⟩)]⟩ = K .normal (g18R8s0 A x0 x1 x2 x3 x4 x5 x6) := by kernel_rfl
def g18R9s0 (A : Ar) (x0 x1 x2 : Nat) (x3 : LN) : St := ⟨[(0, sL 1000 none ((x3 ++ ([x1].take 1)).length) 1), (23, sL 1000 none ((x3 ++ ([x1].take 1)).length) 1), (22, sL 10002 none 1 1), (21, u64v x1), (20, (.v (.cell .top))), (0, (.v (.cell .top))), (1, u64v x1)], [(1000, ⟨[.nums .u64 ((x3 ++ ([x1].take 1)).length) (x3 ++ ([x1].take 1))], 36, 2⟩), (10002, ⟨[.nums .u64 1 [x1]], 36, 2⟩)]⟩
theorem g18R9 (x0 x1 x2 : Nat) (x3 : LN) : g18D A n (pth 3221) K ⟨[(0, sL 1000 none x0 1), (1, u64v x1)], [(1000, ⟨[.nums .u64 x2 x3], 36, 2⟩)]⟩ = match A.eq x0 (x2 + 0) with
    | true => match A.le (((x3 ++ ([x1].take 1)).length) * 8) 140737488355328 with
      | true => K .normal (g18R9s0 A x0 x1 x2 x3)
      | false => none
    | false => none := by kernel_rfl
def g18R5s0 (A : Ar) (x0 x1 x2 : Nat) (x3 x4 : Int) (x5 : Nat) (x6 : LN) : St := ⟨[(12, bO (A.ic .lss x4 x3)), (0, sL 1000 none x0 1), (1, u64v x1), (9, sL 1000 none x2 1), (10, i6 x3), (11, i6 x4)], [(1000, ⟨[.nums .u64 x5 x6], 36, 2⟩)]⟩
theorem g18R5 (x0 x1 x2 : Nat) (x3 x4 : Int) (x5 : Nat) (x6 : LN) : g18D A n (pth 34965) K ⟨[(0, sL 1000 none x0 1), (1, u64v x1), (9, sL 1000 none x2 1), (10, i6 x3), (11, i6 x4)], [(1000, ⟨[.nums .u64 x5 x6], 36, 2⟩)]⟩ = K .normal (g18R5s0 A x0 x1 x2 x3 x4 x5 x6) := by kernel_rfl
def g18R4s0 (A : Ar) (x0 x1 x2 : Nat) (x3 : LN) : St := ⟨[(11, i6 0), (10, i6 (A.ofN x0)), (9, sL 1000 none x0 1), (0, sL 1000 none x0 1), (1, u64v x1)], [(1000, ⟨[.nums .u64 x2 x3], 36, 2⟩)]⟩
theorem g18R4 (x0 x1 x2 : Nat) (x3 : LN) : g18D A n (pth 4245) K ⟨[(0, sL 1000 none x0 1), (1, u64v x1)], [(1000, ⟨[.nums .u64 x2 x3], 36, 2⟩)]⟩ = K .normal (g18R4s0 A x0 x1 x2 x3) := by kernel_rfl
def g18R2s0 (A : Ar) (x0 x1 x2 : Nat) (x3 : LN) : St := ⟨[(6, bO (A.ic .lss (A.ofN x0) 80)), (5, i6 (A.ofN x0)), (4, sL 1000 none x0 1), (0, sL 1000 none x0 1), (1, u64v x1)], [(1000, ⟨[.nums .u64 x2 x3], 36, 2⟩)]⟩
theorem g18R2 (x0 x1 x2 : Nat) (x3 : LN) : g18D A n (pth 533) K ⟨[(0, sL 1000 none x0 1), (1, u64v x1)], [(1000, ⟨[.nums .u64 x2 x3], 36, 2⟩)]⟩ = K .normal (g18R2s0 A x0 x1 x2 x3) := by kernel_rfl
def g18R10s0 (A : Ar) (x0 x1 : Nat) (x2 : LN) : St := ⟨[(0, sL 1000 none x0 1), (24, sL 1000 none x0 1), (0, sL 1000 none x0 1)], [(1000, ⟨[.nums .u64 x1 x2], 36, 2⟩)]⟩
theorem g18R10 (x0 x1 : Nat) (x2 : LN) : g18D A n (pth 45) K ⟨[(0, sL 1000 none x0 1)], [(1000, ⟨[.nums .u64 x1 x2], 36, 2⟩)]⟩ = K .normal (g18R10s0 A x0 x1 x2) := by kernel_rfl
def g18R0s0 (A : Ar) : St := ⟨[(0, sL 1000 none 0 1)], [(1000, ⟨[.nums .u64 0 []], 36, 2⟩)]⟩
theorem g18R0 : g18D A n (pth 2) K ⟨[], []⟩ = K .normal (g18R0s0 A) := by kernel_rfl
def g18R1s0 (A : Ar) (x0 x1 : Nat) (x2 : LN) : St := ⟨[(1, u64v 2), (0, sL 1000 none x0 1)], [(1000, ⟨[.nums .u64 x1 x2], 36, 2⟩)]⟩
theorem g18R1 (x0 x1 : Nat) (x2 : LN) : g18D A n (pth 37) K ⟨[(0, sL 1000 none x0 1)], [(1000, ⟨[.nums .u64 x1 x2], 36, 2⟩)]⟩ = K .normal (g18R1s0 A x0 x1 x2) := by kernel_rfl
end
def g18J6 {R : Type} (A : Ar) (n : Nat) (kk : KK R) (lg18L2 : Nat → Nat → Nat → LN → Option R) (lg18L5 : Nat → Nat → Nat → Int → Int → Nat → LN → Option R) (x0 x1 x2 : Nat) (x3 x4 : Int) (x5 : Nat) (x6 : LN) : Option R :=
  match A.neg x4 with
  | true => none
  | false => match A.lt (A.toN x4) x2 with
    | true => match A.eq (x6.getD (A.toN x4) 0) 0 with
      | true => none
      | false => match A.nc .eql (A.nb .rem .u64 x1 (x6.getD (A.toN x4) 0)) 0 with
        | true => lg18L2 x0 (A.nb .add .u64 x1 1) x5 x6
        | false => lg18L5 x0 x1 x2 x3 (A.ib .add .i64 x4 1) x5 x6
    | false => none
theorem g18J6_eq {R : Type} (A : Ar) (n : Nat) (kk : KK R) (m0 m1 : Nat) (lg18L2 : Nat → Nat → Nat → LN → Option R) (lg18L5 : Nat → Nat → Nat → Int → Int → Nat → LN → Option R)
    (hg18L2 : ∀ (s : St) (x0 x1 x2 : Nat) (x3 : LN), keep g18an 2 s = ⟨[(0, sL 1000 none x0 1), (1, u64v x1)], [(1000, ⟨[.nums .u64 x2 x3], 36, 2⟩)]⟩ → g18V A n (pth 149) m0 (blockK 0 (g18Q A n (pth 29) (g18T kk))) s = lg18L2 x0 x1 x2 x3)
    (hg18L5 : ∀ (s : St) (x0 x1 x2 : Nat) (x3 x4 : Int) (x5 : Nat) (x6 : LN), keep g18an 5 s = ⟨[(0, sL 1000 none x0 1), (1, u64v x1), (9, sL 1000 none x2 1), (10, i6 x3), (11, i6 x4)], [(1000, ⟨[.nums .u64 x5 x6], 36, 2⟩)]⟩ → g18V A n (pth 18581) m1 (blockK 2 (g18Q A n (pth 3221) (blockK 1 (g18Q A n (pth 917) (g18W A n (pth 149) m0 (blockK 0 (g18Q A n (pth 29) (g18T kk)))))))) s = lg18L5 x0 x1 x2 x3 x4 x5 x6) (s : St) (x0 x1 x2 : Nat) (x3 x4 : Int) (x5 : Nat) (x6 : LN) (h : keep g18an 6 s = ⟨[(0, sL 1000 none x0 1), (1, u64v x1), (9, sL 1000 none x2 1), (10, i6 x3), (11, i6 x4)], [(1000, ⟨[.nums .u64 x5 x6], 36, 2⟩)]⟩) :
    g18D A n (pth 116885) (g18W A n (pth 18581) m1 (blockK 2 (g18Q A n (pth 3221) (blockK 1 (g18Q A n (pth 917) (g18W A n (pth 149) m0 (blockK 0 (g18Q A n (pth 29) (g18T kk))))))))) s = g18J6 A n kk lg18L2 lg18L5 x0 x1 x2 x3 x4 x5 x6 := by
  have h1 := (g18Wn A n _ _ _ _).trans (hg18L2 (g18R3s0 A x0 x1 x5 x6) x0 (A.nb .add .u64 x1 1) x5 x6 (by kernel_rfl))
  have h2 := (g18F A n _ 3 _ (g18R7s0 A x0 x1 (x6.getD (A.toN x4) 0) x2 x3 x4 x5 x6) _ (by kernel_rfl) (by kernel_rfl)).trans (g18R3 A n (g18W A n (pth 149) m0 (blockK 0 (g18Q A n (pth 29) (g18T kk)))) x0 x1 x5 x6)
  rw [h1] at h2
  have h3 := (g18Qn A n _ _ _).trans h2
  have h4 := (blockK_hit 1 _ _).trans h3
  have h5 := (g18Qe A n (pth 3221) _ _ _).trans h4
  have h6 := (blockK_miss 2 1 _ _ (by kernel_rfl)).trans h5
  have h7 := (g18We A n (pth 18581) m1 _ _ _).trans h6
  have h8 := (g18Qe A n (pth 247957) _ _ _).trans h7
  have h9 := (blockK_miss 3 1 _ _ (by kernel_rfl)).trans h8
  have h10 := (g18p2934933 A n _ _).trans h9
  have h11 := (g18Wn A n _ _ _ _).trans (hg18L5 (g18R8s0 A x0 x1 x2 x3 x4 x5 x6) x0 x1 x2 x3 (A.ib .add .i64 x4 1) x5 x6 (by kernel_rfl))
  have h12 := (g18F A n _ 8 _ (g18R7s0 A x0 x1 (x6.getD (A.toN x4) 0) x2 x3 x4 x5 x6) _ (by kernel_rfl) (by kernel_rfl)).trans (g18R8 A n (g18W A n (pth 18581) m1 (blockK 2 (g18Q A n (pth 3221) (blockK 1 (g18Q A n (pth 917) (g18W A n (pth 149) m0 (blockK 0 (g18Q A n (pth 29) (g18T kk))))))))) x0 x1 x2 x3 x4 x5 x6)
  rw [h11] at h12
  have h13 := (g18Qn A n _ _ _).trans h12
  have h14 := (blockK_n 3 _ _).trans h13
  have h15 := (g18p3983509 A n _ _).trans h14
  have h16 := g18p1886357 A n (blockK 3 (g18Q A n (pth 247957) (g18W A n (pth 18581) m1 (blockK 2 (g18Q A n (pth 3221) (blockK 1 (g18Q A n (pth 917) (g18W A n (pth 149) m0 (blockK 0 (g18Q A n (pth 29) (g18T kk))))))))))) (g18R7s0 A x0 x1 (x6.getD (A.toN x4) 0) x2 x3 x4 x5 x6) (A.nc .eql (A.nb .rem .u64 x1 (x6.getD (A.toN x4) 0)) 0) (by kernel_rfl)
  rw [h10, h15] at h16
  have h17 := (g18Qn A n _ _ _).trans h16
  have h18 := (g18F A n _ 7 _ (g18R6s0 A x0 x1 x2 x3 x4 x5 x6) _ (by kernel_rfl) (by kernel_rfl)).trans (g18R7 A n (g18Q A n (pth 1886357) (blockK 3 (g18Q A n (pth 247957) (g18W A n (pth 18581) m1 (blockK 2 (g18Q A n (pth 3221) (blockK 1 (g18Q A n (pth 917) (g18W A n (pth 149) m0 (blockK 0 (g18Q A n (pth 29) (g18T kk)))))))))))) x0 x1 (x6.getD (A.toN x4) 0) x2 x3 x4 x5 x6)
  rw [h17] at h18
  have h19 := (g18p837781 A n _ _).trans h18
  have h20 := (g18Qn A n _ _ _).trans h19
  have h21 := (g18F A n _ 6 _ ⟨[(0, sL 1000 none x0 1), (1, u64v x1), (9, sL 1000 none x2 1), (10, i6 x3), (11, i6 x4)], [(1000, ⟨[.nums .u64 x5 x6], 36, 2⟩)]⟩ _ (by kernel_rfl) (by kernel_rfl)).trans (g18R6 A n (g18Q A n (pth 837781) (blockK 3 (g18Q A n (pth 247957) (g18W A n (pth 18581) m1 (blockK 2 (g18Q A n (pth 3221) (blockK 1 (g18Q A n (pth 917) (g18W A n (pth 149) m0 (blockK 0 (g18Q A n (pth 29) (g18T kk)))))))))))) x0 x1 x2 x3 x4 x5 x6)
  rw [h20] at h21
  have h22 := (g18p313493 A n _ _).trans h21
  have h23 := (g18p182421 A n _ _).trans h22
  have h24 := (g18p116885 A n _ _).trans h23
  exact (g18F A n _ 6 _ _ ⟨[(0, sL 1000 none x0 1), (1, u64v x1), (9, sL 1000 none x2 1), (10, i6 x3), (11, i6 x4)], [(1000, ⟨[.nums .u64 x5 x6], 36, 2⟩)]⟩ (by kernel_rfl) (h.trans (by kernel_rfl))).trans (h24.trans (by kernel_rfl))
def g18J9 {R : Type} (A : Ar) (n : Nat) (kk : KK R) (lg18L2 : Nat → Nat → Nat → LN → Option R) (x0 x1 x2 : Nat) (x3 : LN) : Option R :=
  match A.eq x0 (x2 + 0) with
  | true => match A.le (((x3 ++ ([x1].take 1)).length) * 8) 140737488355328 with
    | true => lg18L2 ((x3 ++ ([x1].take 1)).length) (A.nb .add .u64 x1 1) ((x3 ++ ([x1].take 1)).length) (x3 ++ ([x1].take 1))
    | false => none
  | false => none
abbrev u16 (x3 : LN) (x1 : Nat) := (x3 ++ ([x1].take 1)).length
theorem g18J9_eq {R : Type} (A : Ar) (n : Nat) (kk : KK R) (m0 : Nat) (lg18L2 : Nat → Nat → Nat → LN → Option R)
    (hg18L2 : ∀ (s : St) (x0 x1 x2 : Nat) (x3 : LN), keep g18an 2 s = ⟨[(0, sL 1000 none x0 1), (1, u64v x1)], [(1000, ⟨[.nums .u64 x2 x3], 36, 2⟩)]⟩ → g18V A n (pth 149) m0 (blockK 0 (g18Q A n (pth 29) (g18T kk))) s = lg18L2 x0 x1 x2 x3) (s : St) (x0 x1 x2 : Nat) (x3 : LN) (h : keep g18an 9 s = ⟨[(0, sL 1000 none x0 1), (1, u64v x1)], [(1000, ⟨[.nums .u64 x2 x3], 36, 2⟩)]⟩) :
    g18D A n (pth 3221) (blockK 1 (g18Q A n (pth 917) (g18W A n (pth 149) m0 (blockK 0 (g18Q A n (pth 29) (g18T kk)))))) s = g18J9 A n kk lg18L2 x0 x1 x2 x3 := by
  have h1 := (g18Wn A n _ _ _ _).trans (hg18L2 (g18R3s0 A (u16 x3 x1) x1 (u16 x3 x1) (x3 ++ ([x1].take 1))) (u16 x3 x1) (A.nb .add .u64 x1 1) (u16 x3 x1) (x3 ++ ([x1].take 1)) (by kernel_rfl))
  have h2 := (g18F A n _ 3 _ (g18R9s0 A x0 x1 x2 x3) _ (by kernel_rfl) (by kernel_rfl)).trans (g18R3 A n (g18W A n (pth 149) m0 (blockK 0 (g18Q A n (pth 29) (g18T kk)))) (u16 x3 x1) x1 (u16 x3 x1) (x3 ++ ([x1].take 1)))
  rw [h1] at h2
  have h3 := (g18Qn A n _ _ _).trans h2
  have h4 := (blockK_n 1 _ _).trans h3
  have h5 := (g18F A n _ 9 _ ⟨[(0, sL 1000 none x0 1), (1, u64v x1)], [(1000, ⟨[.nums .u64 x2 x3], 36, 2⟩)]⟩ _ (by kernel_rfl) (by kernel_rfl)).trans (g18R9 A n (blockK 1 (g18Q A n (pth 917) (g18W A n (pth 149) m0 (blockK 0 (g18Q A n (pth 29) (g18T kk)))))) x0 x1 x2 x3)
  rw [h4] at h5
  exact (g18F A n _ 9 _ _ ⟨[(0, sL 1000 none x0 1), (1, u64v x1)], [(1000, ⟨[.nums .u64 x2 x3], 36, 2⟩)]⟩ (by kernel_rfl) (h.trans (by kernel_rfl))).trans (h5.trans (by kernel_rfl))
def g18L5 {R : Type} (A : Ar) (n : Nat) (kk : KK R) (lg18L2 : Nat → Nat → Nat → LN → Option R) : Nat → Nat → Nat → Nat → Int → Int → Nat → LN → Option R
  | 0, _, _, _, _, _, _, _ => none
  | m + 1, x0, x1, x2, x3, x4, x5, x6 => match A.ic .lss x4 x3 with
  | true => g18J6 A n kk lg18L2 (g18L5 A n kk lg18L2 m) x0 x1 x2 x3 x4 x5 x6
  | false => g18J9 A n kk lg18L2 x0 x1 x5 x6
theorem g18L5_eq {R : Type} (A : Ar) (n : Nat) (kk : KK R) (m0 : Nat) (lg18L2 : Nat → Nat → Nat → LN → Option R)
    (hg18L2 : ∀ (s : St) (x0 x1 x2 : Nat) (x3 : LN), keep g18an 2 s = ⟨[(0, sL 1000 none x0 1), (1, u64v x1)], [(1000, ⟨[.nums .u64 x2 x3], 36, 2⟩)]⟩ → g18V A n (pth 149) m0 (blockK 0 (g18Q A n (pth 29) (g18T kk))) s = lg18L2 x0 x1 x2 x3) (m : Nat) (s : St) (x0 x1 x2 : Nat) (x3 x4 : Int) (x5 : Nat) (x6 : LN) (h : keep g18an 5 s = ⟨[(0, sL 1000 none x0 1), (1, u64v x1), (9, sL 1000 none x2 1), (10, i6 x3), (11, i6 x4)], [(1000, ⟨[.nums .u64 x5 x6], 36, 2⟩)]⟩) :
    g18V A n (pth 18581) m (blockK 2 (g18Q A n (pth 3221) (blockK 1 (g18Q A n (pth 917) (g18W A n (pth 149) m0 (blockK 0 (g18Q A n (pth 29) (g18T kk)))))))) s = g18L5 A n kk lg18L2 m x0 x1 x2 x3 x4 x5 x6 := by
  induction m generalizing s x0 x1 x2 x3 x4 x5 x6 with
  | zero => rfl
  | succ m ih =>
    have h1 := (g18Qn A n _ _ _).trans (g18J6_eq A n kk m0 m lg18L2 (g18L5 A n kk lg18L2 m) hg18L2 ih (g18R5s0 A x0 x1 x2 x3 x4 x5 x6) x0 x1 x2 x3 x4 x5 x6 (by kernel_rfl))
    have h2 := (g18p149653 A n _ _).trans h1
    have h3 := (g18Qn A n _ _ _).trans (g18J9_eq A n kk m0 lg18L2 hg18L2 (g18R5s0 A x0 x1 x2 x3 x4 x5 x6) x0 x1 x5 x6 (by kernel_rfl))
    have h4 := (blockK_hit 2 _ _).trans h3
    have h5 := (g18We A n (pth 18581) m _ _ _).trans h4
    have h6 := (g18Qe A n (pth 116885) _ _ _).trans h5
    have h7 := (g18p215189 A n _ _).trans h6
    have h8 := g18p84117 A n (g18Q A n (pth 116885) (g18W A n (pth 18581) m (blockK 2 (g18Q A n (pth 3221) (blockK 1 (g18Q A n (pth 917) (g18W A n (pth 149) m0 (blockK 0 (g18Q A n (pth 29) (g18T kk)))))))))) (g18R5s0 A x0 x1 x2 x3 x4 x5 x6) (A.ic .lss x4 x3) (by kernel_rfl)
    rw [h2, h7] at h8
    have h9 := (g18p51349 A n _ _).trans h8
    have h10 := (g18Qn A n _ _ _).trans h9
    have h11 := (g18F A n _ 5 _ ⟨[(0, sL 1000 none x0 1), (1, u64v x1), (9, sL 1000 none x2 1), (10, i6 x3), (11, i6 x4)], [(1000, ⟨[.nums .u64 x5 x6], 36, 2⟩)]⟩ _ (by kernel_rfl) (by kernel_rfl)).trans (g18R5 A n (g18Q A n (pth 51349) (g18W A n (pth 18581) m (blockK 2 (g18Q A n (pth 3221) (blockK 1 (g18Q A n (pth 917) (g18W A n (pth 149) m0 (blockK 0 (g18Q A n (pth 29) (g18T kk)))))))))) x0 x1 x2 x3 x4 x5 x6)
    rw [h10] at h11
    have h12 := (g18p18581 A n _ _).trans h11
    exact (loopD_first (s' := ⟨[(0, sL 1000 none x0 1), (1, u64v x1), (9, sL 1000 none x2 1), (10, i6 x3), (11, i6 x4)], [(1000, ⟨[.nums .u64 x5 x6], 36, 2⟩)]⟩) (id := 5) (by kernel_rfl) (h.trans (by kernel_rfl)) _).trans ((g18Vs A n _ m _ _).trans (h12.trans (by kernel_rfl)))
def g18J4 {R : Type} (A : Ar) (n : Nat) (kk : KK R) (lg18L2 : Nat → Nat → Nat → LN → Option R) (x0 x1 x2 : Nat) (x3 : LN) : Option R :=
  g18L5 A n kk lg18L2 n x0 x1 x0 (A.ofN x0) 0 x2 x3
theorem g18J4_eq {R : Type} (A : Ar) (n : Nat) (kk : KK R) (m0 : Nat) (lg18L2 : Nat → Nat → Nat → LN → Option R)
    (hg18L2 : ∀ (s : St) (x0 x1 x2 : Nat) (x3 : LN), keep g18an 2 s = ⟨[(0, sL 1000 none x0 1), (1, u64v x1)], [(1000, ⟨[.nums .u64 x2 x3], 36, 2⟩)]⟩ → g18V A n (pth 149) m0 (blockK 0 (g18Q A n (pth 29) (g18T kk))) s = lg18L2 x0 x1 x2 x3) (s : St) (x0 x1 x2 : Nat) (x3 : LN) (h : keep g18an 4 s = ⟨[(0, sL 1000 none x0 1), (1, u64v x1)], [(1000, ⟨[.nums .u64 x2 x3], 36, 2⟩)]⟩) :
    g18D A n (pth 405) (g18W A n (pth 149) m0 (blockK 0 (g18Q A n (pth 29) (g18T kk)))) s = g18J4 A n kk lg18L2 x0 x1 x2 x3 := by
  have h1 := (g18p10389 A n _ _).trans (g18L5_eq A n kk m0 lg18L2 hg18L2 n (g18R4s0 A x0 x1 x2 x3) x0 x1 x0 (A.ofN x0) 0 x2 x3 (by kernel_rfl))
  have h2 := (g18p6293 A n _ _).trans h1
  have h3 := (g18Qn A n _ _ _).trans h2
  have h4 := (g18F A n _ 4 _ ⟨[(0, sL 1000 none x0 1), (1, u64v x1)], [(1000, ⟨[.nums .u64 x2 x3], 36, 2⟩)]⟩ _ (by kernel_rfl) (by kernel_rfl)).trans (g18R4 A n (g18Q A n (pth 6293) (g18Q A n (pth 3221) (blockK 1 (g18Q A n (pth 917) (g18W A n (pth 149) m0 (blockK 0 (g18Q A n (pth 29) (g18T kk)))))))) x0 x1 x2 x3)
  rw [h3] at h4
  have h5 := (g18p2197 A n _ _).trans h4
  have h6 := (g18p1173 A n _ _).trans h5
  have h7 := (g18p661 A n _ _).trans h6
  have h8 := (g18p405 A n _ _).trans h7
  exact (g18F A n _ 4 _ _ ⟨[(0, sL 1000 none x0 1), (1, u64v x1)], [(1000, ⟨[.nums .u64 x2 x3], 36, 2⟩)]⟩ (by kernel_rfl) (h.trans (by kernel_rfl))).trans (h8.trans (by kernel_rfl))
def g18L2 {R : Type} (A : Ar) (n : Nat) (kk : KK R) : Nat → Nat → Nat → Nat → LN → Option R
  | 0, _, _, _, _ => none
  | m + 1, x0, x1, x2, x3 => match A.ic .lss (A.ofN x0) 80 with
  | true => g18J4 A n kk (g18L2 A n kk m) x0 x1 x2 x3
  | false => kk (sL 1000 none x0 1) [(1000, ⟨[.nums .u64 x2 x3], 36, 2⟩)]
theorem g18L2_eq {R : Type} (A : Ar) (n : Nat) (kk : KK R) (m : Nat) (s : St) (x0 x1 x2 : Nat) (x3 : LN) (h : keep g18an 2 s = ⟨[(0, sL 1000 none x0 1), (1, u64v x1)], [(1000, ⟨[.nums .u64 x2 x3], 36, 2⟩)]⟩) :
    g18V A n (pth 149) m (blockK 0 (g18Q A n (pth 29) (g18T kk))) s = g18L2 A n kk m x0 x1 x2 x3 := by
  induction m generalizing s x0 x1 x2 x3 with
  | zero => rfl
  | succ m ih =>
    have h1 := (g18Qn A n _ _ _).trans (g18J4_eq A n kk m (g18L2 A n kk m) ih (g18R2s0 A x0 x1 x2 x3) x0 x1 x2 x3 (by kernel_rfl))
    have h2 := (g18p1301 A n _ _).trans h1
    have h3 : (g18T kk) .ret (g18R10s0 A x0 x2 x3) = kk (sL 1000 none x0 1) [(1000, ⟨[.nums .u64 x2 x3], 36, 2⟩)] := by kernel_rfl
    have h4 := (g18p61 A n _ _).trans h3
    have h5 := (g18Qn A n _ _ _).trans h4
    have h6 := (g18F A n _ 10 _ (g18R2s0 A x0 x1 x2 x3) _ (by kernel_rfl) (by kernel_rfl)).trans (g18R10 A n (g18Q A n (pth 61) (g18T kk)) x0 x2 x3)
    rw [h5] at h6
    have h7 := (g18p29 A n _ _).trans h6
    have h8 := (g18Qn A n _ _ _).trans h7
    have h9 := (blockK_hit 0 _ _).trans h8
    have h10 := (g18We A n (pth 149) m _ _ _).trans h9
    have h11 := (g18Qe A n (pth 405) _ _ _).trans h10
    have h12 := (g18p1813 A n _ _).trans h11
    have h13 := g18p789 A n (g18Q A n (pth 405) (g18W A n (pth 149) m (blockK 0 (g18Q A n (pth 29) (g18T kk))))) (g18R2s0 A x0 x1 x2 x3) (A.ic .lss (A.ofN x0) 80) (by kernel_rfl)
    rw [h2, h12] at h13
    have h14 := (g18Qn A n _ _ _).trans h13
    have h15 := (g18F A n _ 2 _ ⟨[(0, sL 1000 none x0 1), (1, u64v x1)], [(1000, ⟨[.nums .u64 x2 x3], 36, 2⟩)]⟩ _ (by kernel_rfl) (by kernel_rfl)).trans (g18R2 A n (g18Q A n (pth 789) (g18Q A n (pth 405) (g18W A n (pth 149) m (blockK 0 (g18Q A n (pth 29) (g18T kk)))))) x0 x1 x2 x3)
    rw [h14] at h15
    have h16 := (g18p277 A n _ _).trans h15
    have h17 := (g18p149 A n _ _).trans h16
    exact (loopD_first (s' := ⟨[(0, sL 1000 none x0 1), (1, u64v x1)], [(1000, ⟨[.nums .u64 x2 x3], 36, 2⟩)]⟩) (id := 2) (by kernel_rfl) (h.trans (by kernel_rfl)) _).trans ((g18Vs A n _ m _ _).trans (h17.trans (by kernel_rfl)))
def g18 {R : Type} (A : Ar) (n : Nat) (kk : KK R) : Option R :=
  g18L2 A n kk n 0 2 0 []
theorem g18_eq {R : Type} (A : Ar) (n : Nat) (kk : KK R) :
    funD A gtys (g18O A) g18an n (bodyOf Try.f18) g18res [] [] kk = g18 A n kk := by
  have h1 := (g18p85 A n _ _).trans (g18L2_eq A n kk n (g18R1s0 A 0 0 []) 0 2 0 [] (by kernel_rfl))
  have h2 := (g18p53 A n _ _).trans h1
  have h3 := (g18Qn A n _ _ _).trans h2
  have h4 := (g18F A n _ 1 _ (g18R0s0 A) _ (by kernel_rfl) (by kernel_rfl)).trans (g18R1 A n (g18Q A n (pth 53) (g18Q A n (pth 29) (g18T kk))) 0 0 [])
  rw [h3] at h4
  have h5 := (g18p21 A n _ _).trans h4
  have h6 := (g18p13 A n _ _).trans h5
  have h7 := (g18Qn A n _ _ _).trans h6
  have h8 := (g18p9 A n _ _).trans h7
  have h9 := (g18p5 A n _ _).trans h8
  have h10 := (g18p3 A n _ _).trans h9
  have h11 := (g18Qn A n _ _ _).trans h10
  have h12 := (g18F A n _ 0 _ ⟨[], []⟩ _ (by kernel_rfl) (by kernel_rfl)).trans (g18R0 A n (g18Q A n (pth 3) (g18T kk)) )
  rw [h11] at h12
  have h13 := (g18p1 A n _ _).trans h12
  exact (show funD A gtys (g18O A) g18an n (bodyOf Try.f18) g18res [] [] kk = g18D A n (pth 1) (g18T kk) ⟨[], []⟩ from by kernel_rfl).trans (h13.trans (by kernel_rfl))
def g18is (o : Option (AV × Heap)) : Bool := match o with
  | some (.v (.cell (.sl n0 none _ n1)), [(n2, ⟨[.nums .u64 _ _], n3, n4⟩)]) => Nat.beq n0 700 && (Nat.beq n1 1 && (Nat.beq n2 700 && (Nat.beq n3 36 && (Nat.beq n4 2))))
  | _ => false
def g18g0 (o : Option (AV × Heap)) : Nat := match o with
  | some (.v (.cell (.sl _ none x _)), [(_, ⟨[.nums .u64 _ _], _, _⟩)]) => x
  | _ => 0
def g18g1 (o : Option (AV × Heap)) : Nat := match o with
  | some (.v (.cell (.sl _ none _ _)), [(_, ⟨[.nums .u64 x _], _, _⟩)]) => x
  | _ => 0
def g18g2 (o : Option (AV × Heap)) : LN := match o with
  | some (.v (.cell (.sl _ none _ _)), [(_, ⟨[.nums .u64 _ x], _, _⟩)]) => x
  | _ => []
theorem g18is_spec {o : Option (AV × Heap)} (h : g18is o = true) : o = some ((sL 700 none (g18g0 o) 1), [(700, ⟨[.nums .u64 (g18g1 o) (g18g2 o)], 36, 2⟩)]) := by
  unfold g18is at h
  split at h
  · rename_i n0 z1 n1 n2 z4 z5 n3 n4
    simp only [Bool.and_eq_true] at h
    have en0 := beq_true h.1
    subst en0
    replace h := h.2
    have en1 := beq_true h.1
    subst en1
    replace h := h.2
    have en2 := beq_true h.1
    subst en2
    replace h := h.2
    have en3 := beq_true h.1
    subst en3
    replace h := h.2
    have en4 := beq_true h
    subst en4
    rfl
  · cases h
def g18v (A : Ar) : Option (AV × Heap) := g18 A (100000) (outH [] none)
def g18ok (A : Ar) : Bool := g18is (g18v A)
def g18r0 (A : Ar) : Nat := g18g0 (g18v A)
def g18r1 (A : Ar) : Nat := g18g1 (g18v A)
def g18r2 (A : Ar) : LN := g18g2 (g18v A)
theorem g18ok_spec {A : Ar} (h : g18ok A = true) : g18v A = some ((sL 700 none (g18r0 A) 1), [(700, ⟨[.nums .u64 (g18r1 A) (g18r2 A)], 36, 2⟩)]) := g18is_spec h
def g18o (A : Ar) (args : List AV) (h : Heap) : Option (Bool × AV × Heap) := match args, h with
  | [], [] => some (g18ok A, (sL 700 none (g18r0 A) 1), [(700, ⟨[.nums .u64 (g18r1 A) (g18r2 A)], 36, 2⟩)])
  | _, _ => none
theorem g18o_sound : ∀ args h v h', g18o realA args h = some (true, v, h') → FnH Try.prog 18 args h v h' := by
  intro args h v h' hh
  unfold g18o at hh
  split at hh
  · simp only [Option.some.injEq, Prod.mk.injEq] at hh
    obtain ⟨hc, hv, hh⟩ := hh
    subst hv
    subst hh
    exact fnh_of mixed gtysOK g18O_sound g18O_det (an := g18an) (n := 100000) Try.func18 (c := bodyOf Try.f18) rfl (by kernel_rfl) Try.call18 (Nat.le_of_ble_eq_true rfl) (pins := []) (nilr := none) (fun _ => (g18_eq realA (100000) (outH [] none) ).trans (show g18v realA = _ from g18ok_spec hc))
  · cases hh
def g11O (A : Ar) : Orc := orcH [(19, g19o A)] [(18, ⟨[], none, (g18o A)⟩)]
theorem g11O_sound : OSound Try.prog (g11O realA) := orcH_sound (fun f g hm args v hv => by
    simp only [List.mem_cons, List.not_mem_nil, or_false, Prod.mk.injEq] at hm
    rcases hm with ⟨rfl, rfl⟩
    · exact g19o_sound _ _ hv) (fun f e hm args h v h' hv => by
    simp only [List.mem_cons, List.not_mem_nil, or_false, Prod.mk.injEq] at hm
    rcases hm with ⟨rfl, rfl⟩
    · exact g18o_sound _ _ _ _ hv)
theorem g11O_det : ODet (g11O realA) := orcH_det _ _
def g11an : Ann := [(0, ([], [])), (1, ([], [])), (2, ([1], [2001])), (3, ([1, 6, 7, 8], [2001, 3000])), (4, ([1, 6, 7, 8], [2001, 3000])), (5, ([1, 2, 3, 6, 7, 8], [2001, 3000])), (6, ([1, 2, 3, 6, 7, 8], [2001, 3000])), (7, ([1, 2, 3, 6, 7, 8], [2001, 3000])), (8, ([1, 6, 7, 8], [2001, 3000])), (9, ([1], [2001]))]
def g11res : List ResultVar := [.tmp 0]
noncomputable def g11D {R : Type} (A : Ar) (n : Nat) (p : List Bool) (K : Ex → St → Option R) (s : St) : Option R := codeD A gtys (g11O A) g11an n (sub (bodyOf Try.f11) p) K s
noncomputable def g11V {R : Type} (A : Ar) (n : Nat) (p : List Bool) (m : Nat) (K : Ex → St → Option R) (s : St) : Option R := loopD (fun K' s'' => codeD A gtys (g11O A) g11an n (sub (bodyOf Try.f11) p) K' s'') m K s
noncomputable def g11Q {R : Type} (A : Ar) (n : Nat) (p : List Bool) (K : Ex → St → Option R) : Ex → St → Option R := seqC (g11D A n p K) K
noncomputable def g11W {R : Type} (A : Ar) (n : Nat) (p : List Bool) (m : Nat) (K : Ex → St → Option R) : Ex → St → Option R := seqC (g11V A n p m K) K
noncomputable def g11T {R : Type} (kk : KK R) : Ex → St → Option R := finD gtys g11res kk
theorem g11Qn {R : Type} (A : Ar) (n : Nat) (p : List Bool) (K : Ex → St → Option R) (s : St) : g11Q A n p K .normal s = g11D A n p K s := rfl
theorem g11Qe {R : Type} (A : Ar) (n : Nat) (p : List Bool) (K : Ex → St → Option R) (i : Nat) (s : St) : g11Q A n p K (.exit i) s = K (.exit i) s := rfl
theorem g11Wn {R : Type} (A : Ar) (n : Nat) (p : List Bool) (m : Nat) (K : Ex → St → Option R) (s : St) : g11W A n p m K .normal s = g11V A n p m K s := rfl
theorem g11We {R : Type} (A : Ar) (n : Nat) (p : List Bool) (m : Nat) (K : Ex → St → Option R) (i : Nat) (s : St) : g11W A n p m K (.exit i) s = K (.exit i) s := rfl
theorem g11Vs {R : Type} (A : Ar) (n : Nat) (p : List Bool) (m : Nat) (K : Ex → St → Option R) (s : St) : g11V A n p (m + 1) K s = g11D A n p (g11W A n p m K) s := rfl
theorem g11F {R : Type} (A : Ar) (n : Nat) (p : List Bool) (i : Nat) (K : Ex → St → Option R) (s s' : St) (hf : firstReg (sub (bodyOf Try.f11) p) = some i) (h : keep g11an i s = keep g11an i s') : g11D A n p K s = g11D A n p K s' := codeD_first hf h K
section
variable {R : Type} (A : Ar) (n : Nat) (K : Ex → St → Option R) (s : St)
theorem g11p1 : g11D A n (pth 1) K s = g11D A n (pth 2) (g11Q A n (pth 3) K) s := by kernel_rfl
theorem g11p3 : g11D A n (pth 3) K s = g11D A n (pth 5) (g11Q A n (pth 7) K) s := by kernel_rfl
theorem g11p7 : g11D A n (pth 7) K s = g11D A n (pth 11) (g11Q A n (pth 15) K) s := by kernel_rfl
theorem g11p11 : g11D A n (pth 11) K s = g11D A n (pth 19) (g11Q A n (pth 27) K) s := by kernel_rfl
theorem g11p27 : g11D A n (pth 27) K s = g11D A n (pth 43) (blockK 0 K) s := by kernel_rfl
theorem g11p43 : g11D A n (pth 43) K s = g11V A n (pth 75) n K s := by kernel_rfl
theorem g11p75 : g11D A n (pth 75) K s = g11D A n (pth 139) (g11Q A n (pth 203) K) s := by kernel_rfl
theorem g11p203 : g11D A n (pth 203) K s = g11D A n (pth 331) (g11Q A n (pth 459) K) s := by kernel_rfl
theorem g11p331 (t : Bool) : ev s (.tmp 9) = some (.v (.cell (.bool t))) → g11D A n (pth 331) K s = (match t with
    | true => g11D A n (pth 587) K s
    | false => g11D A n (pth 843) K s) := codeD_cond t
theorem g11p587 : g11D A n (pth 587) K s = K .normal s := by kernel_rfl
theorem g11p843 : g11D A n (pth 843) K s = K (.exit 0) s := by kernel_rfl
theorem g11p459 : g11D A n (pth 459) K s = g11D A n (pth 715) (g11Q A n (pth 971) K) s := by kernel_rfl
theorem g11p715 : g11D A n (pth 715) K s = g11D A n (pth 1227) (blockK 1 K) s := by kernel_rfl
theorem g11p1227 : g11D A n (pth 1227) K s = g11D A n (pth 2251) (g11Q A n (pth 3275) K) s := by kernel_rfl
theorem g11p3275 : g11D A n (pth 3275) K s = g11D A n (pth 5323) (g11Q A n (pth 7371) K) s := by kernel_rfl
theorem g11p7371 : g11D A n (pth 7371) K s = g11D A n (pth 11467) (g11Q A n (pth 15563) K) s := by kernel_rfl
theorem g11p15563 (t : Bool) : ev s (.tmp 21) = some (.v (.cell (.bool t))) → g11D A n (pth 15563) K s = (match t with
    | true => g11D A n (pth 23755) K s
    | false => g11D A n (pth 31947) K s) := codeD_cond t
theorem g11p31947 : g11D A n (pth 31947) K s = K .normal s := by kernel_rfl
theorem g11p15 : g11D A n (pth 15) K s = g11D A n (pth 23) (g11Q A n (pth 31) K) s := by kernel_rfl
theorem g11p31 : g11D A n (pth 31) K s = K .ret s := by kernel_rfl
def g11R4s0 (A : Ar) (x0 : Nat) (x1 x2 : Int) (x3 : LN) (x4 : Int) (x5 : Nat) (x6 : LN) : St := ⟨[(3, u64v (x6.getD (A.toN x2) 0)), (2, i6 x2), (12, u64v (x6.getD (A.toN x2) 0)), (11, (.v (.cell (.ptr 3000 0 (some ⟨A.toN x2, 1, x0, A.toN x2, 0, 1⟩))))), (10, i6 x2), (1, pT 2001 0), (6, sL 3000 none x0 1), (7, i6 x1), (8, i6 x2)], [(2001, ⟨[.nums .u64 88 x3, .one .nils, .one (.int .i64 x4)], 45, 1⟩), (3000, ⟨[.nums .u64 x5 x6], 36, 2⟩)]⟩
theorem g11R4 (x0 : Nat) (x1 x2 : Int) (x3 : LN) (x4 : Int) (x5 : Nat) (x6 : LN) : g11D A n (pth 2251) K ⟨[(1, pT 2001 0), (6, sL 3000 none x0 1), (7, i6 x1), (8, i6 x2)], [(2001, ⟨[.nums .u64 88 x3, .one .nils, .one (.int .i64 x4)], 45, 1⟩), (3000, ⟨[.nums .u64 x5 x6], 36, 2⟩)]⟩ = match A.neg x2 with
    | true => none
    | false => match A.lt (A.toN x2) x0 with
      | true => K .normal (g11R4s0 A x0 x1 x2 x3 x4 x5 x6)
      | false => none := by kernel_rfl
def g11R5s0 (A : Ar) (x0 : Int) (x1 x2 : Nat) (x3 x4 : Int) (x5 : LN) (x6 : Int) (x7 : Nat) (x8 : LN) : St := ⟨[(19, (.v (.cell (.ptr 2001 8 (some ⟨A.toN x0, 1, 80, 0, 0, 0⟩))))), (18, pT 2001 8), (17, pT 2001 0), (16, u64v (g19r0 A x1 true)), (15, u64v x1), (14, i6 x0), (13, pT 2001 0), (1, pT 2001 0), (2, i6 x0), (3, u64v x1), (6, sL 3000 none x2 1), (7, i6 x3), (8, i6 x4)], [(2001, ⟨[.nums .u64 88 (x5.set (8 + (A.toN x0)) (g19r0 A x1 true)), .one .nils, .one (.int .i64 x6)], 45, 1⟩), (3000, ⟨[.nums .u64 x7 x8], 36, 2⟩)]⟩
theorem g11R5 (x0 : Int) (x1 x2 : Nat) (x3 x4 : Int) (x5 : LN) (x6 : Int) (x7 : Nat) (x8 : LN) : g11D A n (pth 5323) K ⟨[(1, pT 2001 0), (2, i6 x0), (3, u64v x1), (6, sL 3000 none x2 1), (7, i6 x3), (8, i6 x4)], [(2001, ⟨[.nums .u64 88 x5, .one .nils, .one (.int .i64 x6)], 45, 1⟩), (3000, ⟨[.nums .u64 x7 x8], 36, 2⟩)]⟩ = match g19ok A x1 true with
    | true => match A.neg x0 with
      | true => none
      | false => match A.lt (A.toN x0) 80 with
        | true => K .normal (g11R5s0 A x0 x1 x2 x3 x4 x5 x6 x7 x8)
        | false => none
    | false => none := by kernel_rfl
def g11R6s0 (A : Ar) (x0 : Int) (x1 x2 : Nat) (x3 x4 : Int) (x5 : LN) (x6 : Int) (x7 : Nat) (x8 : LN) : St := ⟨[(21, bO (A.ic .lss x0 8)), (20, i6 x0), (1, pT 2001 0), (2, i6 x0), (3, u64v x1), (6, sL 3000 none x2 1), (7, i6 x3), (8, i6 x4)], [(2001, ⟨[.nums .u64 88 x5, .one .nils, .one (.int .i64 x6)], 45, 1⟩), (3000, ⟨[.nums .u64 x7 x8], 36, 2⟩)]⟩
theorem g11R6 (x0 : Int) (x1 x2 : Nat) (x3 x4 : Int) (x5 : LN) (x6 : Int) (x7 : Nat) (x8 : LN) : g11D A n (pth 11467) K ⟨[(1, pT 2001 0), (2, i6 x0), (3, u64v x1), (6, sL 3000 none x2 1), (7, i6 x3), (8, i6 x4)], [(2001, ⟨[.nums .u64 88 x5, .one .nils, .one (.int .i64 x6)], 45, 1⟩), (3000, ⟨[.nums .u64 x7 x8], 36, 2⟩)]⟩ = K .normal (g11R6s0 A x0 x1 x2 x3 x4 x5 x6 x7 x8) := by kernel_rfl
def g11R7s0 (A : Ar) (x0 : Int) (x1 x2 : Nat) (x3 x4 : Int) (x5 : LN) (x6 : Int) (x7 : Nat) (x8 : LN) : St := ⟨[(28, (.v (.cell (.ptr 2001 0 (some ⟨A.toN x0, 1, 8, 0, 0, 0⟩))))), (27, pT 2001 0), (26, pT 2001 0), (25, u64v (g19r0 A x1 false)), (24, u64v x1), (23, i6 x0), (22, pT 2001 0), (1, pT 2001 0), (2, i6 x0), (3, u64v x1), (6, sL 3000 none x2 1), (7, i6 x3), (8, i6 x4)], [(2001, ⟨[.nums .u64 88 (x5.set (A.toN x0) (g19r0 A x1 false)), .one .nils, .one (.int .i64 x6)], 45, 1⟩), (3000, ⟨[.nums .u64 x7 x8], 36, 2⟩)]⟩
theorem g11R7 (x0 : Int) (x1 x2 : Nat) (x3 x4 : Int) (x5 : LN) (x6 : Int) (x7 : Nat) (x8 : LN) : g11D A n (pth 23755) K ⟨[(1, pT 2001 0), (2, i6 x0), (3, u64v x1), (6, sL 3000 none x2 1), (7, i6 x3), (8, i6 x4)], [(2001, ⟨[.nums .u64 88 x5, .one .nils, .one (.int .i64 x6)], 45, 1⟩), (3000, ⟨[.nums .u64 x7 x8], 36, 2⟩)]⟩ = match g19ok A x1 false with
    | true => match A.neg x0 with
      | true => none
      | false => match A.lt (A.toN x0) 8 with
        | true => K .normal (g11R7s0 A x0 x1 x2 x3 x4 x5 x6 x7 x8)
        | false => none
    | false => none := by kernel_rfl
def g11R8s0 (A : Ar) (x0 : Nat) (x1 x2 : Int) (x3 : LN) (x4 : Int) (x5 : Nat) (x6 : LN) : St := ⟨[(8, i6 (A.ib .add .i64 x2 1)), (29, i6 (A.ib .add .i64 x2 1)), (1, pT 2001 0), (6, sL 3000 none x0 1), (7, i6 x1), (8, i6 x2)], [(2001, ⟨[.nums .u64 88 x3, .one .nils, .one (.int .i64 x4)], 45, 1⟩), (3000, ⟨[.nums .u64 x5 x6], 36, 2⟩)]⟩
theorem g11R8 (x0 : Nat) (x1 x2 : Int) (x3 : LN) (x4 : Int) (x5 : Nat) (x6 : LN) : g11D A n (pth 971) K ⟨[(1, pT 2001 0), (6, sL 3000 none x0 1), (7, i6 x1), (8, i6 x2)], [(2001, ⟨[.nums .u64 88 x3, .one .nils, .one (.int .i64 x4)], 45, 1⟩), (3000, ⟨[.nums .u64 x5 x6], 36, 2⟩)]⟩ = K .normal (g11R8s0 A x0 x1 x2 x3 x4 x5 x6) := by kernel_rfl
def g11R3s0 (A : Ar) (x0 : Nat) (x1 x2 : Int) (x3 : LN) (x4 : Int) (x5 : Nat) (x6 : LN) : St := ⟨[(9, bO (A.ic .lss x2 x1)), (1, pT 2001 0), (6, sL 3000 none x0 1), (7, i6 x1), (8, i6 x2)], [(2001, ⟨[.nums .u64 88 x3, .one .nils, .one (.int .i64 x4)], 45, 1⟩), (3000, ⟨[.nums .u64 x5 x6], 36, 2⟩)]⟩
theorem g11R3 (x0 : Nat) (x1 x2 : Int) (x3 : LN) (x4 : Int) (x5 : Nat) (x6 : LN) : g11D A n (pth 139) K ⟨[(1, pT 2001 0), (6, sL 3000 none x0 1), (7, i6 x1), (8, i6 x2)], [(2001, ⟨[.nums .u64 88 x3, .one .nils, .one (.int .i64 x4)], 45, 1⟩), (3000, ⟨[.nums .u64 x5 x6], 36, 2⟩)]⟩ = K .normal (g11R3s0 A x0 x1 x2 x3 x4 x5 x6) := by kernel_rfl
def g11R9s0 (A : Ar) (x0 : LN) (x1 : Int) : St := ⟨[(0, pT 2001 0), (30, pT 2001 0), (1, pT 2001 0)], [(2001, ⟨[.nums .u64 88 x0, .one .nils, .one (.int .i64 x1)], 45, 1⟩)]⟩
theorem g11R9 (x0 : LN) (x1 : Int) : g11D A n (pth 23) K ⟨[(1, pT 2001 0)], [(2001, ⟨[.nums .u64 88 x0, .one .nils, .one (.int .i64 x1)], 45, 1⟩)]⟩ = K .normal (g11R9s0 A x0 x1) := by kernel_rfl
def g11R0s0 (A : Ar) : St := ⟨[(0, (.v (.cell .nilp)))], []⟩
theorem g11R0 : g11D A n (pth 2) K ⟨[], []⟩ = K .normal (g11R0s0 A) := by kernel_rfl
def g11R1s0 (A : Ar) : St := ⟨[(1, pT 2001 0), (5, pT 2001 0), (4, (.v (.agg [.nums .u64 88 [0, 0, 0, 0, 0, 0, 0, 0, 0, 0, 0, 0, 0, 0, 0, 0, 0, 0, 0, 0, 0, 0, 0, 0, 0, 0, 0, 0, 0, 0, 0, 0, 0, 0, 0, 0, 0, 0, 0, 0, 0, 0, 0, 0, 0, 0, 0, 0, 0, 0, 0, 0, 0, 0, 0, 0, 0, 0, 0, 0, 0, 0, 0, 0, 0, 0, 0, 0, 0, 0, 0, 0, 0, 0, 0, 0, 0, 0, 0, 0, 0, 0, 0, 0, 0, 0, 0, 0], .one .nils, .one (.int .i64 0)])))], [(2001, ⟨[.nums .u64 88 [0, 0, 0, 0, 0, 0, 0, 0, 0, 0, 0, 0, 0, 0, 0, 0, 0, 0, 0, 0, 0, 0, 0, 0, 0, 0, 0, 0, 0, 0, 0, 0, 0, 0, 0, 0, 0, 0, 0, 0, 0, 0, 0, 0, 0, 0, 0, 0, 0, 0, 0, 0, 0, 0, 0, 0, 0, 0, 0, 0, 0, 0, 0, 0, 0, 0, 0, 0, 0, 0, 0, 0, 0, 0, 0, 0, 0, 0, 0, 0, 0, 0, 0, 0, 0, 0, 0, 0], .one .nils, .one (.int .i64 0)], 45, 1⟩)]⟩
theorem g11R1 : g11D A n (pth 5) K ⟨[], []⟩ = K .normal (g11R1s0 A) := by kernel_rfl
def g11R2s0 (A : Ar) (x0 : LN) (x1 : Int) : St := ⟨[(8, i6 0), (7, i6 (A.ofN (g18r0 A))), (6, sL 3000 none (g18r0 A) 1), (1, pT 2001 0)], [(3000, ⟨[.nums .u64 (g18r1 A) (g18r2 A)], 36, 2⟩), (2001, ⟨[.nums .u64 88 x0, .one .nils, .one (.int .i64 x1)], 45, 1⟩)]⟩
theorem g11R2 (x0 : LN) (x1 : Int) : g11D A n (pth 19) K ⟨[(1, pT 2001 0)], [(2001, ⟨[.nums .u64 88 x0, .one .nils, .one (.int .i64 x1)], 45, 1⟩)]⟩ = match g18ok A with
    | true => K .normal (g11R2s0 A x0 x1)
    | false => none := by kernel_rfl
end
def g11J4 {R : Type} (A : Ar) (n : Nat) (kk : KK R) (lg11L3 : Nat → Int → Int → LN → Int → Nat → LN → Option R) (x0 : Nat) (x1 x2 : Int) (x3 : LN) (x4 : Int) (x5 : Nat) (x6 : LN) : Option R :=
  match A.neg x2 with
  | true => none
  | false => match A.lt (A.toN x2) x0 with
    | true => match g19ok A (x6.getD (A.toN x2) 0) true with
      | true => match A.neg x2 with
        | true => none
        | false => match A.lt (A.toN x2) 80 with
          | true => match A.ic .lss x2 8 with
            | true => match g19ok A (x6.getD (A.toN x2) 0) false with
              | true => match A.neg x2 with
                | true => none
                | false => match A.lt (A.toN x2) 8 with
                  | true => lg11L3 x0 x1 (A.ib .add .i64 x2 1) ((x3.set (8 + (A.toN x2)) (g19r0 A (x6.getD (A.toN x2) 0) true)).set (A.toN x2) (g19r0 A (x6.getD (A.toN x2) 0) false)) x4 x5 x6
                  | false => none
              | false => none
            | false => lg11L3 x0 x1 (A.ib .add .i64 x2 1) (x3.set (8 + (A.toN x2)) (g19r0 A (x6.getD (A.toN x2) 0) true)) x4 x5 x6
          | false => none
      | false => none
    | false => none
abbrev u17 (A : Ar) (x3 : LN) (x2 : Int) (x6 : LN) := x3.set (8 + (A.toN x2)) (g19r0 A (x6.getD (A.toN x2) 0) true)
abbrev u18 (A : Ar) (x3 : LN) (x2 : Int) (x6 : LN) := (u17 A x3 x2 x6).set (A.toN x2) (g19r0 A (x6.getD (A.toN x2) 0) false)
theorem g11J4_eq {R : Type} (A : Ar) (n : Nat) (kk : KK R) (m0 : Nat) (lg11L3 : Nat → Int → Int → LN → Int → Nat → LN → Option R)
    (hg11L3 : ∀ (s : St) (x0 : Nat) (x1 x2 : Int) (x3 : LN) (x4 : Int) (x5 : Nat) (x6 : LN), keep g11an 3 s = ⟨[(1, pT 2001 0), (6, sL 3000 none x0 1), (7, i6 x1), (8, i6 x2)], [(2001, ⟨[.nums .u64 88 x3, .one .nils, .one (.int .i64 x4)], 45, 1⟩), (3000, ⟨[.nums .u64 x5 x6], 36, 2⟩)]⟩ → g11V A n (pth 75) m0 (blockK 0 (g11Q A n (pth 15) (g11T kk))) s = lg11L3 x0 x1 x2 x3 x4 x5 x6) (s : St) (x0 : Nat) (x1 x2 : Int) (x3 : LN) (x4 : Int) (x5 : Nat) (x6 : LN) (h : keep g11an 4 s = ⟨[(1, pT 2001 0), (6, sL 3000 none x0 1), (7, i6 x1), (8, i6 x2)], [(2001, ⟨[.nums .u64 88 x3, .one .nils, .one (.int .i64 x4)], 45, 1⟩), (3000, ⟨[.nums .u64 x5 x6], 36, 2⟩)]⟩) :
    g11D A n (pth 459) (g11W A n (pth 75) m0 (blockK 0 (g11Q A n (pth 15) (g11T kk)))) s = g11J4 A n kk lg11L3 x0 x1 x2 x3 x4 x5 x6 := by
  have h1 := (g11Wn A n _ _ _ _).trans (hg11L3 (g11R8s0 A x0 x1 x2 (u18 A x3 x2 x6) x4 x5 x6) x0 x1 (A.ib .add .i64 x2 1) (u18 A x3 x2 x6) x4 x5 x6 (by kernel_rfl))
  have h2 := (g11F A n _ 8 _ (g11R7s0 A x2 (x6.getD (A.toN x2) 0) x0 x1 x2 (u17 A x3 x2 x6) x4 x5 x6) _ (by kernel_rfl) (by kernel_rfl)).trans (g11R8 A n (g11W A n (pth 75) m0 (blockK 0 (g11Q A n (pth 15) (g11T kk)))) x0 x1 x2 (u18 A x3 x2 x6) x4 x5 x6)
  rw [h1] at h2
  have h3 := (g11Qn A n _ _ _).trans h2
  have h4 := (blockK_n 1 _ _).trans h3
  have h5 := (g11F A n _ 7 _ (g11R6s0 A x2 (x6.getD (A.toN x2) 0) x0 x1 x2 (u17 A x3 x2 x6) x4 x5 x6) _ (by kernel_rfl) (by kernel_rfl)).trans (g11R7 A n (blockK 1 (g11Q A n (pth 971) (g11W A n (pth 75) m0 (blockK 0 (g11Q A n (pth 15) (g11T kk)))))) x2 (x6.getD (A.toN x2) 0) x0 x1 x2 (u17 A x3 x2 x6) x4 x5 x6)
  rw [h4] at h5
  have h6 := (g11Wn A n _ _ _ _).trans (hg11L3 (g11R8s0 A x0 x1 x2 (u17 A x3 x2 x6) x4 x5 x6) x0 x1 (A.ib .add .i64 x2 1) (u17 A x3 x2 x6) x4 x5 x6 (by kernel_rfl))
  have h7 := (g11F A n _ 8 _ (g11R6s0 A x2 (x6.getD (A.toN x2) 0) x0 x1 x2 (u17 A x3 x2 x6) x4 x5 x6) _ (by kernel_rfl) (by kernel_rfl)).trans (g11R8 A n (g11W A n (pth 75) m0 (blockK 0 (g11Q A n (pth 15) (g11T kk)))) x0 x1 x2 (u17 A x3 x2 x6) x4 x5 x6)
  rw [h6] at h7
  have h8 := (g11Qn A n _ _ _).trans h7
  have h9 := (blockK_n 1 _ _).trans h8
  have h10 := (g11p31947 A n _ _).trans h9
  have h11 := g11p15563 A n (blockK 1 (g11Q A n (pth 971) (g11W A n (pth 75) m0 (blockK 0 (g11Q A n (pth 15) (g11T kk)))))) (g11R6s0 A x2 (x6.getD (A.toN x2) 0) x0 x1 x2 (u17 A x3 x2 x6) x4 x5 x6) (A.ic .lss x2 8) (by kernel_rfl)
  rw [h5, h10] at h11
  have h12 := (g11Qn A n _ _ _).trans h11
  have h13 := (g11F A n _ 6 _ (g11R5s0 A x2 (x6.getD (A.toN x2) 0) x0 x1 x2 x3 x4 x5 x6) _ (by kernel_rfl) (by kernel_rfl)).trans (g11R6 A n (g11Q A n (pth 15563) (blockK 1 (g11Q A n (pth 971) (g11W A n (pth 75) m0 (blockK 0 (g11Q A n (pth 15) (g11T kk))))))) x2 (x6.getD (A.toN x2) 0) x0 x1 x2 (u17 A x3 x2 x6) x4 x5 x6)
  rw [h12] at h13
  have h14 := (g11p7371 A n _ _).trans h13
  have h15 := (g11Qn A n _ _ _).trans h14
  have h16 := (g11F A n _ 5 _ (g11R4s0 A x0 x1 x2 x3 x4 x5 x6) _ (by kernel_rfl) (by kernel_rfl)).trans (g11R5 A n (g11Q A n (pth 7371) (blockK 1 (g11Q A n (pth 971) (g11W A n (pth 75) m0 (blockK 0 (g11Q A n (pth 15) (g11T kk))))))) x2 (x6.getD (A.toN x2) 0) x0 x1 x2 x3 x4 x5 x6)
  rw [h15] at h16
  have h17 := (g11p3275 A n _ _).trans h16
  have h18 := (g11Qn A n _ _ _).trans h17
  have h19 := (g11F A n _ 4 _ ⟨[(1, pT 2001 0), (6, sL 3000 none x0 1), (7, i6 x1), (8, i6 x2)], [(2001, ⟨[.nums .u64 88 x3, .one .nils, .one (.int .i64 x4)], 45, 1⟩), (3000, ⟨[.nums .u64 x5 x6], 36, 2⟩)]⟩ _ (by kernel_rfl) (by kernel_rfl)).trans (g11R4 A n (g11Q A n (pth 3275) (blockK 1 (g11Q A n (pth 971) (g11W A n (pth 75) m0 (blockK 0 (g11Q A n (pth 15) (g11T kk))))))) x0 x1 x2 x3 x4 x5 x6)
  rw [h18] at h19
  have h20 := (g11p1227 A n _ _).trans h19
  have h21 := (g11p715 A n _ _).trans h20
  have h22 := (g11p459 A n _ _).trans h21
  exact (g11F A n _ 4 _ _ ⟨[(1, pT 2001 0), (6, sL 3000 none x0 1), (7, i6 x1), (8, i6 x2)], [(2001, ⟨[.nums .u64 88 x3, .one .nils, .one (.int .i64 x4)], 45, 1⟩), (3000, ⟨[.nums .u64 x5 x6], 36, 2⟩)]⟩ (by kernel_rfl) (h.trans (by kernel_rfl))).trans (h22.trans (by kernel_rfl))
def g11L3 {R : Type} (A : Ar) (n : Nat) (kk : KK R) : Nat → Nat → Int → Int → LN → Int → Nat → LN → Option R
  | 0, _, _, _, _, _, _, _ => none
  | m + 1, x0, x1, x2, x3, x4, x5, x6 => match A.ic .lss x2 x1 with
  | true => g11J4 A n kk (g11L3 A n kk m) x0 x1 x2 x3 x4 x5 x6
  | false => kk (pT 2001 0) [(2001, ⟨[.nums .u64 88 x3, .one .nils, .one (.int .i64 x4)], 45, 1⟩)]
theorem g11L3_eq {R : Type} (A : Ar) (n : Nat) (kk : KK R) (m : Nat) (s : St) (x0 : Nat) (x1 x2 : Int) (x3 : LN) (x4 : Int) (x5 : Nat) (x6 : LN) (h : keep g11an 3 s = ⟨[(1, pT 2001 0), (6, sL 3000 none x0 1), (7, i6 x1), (8, i6 x2)], [(2001, ⟨[.nums .u64 88 x3, .one .nils, .one (.int .i64 x4)], 45, 1⟩), (3000, ⟨[.nums .u64 x5 x6], 36, 2⟩)]⟩) :
    g11V A n (pth 75) m (blockK 0 (g11Q A n (pth 15) (g11T kk))) s = g11L3 A n kk m x0 x1 x2 x3 x4 x5 x6 := by
  induction m generalizing s x0 x1 x2 x3 x4 x5 x6 with
  | zero => rfl
  | succ m ih =>
    have h1 := (g11Qn A n _ _ _).trans (g11J4_eq A n kk m (g11L3 A n kk m) ih (g11R3s0 A x0 x1 x2 x3 x4 x5 x6) x0 x1 x2 x3 x4 x5 x6 (by kernel_rfl))
    have h2 := (g11p587 A n _ _).trans h1
    have h3 : (g11T kk) .ret (g11R9s0 A x3 x4) = kk (pT 2001 0) [(2001, ⟨[.nums .u64 88 x3, .one .nils, .one (.int .i64 x4)], 45, 1⟩)] := by kernel_rfl
    have h4 := (g11p31 A n _ _).trans h3
    have h5 := (g11Qn A n _ _ _).trans h4
    have h6 := (g11F A n _ 9 _ (g11R3s0 A x0 x1 x2 x3 x4 x5 x6) _ (by kernel_rfl) (by kernel_rfl)).trans (g11R9 A n (g11Q A n (pth 31) (g11T kk)) x3 x4)
    rw [h5] at h6
    have h7 := (g11p15 A n _ _).trans h6
    have h8 := (g11Qn A n _ _ _).trans h7
    have h9 := (blockK_hit 0 _ _).trans h8
    have h10 := (g11We A n (pth 75) m _ _ _).trans h9
    have h11 := (g11Qe A n (pth 459) _ _ _).trans h10
    have h12 := (g11p843 A n _ _).trans h11
    have h13 := g11p331 A n (g11Q A n (pth 459) (g11W A n (pth 75) m (blockK 0 (g11Q A n (pth 15) (g11T kk))))) (g11R3s0 A x0 x1 x2 x3 x4 x5 x6) (A.ic .lss x2 x1) (by kernel_rfl)
    rw [h2, h12] at h13
    have h14 := (g11p203 A n _ _).trans h13
    have h15 := (g11Qn A n _ _ _).trans h14
    have h16 := (g11F A n _ 3 _ ⟨[(1, pT 2001 0), (6, sL 3000 none x0 1), (7, i6 x1), (8, i6 x2)], [(2001, ⟨[.nums .u64 88 x3, .one .nils, .one (.int .i64 x4)], 45, 1⟩), (3000, ⟨[.nums .u64 x5 x6], 36, 2⟩)]⟩ _ (by kernel_rfl) (by kernel_rfl)).trans (g11R3 A n (g11Q A n (pth 203) (g11W A n (pth 75) m (blockK 0 (g11Q A n (pth 15) (g11T kk))))) x0 x1 x2 x3 x4 x5 x6)
    rw [h15] at h16
    have h17 := (g11p75 A n _ _).trans h16
    exact (loopD_first (s' := ⟨[(1, pT 2001 0), (6, sL 3000 none x0 1), (7, i6 x1), (8, i6 x2)], [(2001, ⟨[.nums .u64 88 x3, .one .nils, .one (.int .i64 x4)], 45, 1⟩), (3000, ⟨[.nums .u64 x5 x6], 36, 2⟩)]⟩) (id := 3) (by kernel_rfl) (h.trans (by kernel_rfl)) _).trans ((g11Vs A n _ m _ _).trans (h17.trans (by kernel_rfl)))
def g11 {R : Type} (A : Ar) (n : Nat) (kk : KK R) : Option R :=
  match g18ok A with
  | true => g11L3 A n kk n (g18r0 A) (A.ofN (g18r0 A)) 0 [0, 0, 0, 0, 0, 0, 0, 0, 0, 0, 0, 0, 0, 0, 0, 0, 0, 0, 0, 0, 0, 0, 0, 0, 0, 0, 0, 0, 0, 0, 0, 0, 0, 0, 0, 0, 0, 0, 0, 0, 0, 0, 0, 0, 0, 0, 0, 0, 0, 0, 0, 0, 0, 0, 0, 0, 0, 0, 0, 0, 0, 0, 0, 0, 0, 0, 0, 0, 0, 0, 0, 0, 0, 0, 0, 0, 0, 0, 0, 0, 0, 0, 0, 0, 0, 0, 0, 0] 0 (g18r1 A) (g18r2 A)
  | false => none
abbrev z88 : LN := [0, 0, 0, 0, 0, 0, 0, 0, 0, 0, 0, 0, 0, 0, 0, 0, 0, 0, 0, 0, 0, 0, 0, 0, 0, 0, 0, 0, 0, 0, 0, 0, 0, 0, 0, 0, 0, 0, 0, 0, 0, 0, 0, 0, 0, 0, 0, 0, 0, 0, 0, 0, 0, 0, 0, 0, 0, 0, 0, 0, 0, 0, 0, 0, 0, 0, 0, 0, 0, 0, 0, 0, 0, 0, 0, 0, 0, 0, 0, 0, 0, 0, 0, 0, 0, 0, 0, 0]
theorem g11_eq {R : Type} (A : Ar) (n : Nat) (kk : KK R) :
    funD A gtys (g11O A) g11an n (bodyOf Try.f11) g11res [] [] kk = g11 A n kk := by
  have h1 := (g11p43 A n _ _).trans (g11L3_eq A n kk n (g11R2s0 A z88 0) (g18r0 A) (A.ofN (g18r0 A)) 0 z88 0 (g18r1 A) (g18r2 A) (by kernel_rfl))
  have h2 := (g11p27 A n _ _).trans h1
  have h3 := (g11Qn A n _ _ _).trans h2
  have h4 := (g11F A n _ 2 _ (g11R1s0 A) _ (by kernel_rfl) (by kernel_rfl)).trans (g11R2 A n (g11Q A n (pth 27) (g11Q A n (pth 15) (g11T kk))) z88 0)
  rw [h3] at h4
  have h5 := (g11p11 A n _ _).trans h4
  have h6 := (g11p7 A n _ _).trans h5
  have h7 := (g11Qn A n _ _ _).trans h6
  have h8 := (g11F A n _ 1 _ (g11R0s0 A) _ (by kernel_rfl) (by kernel_rfl)).trans (g11R1 A n (g11Q A n (pth 7) (g11T kk)) )
  rw [h7] at h8
  have h9 := (g11p3 A n _ _).trans h8
  have h10 := (g11Qn A n _ _ _).trans h9
  have h11 := (g11F A n _ 0 _ ⟨[], []⟩ _ (by kernel_rfl) (by kernel_rfl)).trans (g11R0 A n (g11Q A n (pth 3) (g11T kk)) )
  rw [h10] at h11
  have h12 := (g11p1 A n _ _).trans h11
  exact (show funD A gtys (g11O A) g11an n (bodyOf Try.f11) g11res [] [] kk = g11D A n (pth 1) (g11T kk) ⟨[], []⟩ from by kernel_rfl).trans (h12.trans (by kernel_rfl))
def g11is (o : Option (AV × Heap)) : Bool := match o with
  | some (.v (.cell (.ptr n0 n1 none)), [(n2, ⟨[.nums .u64 n3 _, .one .nils, .one (.int .i64 _)], n4, n5⟩)]) => Nat.beq n0 700 && (Nat.beq n1 0 && (Nat.beq n2 700 && (Nat.beq n3 88 && (Nat.beq n4 45 && (Nat.beq n5 1)))))
  | _ => false
def g11g0 (o : Option (AV × Heap)) : LN := match o with
  | some (.v (.cell (.ptr _ _ none)), [(_, ⟨[.nums .u64 _ x, .one .nils, .one (.int .i64 _)], _, _⟩)]) => x
  | _ => []
def g11g1 (o : Option (AV × Heap)) : Int := match o with
  | some (.v (.cell (.ptr _ _ none)), [(_, ⟨[.nums .u64 _ _, .one .nils, .one (.int .i64 x)], _, _⟩)]) => x
  | _ => 0
theorem g11is_spec {o : Option (AV × Heap)} (h : g11is o = true) : o = some ((pT 700 0), [(700, ⟨[.nums .u64 88 (g11g0 o), .one .nils, .one (.int .i64 (g11g1 o))], 45, 1⟩)]) := by
  unfold g11is at h
  split at h
  · rename_i n0 n1 n2 n3 z4 z5 n4 n5
    simp only [Bool.and_eq_true] at h
    have en0 := beq_true h.1
    subst en0
    replace h := h.2
    have en1 := beq_true h.1
    subst en1
    replace h := h.2
    have en2 := beq_true h.1
    subst en2
    replace h := h.2
    have en3 := beq_true h.1
    subst en3
    replace h := h.2
    have en4 := beq_true h.1
    subst en4
    replace h := h.2
    have en5 := beq_true h
    subst en5
    rfl
  · cases h
def g11v (A : Ar) : Option (AV × Heap) := g11 A (100000) (outH [] none)
def g11ok (A : Ar) : Bool := g11is (g11v A)
def g11r0 (A : Ar) : LN := g11g0 (g11v A)
def g11r1 (A : Ar) : Int := g11g1 (g11v A)
theorem g11ok_spec {A : Ar} (h : g11ok A = true) : g11v A = some ((pT 700 0), [(700, ⟨[.nums .u64 88 (g11r0 A), .one .nils, .one (.int .i64 (g11r1 A))], 45, 1⟩)]) := g11is_spec h
def g11o (A : Ar) (args : List AV) (h : Heap) : Option (Bool × AV × Heap) := match args, h with
  | [], [] => some (g11ok A, (pT 700 0), [(700, ⟨[.nums .u64 88 (g11r0 A), .one .nils, .one (.int .i64 (g11r1 A))], 45, 1⟩)])
  | _, _ => none
theorem g11o_sound : ∀ args h v h', g11o realA args h = some (true, v, h') → FnH Try.prog 11 args h v h' := by
  intro args h v h' hh
  unfold g11o at hh
  split at hh
  · simp only [Option.some.injEq, Prod.mk.injEq] at hh
    obtain ⟨hc, hv, hh⟩ := hh
    subst hv
    subst hh
    exact fnh_of mixed gtysOK g11O_sound g11O_det (an := g11an) (n := 100000) Try.func11 (c := bodyOf Try.f11) rfl (by kernel_rfl) Try.call11 (Nat.le_of_ble_eq_true rfl) (pins := []) (nilr := none) (fun _ => (g11_eq realA (100000) (outH [] none) ).trans (show g11v realA = _ from g11ok_spec hc))
  · cases hh
end Go.Sx
