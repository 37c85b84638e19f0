import Derived.Test.YtaiehobmadflkaaSxR02d
namespace Go.Sx
open Go.Proofs
set_option linter.unusedVariables false
set_option maxRecDepth 100000
theorem SxR02emt {α : Type} {c : Bool} (h : c = true) (a b : α) : (match (generalizing := false) c with | true => a | false => b) = a := by subst h; rfl
theorem SxR02emf {α : Type} {c : Bool} (h : c = false) (a b : α) : (match (generalizing := false) c with | true => a | false => b) = b := by subst h; rfl
section
variable {R : Type} (A : Ar) (n : Nat) (K : Ex → St → Option R) (s : St)
end
def g4O (A : Ar) : Orc := orcN [(11, (1, 1, ⟨[.nums .u8 0 []], 5, 2⟩))] (orcH [(8, g8o A), (10, g10o A)] [(11, ⟨[], none, (g11o A)⟩), (12, ⟨[0, 1], (some (0, 1, 1, ⟨[.nums .u8 0 []], 5, 2⟩)), (hoN [501, 600] (ho2 (g12o A) (g12a_o A)))⟩), (13, ⟨[], none, (hoN [1] (g13o A))⟩), (14, ⟨[], none, (hoN [1] (g14o A))⟩)])
theorem g4O_sound : OSound Try.prog (g4O realA) := orcN_sound <| orcH_sound (fun f g hm args v hv => by
    simp only [List.mem_cons, List.not_mem_nil, or_false, Prod.mk.injEq] at hm
    rcases hm with ⟨rfl, rfl⟩ | ⟨rfl, rfl⟩
    · exact g8o_sound _ _ hv
    · exact g10o_sound _ _ hv) (fun f e hm args h v h' hv => by
    simp only [List.mem_cons, List.not_mem_nil, or_false, Prod.mk.injEq] at hm
    rcases hm with ⟨rfl, rfl⟩ | ⟨rfl, rfl⟩ | ⟨rfl, rfl⟩ | ⟨rfl, rfl⟩
    · exact g11o_sound _ _ _ _ hv
    · exact (hoN_sound (ho2_sound g12o_sound g12a_o_sound)) _ _ _ _ hv
    · exact (hoN_sound g13o_sound) _ _ _ _ hv
    · exact (hoN_sound g14o_sound) _ _ _ _ hv)
theorem g4O_det : ODet (g4O realA) := orcN_det <| orcH_det _ _
def g4an : Ann := [(0, ([0], [0])), (1, ([0], [0])), (2, ([0, 3], [0])), (3, ([], [0])), (4, ([0, 3], [0])), (5, ([0, 3, 4], [0, 5000, 5500])), (6, ([], [])), (7, ([0, 3, 4], [0, 5000, 5500])), (8, ([0, 3, 4, 5], [0, 5000, 5500])), (9, ([0, 3, 4, 5, 6], [0, 5000, 5500])), (10, ([0, 3, 4, 5, 6], [0, 5000, 5500])), (11, ([0, 3, 4, 5, 6], [0, 5000, 5500])), (12, ([0, 3, 4, 5, 6, 7], [0, 5000, 5500])), (13, ([0, 3, 4, 5, 6, 7], [0, 5000, 5500])), (14, ([0, 3, 4, 5, 6], [0, 5000, 5500])), (15, ([], [0])), (16, ([3], [0]))]
def g4res : List ResultVar := [.tmp 2]
abbrev g4t0 (A : Ar) (x7 : LN) (x8 x9 : Nat) (x10 : Int) (x11 : Nat) (x12 : LN) : Int := g14r0 A (g13r1 A x7 x8 x9 x10 x11 x12) (g13r2 A x7 x8 x9 x10 x11 x12) (g13r3 A x7 x8 x9 x10 x11 x12) (g13r4 A x7 x8 x9 x10 x11 x12) (g13r5 A x7 x8 x9 x10 x11 x12) (g13r6 A x7 x8 x9 x10 x11 x12)
abbrev g4t1 (A : Ar) (x7 : LN) (x8 x9 : Nat) (x10 : Int) (x11 : Nat) (x12 : LN) : LN := g14r1 A (g13r1 A x7 x8 x9 x10 x11 x12) (g13r2 A x7 x8 x9 x10 x11 x12) (g13r3 A x7 x8 x9 x10 x11 x12) (g13r4 A x7 x8 x9 x10 x11 x12) (g13r5 A x7 x8 x9 x10 x11 x12) (g13r6 A x7 x8 x9 x10 x11 x12)
abbrev g4t2 (A : Ar) (x7 : LN) (x8 x9 : Nat) (x10 : Int) (x11 : Nat) (x12 : LN) : Nat := g14r2 A (g13r1 A x7 x8 x9 x10 x11 x12) (g13r2 A x7 x8 x9 x10 x11 x12) (g13r3 A x7 x8 x9 x10 x11 x12) (g13r4 A x7 x8 x9 x10 x11 x12) (g13r5 A x7 x8 x9 x10 x11 x12) (g13r6 A x7 x8 x9 x10 x11 x12)
abbrev g4t3 (A : Ar) (x7 : LN) (x8 x9 : Nat) (x10 : Int) (x11 : Nat) (x12 : LN) : Nat := g14r3 A (g13r1 A x7 x8 x9 x10 x11 x12) (g13r2 A x7 x8 x9 x10 x11 x12) (g13r3 A x7 x8 x9 x10 x11 x12) (g13r4 A x7 x8 x9 x10 x11 x12) (g13r5 A x7 x8 x9 x10 x11 x12) (g13r6 A x7 x8 x9 x10 x11 x12)
abbrev g4t4 (A : Ar) (x7 : LN) (x8 x9 : Nat) (x10 : Int) (x11 : Nat) (x12 : LN) : Int := g14r4 A (g13r1 A x7 x8 x9 x10 x11 x12) (g13r2 A x7 x8 x9 x10 x11 x12) (g13r3 A x7 x8 x9 x10 x11 x12) (g13r4 A x7 x8 x9 x10 x11 x12) (g13r5 A x7 x8 x9 x10 x11 x12) (g13r6 A x7 x8 x9 x10 x11 x12)
abbrev g4t5 (A : Ar) (x7 : LN) (x8 x9 : Nat) (x10 : Int) (x11 : Nat) (x12 : LN) : Nat := g14r5 A (g13r1 A x7 x8 x9 x10 x11 x12) (g13r2 A x7 x8 x9 x10 x11 x12) (g13r3 A x7 x8 x9 x10 x11 x12) (g13r4 A x7 x8 x9 x10 x11 x12) (g13r5 A x7 x8 x9 x10 x11 x12) (g13r6 A x7 x8 x9 x10 x11 x12)
abbrev g4t6 (A : Ar) (x7 : LN) (x8 x9 : Nat) (x10 : Int) (x11 : Nat) (x12 : LN) : LN := g14r6 A (g13r1 A x7 x8 x9 x10 x11 x12) (g13r2 A x7 x8 x9 x10 x11 x12) (g13r3 A x7 x8 x9 x10 x11 x12) (g13r4 A x7 x8 x9 x10 x11 x12) (g13r5 A x7 x8 x9 x10 x11 x12) (g13r6 A x7 x8 x9 x10 x11 x12)
abbrev g4S (A : Ar) (x3 : Int) (x6 : List LN) : LN := ((x6.getD (A.toN x3) []).take (A.toN (A.mn (A.ofN ((x6.getD (A.toN x3) []).length)) 200))).drop 0
abbrev g4t7 (A : Ar) (x3 : Int) (x6 : List LN) (x7 : LN) (x8 x9 : Nat) (x10 : Int) (x11 : Nat) (x12 : LN) : LN := g13r0 A (g12r0 A (g4S A x3 x6) x7 x8 x9 x10 x11 x12) (g12r1 A (g4S A x3 x6) x7 x8 x9 x10 x11 x12) (g12r2 A (g4S A x3 x6) x7 x8 x9 x10 x11 x12) (g12r3 A (g4S A x3 x6) x7 x8 x9 x10 x11 x12) (g12r4 A (g4S A x3 x6) x7 x8 x9 x10 x11 x12) (g12r5 A (g4S A x3 x6) x7 x8 x9 x10 x11 x12)
abbrev g4t8 (A : Ar) (x3 : Int) (x6 : List LN) (x7 : LN) (x8 x9 : Nat) (x10 : Int) (x11 : Nat) (x12 : LN) : LN := g13r1 A (g12r0 A (g4S A x3 x6) x7 x8 x9 x10 x11 x12) (g12r1 A (g4S A x3 x6) x7 x8 x9 x10 x11 x12) (g12r2 A (g4S A x3 x6) x7 x8 x9 x10 x11 x12) (g12r3 A (g4S A x3 x6) x7 x8 x9 x10 x11 x12) (g12r4 A (g4S A x3 x6) x7 x8 x9 x10 x11 x12) (g12r5 A (g4S A x3 x6) x7 x8 x9 x10 x11 x12)
abbrev g4t9 (A : Ar) (x3 : Int) (x6 : List LN) (x7 : LN) (x8 x9 : Nat) (x10 : Int) (x11 : Nat) (x12 : LN) : Nat := g13r2 A (g12r0 A (g4S A x3 x6) x7 x8 x9 x10 x11 x12) (g12r1 A (g4S A x3 x6) x7 x8 x9 x10 x11 x12) (g12r2 A (g4S A x3 x6) x7 x8 x9 x10 x11 x12) (g12r3 A (g4S A x3 x6) x7 x8 x9 x10 x11 x12) (g12r4 A (g4S A x3 x6) x7 x8 x9 x10 x11 x12) (g12r5 A (g4S A x3 x6) x7 x8 x9 x10 x11 x12)
abbrev g4t10 (A : Ar) (x3 : Int) (x6 : List LN) (x7 : LN) (x8 x9 : Nat) (x10 : Int) (x11 : Nat) (x12 : LN) : Nat := g13r3 A (g12r0 A (g4S A x3 x6) x7 x8 x9 x10 x11 x12) (g12r1 A (g4S A x3 x6) x7 x8 x9 x10 x11 x12) (g12r2 A (g4S A x3 x6) x7 x8 x9 x10 x11 x12) (g12r3 A (g4S A x3 x6) x7 x8 x9 x10 x11 x12) (g12r4 A (g4S A x3 x6) x7 x8 x9 x10 x11 x12) (g12r5 A (g4S A x3 x6) x7 x8 x9 x10 x11 x12)
abbrev g4t11 (A : Ar) (x3 : Int) (x6 : List LN) (x7 : LN) (x8 x9 : Nat) (x10 : Int) (x11 : Nat) (x12 : LN) : Int := g13r4 A (g12r0 A (g4S A x3 x6) x7 x8 x9 x10 x11 x12) (g12r1 A (g4S A x3 x6) x7 x8 x9 x10 x11 x12) (g12r2 A (g4S A x3 x6) x7 x8 x9 x10 x11 x12) (g12r3 A (g4S A x3 x6) x7 x8 x9 x10 x11 x12) (g12r4 A (g4S A x3 x6) x7 x8 x9 x10 x11 x12) (g12r5 A (g4S A x3 x6) x7 x8 x9 x10 x11 x12)
abbrev g4t12 (A : Ar) (x3 : Int) (x6 : List LN) (x7 : LN) (x8 x9 : Nat) (x10 : Int) (x11 : Nat) (x12 : LN) : Nat := g13r5 A (g12r0 A (g4S A x3 x6) x7 x8 x9 x10 x11 x12) (g12r1 A (g4S A x3 x6) x7 x8 x9 x10 x11 x12) (g12r2 A (g4S A x3 x6) x7 x8 x9 x10 x11 x12) (g12r3 A (g4S A x3 x6) x7 x8 x9 x10 x11 x12) (g12r4 A (g4S A x3 x6) x7 x8 x9 x10 x11 x12) (g12r5 A (g4S A x3 x6) x7 x8 x9 x10 x11 x12)
abbrev g4t13 (A : Ar) (x3 : Int) (x6 : List LN) (x7 : LN) (x8 x9 : Nat) (x10 : Int) (x11 : Nat) (x12 : LN) : LN := g13r6 A (g12r0 A (g4S A x3 x6) x7 x8 x9 x10 x11 x12) (g12r1 A (g4S A x3 x6) x7 x8 x9 x10 x11 x12) (g12r2 A (g4S A x3 x6) x7 x8 x9 x10 x11 x12) (g12r3 A (g4S A x3 x6) x7 x8 x9 x10 x11 x12) (g12r4 A (g4S A x3 x6) x7 x8 x9 x10 x11 x12) (g12r5 A (g4S A x3 x6) x7 x8 x9 x10 x11 x12)
abbrev g4t14 (A : Ar) (x3 : Int) (x6 : List LN) (x7 : LN) (x8 x9 : Nat) (x10 : Int) (x11 : Nat) (x12 : LN) : Int := g14r0 A (g4t8 A x3 x6 x7 x8 x9 x10 x11 x12) (g4t9 A x3 x6 x7 x8 x9 x10 x11 x12) (g4t10 A x3 x6 x7 x8 x9 x10 x11 x12) (g4t11 A x3 x6 x7 x8 x9 x10 x11 x12) (g4t12 A x3 x6 x7 x8 x9 x10 x11 x12) (g4t13 A x3 x6 x7 x8 x9 x10 x11 x12)
abbrev g4t15 (A : Ar) (x3 : Int) (x6 : List LN) (x7 : LN) (x8 x9 : Nat) (x10 : Int) (x11 : Nat) (x12 : LN) : LN := g14r1 A (g4t8 A x3 x6 x7 x8 x9 x10 x11 x12) (g4t9 A x3 x6 x7 x8 x9 x10 x11 x12) (g4t10 A x3 x6 x7 x8 x9 x10 x11 x12) (g4t11 A x3 x6 x7 x8 x9 x10 x11 x12) (g4t12 A x3 x6 x7 x8 x9 x10 x11 x12) (g4t13 A x3 x6 x7 x8 x9 x10 x11 x12)
abbrev g4t16 (A : Ar) (x3 : Int) (x6 : List LN) (x7 : LN) (x8 x9 : Nat) (x10 : Int) (x11 : Nat) (x12 : LN) : Nat := g14r2 A (g4t8 A x3 x6 x7 x8 x9 x10 x11 x12) (g4t9 A x3 x6 x7 x8 x9 x10 x11 x12) (g4t10 A x3 x6 x7 x8 x9 x10 x11 x12) (g4t11 A x3 x6 x7 x8 x9 x10 x11 x12) (g4t12 A x3 x6 x7 x8 x9 x10 x11 x12) (g4t13 A x3 x6 x7 x8 x9 x10 x11 x12)
abbrev g4t17 (A : Ar) (x3 : Int) (x6 : List LN) (x7 : LN) (x8 x9 : Nat) (x10 : Int) (x11 : Nat) (x12 : LN) : Nat := g14r3 A (g4t8 A x3 x6 x7 x8 x9 x10 x11 x12) (g4t9 A x3 x6 x7 x8 x9 x10 x11 x12) (g4t10 A x3 x6 x7 x8 x9 x10 x11 x12) (g4t11 A x3 x6 x7 x8 x9 x10 x11 x12) (g4t12 A x3 x6 x7 x8 x9 x10 x11 x12) (g4t13 A x3 x6 x7 x8 x9 x10 x11 x12)
abbrev g4t18 (A : Ar) (x3 : Int) (x6 : List LN) (x7 : LN) (x8 x9 : Nat) (x10 : Int) (x11 : Nat) (x12 : LN) : Int := g14r4 A (g4t8 A x3 x6 x7 x8 x9 x10 x11 x12) (g4t9 A x3 x6 x7 x8 x9 x10 x11 x12) (g4t10 A x3 x6 x7 x8 x9 x10 x11 x12) (g4t11 A x3 x6 x7 x8 x9 x10 x11 x12) (g4t12 A x3 x6 x7 x8 x9 x10 x11 x12) (g4t13 A x3 x6 x7 x8 x9 x10 x11 x12)
abbrev g4t19 (A : Ar) (x3 : Int) (x6 : List LN) (x7 : LN) (x8 x9 : Nat) (x10 : Int) (x11 : Nat) (x12 : LN) : Nat := g14r5 A (g4t8 A x3 x6 x7 x8 x9 x10 x11 x12) (g4t9 A x3 x6 x7 x8 x9 x10 x11 x12) (g4t10 A x3 x6 x7 x8 x9 x10 x11 x12) (g4t11 A x3 x6 x7 x8 x9 x10 x11 x12) (g4t12 A x3 x6 x7 x8 x9 x10 x11 x12) (g4t13 A x3 x6 x7 x8 x9 x10 x11 x12)
abbrev g4t20 (A : Ar) (x3 : Int) (x6 : List LN) (x7 : LN) (x8 x9 : Nat) (x10 : Int) (x11 : Nat) (x12 : LN) : LN := g14r6 A (g4t8 A x3 x6 x7 x8 x9 x10 x11 x12) (g4t9 A x3 x6 x7 x8 x9 x10 x11 x12) (g4t10 A x3 x6 x7 x8 x9 x10 x11 x12) (g4t11 A x3 x6 x7 x8 x9 x10 x11 x12) (g4t12 A x3 x6 x7 x8 x9 x10 x11 x12) (g4t13 A x3 x6 x7 x8 x9 x10 x11 x12)
abbrev g4t21 (A : Ar) (x3 : Int) (x6 : List LN) (x7 : LN) (x8 : Nat) (x9 : Int) (x10 : Nat) (x11 : LN) : LN := g13r0 A (g12r0 A (g4S A x3 x6) x7 0 x8 x9 x10 x11) (g12r1 A (g4S A x3 x6) x7 0 x8 x9 x10 x11) (g12r2 A (g4S A x3 x6) x7 0 x8 x9 x10 x11) (g12r3 A (g4S A x3 x6) x7 0 x8 x9 x10 x11) (g12r4 A (g4S A x3 x6) x7 0 x8 x9 x10 x11) (g12r5 A (g4S A x3 x6) x7 0 x8 x9 x10 x11)
abbrev g4t22 (A : Ar) (x3 : Int) (x6 : List LN) (x7 : LN) (x8 : Nat) (x9 : Int) (x10 : Nat) (x11 : LN) : LN := g13r1 A (g12r0 A (g4S A x3 x6) x7 0 x8 x9 x10 x11) (g12r1 A (g4S A x3 x6) x7 0 x8 x9 x10 x11) (g12r2 A (g4S A x3 x6) x7 0 x8 x9 x10 x11) (g12r3 A (g4S A x3 x6) x7 0 x8 x9 x10 x11) (g12r4 A (g4S A x3 x6) x7 0 x8 x9 x10 x11) (g12r5 A (g4S A x3 x6) x7 0 x8 x9 x10 x11)
abbrev g4t23 (A : Ar) (x3 : Int) (x6 : List LN) (x7 : LN) (x8 : Nat) (x9 : Int) (x10 : Nat) (x11 : LN) : Nat := g13r2 A (g12r0 A (g4S A x3 x6) x7 0 x8 x9 x10 x11) (g12r1 A (g4S A x3 x6) x7 0 x8 x9 x10 x11) (g12r2 A (g4S A x3 x6) x7 0 x8 x9 x10 x11) (g12r3 A (g4S A x3 x6) x7 0 x8 x9 x10 x11) (g12r4 A (g4S A x3 x6) x7 0 x8 x9 x10 x11) (g12r5 A (g4S A x3 x6) x7 0 x8 x9 x10 x11)
abbrev g4t24 (A : Ar) (x3 : Int) (x6 : List LN) (x7 : LN) (x8 : Nat) (x9 : Int) (x10 : Nat) (x11 : LN) : Nat := g13r3 A (g12r0 A (g4S A x3 x6) x7 0 x8 x9 x10 x11) (g12r1 A (g4S A x3 x6) x7 0 x8 x9 x10 x11) (g12r2 A (g4S A x3 x6) x7 0 x8 x9 x10 x11) (g12r3 A (g4S A x3 x6) x7 0 x8 x9 x10 x11) (g12r4 A (g4S A x3 x6) x7 0 x8 x9 x10 x11) (g12r5 A (g4S A x3 x6) x7 0 x8 x9 x10 x11)
abbrev g4t25 (A : Ar) (x3 : Int) (x6 : List LN) (x7 : LN) (x8 : Nat) (x9 : Int) (x10 : Nat) (x11 : LN) : Int := g13r4 A (g12r0 A (g4S A x3 x6) x7 0 x8 x9 x10 x11) (g12r1 A (g4S A x3 x6) x7 0 x8 x9 x10 x11) (g12r2 A (g4S A x3 x6) x7 0 x8 x9 x10 x11) (g12r3 A (g4S A x3 x6) x7 0 x8 x9 x10 x11) (g12r4 A (g4S A x3 x6) x7 0 x8 x9 x10 x11) (g12r5 A (g4S A x3 x6) x7 0 x8 x9 x10 x11)
abbrev g4t26 (A : Ar) (x3 : Int) (x6 : List LN) (x7 : LN) (x8 : Nat) (x9 : Int) (x10 : Nat) (x11 : LN) : Nat := g13r5 A (g12r0 A (g4S A x3 x6) x7 0 x8 x9 x10 x11) (g12r1 A (g4S A x3 x6) x7 0 x8 x9 x10 x11) (g12r2 A (g4S A x3 x6) x7 0 x8 x9 x10 x11) (g12r3 A (g4S A x3 x6) x7 0 x8 x9 x10 x11) (g12r4 A (g4S A x3 x6) x7 0 x8 x9 x10 x11) (g12r5 A (g4S A x3 x6) x7 0 x8 x9 x10 x11)
abbrev g4t27 (A : Ar) (x3 : Int) (x6 : List LN) (x7 : LN) (x8 : Nat) (x9 : Int) (x10 : Nat) (x11 : LN) : LN := g13r6 A (g12r0 A (g4S A x3 x6) x7 0 x8 x9 x10 x11) (g12r1 A (g4S A x3 x6) x7 0 x8 x9 x10 x11) (g12r2 A (g4S A x3 x6) x7 0 x8 x9 x10 x11) (g12r3 A (g4S A x3 x6) x7 0 x8 x9 x10 x11) (g12r4 A (g4S A x3 x6) x7 0 x8 x9 x10 x11) (g12r5 A (g4S A x3 x6) x7 0 x8 x9 x10 x11)
abbrev g4t28 (A : Ar) (x3 : Int) (x6 : List LN) (x7 : LN) (x8 : Nat) (x9 : Int) (x10 : Nat) (x11 : LN) : Int := g14r0 A (g4t22 A x3 x6 x7 x8 x9 x10 x11) (g4t23 A x3 x6 x7 x8 x9 x10 x11) (g4t24 A x3 x6 x7 x8 x9 x10 x11) (g4t25 A x3 x6 x7 x8 x9 x10 x11) (g4t26 A x3 x6 x7 x8 x9 x10 x11) (g4t27 A x3 x6 x7 x8 x9 x10 x11)
abbrev g4t29 (A : Ar) (x3 : Int) (x6 : List LN) (x7 : LN) (x8 : Nat) (x9 : Int) (x10 : Nat) (x11 : LN) : LN := g14r1 A (g4t22 A x3 x6 x7 x8 x9 x10 x11) (g4t23 A x3 x6 x7 x8 x9 x10 x11) (g4t24 A x3 x6 x7 x8 x9 x10 x11) (g4t25 A x3 x6 x7 x8 x9 x10 x11) (g4t26 A x3 x6 x7 x8 x9 x10 x11) (g4t27 A x3 x6 x7 x8 x9 x10 x11)
abbrev g4t30 (A : Ar) (x3 : Int) (x6 : List LN) (x7 : LN) (x8 : Nat) (x9 : Int) (x10 : Nat) (x11 : LN) : Nat := g14r2 A (g4t22 A x3 x6 x7 x8 x9 x10 x11) (g4t23 A x3 x6 x7 x8 x9 x10 x11) (g4t24 A x3 x6 x7 x8 x9 x10 x11) (g4t25 A x3 x6 x7 x8 x9 x10 x11) (g4t26 A x3 x6 x7 x8 x9 x10 x11) (g4t27 A x3 x6 x7 x8 x9 x10 x11)
abbrev g4t31 (A : Ar) (x3 : Int) (x6 : List LN) (x7 : LN) (x8 : Nat) (x9 : Int) (x10 : Nat) (x11 : LN) : Nat := g14r3 A (g4t22 A x3 x6 x7 x8 x9 x10 x11) (g4t23 A x3 x6 x7 x8 x9 x10 x11) (g4t24 A x3 x6 x7 x8 x9 x10 x11) (g4t25 A x3 x6 x7 x8 x9 x10 x11) (g4t26 A x3 x6 x7 x8 x9 x10 x11) (g4t27 A x3 x6 x7 x8 x9 x10 x11)
abbrev g4t32 (A : Ar) (x3 : Int) (x6 : List LN) (x7 : LN) (x8 : Nat) (x9 : Int) (x10 : Nat) (x11 : LN) : Int := g14r4 A (g4t22 A x3 x6 x7 x8 x9 x10 x11) (g4t23 A x3 x6 x7 x8 x9 x10 x11) (g4t24 A x3 x6 x7 x8 x9 x10 x11) (g4t25 A x3 x6 x7 x8 x9 x10 x11) (g4t26 A x3 x6 x7 x8 x9 x10 x11) (g4t27 A x3 x6 x7 x8 x9 x10 x11)
abbrev g4t33 (A : Ar) (x3 : Int) (x6 : List LN) (x7 : LN) (x8 : Nat) (x9 : Int) (x10 : Nat) (x11 : LN) : Nat := g14r5 A (g4t22 A x3 x6 x7 x8 x9 x10 x11) (g4t23 A x3 x6 x7 x8 x9 x10 x11) (g4t24 A x3 x6 x7 x8 x9 x10 x11) (g4t25 A x3 x6 x7 x8 x9 x10 x11) (g4t26 A x3 x6 x7 x8 x9 x10 x11) (g4t27 A x3 x6 x7 x8 x9 x10 x11)
abbrev g4t34 (A : Ar) (x3 : Int) (x6 : List LN) (x7 : LN) (x8 : Nat) (x9 : Int) (x10 : Nat) (x11 : LN) : LN := g14r6 A (g4t22 A x3 x6 x7 x8 x9 x10 x11) (g4t23 A x3 x6 x7 x8 x9 x10 x11) (g4t24 A x3 x6 x7 x8 x9 x10 x11) (g4t25 A x3 x6 x7 x8 x9 x10 x11) (g4t26 A x3 x6 x7 x8 x9 x10 x11) (g4t27 A x3 x6 x7 x8 x9 x10 x11)
noncomputable def g4D {R : Type} (A : Ar) (n : Nat) (p : List Bool) (K : Ex → St → Option R) (s : St) : Option R := codeD A gtys (g4O A) g4an n (sub (bodyOf Try.f4) p) K s
noncomputable def g4V {R : Type} (A : Ar) (n : Nat) (p : List Bool) (m : Nat) (K : Ex → St → Option R) (s : St) : Option R := loopD (fun K' s'' => codeD A gtys (g4O A) g4an n (sub (bodyOf Try.f4) p) K' s'') m K s
noncomputable def g4Q {R : Type} (A : Ar) (n : Nat) (p : List Bool) (K : Ex → St → Option R) : Ex → St → Option R := seqC (g4D A n p K) K
noncomputable def g4W {R : Type} (A : Ar) (n : Nat) (p : List Bool) (m : Nat) (K : Ex → St → Option R) : Ex → St → Option R := seqC (g4V A n p m K) K
noncomputable def g4T {R : Type} (kk : KK R) : Ex → St → Option R := finD gtys g4res kk
theorem g4Qn {R : Type} (A : Ar) (n : Nat) (p : List Bool) (K : Ex → St → Option R) (s : St) : g4Q A n p K .normal s = g4D A n p K s := rfl
theorem g4Qe {R : Type} (A : Ar) (n : Nat) (p : List Bool) (K : Ex → St → Option R) (i : Nat) (s : St) : g4Q A n p K (.exit i) s = K (.exit i) s := rfl
theorem g4Qr {R : Type} (A : Ar) (n : Nat) (p : List Bool) (K : Ex → St → Option R) (s : St) : g4Q A n p K .ret s = K .ret s := rfl
theorem g4Wn {R : Type} (A : Ar) (n : Nat) (p : List Bool) (m : Nat) (K : Ex → St → Option R) (s : St) : g4W A n p m K .normal s = g4V A n p m K s := rfl
theorem g4We {R : Type} (A : Ar) (n : Nat) (p : List Bool) (m : Nat) (K : Ex → St → Option R) (i : Nat) (s : St) : g4W A n p m K (.exit i) s = K (.exit i) s := rfl
theorem g4Wr {R : Type} (A : Ar) (n : Nat) (p : List Bool) (m : Nat) (K : Ex → St → Option R) (s : St) : g4W A n p m K .ret s = K .ret s := rfl
theorem g4Vs {R : Type} (A : Ar) (n : Nat) (p : List Bool) (m : Nat) (K : Ex → St → Option R) (s : St) : g4V A n p (m + 1) K s = g4D A n p (g4W A n p m K) s := rfl
theorem g4F {R : Type} (A : Ar) (n : Nat) (p : List Bool) (i : Nat) (K : Ex → St → Option R) (s s' : St) (hf : firstReg (sub (bodyOf Try.f4) p) = some i) (h : keep g4an i s = keep g4an i s') : g4D A n p K s = g4D A n p K s' := codeD_first hf h K
section
variable {R : Type} (A : Ar) (n : Nat) (K : Ex → St → Option R) (s : St)
theorem g4p1 : g4D A n (pth 1) K s = g4D A n (pth 2) (g4Q A n (pth 3) K) s := by kernel_rfl
theorem g4p3 : g4D A n (pth 3) K s = g4D A n (pth 5) (g4Q A n (pth 7) K) s := by kernel_rfl
theorem g4p7 : g4D A n (pth 7) K s = g4D A n (pth 11) (g4Q A n (pth 15) K) s := by kernel_rfl
theorem g4p11 : g4D A n (pth 11) K s = g4D A n (pth 19) (g4Q A n (pth 27) K) s := by kernel_rfl
theorem g4p27 (t : Bool) : ev s (.tmp 10) = some (.v (.cell (.bool t))) → g4D A n (pth 27) K s = (match t with
    | true => g4D A n (pth 43) K s
    | false => g4D A n (pth 59) K s) := codeD_cond t
theorem g4p43 : g4D A n (pth 43) K s = g4D A n (pth 75) (g4Q A n (pth 107) K) s := by kernel_rfl
theorem g4p107 : g4D A n (pth 107) K s = K .ret s := by kernel_rfl
theorem g4p59 : g4D A n (pth 59) K s = K .normal s := by kernel_rfl
theorem g4p15 : g4D A n (pth 15) K s = g4D A n (pth 23) (g4Q A n (pth 31) K) s := by kernel_rfl
theorem g4p31 : g4D A n (pth 31) K s = g4D A n (pth 47) (g4Q A n (pth 63) K) s := by kernel_rfl
theorem g4p47 : g4D A n (pth 47) K s = g4D A n (pth 79) (g4Q A n (pth 111) K) s := by kernel_rfl
theorem g4p111 (t : Bool) : ev s (.tmp 13) = some (.v (.cell (.bool t))) → g4D A n (pth 111) K s = (match t with
    | true => g4D A n (pth 175) K s
    | false => g4D A n (pth 239) K s) := codeD_cond t
theorem g4p239 : g4D A n (pth 239) K s = K .normal s := by kernel_rfl
theorem g4p63 : g4D A n (pth 63) K s = g4D A n (pth 95) (g4Q A n (pth 127) K) s := by kernel_rfl
theorem g4p127 : g4D A n (pth 127) K s = g4D A n (pth 191) (g4Q A n (pth 255) K) s := by kernel_rfl
theorem g4p191 : g4D A n (pth 191) K s = g4D A n (pth 319) (g4Q A n (pth 447) K) s := by kernel_rfl
theorem g4p447 : g4D A n (pth 447) K s = g4D A n (pth 703) (blockK 0 K) s := by kernel_rfl
theorem g4p703 : g4D A n (pth 703) K s = g4V A n (pth 1215) n K s := by kernel_rfl
theorem g4p1215 : g4D A n (pth 1215) K s = g4D A n (pth 2239) (g4Q A n (pth 3263) K) s := by kernel_rfl
theorem g4p2239 : g4D A n (pth 2239) K s = g4D A n (pth 4287) (g4Q A n (pth 6335) K) s := by kernel_rfl
theorem g4p6335 (t : Bool) : ev s (.tmp 21) = some (.v (.cell (.bool t))) → g4D A n (pth 6335) K s = (match t with
    | true => g4D A n (pth 10431) K s
    | false => g4D A n (pth 14527) K s) := codeD_cond t
theorem g4p10431 : g4D A n (pth 10431) K s = K .normal s := by kernel_rfl
theorem g4p14527 : g4D A n (pth 14527) K s = K (.exit 0) s := by kernel_rfl
theorem g4p3263 : g4D A n (pth 3263) K s = g4D A n (pth 5311) (g4Q A n (pth 7359) K) s := by kernel_rfl
theorem g4p5311 : g4D A n (pth 5311) K s = g4D A n (pth 9407) (blockK 1 K) s := by kernel_rfl
theorem g4p9407 : g4D A n (pth 9407) K s = g4D A n (pth 17599) (g4Q A n (pth 25791) K) s := by kernel_rfl
theorem g4p25791 : g4D A n (pth 25791) K s = g4D A n (pth 42175) (g4Q A n (pth 58559) K) s := by kernel_rfl
theorem g4p58559 : g4D A n (pth 58559) K s = g4D A n (pth 91327) (g4Q A n (pth 124095) K) s := by kernel_rfl
theorem g4p124095 : g4D A n (pth 124095) K s = g4D A n (pth 189631) (g4Q A n (pth 255167) K) s := by kernel_rfl
theorem g4p255167 (t : Bool) : ev s (.tmp 52) = some (.v (.cell (.bool t))) → g4D A n (pth 255167) K s = (match t with
    | true => g4D A n (pth 386239) K s
    | false => g4D A n (pth 517311) K s) := codeD_cond t
theorem g4p386239 : g4D A n (pth 386239) K s = g4D A n (pth 648383) (g4Q A n (pth 910527) K) s := by kernel_rfl
theorem g4p910527 : g4D A n (pth 910527) K s = K .ret s := by kernel_rfl
theorem g4p517311 : g4D A n (pth 517311) K s = K .normal s := by kernel_rfl
theorem g4p255 : g4D A n (pth 255) K s = g4D A n (pth 383) (g4Q A n (pth 511) K) s := by kernel_rfl
theorem g4p511 : g4D A n (pth 511) K s = K .ret s := by kernel_rfl
def g4R11s0 (A : Ar) (x0 : Nat) (x1 : Bool) (x2 : LN) (x3 : Int) (x4 x5 : Nat) (x6 : List LN) (x7 : LN) (x8 x9 : Nat) (x10 : Int) (x11 : Nat) (x12 : LN) : St := ⟨[(7, tS (g4S A x3 x6)), (34, tS (g4S A x3 x6)), (33, i6 (A.mn (A.ofN ((x6.getD (A.toN x3) []).length)) 200)), (32, i6 (A.ofN ((x6.getD (A.toN x3) []).length))), (31, tS (x6.getD (A.toN x3) [])), (30, (.v (.cell (.ptr 0 0 (some ⟨A.toN x3, 1, x0, A.toN x3, 0, 1⟩))))), (29, i6 x3), (28, sL 0 none x0 1), (27, tS (x6.getD (A.toN x3) [])), (26, (.v (.cell (.ptr 0 0 (some ⟨A.toN x3, 1, x0, A.toN x3, 0, 1⟩))))), (25, i6 x3), (24, sL 0 none x0 1), (0, sL 0 none x0 1), (3, bO x1), (4, pT 5000 0), (5, tS x2), (6, i6 x3)], [(0, ⟨[.strs x5 x6], x4, 0⟩), (5000, bH 5500 x7 (some x8) x9 x10), (5500, bY x11 x12)]⟩
theorem g4R11 (x0 : Nat) (x1 : Bool) (x2 : LN) (x3 : Int) (x4 x5 : Nat) (x6 : List LN) (x7 : LN) (x8 x9 : Nat) (x10 : Int) (x11 : Nat) (x12 : LN) : g4D A n (pth 17599) K ⟨[(0, sL 0 none x0 1), (3, bO x1), (4, pT 5000 0), (5, tS x2), (6, i6 x3)], [(0, ⟨[.strs x5 x6], x4, 0⟩), (5000, bH 5500 x7 (some x8) x9 x10), (5500, bY x11 x12)]⟩ = match A.neg x3 with
    | true => none
    | false => match A.lt (A.toN x3) x0 with
      | true => match A.neg x3 with
        | true => none
        | false => match A.lt (A.toN x3) x0 with
          | true => match A.neg (A.mn (A.ofN ((x6.getD (A.toN x3) []).length)) 200) with
            | true => none
            | false => match A.le (A.toN (A.mn (A.ofN ((x6.getD (A.toN x3) []).length)) 200)) ((x6.getD (A.toN x3) []).length) with
              | true => K .normal (g4R11s0 A x0 x1 x2 x3 x4 x5 x6 x7 x8 x9 x10 x11 x12)
              | false => none
          | false => none
      | false => none := by kernel_rfl
def g4R12s0 (A : Ar) (x0 : Nat) (x1 : Bool) (x2 : LN) (x3 : Int) (x4 : LN) (x5 x6 : Nat) (x7 : List LN) (x8 : LN) (x9 x10 : Nat) (x11 : Int) (x12 : Nat) (x13 : LN) : St := ⟨[(37, (.tup [])), (36, tS x4), (35, pT 5000 0), (0, sL 0 none x0 1), (3, bO x1), (4, pT 5000 0), (5, tS x2), (6, i6 x3), (7, tS x4)], [(0, ⟨[.strs x6 x7], x5, 0⟩), (5000, bH 5500 (g12r0 A x4 x8 x9 x10 x11 x12 x13) (some (g12r1 A x4 x8 x9 x10 x11 x12 x13)) (g12r2 A x4 x8 x9 x10 x11 x12 x13) (g12r3 A x4 x8 x9 x10 x11 x12 x13)), (5500, bY (g12r4 A x4 x8 x9 x10 x11 x12 x13) (g12r5 A x4 x8 x9 x10 x11 x12 x13))]⟩
theorem g4R12 (x0 : Nat) (x1 : Bool) (x2 : LN) (x3 : Int) (x4 : LN) (x5 x6 : Nat) (x7 : List LN) (x8 : LN) (x9 x10 : Nat) (x11 : Int) (x12 : Nat) (x13 : LN) : g4D A n (pth 42175) K ⟨[(0, sL 0 none x0 1), (3, bO x1), (4, pT 5000 0), (5, tS x2), (6, i6 x3), (7, tS x4)], [(0, ⟨[.strs x6 x7], x5, 0⟩), (5000, bH 5500 x8 (some x9) x10 x11), (5500, bY x12 x13)]⟩ = match g12ok A x4 x8 x9 x10 x11 x12 x13 with
    | true => K .normal (g4R12s0 A x0 x1 x2 x3 x4 x5 x6 x7 x8 x9 x10 x11 x12 x13)
    | false => none := by kernel_rfl
def g4R13s0 (A : Ar) (x0 : Nat) (x1 : Bool) (x2 : LN) (x3 : Int) (x4 : LN) (x5 x6 : Nat) (x7 : List LN) (x8 : LN) (x9 x10 : Nat) (x11 : Int) (x12 : Nat) (x13 : LN) : St := ⟨[(5, tS (x2 ++ x4)), (40, tS (x2 ++ x4)), (39, tS x4), (38, tS x2), (0, sL 0 none x0 1), (3, bO x1), (4, pT 5000 0), (5, tS x2), (6, i6 x3), (7, tS x4)], [(0, ⟨[.strs x6 x7], x5, 0⟩), (5000, bH 5500 x8 (some x9) x10 x11), (5500, bY x12 x13)]⟩
theorem g4R13 (x0 : Nat) (x1 : Bool) (x2 : LN) (x3 : Int) (x4 : LN) (x5 x6 : Nat) (x7 : List LN) (x8 : LN) (x9 x10 : Nat) (x11 : Int) (x12 : Nat) (x13 : LN) : g4D A n (pth 91327) K ⟨[(0, sL 0 none x0 1), (3, bO x1), (4, pT 5000 0), (5, tS x2), (6, i6 x3), (7, tS x4)], [(0, ⟨[.strs x6 x7], x5, 0⟩), (5000, bH 5500 x8 (some x9) x10 x11), (5500, bY x12 x13)]⟩ = match A.le (x2.length + x4.length) 9223372036854775807 with
    | true => K .normal (g4R13s0 A x0 x1 x2 x3 x4 x5 x6 x7 x8 x9 x10 x11 x12 x13)
    | false => none := by kernel_rfl
def g4R14s0 (A : Ar) (x0 : Nat) (x1 : Bool) (x2 : LN) (x3 : Int) (x4 x5 : Nat) (x6 : List LN) (x7 : LN) (x8 x9 : Nat) (x10 : Int) (x11 : Nat) (x12 : LN) : St := ⟨[(52, bO true), (51, uN), (50, uN), (49, uN), (48, uN), (47, uN), (46, bO true), (45, bO (A.sc .neq (g13r0 A x7 x8 x9 x10 x11 x12) (g10r0 A x2))), (44, tS (g10r0 A x2)), (43, tS x2), (42, tS (g13r0 A x7 x8 x9 x10 x11 x12)), (41, pT 5000 0), (0, sL 0 none x0 1), (3, bO x1), (4, pT 5000 0), (5, tS x2), (6, i6 x3)], [(0, ⟨[.strs x5 x6], x4, 0⟩), (5000, bH 5500 (g13r1 A x7 x8 x9 x10 x11 x12) (some (g13r2 A x7 x8 x9 x10 x11 x12)) (g13r3 A x7 x8 x9 x10 x11 x12) (g13r4 A x7 x8 x9 x10 x11 x12)), (5500, bY (g13r5 A x7 x8 x9 x10 x11 x12) (g13r6 A x7 x8 x9 x10 x11 x12))]⟩
def g4R14s1 (A : Ar) (x0 : Nat) (x1 : Bool) (x2 : LN) (x3 : Int) (x4 x5 : Nat) (x6 : List LN) (x7 : LN) (x8 x9 : Nat) (x10 : Int) (x11 : Nat) (x12 : LN) : St := ⟨[(52, bO (A.ic .neq (g4t0 A x7 x8 x9 x10 x11 x12) (A.ofN x2.length))), (51, bO (A.ic .neq (g4t0 A x7 x8 x9 x10 x11 x12) (A.ofN x2.length))), (50, i6 (A.ofN x2.length)), (49, tS x2), (48, i6 (g4t0 A x7 x8 x9 x10 x11 x12)), (47, pT 5000 0), (46, bO false), (45, bO (A.sc .neq (g13r0 A x7 x8 x9 x10 x11 x12) (g10r0 A x2))), (44, tS (g10r0 A x2)), (43, tS x2), (42, tS (g13r0 A x7 x8 x9 x10 x11 x12)), (41, pT 5000 0), (0, sL 0 none x0 1), (3, bO x1), (4, pT 5000 0), (5, tS x2), (6, i6 x3)], [(0, ⟨[.strs x5 x6], x4, 0⟩), (5000, bH 5500 (g4t1 A x7 x8 x9 x10 x11 x12) (some (g4t2 A x7 x8 x9 x10 x11 x12)) (g4t3 A x7 x8 x9 x10 x11 x12) (g4t4 A x7 x8 x9 x10 x11 x12)), (5500, bY (g4t5 A x7 x8 x9 x10 x11 x12) (g4t6 A x7 x8 x9 x10 x11 x12))]⟩
theorem g4R14 (x0 : Nat) (x1 : Bool) (x2 : LN) (x3 : Int) (x4 x5 : Nat) (x6 : List LN) (x7 : LN) (x8 x9 : Nat) (x10 : Int) (x11 : Nat) (x12 : LN) : g4D A n (pth 189631) K ⟨[(0, sL 0 none x0 1), (3, bO x1), (4, pT 5000 0), (5, tS x2), (6, i6 x3)], [(0, ⟨[.strs x5 x6], x4, 0⟩), (5000, bH 5500 x7 (some x8) x9 x10), (5500, bY x11 x12)]⟩ = match g13ok A x7 x8 x9 x10 x11 x12 with
    | true => match g10ok A x2 with
      | true => match A.sc .neq (g13r0 A x7 x8 x9 x10 x11 x12) (g10r0 A x2) with
        | true => K .normal (g4R14s0 A x0 x1 x2 x3 x4 x5 x6 x7 x8 x9 x10 x11 x12)
        | false => match g14ok A (g13r1 A x7 x8 x9 x10 x11 x12) (g13r2 A x7 x8 x9 x10 x11 x12) (g13r3 A x7 x8 x9 x10 x11 x12) (g13r4 A x7 x8 x9 x10 x11 x12) (g13r5 A x7 x8 x9 x10 x11 x12) (g13r6 A x7 x8 x9 x10 x11 x12) with
          | true => K .normal (g4R14s1 A x0 x1 x2 x3 x4 x5 x6 x7 x8 x9 x10 x11 x12)
          | false => none
      | false => none
    | false => none := by kernel_rfl
def g4R15s0 (A : Ar) (x0 x1 : Nat) (x2 : List LN) : St := ⟨[(2, bO false)], [(0, ⟨[.strs x1 x2], x0, 0⟩)]⟩
theorem g4R15 (x0 x1 : Nat) (x2 : List LN) : g4D A n (pth 648383) K ⟨[], [(0, ⟨[.strs x1 x2], x0, 0⟩)]⟩ = K .normal (g4R15s0 A x0 x1 x2) := by kernel_rfl
def g4R10s0 (A : Ar) (x0 : Nat) (x1 : Bool) (x2 : LN) (x3 : Int) (x4 x5 : Nat) (x6 : List LN) (x7 : LN) (x8 x9 : Nat) (x10 : Int) (x11 : Nat) (x12 : LN) : St := ⟨[(6, i6 (A.ib .add .i64 x3 1)), (23, i6 (A.ib .add .i64 x3 1)), (22, i6 x3), (0, sL 0 none x0 1), (3, bO x1), (4, pT 5000 0), (5, tS x2), (6, i6 x3)], [(0, ⟨[.strs x5 x6], x4, 0⟩), (5000, bH 5500 x7 (some x8) x9 x10), (5500, bY x11 x12)]⟩
theorem g4R10 (x0 : Nat) (x1 : Bool) (x2 : LN) (x3 : Int) (x4 x5 : Nat) (x6 : List LN) (x7 : LN) (x8 x9 : Nat) (x10 : Int) (x11 : Nat) (x12 : LN) : g4D A n (pth 7359) K ⟨[(0, sL 0 none x0 1), (3, bO x1), (4, pT 5000 0), (5, tS x2), (6, i6 x3)], [(0, ⟨[.strs x5 x6], x4, 0⟩), (5000, bH 5500 x7 (some x8) x9 x10), (5500, bY x11 x12)]⟩ = K .normal (g4R10s0 A x0 x1 x2 x3 x4 x5 x6 x7 x8 x9 x10 x11 x12) := by kernel_rfl
def g4R9s0 (A : Ar) (x0 : Nat) (x1 : Bool) (x2 : LN) (x3 : Int) (x4 x5 : Nat) (x6 : List LN) (x7 : LN) (x8 x9 : Nat) (x10 : Int) (x11 : Nat) (x12 : LN) : St := ⟨[(21, bO (A.ic .lss x3 10)), (20, bO (A.ic .lss x3 10)), (19, i6 x3), (18, bO true), (17, bO (A.ic .lss x3 (A.ofN x0))), (16, i6 (A.ofN x0)), (15, sL 0 none x0 1), (14, i6 x3), (0, sL 0 none x0 1), (3, bO x1), (4, pT 5000 0), (5, tS x2), (6, i6 x3)], [(0, ⟨[.strs x5 x6], x4, 0⟩), (5000, bH 5500 x7 (some x8) x9 x10), (5500, bY x11 x12)]⟩
def g4R9s1 (A : Ar) (x0 : Nat) (x1 : Bool) (x2 : LN) (x3 : Int) (x4 x5 : Nat) (x6 : List LN) (x7 : LN) (x8 x9 : Nat) (x10 : Int) (x11 : Nat) (x12 : LN) : St := ⟨[(21, bO false), (20, uN), (19, uN), (18, bO false), (17, bO (A.ic .lss x3 (A.ofN x0))), (16, i6 (A.ofN x0)), (15, sL 0 none x0 1), (14, i6 x3), (0, sL 0 none x0 1), (3, bO x1), (4, pT 5000 0), (5, tS x2), (6, i6 x3)], [(0, ⟨[.strs x5 x6], x4, 0⟩), (5000, bH 5500 x7 (some x8) x9 x10), (5500, bY x11 x12)]⟩
theorem g4R9 (x0 : Nat) (x1 : Bool) (x2 : LN) (x3 : Int) (x4 x5 : Nat) (x6 : List LN) (x7 : LN) (x8 x9 : Nat) (x10 : Int) (x11 : Nat) (x12 : LN) : g4D A n (pth 4287) K ⟨[(0, sL 0 none x0 1), (3, bO x1), (4, pT 5000 0), (5, tS x2), (6, i6 x3)], [(0, ⟨[.strs x5 x6], x4, 0⟩), (5000, bH 5500 x7 (some x8) x9 x10), (5500, bY x11 x12)]⟩ = match A.ic .lss x3 (A.ofN x0) with
    | true => K .normal (g4R9s0 A x0 x1 x2 x3 x4 x5 x6 x7 x8 x9 x10 x11 x12)
    | false => K .normal (g4R9s1 A x0 x1 x2 x3 x4 x5 x6 x7 x8 x9 x10 x11 x12) := by kernel_rfl
def g4R16s0 (A : Ar) (x0 : Bool) (x1 x2 : Nat) (x3 : List LN) : St := ⟨[(2, bO x0), (53, bO x0), (3, bO x0)], [(0, ⟨[.strs x2 x3], x1, 0⟩)]⟩
theorem g4R16 (x0 : Bool) (x1 x2 : Nat) (x3 : List LN) : g4D A n (pth 383) K ⟨[(3, bO x0)], [(0, ⟨[.strs x2 x3], x1, 0⟩)]⟩ = K .normal (g4R16s0 A x0 x1 x2 x3) := by kernel_rfl
def g4R11as0 (A : Ar) (x0 : Nat) (x1 : Bool) (x2 : LN) (x3 : Int) (x4 x5 : Nat) (x6 : List LN) (x7 : LN) (x8 : Nat) (x9 : Int) (x10 : Nat) (x11 : LN) : St := ⟨[(7, tS (g4S A x3 x6)), (34, tS (g4S A x3 x6)), (33, i6 (A.mn (A.ofN ((x6.getD (A.toN x3) []).length)) 200)), (32, i6 (A.ofN ((x6.getD (A.toN x3) []).length))), (31, tS (x6.getD (A.toN x3) [])), (30, (.v (.cell (.ptr 0 0 (some ⟨A.toN x3, 1, x0, A.toN x3, 0, 1⟩))))), (29, i6 x3), (28, sL 0 none x0 1), (27, tS (x6.getD (A.toN x3) [])), (26, (.v (.cell (.ptr 0 0 (some ⟨A.toN x3, 1, x0, A.toN x3, 0, 1⟩))))), (25, i6 x3), (24, sL 0 none x0 1), (0, sL 0 none x0 1), (3, bO x1), (4, pT 5000 0), (5, tS x2), (6, i6 x3)], [(0, ⟨[.strs x5 x6], x4, 0⟩), (5000, bH 5500 x7 none x8 x9), (5500, bY x10 x11)]⟩
end
theorem g4R11a {R : Type} (A : Ar) (n : Nat) (K : Ex → St → Option R) (x0 : Nat) (x1 : Bool) (x2 : LN) (x3 : Int) (x4 x5 : Nat) (x6 : List LN) (x7 : LN) (x8 : Nat) (x9 : Int) (x10 : Nat) (x11 : LN) : g4D A n (pth 17599) K ⟨[(0, sL 0 none x0 1), (3, bO x1), (4, pT 5000 0), (5, tS x2), (6, i6 x3)], [(0, ⟨[.strs x5 x6], x4, 0⟩), (5000, bH 5500 x7 none x8 x9), (5500, bY x10 x11)]⟩ = match A.neg x3 with
    | true => none
    | false => match A.lt (A.toN x3) x0 with
      | true => match A.neg x3 with
        | true => none
        | false => match A.lt (A.toN x3) x0 with
          | true => match A.neg (A.mn (A.ofN ((x6.getD (A.toN x3) []).length)) 200) with
            | true => none
            | false => match A.le (A.toN (A.mn (A.ofN ((x6.getD (A.toN x3) []).length)) 200)) ((x6.getD (A.toN x3) []).length) with
              | true => K .normal (g4R11as0 A x0 x1 x2 x3 x4 x5 x6 x7 x8 x9 x10 x11)
              | false => none
          | false => none
      | false => none := by kernel_rfl
def g4R12as0 (A : Ar) (x0 : Nat) (x1 : Bool) (x2 : LN) (x3 : Int) (x4 : LN) (x5 x6 : Nat) (x7 : List LN) (x8 : LN) (x9 : Nat) (x10 : Int) (x11 : Nat) (x12 : LN) : St := ⟨[(37, (.tup [])), (36, tS x4), (35, pT 5000 0), (0, sL 0 none x0 1), (3, bO x1), (4, pT 5000 0), (5, tS x2), (6, i6 x3), (7, tS x4)], [(0, ⟨[.strs x6 x7], x5, 0⟩), (5000, bH 5500 (g12r0 A x4 x8 0 x9 x10 x11 x12) (some (g12r1 A x4 x8 0 x9 x10 x11 x12)) (g12r2 A x4 x8 0 x9 x10 x11 x12) (g12r3 A x4 x8 0 x9 x10 x11 x12)), (5500, bY (g12r4 A x4 x8 0 x9 x10 x11 x12) (g12r5 A x4 x8 0 x9 x10 x11 x12))]⟩
theorem g4R12a {R : Type} (A : Ar) (n : Nat) (K : Ex → St → Option R) (x0 : Nat) (x1 : Bool) (x2 : LN) (x3 : Int) (x4 : LN) (x5 x6 : Nat) (x7 : List LN) (x8 : LN) (x9 : Nat) (x10 : Int) (x11 : Nat) (x12 : LN) : g4D A n (pth 42175) K ⟨[(0, sL 0 none x0 1), (3, bO x1), (4, pT 5000 0), (5, tS x2), (6, i6 x3), (7, tS x4)], [(0, ⟨[.strs x6 x7], x5, 0⟩), (5000, bH 5500 x8 none x9 x10), (5500, bY x11 x12)]⟩ = match g12ok A x4 x8 0 x9 x10 x11 x12 with
    | true => K .normal (g4R12as0 A x0 x1 x2 x3 x4 x5 x6 x7 x8 x9 x10 x11 x12)
    | false => none := by kernel_rfl
def g4R9as0 (A : Ar) (x0 : Nat) (x1 : Bool) (x2 : LN) (x3 : Int) (x4 x5 : Nat) (x6 : List LN) (x7 : LN) (x8 : Nat) (x9 : Int) (x10 : Nat) (x11 : LN) : St := ⟨[(21, bO (A.ic .lss x3 10)), (20, bO (A.ic .lss x3 10)), (19, i6 x3), (18, bO true), (17, bO (A.ic .lss x3 (A.ofN x0))), (16, i6 (A.ofN x0)), (15, sL 0 none x0 1), (14, i6 x3), (0, sL 0 none x0 1), (3, bO x1), (4, pT 5000 0), (5, tS x2), (6, i6 x3)], [(0, ⟨[.strs x5 x6], x4, 0⟩), (5000, bH 5500 x7 none x8 x9), (5500, bY x10 x11)]⟩
def g4R9as1 (A : Ar) (x0 : Nat) (x1 : Bool) (x2 : LN) (x3 : Int) (x4 x5 : Nat) (x6 : List LN) (x7 : LN) (x8 : Nat) (x9 : Int) (x10 : Nat) (x11 : LN) : St := ⟨[(21, bO false), (20, uN), (19, uN), (18, bO false), (17, bO (A.ic .lss x3 (A.ofN x0))), (16, i6 (A.ofN x0)), (15, sL 0 none x0 1), (14, i6 x3), (0, sL 0 none x0 1), (3, bO x1), (4, pT 5000 0), (5, tS x2), (6, i6 x3)], [(0, ⟨[.strs x5 x6], x4, 0⟩), (5000, bH 5500 x7 none x8 x9), (5500, bY x10 x11)]⟩
theorem g4R9a {R : Type} (A : Ar) (n : Nat) (K : Ex → St → Option R) (x0 : Nat) (x1 : Bool) (x2 : LN) (x3 : Int) (x4 x5 : Nat) (x6 : List LN) (x7 : LN) (x8 : Nat) (x9 : Int) (x10 : Nat) (x11 : LN) : g4D A n (pth 4287) K ⟨[(0, sL 0 none x0 1), (3, bO x1), (4, pT 5000 0), (5, tS x2), (6, i6 x3)], [(0, ⟨[.strs x5 x6], x4, 0⟩), (5000, bH 5500 x7 none x8 x9), (5500, bY x10 x11)]⟩ = match A.ic .lss x3 (A.ofN x0) with
    | true => K .normal (g4R9as0 A x0 x1 x2 x3 x4 x5 x6 x7 x8 x9 x10 x11)
    | false => K .normal (g4R9as1 A x0 x1 x2 x3 x4 x5 x6 x7 x8 x9 x10 x11) := by kernel_rfl
def g4R7s0 (A : Ar) (x0 : Nat) (x1 : Bool) (x2 x3 : Nat) (x4 : List LN) (x5 : LN) (x6 : Nat) (x7 : Int) (x8 : Nat) (x9 : LN) : St := ⟨[(5, tS []), (0, sL 0 none x0 1), (3, bO x1), (4, pT 5000 0)], [(0, ⟨[.strs x3 x4], x2, 0⟩), (5000, bH 5500 x5 none x6 x7), (5500, bY x8 x9)]⟩
theorem g4R7 {R : Type} (A : Ar) (n : Nat) (K : Ex → St → Option R) (x0 : Nat) (x1 : Bool) (x2 x3 : Nat) (x4 : List LN) (x5 : LN) (x6 : Nat) (x7 : Int) (x8 : Nat) (x9 : LN) : g4D A n (pth 95) K ⟨[(0, sL 0 none x0 1), (3, bO x1), (4, pT 5000 0)], [(0, ⟨[.strs x3 x4], x2, 0⟩), (5000, bH 5500 x5 none x6 x7), (5500, bY x8 x9)]⟩ = K .normal (g4R7s0 A x0 x1 x2 x3 x4 x5 x6 x7 x8 x9) := by kernel_rfl
def g4R8s0 (A : Ar) (x0 : Nat) (x1 : Bool) (x2 : LN) (x3 x4 : Nat) (x5 : List LN) (x6 : LN) (x7 : Nat) (x8 : Int) (x9 : Nat) (x10 : LN) : St := ⟨[(6, i6 0), (0, sL 0 none x0 1), (3, bO x1), (4, pT 5000 0), (5, tS x2)], [(0, ⟨[.strs x4 x5], x3, 0⟩), (5000, bH 5500 x6 none x7 x8), (5500, bY x9 x10)]⟩
theorem g4R8 {R : Type} (A : Ar) (n : Nat) (K : Ex → St → Option R) (x0 : Nat) (x1 : Bool) (x2 : LN) (x3 x4 : Nat) (x5 : List LN) (x6 : LN) (x7 : Nat) (x8 : Int) (x9 : Nat) (x10 : LN) : g4D A n (pth 319) K ⟨[(0, sL 0 none x0 1), (3, bO x1), (4, pT 5000 0), (5, tS x2)], [(0, ⟨[.strs x4 x5], x3, 0⟩), (5000, bH 5500 x6 none x7 x8), (5500, bY x9 x10)]⟩ = K .normal (g4R8s0 A x0 x1 x2 x3 x4 x5 x6 x7 x8 x9 x10) := by kernel_rfl
def g4R4s0 (A : Ar) (x0 : Nat) (x1 : Bool) (x2 x3 : Nat) (x4 : List LN) : St := ⟨[(4, pT 5000 0), (11, pT 5000 0), (0, sL 0 none x0 1), (3, bO x1)], [(5500, bY 0 []), (5000, bH 5500 (g11r0 A) none 0 (g11r1 A)), (0, ⟨[.strs x3 x4], x2, 0⟩)]⟩
theorem g4R4 {R : Type} (A : Ar) (n : Nat) (K : Ex → St → Option R) (x0 : Nat) (x1 : Bool) (x2 x3 : Nat) (x4 : List LN) : g4D A n (pth 23) K ⟨[(0, sL 0 none x0 1), (3, bO x1)], [(0, ⟨[.strs x3 x4], x2, 0⟩)]⟩ = match g11ok A with
    | true => K .normal (g4R4s0 A x0 x1 x2 x3 x4)
    | false => none := by kernel_rfl
def g4R5s0 (A : Ar) (x0 : Nat) (x1 : Bool) (x2 x3 : Nat) (x4 : List LN) (x5 : LN) (x6 : Nat) (x7 : Int) (x8 : Nat) (x9 : LN) : St := ⟨[(13, bO false), (12, pT 5000 0), (0, sL 0 none x0 1), (3, bO x1), (4, pT 5000 0)], [(0, ⟨[.strs x3 x4], x2, 0⟩), (5000, bH 5500 x5 none x6 x7), (5500, bY x8 x9)]⟩
theorem g4R5 {R : Type} (A : Ar) (n : Nat) (K : Ex → St → Option R) (x0 : Nat) (x1 : Bool) (x2 x3 : Nat) (x4 : List LN) (x5 : LN) (x6 : Nat) (x7 : Int) (x8 : Nat) (x9 : LN) : g4D A n (pth 79) K ⟨[(0, sL 0 none x0 1), (3, bO x1), (4, pT 5000 0)], [(0, ⟨[.strs x3 x4], x2, 0⟩), (5000, bH 5500 x5 none x6 x7), (5500, bY x8 x9)]⟩ = K .normal (g4R5s0 A x0 x1 x2 x3 x4 x5 x6 x7 x8 x9) := by kernel_rfl
def g4R0s0 (A : Ar) (x0 x1 x2 : Nat) (x3 : List LN) : St := ⟨[(2, bO false), (0, sL 0 none x0 1)], [(0, ⟨[.strs x2 x3], x1, 0⟩)]⟩
theorem g4R0 {R : Type} (A : Ar) (n : Nat) (K : Ex → St → Option R) (x0 x1 x2 : Nat) (x3 : List LN) : g4D A n (pth 2) K ⟨[(0, sL 0 none x0 1)], [(0, ⟨[.strs x2 x3], x1, 0⟩)]⟩ = K .normal (g4R0s0 A x0 x1 x2 x3) := by kernel_rfl
def g4R1s0 (A : Ar) (x0 x1 x2 : Nat) (x3 : List LN) : St := ⟨[(3, bO (g8r0 A)), (8, bO (g8r0 A)), (0, sL 0 none x0 1)], [(0, ⟨[.strs x2 x3], x1, 0⟩)]⟩
theorem g4R1 {R : Type} (A : Ar) (n : Nat) (K : Ex → St → Option R) (x0 x1 x2 : Nat) (x3 : List LN) : g4D A n (pth 5) K ⟨[(0, sL 0 none x0 1)], [(0, ⟨[.strs x2 x3], x1, 0⟩)]⟩ = match g8ok A with
    | true => K .normal (g4R1s0 A x0 x1 x2 x3)
    | false => none := by kernel_rfl
def g4R2s0 (A : Ar) (x0 : Nat) (x1 : Bool) (x2 x3 : Nat) (x4 : List LN) : St := ⟨[(10, bO (!x1)), (9, bO x1), (0, sL 0 none x0 1), (3, bO x1)], [(0, ⟨[.strs x3 x4], x2, 0⟩)]⟩
theorem g4R2 {R : Type} (A : Ar) (n : Nat) (K : Ex → St → Option R) (x0 : Nat) (x1 : Bool) (x2 x3 : Nat) (x4 : List LN) : g4D A n (pth 19) K ⟨[(0, sL 0 none x0 1), (3, bO x1)], [(0, ⟨[.strs x3 x4], x2, 0⟩)]⟩ = K .normal (g4R2s0 A x0 x1 x2 x3 x4) := by kernel_rfl
def g4R3s0 (A : Ar) (x0 x1 : Nat) (x2 : List LN) : St := ⟨[(2, bO false)], [(0, ⟨[.strs x1 x2], x0, 0⟩)]⟩
theorem g4R3 {R : Type} (A : Ar) (n : Nat) (K : Ex → St → Option R) (x0 x1 : Nat) (x2 : List LN) : g4D A n (pth 75) K ⟨[], [(0, ⟨[.strs x1 x2], x0, 0⟩)]⟩ = K .normal (g4R3s0 A x0 x1 x2) := by kernel_rfl
def g4J11a {R : Type} (A : Ar) (n : Nat) (kk : KK R) (lg4L9a : Nat → Bool → LN → Int → Nat → Nat → List LN → LN → Nat → Nat → Int → Nat → LN → Option R) (x0 : Nat) (x1 : Bool) (x2 : LN) (x3 : Int) (x4 x5 : Nat) (x6 : List LN) (x7 : LN) (x8 x9 : Nat) (x10 : Int) (x11 : Nat) (x12 : LN) : Option R :=
  match A.neg x3 with
  | true => none
  | false => match A.lt (A.toN x3) x0 with
    | true => match A.neg x3 with
      | true => none
      | false => match A.lt (A.toN x3) x0 with
        | true => match A.neg (A.mn (A.ofN ((x6.getD (A.toN x3) []).length)) 200) with
          | true => none
          | false => match A.le (A.toN (A.mn (A.ofN ((x6.getD (A.toN x3) []).length)) 200)) ((x6.getD (A.toN x3) []).length) with
            | true => match g12ok A (g4S A x3 x6) x7 x8 x9 x10 x11 x12 with
              | true => match A.le (x2.length + (g4S A x3 x6).length) 9223372036854775807 with
                | true => match g13ok A (g12r0 A (g4S A x3 x6) x7 x8 x9 x10 x11 x12) (g12r1 A (g4S A x3 x6) x7 x8 x9 x10 x11 x12) (g12r2 A (g4S A x3 x6) x7 x8 x9 x10 x11 x12) (g12r3 A (g4S A x3 x6) x7 x8 x9 x10 x11 x12) (g12r4 A (g4S A x3 x6) x7 x8 x9 x10 x11 x12) (g12r5 A (g4S A x3 x6) x7 x8 x9 x10 x11 x12) with
                  | true => match g10ok A (x2 ++ (g4S A x3 x6)) with
                    | true => match A.sc .neq (g4t7 A x3 x6 x7 x8 x9 x10 x11 x12) (g10r0 A (x2 ++ (g4S A x3 x6))) with
                      | true => kk (bO false) [(0, ⟨[.strs x5 x6], x4, 0⟩)]
                      | false => match g14ok A (g4t8 A x3 x6 x7 x8 x9 x10 x11 x12) (g4t9 A x3 x6 x7 x8 x9 x10 x11 x12) (g4t10 A x3 x6 x7 x8 x9 x10 x11 x12) (g4t11 A x3 x6 x7 x8 x9 x10 x11 x12) (g4t12 A x3 x6 x7 x8 x9 x10 x11 x12) (g4t13 A x3 x6 x7 x8 x9 x10 x11 x12) with
                        | true => match A.ic .neq (g4t14 A x3 x6 x7 x8 x9 x10 x11 x12) (A.ofN ((x2 ++ (g4S A x3 x6)).length)) with
                          | true => kk (bO false) [(0, ⟨[.strs x5 x6], x4, 0⟩)]
                          | false => lg4L9a x0 x1 (x2 ++ (g4S A x3 x6)) (A.ib .add .i64 x3 1) x4 x5 x6 (g4t15 A x3 x6 x7 x8 x9 x10 x11 x12) (g4t16 A x3 x6 x7 x8 x9 x10 x11 x12) (g4t17 A x3 x6 x7 x8 x9 x10 x11 x12) (g4t18 A x3 x6 x7 x8 x9 x10 x11 x12) (g4t19 A x3 x6 x7 x8 x9 x10 x11 x12) (g4t20 A x3 x6 x7 x8 x9 x10 x11 x12)
                        | false => none
                    | false => none
                  | false => none
                | false => none
              | false => none
            | false => none
        | false => none
    | false => none
theorem g4J11a_eq {R : Type} (A : Ar) (n : Nat) (kk : KK R) (m0 : Nat) (lg4L9a : Nat → Bool → LN → Int → Nat → Nat → List LN → LN → Nat → Nat → Int → Nat → LN → Option R)
    (hg4L9a : ∀ (s : St) (x0 : Nat) (x1 : Bool) (x2 : LN) (x3 : Int) (x4 x5 : Nat) (x6 : List LN) (x7 : LN) (x8 x9 : Nat) (x10 : Int) (x11 : Nat) (x12 : LN), keep g4an 9 s = ⟨[(0, sL 0 none x0 1), (3, bO x1), (4, pT 5000 0), (5, tS x2), (6, i6 x3)], [(0, ⟨[.strs x5 x6], x4, 0⟩), (5000, bH 5500 x7 (some x8) x9 x10), (5500, bY x11 x12)]⟩ → g4V A n (pth 1215) m0 (blockK 0 (g4Q A n (pth 255) (g4T kk))) s = lg4L9a x0 x1 x2 x3 x4 x5 x6 x7 x8 x9 x10 x11 x12) (s : St) (x0 : Nat) (x1 : Bool) (x2 : LN) (x3 : Int) (x4 x5 : Nat) (x6 : List LN) (x7 : LN) (x8 x9 : Nat) (x10 : Int) (x11 : Nat) (x12 : LN) (h : keep g4an 11 s = ⟨[(0, sL 0 none x0 1), (3, bO x1), (4, pT 5000 0), (5, tS x2), (6, i6 x3)], [(0, ⟨[.strs x5 x6], x4, 0⟩), (5000, bH 5500 x7 (some x8) x9 x10), (5500, bY x11 x12)]⟩) :
    g4D A n (pth 3263) (g4W A n (pth 1215) m0 (blockK 0 (g4Q A n (pth 255) (g4T kk)))) s = g4J11a A n kk lg4L9a x0 x1 x2 x3 x4 x5 x6 x7 x8 x9 x10 x11 x12 := by
  have h1 : (g4T kk) .ret (g4R15s0 A x4 x5 x6) = kk (bO false) [(0, ⟨[.strs x5 x6], x4, 0⟩)] := by kernel_rfl
  have h2 := (g4Qr A n (pth 255) _ _).trans h1
  have h3 := (blockK_r 0 _ _).trans h2
  have h4 := (g4Wr A n (pth 1215) m0 _ _).trans h3
  have h5 := (g4Qr A n (pth 7359) _ _).trans h4
  have h6 := (blockK_r 1 _ _).trans h5
  have h7 := (g4p910527 A n _ _).trans h6
  have h8 := (g4Qn A n _ _ _).trans h7
  have h9 := (g4F A n _ 15 _ (g4R14s0 A x0 x1 (x2 ++ (g4S A x3 x6)) x3 x4 x5 x6 (g12r0 A (g4S A x3 x6) x7 x8 x9 x10 x11 x12) (g12r1 A (g4S A x3 x6) x7 x8 x9 x10 x11 x12) (g12r2 A (g4S A x3 x6) x7 x8 x9 x10 x11 x12) (g12r3 A (g4S A x3 x6) x7 x8 x9 x10 x11 x12) (g12r4 A (g4S A x3 x6) x7 x8 x9 x10 x11 x12) (g12r5 A (g4S A x3 x6) x7 x8 x9 x10 x11 x12)) _ (by kernel_rfl) (by kernel_rfl)).trans (g4R15 A n (g4Q A n (pth 910527) (blockK 1 (g4Q A n (pth 7359) (g4W A n (pth 1215) m0 (blockK 0 (g4Q A n (pth 255) (g4T kk))))))) x4 x5 x6)
  rw [h8] at h9
  have h10 := (g4p386239 A n _ _).trans h9
  have h11 := (g4p255167 A n (blockK 1 (g4Q A n (pth 7359) (g4W A n (pth 1215) m0 (blockK 0 (g4Q A n (pth 255) (g4T kk)))))) (g4R14s0 A x0 x1 (x2 ++ (g4S A x3 x6)) x3 x4 x5 x6 (g12r0 A (g4S A x3 x6) x7 x8 x9 x10 x11 x12) (g12r1 A (g4S A x3 x6) x7 x8 x9 x10 x11 x12) (g12r2 A (g4S A x3 x6) x7 x8 x9 x10 x11 x12) (g12r3 A (g4S A x3 x6) x7 x8 x9 x10 x11 x12) (g12r4 A (g4S A x3 x6) x7 x8 x9 x10 x11 x12) (g12r5 A (g4S A x3 x6) x7 x8 x9 x10 x11 x12)) true (by kernel_rfl)).trans h10
  have h12 := (g4Qn A n _ _ _).trans h11
  have h13 : (g4T kk) .ret (g4R15s0 A x4 x5 x6) = kk (bO false) [(0, ⟨[.strs x5 x6], x4, 0⟩)] := by kernel_rfl
  have h14 := (g4Qr A n (pth 255) _ _).trans h13
  have h15 := (blockK_r 0 _ _).trans h14
  have h16 := (g4Wr A n (pth 1215) m0 _ _).trans h15
  have h17 := (g4Qr A n (pth 7359) _ _).trans h16
  have h18 := (blockK_r 1 _ _).trans h17
  have h19 := (g4p910527 A n _ _).trans h18
  have h20 := (g4Qn A n _ _ _).trans h19
  have h21 := (g4F A n _ 15 _ (g4R14s1 A x0 x1 (x2 ++ (g4S A x3 x6)) x3 x4 x5 x6 (g12r0 A (g4S A x3 x6) x7 x8 x9 x10 x11 x12) (g12r1 A (g4S A x3 x6) x7 x8 x9 x10 x11 x12) (g12r2 A (g4S A x3 x6) x7 x8 x9 x10 x11 x12) (g12r3 A (g4S A x3 x6) x7 x8 x9 x10 x11 x12) (g12r4 A (g4S A x3 x6) x7 x8 x9 x10 x11 x12) (g12r5 A (g4S A x3 x6) x7 x8 x9 x10 x11 x12)) _ (by kernel_rfl) (by kernel_rfl)).trans (g4R15 A n (g4Q A n (pth 910527) (blockK 1 (g4Q A n (pth 7359) (g4W A n (pth 1215) m0 (blockK 0 (g4Q A n (pth 255) (g4T kk))))))) x4 x5 x6)
  rw [h20] at h21
  have h22 := (g4p386239 A n _ _).trans h21
  have h23 := (g4Wn A n _ _ _ _).trans (hg4L9a (g4R10s0 A x0 x1 (x2 ++ (g4S A x3 x6)) x3 x4 x5 x6 (g4t15 A x3 x6 x7 x8 x9 x10 x11 x12) (g4t16 A x3 x6 x7 x8 x9 x10 x11 x12) (g4t17 A x3 x6 x7 x8 x9 x10 x11 x12) (g4t18 A x3 x6 x7 x8 x9 x10 x11 x12) (g4t19 A x3 x6 x7 x8 x9 x10 x11 x12) (g4t20 A x3 x6 x7 x8 x9 x10 x11 x12)) x0 x1 (x2 ++ (g4S A x3 x6)) (A.ib .add .i64 x3 1) x4 x5 x6 (g4t15 A x3 x6 x7 x8 x9 x10 x11 x12) (g4t16 A x3 x6 x7 x8 x9 x10 x11 x12) (g4t17 A x3 x6 x7 x8 x9 x10 x11 x12) (g4t18 A x3 x6 x7 x8 x9 x10 x11 x12) (g4t19 A x3 x6 x7 x8 x9 x10 x11 x12) (g4t20 A x3 x6 x7 x8 x9 x10 x11 x12) (by kernel_rfl))
  have h24 := (g4F A n _ 10 _ (g4R14s1 A x0 x1 (x2 ++ (g4S A x3 x6)) x3 x4 x5 x6 (g12r0 A (g4S A x3 x6) x7 x8 x9 x10 x11 x12) (g12r1 A (g4S A x3 x6) x7 x8 x9 x10 x11 x12) (g12r2 A (g4S A x3 x6) x7 x8 x9 x10 x11 x12) (g12r3 A (g4S A x3 x6) x7 x8 x9 x10 x11 x12) (g12r4 A (g4S A x3 x6) x7 x8 x9 x10 x11 x12) (g12r5 A (g4S A x3 x6) x7 x8 x9 x10 x11 x12)) _ (by kernel_rfl) (by kernel_rfl)).trans (g4R10 A n (g4W A n (pth 1215) m0 (blockK 0 (g4Q A n (pth 255) (g4T kk)))) x0 x1 (x2 ++ (g4S A x3 x6)) x3 x4 x5 x6 (g4t15 A x3 x6 x7 x8 x9 x10 x11 x12) (g4t16 A x3 x6 x7 x8 x9 x10 x11 x12) (g4t17 A x3 x6 x7 x8 x9 x10 x11 x12) (g4t18 A x3 x6 x7 x8 x9 x10 x11 x12) (g4t19 A x3 x6 x7 x8 x9 x10 x11 x12) (g4t20 A x3 x6 x7 x8 x9 x10 x11 x12))
  rw [h23] at h24
  have h25 := (g4Qn A n _ _ _).trans h24
  have h26 := (blockK_n 1 _ _).trans h25
  have h27 := (g4p517311 A n _ _).trans h26
  have h28 := g4p255167 A n (blockK 1 (g4Q A n (pth 7359) (g4W A n (pth 1215) m0 (blockK 0 (g4Q A n (pth 255) (g4T kk)))))) (g4R14s1 A x0 x1 (x2 ++ (g4S A x3 x6)) x3 x4 x5 x6 (g12r0 A (g4S A x3 x6) x7 x8 x9 x10 x11 x12) (g12r1 A (g4S A x3 x6) x7 x8 x9 x10 x11 x12) (g12r2 A (g4S A x3 x6) x7 x8 x9 x10 x11 x12) (g12r3 A (g4S A x3 x6) x7 x8 x9 x10 x11 x12) (g12r4 A (g4S A x3 x6) x7 x8 x9 x10 x11 x12) (g12r5 A (g4S A x3 x6) x7 x8 x9 x10 x11 x12)) (A.ic .neq (g4t14 A x3 x6 x7 x8 x9 x10 x11 x12) (A.ofN ((x2 ++ (g4S A x3 x6)).length))) (by kernel_rfl)
  rw [h22, h27] at h28
  have h29 := (g4Qn A n _ _ _).trans h28
  have h30 := (g4F A n _ 14 _ (g4R13s0 A x0 x1 x2 x3 (g4S A x3 x6) x4 x5 x6 (g12r0 A (g4S A x3 x6) x7 x8 x9 x10 x11 x12) (g12r1 A (g4S A x3 x6) x7 x8 x9 x10 x11 x12) (g12r2 A (g4S A x3 x6) x7 x8 x9 x10 x11 x12) (g12r3 A (g4S A x3 x6) x7 x8 x9 x10 x11 x12) (g12r4 A (g4S A x3 x6) x7 x8 x9 x10 x11 x12) (g12r5 A (g4S A x3 x6) x7 x8 x9 x10 x11 x12)) _ (by kernel_rfl) (by kernel_rfl)).trans (g4R14 A n (g4Q A n (pth 255167) (blockK 1 (g4Q A n (pth 7359) (g4W A n (pth 1215) m0 (blockK 0 (g4Q A n (pth 255) (g4T kk))))))) x0 x1 (x2 ++ (g4S A x3 x6)) x3 x4 x5 x6 (g12r0 A (g4S A x3 x6) x7 x8 x9 x10 x11 x12) (g12r1 A (g4S A x3 x6) x7 x8 x9 x10 x11 x12) (g12r2 A (g4S A x3 x6) x7 x8 x9 x10 x11 x12) (g12r3 A (g4S A x3 x6) x7 x8 x9 x10 x11 x12) (g12r4 A (g4S A x3 x6) x7 x8 x9 x10 x11 x12) (g12r5 A (g4S A x3 x6) x7 x8 x9 x10 x11 x12))
  rw [h12, h29] at h30
  have h31 := (g4p124095 A n _ _).trans h30
  have h32 := (g4Qn A n _ _ _).trans h31
  have h33 := (g4F A n _ 13 _ (g4R12s0 A x0 x1 x2 x3 (g4S A x3 x6) x4 x5 x6 x7 x8 x9 x10 x11 x12) _ (by kernel_rfl) (by kernel_rfl)).trans (g4R13 A n (g4Q A n (pth 124095) (blockK 1 (g4Q A n (pth 7359) (g4W A n (pth 1215) m0 (blockK 0 (g4Q A n (pth 255) (g4T kk))))))) x0 x1 x2 x3 (g4S A x3 x6) x4 x5 x6 (g12r0 A (g4S A x3 x6) x7 x8 x9 x10 x11 x12) (g12r1 A (g4S A x3 x6) x7 x8 x9 x10 x11 x12) (g12r2 A (g4S A x3 x6) x7 x8 x9 x10 x11 x12) (g12r3 A (g4S A x3 x6) x7 x8 x9 x10 x11 x12) (g12r4 A (g4S A x3 x6) x7 x8 x9 x10 x11 x12) (g12r5 A (g4S A x3 x6) x7 x8 x9 x10 x11 x12))
  rw [h32] at h33
  have h34 := (g4p58559 A n _ _).trans h33
  have h35 := (g4Qn A n _ _ _).trans h34
  have h36 := (g4F A n _ 12 _ (g4R11s0 A x0 x1 x2 x3 x4 x5 x6 x7 x8 x9 x10 x11 x12) _ (by kernel_rfl) (by kernel_rfl)).trans (g4R12 A n (g4Q A n (pth 58559) (blockK 1 (g4Q A n (pth 7359) (g4W A n (pth 1215) m0 (blockK 0 (g4Q A n (pth 255) (g4T kk))))))) x0 x1 x2 x3 (g4S A x3 x6) x4 x5 x6 x7 x8 x9 x10 x11 x12)
  rw [h35] at h36
  have h37 := (g4p25791 A n _ _).trans h36
  have h38 := (g4Qn A n _ _ _).trans h37
  have h39 := (g4F A n _ 11 _ ⟨[(0, sL 0 none x0 1), (3, bO x1), (4, pT 5000 0), (5, tS x2), (6, i6 x3)], [(0, ⟨[.strs x5 x6], x4, 0⟩), (5000, bH 5500 x7 (some x8) x9 x10), (5500, bY x11 x12)]⟩ _ (by kernel_rfl) (by kernel_rfl)).trans (g4R11 A n (g4Q A n (pth 25791) (blockK 1 (g4Q A n (pth 7359) (g4W A n (pth 1215) m0 (blockK 0 (g4Q A n (pth 255) (g4T kk))))))) x0 x1 x2 x3 x4 x5 x6 x7 x8 x9 x10 x11 x12)
  rw [h38] at h39
  have h40 := (g4p9407 A n _ _).trans h39
  have h41 := (g4p5311 A n _ _).trans h40
  have h42 := (g4p3263 A n _ _).trans h41
  exact (g4F A n _ 11 _ _ ⟨[(0, sL 0 none x0 1), (3, bO x1), (4, pT 5000 0), (5, tS x2), (6, i6 x3)], [(0, ⟨[.strs x5 x6], x4, 0⟩), (5000, bH 5500 x7 (some x8) x9 x10), (5500, bY x11 x12)]⟩ (by kernel_rfl) (h.trans (by kernel_rfl))).trans (h42.trans (by kernel_rfl))
def g4L9a {R : Type} (A : Ar) (n : Nat) (kk : KK R) : Nat → Nat → Bool → LN → Int → Nat → Nat → List LN → LN → Nat → Nat → Int → Nat → LN → Option R
  | 0, _, _, _, _, _, _, _, _, _, _, _, _, _ => none
  | m + 1, x0, x1, x2, x3, x4, x5, x6, x7, x8, x9, x10, x11, x12 => match A.ic .lss x3 (A.ofN x0) with
  | true => match A.ic .lss x3 10 with
    | true => g4J11a A n kk (g4L9a A n kk m) x0 x1 x2 x3 x4 x5 x6 x7 x8 x9 x10 x11 x12
    | false => kk (bO x1) [(0, ⟨[.strs x5 x6], x4, 0⟩)]
  | false => kk (bO x1) [(0, ⟨[.strs x5 x6], x4, 0⟩)]
theorem g4L9a_eq {R : Type} (A : Ar) (n : Nat) (kk : KK R) (m : Nat) (s : St) (x0 : Nat) (x1 : Bool) (x2 : LN) (x3 : Int) (x4 x5 : Nat) (x6 : List LN) (x7 : LN) (x8 x9 : Nat) (x10 : Int) (x11 : Nat) (x12 : LN) (h : keep g4an 9 s = ⟨[(0, sL 0 none x0 1), (3, bO x1), (4, pT 5000 0), (5, tS x2), (6, i6 x3)], [(0, ⟨[.strs x5 x6], x4, 0⟩), (5000, bH 5500 x7 (some x8) x9 x10), (5500, bY x11 x12)]⟩) :
    g4V A n (pth 1215) m (blockK 0 (g4Q A n (pth 255) (g4T kk))) s = g4L9a A n kk m x0 x1 x2 x3 x4 x5 x6 x7 x8 x9 x10 x11 x12 := by
  induction m generalizing s x0 x1 x2 x3 x4 x5 x6 x7 x8 x9 x10 x11 x12 with
  | zero => rfl
  | succ m ih =>
    have h1 := (g4Qn A n _ _ _).trans (g4J11a_eq A n kk m (g4L9a A n kk m) ih (g4R9s0 A x0 x1 x2 x3 x4 x5 x6 x7 x8 x9 x10 x11 x12) x0 x1 x2 x3 x4 x5 x6 x7 x8 x9 x10 x11 x12 (by kernel_rfl))
    have h2 := (g4p10431 A n _ _).trans h1
    have h3 : (g4T kk) .ret (g4R16s0 A x1 x4 x5 x6) = kk (bO x1) [(0, ⟨[.strs x5 x6], x4, 0⟩)] := by kernel_rfl
    have h4 := (g4p511 A n _ _).trans h3
    have h5 := (g4Qn A n _ _ _).trans h4
    have h6 := (g4F A n _ 16 _ (g4R9s0 A x0 x1 x2 x3 x4 x5 x6 x7 x8 x9 x10 x11 x12) _ (by kernel_rfl) (by kernel_rfl)).trans (g4R16 A n (g4Q A n (pth 511) (g4T kk)) x1 x4 x5 x6)
    rw [h5] at h6
    have h7 := (g4p255 A n _ _).trans h6
    have h8 := (g4Qn A n _ _ _).trans h7
    have h9 := (blockK_hit 0 _ _).trans h8
    have h10 := (g4We A n (pth 1215) m _ _ _).trans h9
    have h11 := (g4Qe A n (pth 3263) _ _ _).trans h10
    have h12 := (g4p14527 A n _ _).trans h11
    have h13 := g4p6335 A n (g4Q A n (pth 3263) (g4W A n (pth 1215) m (blockK 0 (g4Q A n (pth 255) (g4T kk))))) (g4R9s0 A x0 x1 x2 x3 x4 x5 x6 x7 x8 x9 x10 x11 x12) (A.ic .lss x3 10) (by kernel_rfl)
    rw [h2, h12] at h13
    have h14 := (g4Qn A n _ _ _).trans h13
    have h15 : (g4T kk) .ret (g4R16s0 A x1 x4 x5 x6) = kk (bO x1) [(0, ⟨[.strs x5 x6], x4, 0⟩)] := by kernel_rfl
    have h16 := (g4p511 A n _ _).trans h15
    have h17 := (g4Qn A n _ _ _).trans h16
    have h18 := (g4F A n _ 16 _ (g4R9s1 A x0 x1 x2 x3 x4 x5 x6 x7 x8 x9 x10 x11 x12) _ (by kernel_rfl) (by kernel_rfl)).trans (g4R16 A n (g4Q A n (pth 511) (g4T kk)) x1 x4 x5 x6)
    rw [h17] at h18
    have h19 := (g4p255 A n _ _).trans h18
    have h20 := (g4Qn A n _ _ _).trans h19
    have h21 := (blockK_hit 0 _ _).trans h20
    have h22 := (g4We A n (pth 1215) m _ _ _).trans h21
    have h23 := (g4Qe A n (pth 3263) _ _ _).trans h22
    have h24 := (g4p14527 A n _ _).trans h23
    have h25 := (g4p6335 A n (g4Q A n (pth 3263) (g4W A n (pth 1215) m (blockK 0 (g4Q A n (pth 255) (g4T kk))))) (g4R9s1 A x0 x1 x2 x3 x4 x5 x6 x7 x8 x9 x10 x11 x12) false (by kernel_rfl)).trans h24
    have h26 := (g4Qn A n _ _ _).trans h25
    have h27 := (g4F A n _ 9 _ ⟨[(0, sL 0 none x0 1), (3, bO x1), (4, pT 5000 0), (5, tS x2), (6, i6 x3)], [(0, ⟨[.strs x5 x6], x4, 0⟩), (5000, bH 5500 x7 (some x8) x9 x10), (5500, bY x11 x12)]⟩ _ (by kernel_rfl) (by kernel_rfl)).trans (g4R9 A n (g4Q A n (pth 6335) (g4Q A n (pth 3263) (g4W A n (pth 1215) m (blockK 0 (g4Q A n (pth 255) (g4T kk)))))) x0 x1 x2 x3 x4 x5 x6 x7 x8 x9 x10 x11 x12)
    rw [h14, h26] at h27
    have h28 := (g4p2239 A n _ _).trans h27
    have h29 := (g4p1215 A n _ _).trans h28
    exact (loopD_first (s' := ⟨[(0, sL 0 none x0 1), (3, bO x1), (4, pT 5000 0), (5, tS x2), (6, i6 x3)], [(0, ⟨[.strs x5 x6], x4, 0⟩), (5000, bH 5500 x7 (some x8) x9 x10), (5500, bY x11 x12)]⟩) (id := 9) (by kernel_rfl) (h.trans (by kernel_rfl)) _).trans ((g4Vs A n _ m _ _).trans (h29.trans (by kernel_rfl)))
def g4J11 {R : Type} (A : Ar) (n : Nat) (kk : KK R) (lg4L9a : Nat → Bool → LN → Int → Nat → Nat → List LN → LN → Nat → Nat → Int → Nat → LN → Option R) (x0 : Nat) (x1 : Bool) (x2 : LN) (x3 : Int) (x4 x5 : Nat) (x6 : List LN) (x7 : LN) (x8 : Nat) (x9 : Int) (x10 : Nat) (x11 : LN) : Option R :=
  match A.neg x3 with
  | true => none
  | false => match A.lt (A.toN x3) x0 with
    | true => match A.neg x3 with
      | true => none
      | false => match A.lt (A.toN x3) x0 with
        | true => match A.neg (A.mn (A.ofN ((x6.getD (A.toN x3) []).length)) 200) with
          | true => none
          | false => match A.le (A.toN (A.mn (A.ofN ((x6.getD (A.toN x3) []).length)) 200)) ((x6.getD (A.toN x3) []).length) with
            | true => match g12ok A (g4S A x3 x6) x7 0 x8 x9 x10 x11 with
              | true => match A.le (x2.length + (g4S A x3 x6).length) 9223372036854775807 with
                | true => match g13ok A (g12r0 A (g4S A x3 x6) x7 0 x8 x9 x10 x11) (g12r1 A (g4S A x3 x6) x7 0 x8 x9 x10 x11) (g12r2 A (g4S A x3 x6) x7 0 x8 x9 x10 x11) (g12r3 A (g4S A x3 x6) x7 0 x8 x9 x10 x11) (g12r4 A (g4S A x3 x6) x7 0 x8 x9 x10 x11) (g12r5 A (g4S A x3 x6) x7 0 x8 x9 x10 x11) with
                  | true => match g10ok A (x2 ++ (g4S A x3 x6)) with
                    | true => match A.sc .neq (g4t21 A x3 x6 x7 x8 x9 x10 x11) (g10r0 A (x2 ++ (g4S A x3 x6))) with
                      | true => kk (bO false) [(0, ⟨[.strs x5 x6], x4, 0⟩)]
                      | false => match g14ok A (g4t22 A x3 x6 x7 x8 x9 x10 x11) (g4t23 A x3 x6 x7 x8 x9 x10 x11) (g4t24 A x3 x6 x7 x8 x9 x10 x11) (g4t25 A x3 x6 x7 x8 x9 x10 x11) (g4t26 A x3 x6 x7 x8 x9 x10 x11) (g4t27 A x3 x6 x7 x8 x9 x10 x11) with
                        | true => match A.ic .neq (g4t28 A x3 x6 x7 x8 x9 x10 x11) (A.ofN ((x2 ++ (g4S A x3 x6)).length)) with
                          | true => kk (bO false) [(0, ⟨[.strs x5 x6], x4, 0⟩)]
                          | false => lg4L9a x0 x1 (x2 ++ (g4S A x3 x6)) (A.ib .add .i64 x3 1) x4 x5 x6 (g4t29 A x3 x6 x7 x8 x9 x10 x11) (g4t30 A x3 x6 x7 x8 x9 x10 x11) (g4t31 A x3 x6 x7 x8 x9 x10 x11) (g4t32 A x3 x6 x7 x8 x9 x10 x11) (g4t33 A x3 x6 x7 x8 x9 x10 x11) (g4t34 A x3 x6 x7 x8 x9 x10 x11)
                        | false => none
                    | false => none
                  | false => none
                | false => none
              | false => none
            | false => none
        | false => none
    | false => none
theorem g4J11_eq {R : Type} (A : Ar) (n : Nat) (kk : KK R) (m0 : Nat) (lg4L9a : Nat → Bool → LN → Int → Nat → Nat → List LN → LN → Nat → Nat → Int → Nat → LN → Option R)
    (hg4L9a : ∀ (s : St) (x0 : Nat) (x1 : Bool) (x2 : LN) (x3 : Int) (x4 x5 : Nat) (x6 : List LN) (x7 : LN) (x8 x9 : Nat) (x10 : Int) (x11 : Nat) (x12 : LN), keep g4an 9 s = ⟨[(0, sL 0 none x0 1), (3, bO x1), (4, pT 5000 0), (5, tS x2), (6, i6 x3)], [(0, ⟨[.strs x5 x6], x4, 0⟩), (5000, bH 5500 x7 (some x8) x9 x10), (5500, bY x11 x12)]⟩ → g4V A n (pth 1215) m0 (blockK 0 (g4Q A n (pth 255) (g4T kk))) s = lg4L9a x0 x1 x2 x3 x4 x5 x6 x7 x8 x9 x10 x11 x12) (s : St) (x0 : Nat) (x1 : Bool) (x2 : LN) (x3 : Int) (x4 x5 : Nat) (x6 : List LN) (x7 : LN) (x8 : Nat) (x9 : Int) (x10 : Nat) (x11 : LN) (h : keep g4an 11 s = ⟨[(0, sL 0 none x0 1), (3, bO x1), (4, pT 5000 0), (5, tS x2), (6, i6 x3)], [(0, ⟨[.strs x5 x6], x4, 0⟩), (5000, bH 5500 x7 none x8 x9), (5500, bY x10 x11)]⟩) :
    g4D A n (pth 3263) (g4W A n (pth 1215) m0 (blockK 0 (g4Q A n (pth 255) (g4T kk)))) s = g4J11 A n kk lg4L9a x0 x1 x2 x3 x4 x5 x6 x7 x8 x9 x10 x11 := by
  have h1 : (g4T kk) .ret (g4R15s0 A x4 x5 x6) = kk (bO false) [(0, ⟨[.strs x5 x6], x4, 0⟩)] := by kernel_rfl
  have h2 := (g4Qr A n (pth 255) _ _).trans h1
  have h3 := (blockK_r 0 _ _).trans h2
  have h4 := (g4Wr A n (pth 1215) m0 _ _).trans h3
  have h5 := (g4Qr A n (pth 7359) _ _).trans h4
  have h6 := (blockK_r 1 _ _).trans h5
  have h7 := (g4p910527 A n _ _).trans h6
  have h8 := (g4Qn A n _ _ _).trans h7
  have h9 := (g4F A n _ 15 _ (g4R14s0 A x0 x1 (x2 ++ (g4S A x3 x6)) x3 x4 x5 x6 (g12r0 A (g4S A x3 x6) x7 0 x8 x9 x10 x11) (g12r1 A (g4S A x3 x6) x7 0 x8 x9 x10 x11) (g12r2 A (g4S A x3 x6) x7 0 x8 x9 x10 x11) (g12r3 A (g4S A x3 x6) x7 0 x8 x9 x10 x11) (g12r4 A (g4S A x3 x6) x7 0 x8 x9 x10 x11) (g12r5 A (g4S A x3 x6) x7 0 x8 x9 x10 x11)) _ (by kernel_rfl) (by kernel_rfl)).trans (g4R15 A n (g4Q A n (pth 910527) (blockK 1 (g4Q A n (pth 7359) (g4W A n (pth 1215) m0 (blockK 0 (g4Q A n (pth 255) (g4T kk))))))) x4 x5 x6)
  rw [h8] at h9
  have h10 := (g4p386239 A n _ _).trans h9
  have h11 := (g4p255167 A n (blockK 1 (g4Q A n (pth 7359) (g4W A n (pth 1215) m0 (blockK 0 (g4Q A n (pth 255) (g4T kk)))))) (g4R14s0 A x0 x1 (x2 ++ (g4S A x3 x6)) x3 x4 x5 x6 (g12r0 A (g4S A x3 x6) x7 0 x8 x9 x10 x11) (g12r1 A (g4S A x3 x6) x7 0 x8 x9 x10 x11) (g12r2 A (g4S A x3 x6) x7 0 x8 x9 x10 x11) (g12r3 A (g4S A x3 x6) x7 0 x8 x9 x10 x11) (g12r4 A (g4S A x3 x6) x7 0 x8 x9 x10 x11) (g12r5 A (g4S A x3 x6) x7 0 x8 x9 x10 x11)) true (by kernel_rfl)).trans h10
  have h12 := (g4Qn A n _ _ _).trans h11
  have h13 : (g4T kk) .ret (g4R15s0 A x4 x5 x6) = kk (bO false) [(0, ⟨[.strs x5 x6], x4, 0⟩)] := by kernel_rfl
  have h14 := (g4Qr A n (pth 255) _ _).trans h13
  have h15 := (blockK_r 0 _ _).trans h14
  have h16 := (g4Wr A n (pth 1215) m0 _ _).trans h15
  have h17 := (g4Qr A n (pth 7359) _ _).trans h16
  have h18 := (blockK_r 1 _ _).trans h17
  have h19 := (g4p910527 A n _ _).trans h18
  have h20 := (g4Qn A n _ _ _).trans h19
  have h21 := (g4F A n _ 15 _ (g4R14s1 A x0 x1 (x2 ++ (g4S A x3 x6)) x3 x4 x5 x6 (g12r0 A (g4S A x3 x6) x7 0 x8 x9 x10 x11) (g12r1 A (g4S A x3 x6) x7 0 x8 x9 x10 x11) (g12r2 A (g4S A x3 x6) x7 0 x8 x9 x10 x11) (g12r3 A (g4S A x3 x6) x7 0 x8 x9 x10 x11) (g12r4 A (g4S A x3 x6) x7 0 x8 x9 x10 x11) (g12r5 A (g4S A x3 x6) x7 0 x8 x9 x10 x11)) _ (by kernel_rfl) (by kernel_rfl)).trans (g4R15 A n (g4Q A n (pth 910527) (blockK 1 (g4Q A n (pth 7359) (g4W A n (pth 1215) m0 (blockK 0 (g4Q A n (pth 255) (g4T kk))))))) x4 x5 x6)
  rw [h20] at h21
  have h22 := (g4p386239 A n _ _).trans h21
  have h23 := (g4Wn A n _ _ _ _).trans (hg4L9a (g4R10s0 A x0 x1 (x2 ++ (g4S A x3 x6)) x3 x4 x5 x6 (g4t29 A x3 x6 x7 x8 x9 x10 x11) (g4t30 A x3 x6 x7 x8 x9 x10 x11) (g4t31 A x3 x6 x7 x8 x9 x10 x11) (g4t32 A x3 x6 x7 x8 x9 x10 x11) (g4t33 A x3 x6 x7 x8 x9 x10 x11) (g4t34 A x3 x6 x7 x8 x9 x10 x11)) x0 x1 (x2 ++ (g4S A x3 x6)) (A.ib .add .i64 x3 1) x4 x5 x6 (g4t29 A x3 x6 x7 x8 x9 x10 x11) (g4t30 A x3 x6 x7 x8 x9 x10 x11) (g4t31 A x3 x6 x7 x8 x9 x10 x11) (g4t32 A x3 x6 x7 x8 x9 x10 x11) (g4t33 A x3 x6 x7 x8 x9 x10 x11) (g4t34 A x3 x6 x7 x8 x9 x10 x11) (by kernel_rfl))
  have h24 := (g4F A n _ 10 _ (g4R14s1 A x0 x1 (x2 ++ (g4S A x3 x6)) x3 x4 x5 x6 (g12r0 A (g4S A x3 x6) x7 0 x8 x9 x10 x11) (g12r1 A (g4S A x3 x6) x7 0 x8 x9 x10 x11) (g12r2 A (g4S A x3 x6) x7 0 x8 x9 x10 x11) (g12r3 A (g4S A x3 x6) x7 0 x8 x9 x10 x11) (g12r4 A (g4S A x3 x6) x7 0 x8 x9 x10 x11) (g12r5 A (g4S A x3 x6) x7 0 x8 x9 x10 x11)) _ (by kernel_rfl) (by kernel_rfl)).trans (g4R10 A n (g4W A n (pth 1215) m0 (blockK 0 (g4Q A n (pth 255) (g4T kk)))) x0 x1 (x2 ++ (g4S A x3 x6)) x3 x4 x5 x6 (g4t29 A x3 x6 x7 x8 x9 x10 x11) (g4t30 A x3 x6 x7 x8 x9 x10 x11) (g4t31 A x3 x6 x7 x8 x9 x10 x11) (g4t32 A x3 x6 x7 x8 x9 x10 x11) (g4t33 A x3 x6 x7 x8 x9 x10 x11) (g4t34 A x3 x6 x7 x8 x9 x10 x11))
  rw [h23] at h24
  have h25 := (g4Qn A n _ _ _).trans h24
  have h26 := (blockK_n 1 _ _).trans h25
  have h27 := (g4p517311 A n _ _).trans h26
  have h28 := g4p255167 A n (blockK 1 (g4Q A n (pth 7359) (g4W A n (pth 1215) m0 (blockK 0 (g4Q A n (pth 255) (g4T kk)))))) (g4R14s1 A x0 x1 (x2 ++ (g4S A x3 x6)) x3 x4 x5 x6 (g12r0 A (g4S A x3 x6) x7 0 x8 x9 x10 x11) (g12r1 A (g4S A x3 x6) x7 0 x8 x9 x10 x11) (g12r2 A (g4S A x3 x6) x7 0 x8 x9 x10 x11) (g12r3 A (g4S A x3 x6) x7 0 x8 x9 x10 x11) (g12r4 A (g4S A x3 x6) x7 0 x8 x9 x10 x11) (g12r5 A (g4S A x3 x6) x7 0 x8 x9 x10 x11)) (A.ic .neq (g4t28 A x3 x6 x7 x8 x9 x10 x11) (A.ofN ((x2 ++ (g4S A x3 x6)).length))) (by kernel_rfl)
  rw [h22, h27] at h28
  have h29 := (g4Qn A n _ _ _).trans h28
  have h30 := (g4F A n _ 14 _ (g4R13s0 A x0 x1 x2 x3 (g4S A x3 x6) x4 x5 x6 (g12r0 A (g4S A x3 x6) x7 0 x8 x9 x10 x11) (g12r1 A (g4S A x3 x6) x7 0 x8 x9 x10 x11) (g12r2 A (g4S A x3 x6) x7 0 x8 x9 x10 x11) (g12r3 A (g4S A x3 x6) x7 0 x8 x9 x10 x11) (g12r4 A (g4S A x3 x6) x7 0 x8 x9 x10 x11) (g12r5 A (g4S A x3 x6) x7 0 x8 x9 x10 x11)) _ (by kernel_rfl) (by kernel_rfl)).trans (g4R14 A n (g4Q A n (pth 255167) (blockK 1 (g4Q A n (pth 7359) (g4W A n (pth 1215) m0 (blockK 0 (g4Q A n (pth 255) (g4T kk))))))) x0 x1 (x2 ++ (g4S A x3 x6)) x3 x4 x5 x6 (g12r0 A (g4S A x3 x6) x7 0 x8 x9 x10 x11) (g12r1 A (g4S A x3 x6) x7 0 x8 x9 x10 x11) (g12r2 A (g4S A x3 x6) x7 0 x8 x9 x10 x11) (g12r3 A (g4S A x3 x6) x7 0 x8 x9 x10 x11) (g12r4 A (g4S A x3 x6) x7 0 x8 x9 x10 x11) (g12r5 A (g4S A x3 x6) x7 0 x8 x9 x10 x11))
  rw [h12, h29] at h30
  have h31 := (g4p124095 A n _ _).trans h30
  have h32 := (g4Qn A n _ _ _).trans h31
  have h33 := (g4F A n _ 13 _ (g4R12as0 A x0 x1 x2 x3 (g4S A x3 x6) x4 x5 x6 x7 x8 x9 x10 x11) _ (by kernel_rfl) (by kernel_rfl)).trans (g4R13 A n (g4Q A n (pth 124095) (blockK 1 (g4Q A n (pth 7359) (g4W A n (pth 1215) m0 (blockK 0 (g4Q A n (pth 255) (g4T kk))))))) x0 x1 x2 x3 (g4S A x3 x6) x4 x5 x6 (g12r0 A (g4S A x3 x6) x7 0 x8 x9 x10 x11) (g12r1 A (g4S A x3 x6) x7 0 x8 x9 x10 x11) (g12r2 A (g4S A x3 x6) x7 0 x8 x9 x10 x11) (g12r3 A (g4S A x3 x6) x7 0 x8 x9 x10 x11) (g12r4 A (g4S A x3 x6) x7 0 x8 x9 x10 x11) (g12r5 A (g4S A x3 x6) x7 0 x8 x9 x10 x11))
  rw [h32] at h33
  have h34 := (g4p58559 A n _ _).trans h33
  have h35 := (g4Qn A n _ _ _).trans h34
  have h36 := (g4F A n _ 12 _ (g4R11as0 A x0 x1 x2 x3 x4 x5 x6 x7 x8 x9 x10 x11) _ (by kernel_rfl) (by kernel_rfl)).trans (g4R12a A n (g4Q A n (pth 58559) (blockK 1 (g4Q A n (pth 7359) (g4W A n (pth 1215) m0 (blockK 0 (g4Q A n (pth 255) (g4T kk))))))) x0 x1 x2 x3 (g4S A x3 x6) x4 x5 x6 x7 x8 x9 x10 x11)
  rw [h35] at h36
  have h37 := (g4p25791 A n _ _).trans h36
  have h38 := (g4Qn A n _ _ _).trans h37
  have h39 := (g4F A n _ 11 _ ⟨[(0, sL 0 none x0 1), (3, bO x1), (4, pT 5000 0), (5, tS x2), (6, i6 x3)], [(0, ⟨[.strs x5 x6], x4, 0⟩), (5000, bH 5500 x7 none x8 x9), (5500, bY x10 x11)]⟩ _ (by kernel_rfl) (by kernel_rfl)).trans (g4R11a A n (g4Q A n (pth 25791) (blockK 1 (g4Q A n (pth 7359) (g4W A n (pth 1215) m0 (blockK 0 (g4Q A n (pth 255) (g4T kk))))))) x0 x1 x2 x3 x4 x5 x6 x7 x8 x9 x10 x11)
  rw [h38] at h39
  have h40 := (g4p9407 A n _ _).trans h39
  have h41 := (g4p5311 A n _ _).trans h40
  have h42 := (g4p3263 A n _ _).trans h41
  exact (g4F A n _ 11 _ _ ⟨[(0, sL 0 none x0 1), (3, bO x1), (4, pT 5000 0), (5, tS x2), (6, i6 x3)], [(0, ⟨[.strs x5 x6], x4, 0⟩), (5000, bH 5500 x7 none x8 x9), (5500, bY x10 x11)]⟩ (by kernel_rfl) (h.trans (by kernel_rfl))).trans (h42.trans (by kernel_rfl))
def g4L9 {R : Type} (A : Ar) (n : Nat) (kk : KK R) : Nat → Nat → Bool → LN → Int → Nat → Nat → List LN → LN → Nat → Int → Nat → LN → Option R
  | 0, _, _, _, _, _, _, _, _, _, _, _, _ => none
  | m + 1, x0, x1, x2, x3, x4, x5, x6, x7, x8, x9, x10, x11 => match A.ic .lss x3 (A.ofN x0) with
  | true => match A.ic .lss x3 10 with
    | true => g4J11 A n kk (g4L9a A n kk m) x0 x1 x2 x3 x4 x5 x6 x7 x8 x9 x10 x11
    | false => kk (bO x1) [(0, ⟨[.strs x5 x6], x4, 0⟩)]
  | false => kk (bO x1) [(0, ⟨[.strs x5 x6], x4, 0⟩)]
theorem g4L9_eq {R : Type} (A : Ar) (n : Nat) (kk : KK R) (m : Nat) (s : St) (x0 : Nat) (x1 : Bool) (x2 : LN) (x3 : Int) (x4 x5 : Nat) (x6 : List LN) (x7 : LN) (x8 : Nat) (x9 : Int) (x10 : Nat) (x11 : LN) (h : keep g4an 9 s = ⟨[(0, sL 0 none x0 1), (3, bO x1), (4, pT 5000 0), (5, tS x2), (6, i6 x3)], [(0, ⟨[.strs x5 x6], x4, 0⟩), (5000, bH 5500 x7 none x8 x9), (5500, bY x10 x11)]⟩) :
    g4V A n (pth 1215) m (blockK 0 (g4Q A n (pth 255) (g4T kk))) s = g4L9 A n kk m x0 x1 x2 x3 x4 x5 x6 x7 x8 x9 x10 x11 := by
  induction m generalizing s x0 x1 x2 x3 x4 x5 x6 x7 x8 x9 x10 x11 with
  | zero => rfl
  | succ m ih =>
    have h1 := (g4Qn A n _ _ _).trans (g4J11_eq A n kk m (g4L9a A n kk m) (g4L9a_eq A n kk m) (g4R9as0 A x0 x1 x2 x3 x4 x5 x6 x7 x8 x9 x10 x11) x0 x1 x2 x3 x4 x5 x6 x7 x8 x9 x10 x11 (by kernel_rfl))
    have h2 := (g4p10431 A n _ _).trans h1
    have h3 : (g4T kk) .ret (g4R16s0 A x1 x4 x5 x6) = kk (bO x1) [(0, ⟨[.strs x5 x6], x4, 0⟩)] := by kernel_rfl
    have h4 := (g4p511 A n _ _).trans h3
    have h5 := (g4Qn A n _ _ _).trans h4
    have h6 := (g4F A n _ 16 _ (g4R9as0 A x0 x1 x2 x3 x4 x5 x6 x7 x8 x9 x10 x11) _ (by kernel_rfl) (by kernel_rfl)).trans (g4R16 A n (g4Q A n (pth 511) (g4T kk)) x1 x4 x5 x6)
    rw [h5] at h6
    have h7 := (g4p255 A n _ _).trans h6
    have h8 := (g4Qn A n _ _ _).trans h7
    have h9 := (blockK_hit 0 _ _).trans h8
    have h10 := (g4We A n (pth 1215) m _ _ _).trans h9
    have h11 := (g4Qe A n (pth 3263) _ _ _).trans h10
    have h12 := (g4p14527 A n _ _).trans h11
    have h13 := g4p6335 A n (g4Q A n (pth 3263) (g4W A n (pth 1215) m (blockK 0 (g4Q A n (pth 255) (g4T kk))))) (g4R9as0 A x0 x1 x2 x3 x4 x5 x6 x7 x8 x9 x10 x11) (A.ic .lss x3 10) (by kernel_rfl)
    rw [h2, h12] at h13
    have h14 := (g4Qn A n _ _ _).trans h13
    have h15 : (g4T kk) .ret (g4R16s0 A x1 x4 x5 x6) = kk (bO x1) [(0, ⟨[.strs x5 x6], x4, 0⟩)] := by kernel_rfl
    have h16 := (g4p511 A n _ _).trans h15
    have h17 := (g4Qn A n _ _ _).trans h16
    have h18 := (g4F A n _ 16 _ (g4R9as1 A x0 x1 x2 x3 x4 x5 x6 x7 x8 x9 x10 x11) _ (by kernel_rfl) (by kernel_rfl)).trans (g4R16 A n (g4Q A n (pth 511) (g4T kk)) x1 x4 x5 x6)
    rw [h17] at h18
    have h19 := (g4p255 A n _ _).trans h18
    have h20 := (g4Qn A n _ _ _).trans h19
    have h21 := (blockK_hit 0 _ _).trans h20
    have h22 := (g4We A n (pth 1215) m _ _ _).trans h21
    have h23 := (g4Qe A n (pth 3263) _ _ _).trans h22
    have h24 := (g4p14527 A n _ _).trans h23
    have h25 := (g4p6335 A n (g4Q A n (pth 3263) (g4W A n (pth 1215) m (blockK 0 (g4Q A n (pth 255) (g4T kk))))) (g4R9as1 A x0 x1 x2 x3 x4 x5 x6 x7 x8 x9 x10 x11) false (by kernel_rfl)).trans h24
    have h26 := (g4Qn A n _ _ _).trans h25
    have h27 := (g4F A n _ 9 _ ⟨[(0, sL 0 none x0 1), (3, bO x1), (4, pT 5000 0), (5, tS x2), (6, i6 x3)], [(0, ⟨[.strs x5 x6], x4, 0⟩), (5000, bH 5500 x7 none x8 x9), (5500, bY x10 x11)]⟩ _ (by kernel_rfl) (by kernel_rfl)).trans (g4R9a A n (g4Q A n (pth 6335) (g4Q A n (pth 3263) (g4W A n (pth 1215) m (blockK 0 (g4Q A n (pth 255) (g4T kk)))))) x0 x1 x2 x3 x4 x5 x6 x7 x8 x9 x10 x11)
    rw [h14, h26] at h27
    have h28 := (g4p2239 A n _ _).trans h27
    have h29 := (g4p1215 A n _ _).trans h28
    exact (loopD_first (s' := ⟨[(0, sL 0 none x0 1), (3, bO x1), (4, pT 5000 0), (5, tS x2), (6, i6 x3)], [(0, ⟨[.strs x5 x6], x4, 0⟩), (5000, bH 5500 x7 none x8 x9), (5500, bY x10 x11)]⟩) (id := 9) (by kernel_rfl) (h.trans (by kernel_rfl)) _).trans ((g4Vs A n _ m _ _).trans (h29.trans (by kernel_rfl)))
def g4J7 {R : Type} (A : Ar) (n : Nat) (kk : KK R) (x0 : Nat) (x1 : Bool) (x2 x3 : Nat) (x4 : List LN) (x5 : LN) (x6 : Nat) (x7 : Int) (x8 : Nat) (x9 : LN) : Option R :=
  g4L9 A n kk n x0 x1 [] 0 x2 x3 x4 x5 x6 x7 x8 x9
theorem g4J7_eq {R : Type} (A : Ar) (n : Nat) (kk : KK R) (s : St) (x0 : Nat) (x1 : Bool) (x2 x3 : Nat) (x4 : List LN) (x5 : LN) (x6 : Nat) (x7 : Int) (x8 : Nat) (x9 : LN) (h : keep g4an 7 s = ⟨[(0, sL 0 none x0 1), (3, bO x1), (4, pT 5000 0)], [(0, ⟨[.strs x3 x4], x2, 0⟩), (5000, bH 5500 x5 none x6 x7), (5500, bY x8 x9)]⟩) :
    g4D A n (pth 63) (g4T kk) s = g4J7 A n kk x0 x1 x2 x3 x4 x5 x6 x7 x8 x9 := by
  have h1 := (g4p703 A n _ _).trans (g4L9_eq A n kk n (g4R8s0 A x0 x1 [] x2 x3 x4 x5 x6 x7 x8 x9) x0 x1 [] 0 x2 x3 x4 x5 x6 x7 x8 x9 (by kernel_rfl))
  have h2 := (g4p447 A n _ _).trans h1
  have h3 := (g4Qn A n _ _ _).trans h2
  have h4 := (g4F A n _ 8 _ (g4R7s0 A x0 x1 x2 x3 x4 x5 x6 x7 x8 x9) _ (by kernel_rfl) (by kernel_rfl)).trans (g4R8 A n (g4Q A n (pth 447) (g4Q A n (pth 255) (g4T kk))) x0 x1 [] x2 x3 x4 x5 x6 x7 x8 x9)
  rw [h3] at h4
  have h5 := (g4p191 A n _ _).trans h4
  have h6 := (g4p127 A n _ _).trans h5
  have h7 := (g4Qn A n _ _ _).trans h6
  have h8 := (g4F A n _ 7 _ ⟨[(0, sL 0 none x0 1), (3, bO x1), (4, pT 5000 0)], [(0, ⟨[.strs x3 x4], x2, 0⟩), (5000, bH 5500 x5 none x6 x7), (5500, bY x8 x9)]⟩ _ (by kernel_rfl) (by kernel_rfl)).trans (g4R7 A n (g4Q A n (pth 127) (g4T kk)) x0 x1 x2 x3 x4 x5 x6 x7 x8 x9)
  rw [h7] at h8
  have h9 := (g4p63 A n _ _).trans h8
  exact (g4F A n _ 7 _ _ ⟨[(0, sL 0 none x0 1), (3, bO x1), (4, pT 5000 0)], [(0, ⟨[.strs x3 x4], x2, 0⟩), (5000, bH 5500 x5 none x6 x7), (5500, bY x8 x9)]⟩ (by kernel_rfl) (h.trans (by kernel_rfl))).trans (h9.trans (by kernel_rfl))
def g4J4 {R : Type} (A : Ar) (n : Nat) (kk : KK R) (x0 : Nat) (x1 : Bool) (x2 x3 : Nat) (x4 : List LN) : Option R :=
  match g11ok A with
  | true => g4J7 A n kk x0 x1 x2 x3 x4 (g11r0 A) 0 (g11r1 A) 0 []
  | false => none
theorem g4J4_eq {R : Type} (A : Ar) (n : Nat) (kk : KK R) (s : St) (x0 : Nat) (x1 : Bool) (x2 x3 : Nat) (x4 : List LN) (h : keep g4an 4 s = ⟨[(0, sL 0 none x0 1), (3, bO x1)], [(0, ⟨[.strs x3 x4], x2, 0⟩)]⟩) :
    g4D A n (pth 15) (g4T kk) s = g4J4 A n kk x0 x1 x2 x3 x4 := by
  have h1 := (g4Qn A n _ _ _).trans (g4J7_eq A n kk (g4R5s0 A x0 x1 x2 x3 x4 (g11r0 A) 0 (g11r1 A) 0 []) x0 x1 x2 x3 x4 (g11r0 A) 0 (g11r1 A) 0 [] (by kernel_rfl))
  have h2 := (g4p239 A n _ _).trans h1
  have h3 := (g4p111 A n (g4Q A n (pth 63) (g4T kk)) (g4R5s0 A x0 x1 x2 x3 x4 (g11r0 A) 0 (g11r1 A) 0 []) false (by kernel_rfl)).trans h2
  have h4 := (g4Qn A n _ _ _).trans h3
  have h5 := (g4F A n _ 5 _ (g4R4s0 A x0 x1 x2 x3 x4) _ (by kernel_rfl) (by kernel_rfl)).trans (g4R5 A n (g4Q A n (pth 111) (g4Q A n (pth 63) (g4T kk))) x0 x1 x2 x3 x4 (g11r0 A) 0 (g11r1 A) 0 [])
  rw [h4] at h5
  have h6 := (g4p47 A n _ _).trans h5
  have h7 := (g4p31 A n _ _).trans h6
  have h8 := (g4Qn A n _ _ _).trans h7
  have h9 := (g4F A n _ 4 _ ⟨[(0, sL 0 none x0 1), (3, bO x1)], [(0, ⟨[.strs x3 x4], x2, 0⟩)]⟩ _ (by kernel_rfl) (by kernel_rfl)).trans (g4R4 A n (g4Q A n (pth 31) (g4T kk)) x0 x1 x2 x3 x4)
  rw [h8] at h9
  have h10 := (g4p15 A n _ _).trans h9
  exact (g4F A n _ 4 _ _ ⟨[(0, sL 0 none x0 1), (3, bO x1)], [(0, ⟨[.strs x3 x4], x2, 0⟩)]⟩ (by kernel_rfl) (h.trans (by kernel_rfl))).trans (h10.trans (by kernel_rfl))
def g4 {R : Type} (A : Ar) (n : Nat) (kk : KK R) (x0 x1 x2 : Nat) (x3 : List LN) : Option R :=
  match g8ok A with
  | true => match !(g8r0 A) with
    | true => kk (bO false) [(0, ⟨[.strs x2 x3], x1, 0⟩)]
    | false => g4J4 A n kk x0 (g8r0 A) x1 x2 x3
  | false => none
theorem g4_eq {R : Type} (A : Ar) (n : Nat) (kk : KK R) (x0 x1 x2 : Nat) (x3 : List LN) :
    funD A gtys (g4O A) g4an n (bodyOf Try.f4) g4res [(sL 0 none x0 1)] [(0, ⟨[.strs x2 x3], x1, 0⟩)] kk = g4 A n kk x0 x1 x2 x3 := by
  have h1 : (g4T kk) .ret (g4R3s0 A x1 x2 x3) = kk (bO false) [(0, ⟨[.strs x2 x3], x1, 0⟩)] := by kernel_rfl
  have h2 := (g4Qr A n (pth 15) _ _).trans h1
  have h3 := (g4p107 A n _ _).trans h2
  have h4 := (g4Qn A n _ _ _).trans h3
  have h5 := (g4F A n _ 3 _ (g4R2s0 A x0 (g8r0 A) x1 x2 x3) _ (by kernel_rfl) (by kernel_rfl)).trans (g4R3 A n (g4Q A n (pth 107) (g4Q A n (pth 15) (g4T kk))) x1 x2 x3)
  rw [h4] at h5
  have h6 := (g4p43 A n _ _).trans h5
  have h7 := (g4Qn A n _ _ _).trans (g4J4_eq A n kk (g4R2s0 A x0 (g8r0 A) x1 x2 x3) x0 (g8r0 A) x1 x2 x3 (by kernel_rfl))
  have h8 := (g4p59 A n _ _).trans h7
  have h9 := g4p27 A n (g4Q A n (pth 15) (g4T kk)) (g4R2s0 A x0 (g8r0 A) x1 x2 x3) (!(g8r0 A)) (by kernel_rfl)
  rw [h6, h8] at h9
  have h10 := (g4Qn A n _ _ _).trans h9
  have h11 := (g4F A n _ 2 _ (g4R1s0 A x0 x1 x2 x3) _ (by kernel_rfl) (by kernel_rfl)).trans (g4R2 A n (g4Q A n (pth 27) (g4Q A n (pth 15) (g4T kk))) x0 (g8r0 A) x1 x2 x3)
  rw [h10] at h11
  have h12 := (g4p11 A n _ _).trans h11
  have h13 := (g4p7 A n _ _).trans h12
  have h14 := (g4Qn A n _ _ _).trans h13
  have h15 := (g4F A n _ 1 _ (g4R0s0 A x0 x1 x2 x3) _ (by kernel_rfl) (by kernel_rfl)).trans (g4R1 A n (g4Q A n (pth 7) (g4T kk)) x0 x1 x2 x3)
  rw [h14] at h15
  have h16 := (g4p3 A n _ _).trans h15
  have h17 := (g4Qn A n _ _ _).trans h16
  have h18 := (g4F A n _ 0 _ ⟨[(0, sL 0 none x0 1)], [(0, ⟨[.strs x2 x3], x1, 0⟩)]⟩ _ (by kernel_rfl) (by kernel_rfl)).trans (g4R0 A n (g4Q A n (pth 3) (g4T kk)) x0 x1 x2 x3)
  rw [h17] at h18
  have h19 := (g4p1 A n _ _).trans h18
  exact (show funD A gtys (g4O A) g4an n (bodyOf Try.f4) g4res [(sL 0 none x0 1)] [(0, ⟨[.strs x2 x3], x1, 0⟩)] kk = g4D A n (pth 1) (g4T kk) ⟨[(0, sL 0 none x0 1)], [(0, ⟨[.strs x2 x3], x1, 0⟩)]⟩ from by kernel_rfl).trans (h19.trans (by kernel_rfl))
def g4is (o : Option (AV × Heap)) : Bool := match o with
  | some (.v (.cell (.bool _)), [(n0, ⟨[.strs _ _], _, n1⟩)]) => Nat.beq n0 0 && (Nat.beq n1 0)
  | _ => false
def g4g0 (o : Option (AV × Heap)) : Bool := match o with
  | some (.v (.cell (.bool x)), [(_, ⟨[.strs _ _], _, _⟩)]) => x
  | _ => false
def g4g1 (o : Option (AV × Heap)) : Nat := match o with
  | some (.v (.cell (.bool _)), [(_, ⟨[.strs _ _], x, _⟩)]) => x
  | _ => 0
def g4g2 (o : Option (AV × Heap)) : Nat := match o with
  | some (.v (.cell (.bool _)), [(_, ⟨[.strs x _], _, _⟩)]) => x
  | _ => 0
def g4g3 (o : Option (AV × Heap)) : List LN := match o with
  | some (.v (.cell (.bool _)), [(_, ⟨[.strs _ x], _, _⟩)]) => x
  | _ => []
theorem g4is_spec {o : Option (AV × Heap)} (h : g4is o = true) : o = some ((bO (g4g0 o)), [(0, ⟨[.strs (g4g2 o) (g4g3 o)], (g4g1 o), 0⟩)]) := by
  unfold g4is at h
  split at h
  · rename_i z0 n0 z2 z3 z4 n1
    simp only [Bool.and_eq_true] at h
    have en0 := beq_true h.1
    subst en0
    replace h := h.2
    have en1 := beq_true h
    subst en1
    rfl
  · cases h
def g4v (A : Ar) (x0 x1 x2 : Nat) (x3 : List LN) : Option (AV × Heap) := g4 A (100000) (outH [0] none) x0 x1 x2 x3
def g4ok (A : Ar) (x0 x1 x2 : Nat) (x3 : List LN) : Bool := g4is (g4v A x0 x1 x2 x3)
def g4r0 (A : Ar) (x0 x1 x2 : Nat) (x3 : List LN) : Bool := g4g0 (g4v A x0 x1 x2 x3)
def g4r1 (A : Ar) (x0 x1 x2 : Nat) (x3 : List LN) : Nat := g4g1 (g4v A x0 x1 x2 x3)
def g4r2 (A : Ar) (x0 x1 x2 : Nat) (x3 : List LN) : Nat := g4g2 (g4v A x0 x1 x2 x3)
def g4r3 (A : Ar) (x0 x1 x2 : Nat) (x3 : List LN) : List LN := g4g3 (g4v A x0 x1 x2 x3)
theorem g4ok_spec {A : Ar} {x0 x1 x2 x3} (h : g4ok A x0 x1 x2 x3 = true) : g4v A x0 x1 x2 x3 = some ((bO (g4r0 A x0 x1 x2 x3)), [(0, ⟨[.strs (g4r2 A x0 x1 x2 x3) (g4r3 A x0 x1 x2 x3)], (g4r1 A x0 x1 x2 x3), 0⟩)]) := g4is_spec h
def g4o (A : Ar) (args : List AV) (h : Heap) : Option (Bool × AV × Heap) := match args, h with
  | [.v (.cell (.sl n0 none x0 n1))], [(n2, ⟨[.strs x2 x3], x1, n3⟩)] => match Nat.beq n0 0 && (Nat.beq n1 1 && (Nat.beq n2 0 && (Nat.beq n3 0))) with
    | true => some (g4ok A x0 x1 x2 x3, (bO (g4r0 A x0 x1 x2 x3)), [(0, ⟨[.strs (g4r2 A x0 x1 x2 x3) (g4r3 A x0 x1 x2 x3)], (g4r1 A x0 x1 x2 x3), 0⟩)])
    | false => none
  | _, _ => none
theorem g4o_sound : ∀ args h v h', g4o realA args h = some (true, v, h') → FnH Try.prog 4 args h v h' := by
  intro args h v h' hh
  unfold g4o at hh
  split at hh
  · rename_i n0 x0 n1 n2 x2 x3 x1 n3
    split at hh
    case h_2 => cases hh
    rename_i hc0
    simp only [Option.some.injEq, Prod.mk.injEq] at hh
    obtain ⟨hc, hv, hh⟩ := hh
    subst hv
    subst hh
    simp only [Bool.and_eq_true] at hc0
    have en0 := beq_true hc0.1
    subst en0
    replace hc0 := hc0.2
    have en1 := beq_true hc0.1
    subst en1
    replace hc0 := hc0.2
    have en2 := beq_true hc0.1
    subst en2
    replace hc0 := hc0.2
    have en3 := beq_true hc0
    subst en3
    exact fnh_of mixed gtysOK g4O_sound g4O_det (an := g4an) (n := 100000) Try.func4 (c := bodyOf Try.f4) rfl (by kernel_rfl) Try.call4 (Nat.le_of_ble_eq_true rfl) (pins := [0]) (nilr := none) (fun _ => (g4_eq realA (100000) (outH [0] none) x0 x1 x2 x3).trans (show g4v realA x0 x1 x2 x3 = _ from g4ok_spec hc))
  · cases hh
end Go.Sx
