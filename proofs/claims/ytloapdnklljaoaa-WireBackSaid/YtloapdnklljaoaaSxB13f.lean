import Derived.Test.YtloapdnklljaoaaSxB13a
namespace Go.Sx
set_option linter.unusedSectionVars false
open Go.Proofs
set_option linter.unusedVariables false
set_option maxRecDepth 100000
theorem SxB13fpi {R : Type} (c : Bool) {f1 f2 : Nat → Option R} {a1 a2 : Option R} (h1 : Prs f1 a1) (h2 : Prs f2 a2) : Prs (fun k => match c with | true => f1 k | false => f2 k) (match c with | true => a1 | false => a2) := by cases c <;> assumption
attribute [local irreducible] g9ok g9r0 g18ok g18r0 g18r1 g11ok g11r0 g11r1 g11r2 g11r3 g13ok g13r0 g13r1 g13r2 g13r3 g15ok g15r0 g15r1 g15r2 g15r3 g17ok g17r0 g17r1 g21ok g21r0 g21r1 g21r2 g19ok g19r0 g19r1 g19r2 g23ok g23r0 g23r1 g23r2 g25ok g25r0 g25r1 g25r2 g27ok g27r0 g27r1 g27r2 g8ok g8r0 g10ok g10r0
def g5O (A : Ar) : Orc := orcN [(9, (1, 1, ⟨[.nums .u8 0 []], 5, 2⟩))] (orcH [(8, g8o A), (10, g10o A)] [(9, ⟨[], none, (g9o A)⟩), (11, ⟨[0, 1], (some (0, 1, 1, ⟨[.nums .u8 0 []], 5, 2⟩)), (g11o A)⟩), (13, ⟨[0, 1], (some (0, 1, 1, ⟨[.nums .u8 0 []], 5, 2⟩)), (g13o A)⟩), (15, ⟨[0, 1], (some (0, 1, 1, ⟨[.nums .u8 0 []], 5, 2⟩)), (g15o A)⟩), (17, ⟨[0, 1], none, (g17o A)⟩), (18, ⟨[], none, (g18o A)⟩), (19, ⟨[], none, (g19o A)⟩), (21, ⟨[], none, (g21o A)⟩), (23, ⟨[], none, (g23o A)⟩), (25, ⟨[], none, (g25o A)⟩), (27, ⟨[], none, (g27o A)⟩)])
theorem g5O_sound : OSound Try.prog (g5O realA) := orcN_sound <| orcH_sound (fun f g hm args v hv => by
    simp only [List.mem_cons, List.not_mem_nil, or_false, Prod.mk.injEq] at hm
    rcases hm with ⟨rfl, rfl⟩ | ⟨rfl, rfl⟩
    · exact g8o_sound _ _ hv
    · exact g10o_sound _ _ hv) (fun f e hm args h v h' hv => by
    simp only [List.mem_cons, List.not_mem_nil, or_false, Prod.mk.injEq] at hm
    rcases hm with ⟨rfl, rfl⟩ | ⟨rfl, rfl⟩ | ⟨rfl, rfl⟩ | ⟨rfl, rfl⟩ | ⟨rfl, rfl⟩ | ⟨rfl, rfl⟩ | ⟨rfl, rfl⟩ | ⟨rfl, rfl⟩ | ⟨rfl, rfl⟩ | ⟨rfl, rfl⟩ | ⟨rfl, rfl⟩
    · exact g9o_sound _ _ _ _ hv
    · exact g11o_sound _ _ _ _ hv
    · exact g13o_sound _ _ _ _ hv
    · exact g15o_sound _ _ _ _ hv
    · exact g17o_sound _ _ _ _ hv
    · exact g18o_sound _ _ _ _ hv
    · exact g19o_sound _ _ _ _ hv
    · exact g21o_sound _ _ _ _ hv
    · exact g23o_sound _ _ _ _ hv
    · exact g25o_sound _ _ _ _ hv
    · exact g27o_sound _ _ _ _ hv)
theorem g5O_det : ODet (g5O realA) := orcN_det <| orcH_det _ _
def g5an : Ann := [(0, ([0, 1], [0])), (1, ([0, 1], [0])), (2, ([0, 1, 5], [0])), (3, ([], [0])), (4, ([0, 1, 5], [0])), (5, ([0, 1, 5, 6], [0, 5000, 5500])), (6, ([], [])), (7, ([0, 1, 5, 6], [0, 5000, 5500])), (8, ([0, 1, 5, 6, 7], [0, 5000, 5500, 8000])), (9, ([0, 1, 5, 6, 7, 8], [0, 5000, 5500, 8000])), (10, ([0, 1, 5, 6, 7, 8], [0, 5000, 5500, 8000])), (11, ([0, 1, 5, 6, 7, 8], [0, 5000, 5500, 8000])), (12, ([0, 1, 5, 6, 7, 8, 9], [0, 5000, 5500, 8000, 12004])), (13, ([0, 1, 5, 6, 7, 8, 9], [0, 5000, 5500, 8000, 12004])), (14, ([0, 1, 5, 6, 7, 8, 9], [0, 5000, 5500, 8000, 12004])), (15, ([0, 1, 5, 6, 7, 8, 9], [0, 5000, 5500, 8000, 12004])), (16, ([0, 1, 5, 6, 7, 8, 9], [0, 5000, 5500, 8000, 12004])), (17, ([0, 1, 5, 6, 7, 8, 9], [0, 5000, 5500, 8000, 12004])), (18, ([0, 1, 5, 6, 7, 8, 9], [0, 5000, 5500, 8000, 12004])), (19, ([0, 1, 5, 6, 7, 8, 9, 59], [0, 5000, 5500, 8000, 12004])), (20, ([0, 1, 5, 6, 7, 8, 9], [0, 5000, 5500, 8000, 12004])), (21, ([0, 1, 5, 6, 7, 8, 9, 59], [0, 5000, 5500, 8000, 12004])), (22, ([0, 1, 5, 6, 7, 8, 9], [0, 5000, 5500, 8000, 12004])), (23, ([1, 5, 6, 7], [0, 5000, 5500, 8000])), (24, ([1, 5, 7, 10, 11], [0, 8000])), (25, ([1, 5, 7, 11, 12], [0, 8000, 25003])), (26, ([], [0])), (27, ([1, 5, 7, 12], [0, 8000, 25003])), (28, ([1, 5, 7, 12, 13], [0, 8000, 25003])), (29, ([1, 5, 7, 12, 13], [0, 8000, 25003])), (30, ([1, 5, 7, 12, 13], [0, 8000, 25003])), (31, ([1, 5, 7, 12, 13, 14], [0, 8000, 25003, 31004])), (32, ([], [0])), (33, ([1, 5, 12], [0, 25003]))]
def g5res : List ResultVar := [.tmp 4]
def g5cut : List Nat := [4, 7, 11, 23, 27, 30, 33]
abbrev g5t0 (A : Ar) (x4 : Int) (x10 : List (List Nat)) (x11 : Int) (x12 x13 : Nat) (x14 : List Nat) : Int := g15r0 A (((x10.getD (A.toN x4) []).take (A.toN (A.mn (A.ofN ((x10.getD (A.toN x4) []).length)) 300))).drop 0) (A.ib .add .i64 3 (A.ib .rem .i64 x4 5)) x11 x12 x13 x14
abbrev g5t1 (A : Ar) (x4 : Int) (x10 : List (List Nat)) (x11 : Int) (x12 x13 : Nat) (x14 : List Nat) : Nat := g15r1 A (((x10.getD (A.toN x4) []).take (A.toN (A.mn (A.ofN ((x10.getD (A.toN x4) []).length)) 300))).drop 0) (A.ib .add .i64 3 (A.ib .rem .i64 x4 5)) x11 x12 x13 x14
abbrev g5t2 (A : Ar) (x4 : Int) (x10 : List (List Nat)) (x11 : Int) (x12 x13 : Nat) (x14 : List Nat) : Nat := g15r2 A (((x10.getD (A.toN x4) []).take (A.toN (A.mn (A.ofN ((x10.getD (A.toN x4) []).length)) 300))).drop 0) (A.ib .add .i64 3 (A.ib .rem .i64 x4 5)) x11 x12 x13 x14
abbrev g5t3 (A : Ar) (x4 : Int) (x10 : List (List Nat)) (x11 : Int) (x12 x13 : Nat) (x14 : List Nat) : List Nat := g15r3 A (((x10.getD (A.toN x4) []).take (A.toN (A.mn (A.ofN ((x10.getD (A.toN x4) []).length)) 300))).drop 0) (A.ib .add .i64 3 (A.ib .rem .i64 x4 5)) x11 x12 x13 x14
abbrev g5t7 (A : Ar) (x3 : Int) (x13 : List Int) (x14 : List (List Nat)) (x15 : Int) (x16 : List Nat) : List Nat := g23r0 A (x13.getD (A.toN x3) 0) (g21r1 A (A.ofN ((x14.getD (A.toN x3) []).length)) (g19r1 A (x13.getD (A.toN x3) 0) x15 x16) (g19r2 A (x13.getD (A.toN x3) 0) x15 x16)) (g21r2 A (A.ofN ((x14.getD (A.toN x3) []).length)) (g19r1 A (x13.getD (A.toN x3) 0) x15 x16) (g19r2 A (x13.getD (A.toN x3) 0) x15 x16))
abbrev g5t8 (A : Ar) (x3 : Int) (x13 : List Int) (x14 : List (List Nat)) (x15 : Int) (x16 : List Nat) : Int := g23r1 A (x13.getD (A.toN x3) 0) (g21r1 A (A.ofN ((x14.getD (A.toN x3) []).length)) (g19r1 A (x13.getD (A.toN x3) 0) x15 x16) (g19r2 A (x13.getD (A.toN x3) 0) x15 x16)) (g21r2 A (A.ofN ((x14.getD (A.toN x3) []).length)) (g19r1 A (x13.getD (A.toN x3) 0) x15 x16) (g19r2 A (x13.getD (A.toN x3) 0) x15 x16))
abbrev g5t9 (A : Ar) (x3 : Int) (x13 : List Int) (x14 : List (List Nat)) (x15 : Int) (x16 : List Nat) : List Nat := g23r2 A (x13.getD (A.toN x3) 0) (g21r1 A (A.ofN ((x14.getD (A.toN x3) []).length)) (g19r1 A (x13.getD (A.toN x3) 0) x15 x16) (g19r2 A (x13.getD (A.toN x3) 0) x15 x16)) (g21r2 A (A.ofN ((x14.getD (A.toN x3) []).length)) (g19r1 A (x13.getD (A.toN x3) 0) x15 x16) (g19r2 A (x13.getD (A.toN x3) 0) x15 x16))
abbrev g5t10 (A : Ar) (x3 : Int) (x13 : List Int) (x14 : List (List Nat)) (x15 : Int) (x16 : List Nat) : List Nat := g23r0 A (x13.getD (A.toN x3) 0) (g21r1 A (A.ofN ((x14.getD (A.toN x3) []).length)) x15 x16) (g21r2 A (A.ofN ((x14.getD (A.toN x3) []).length)) x15 x16)
abbrev g5t11 (A : Ar) (x3 : Int) (x13 : List Int) (x14 : List (List Nat)) (x15 : Int) (x16 : List Nat) : Int := g23r1 A (x13.getD (A.toN x3) 0) (g21r1 A (A.ofN ((x14.getD (A.toN x3) []).length)) x15 x16) (g21r2 A (A.ofN ((x14.getD (A.toN x3) []).length)) x15 x16)
abbrev g5t12 (A : Ar) (x3 : Int) (x13 : List Int) (x14 : List (List Nat)) (x15 : Int) (x16 : List Nat) : List Nat := g23r2 A (x13.getD (A.toN x3) 0) (g21r1 A (A.ofN ((x14.getD (A.toN x3) []).length)) x15 x16) (g21r2 A (A.ofN ((x14.getD (A.toN x3) []).length)) x15 x16)
noncomputable def g5N {R : Type} (A : Ar) (kk : AV → Heap → Option R) (t : List Bool → St → Option R) (p : List Bool) (s : St) : Option R := nodeN A gtys (g5O A) g5an g5cut t (bodyOf Try.f5) (finD gtys g5res kk) p s
def g5J11s (x0 : Nat) (x1 : List Nat) (x2 : Bool) (x3 : Nat) (x4 : Int) (x5 x6 : Nat) (x7 x8 x9 : List Int) (x10 : List (List Nat)) (x11 : Int) (x12 x13 : Nat) (x14 : List Nat) (x15 : Nat) (x16 x17 x18 : List Int) (x19 : List (List Nat)) : St := ⟨[(0, (sL 0 none x0 4)), (1, (tS x1)), (5, (bO x2)), (6, (pT 5000 0)), (7, (sL 8000 none x3 4)), (8, (i6 x4))], [(0, ⟨[.recs x6 [.ints .i64 x7, .ints .i64 x8, .ints .i64 x9, .strs x10]], x5, 0⟩), (5000, ⟨[.one (.int .i64 x11), .one (.sl 5500 none x12 1)], 56, 1⟩), (5500, ⟨[.nums .u8 x13 x14], 5, 2⟩), (8000, ⟨[.recs x15 [.ints .i64 x16, .ints .i64 x17, .ints .i64 x18, .strs x19]], 30, 2⟩)]⟩
def g5J11 {R : Type} (A : Ar) (n : Nat) (kk : AV → Heap → Option R) (lg5L9 : Nat → List Nat → Bool → Nat → Int → Nat → Nat → List Int → List Int → List Int → List (List Nat) → Int → Nat → Nat → List Nat → Nat → List Int → List Int → List Int → List (List Nat) → Option R) (x0 : Nat) (x1 : List Nat) (x2 : Bool) (x3 : Nat) (x4 : Int) (x5 x6 : Nat) (x7 x8 x9 : List Int) (x10 : List (List Nat)) (x11 : Int) (x12 x13 : Nat) (x14 : List Nat) (x15 : Nat) (x16 x17 x18 : List Int) (x19 : List (List Nat)) : Option R :=
  match A.neg x4 with
  | true => none
  | false => match A.lt (A.toN x4) x0 with
    | true => match g10ok A (x7.getD (A.toN x4) 0) (x8.getD (A.toN x4) 0) (x9.getD (A.toN x4) 0) (x10.getD (A.toN x4) []) with
      | true => match A.neg (A.mn (A.ofN ((x10.getD (A.toN x4) []).length)) 300) with
        | true => none
        | false => match A.le (A.toN (A.mn (A.ofN ((x10.getD (A.toN x4) []).length)) 300)) ((x10.getD (A.toN x4) []).length) with
          | true => match A.eq (x3 * 4) ((x15 * 4) + 0) with
            | true => match A.le ((x15 + 1) * 40) 140737488355328 with
              | true => match A.ic .eql (g10r0 A (x7.getD (A.toN x4) 0) (x8.getD (A.toN x4) 0) (x9.getD (A.toN x4) 0) (x10.getD (A.toN x4) [])) 0 with
                | true => match g11ok A (A.ib .and .i64 (x8.getD (A.toN x4) 0) 16777215) (A.ib .add .i64 3 (A.ib .rem .i64 x4 5)) x11 x12 x13 x14 with
                  | true => lg5L9 x0 x1 x2 (x15 + 1) (A.ib .add .i64 x4 1) x5 x6 x7 x8 x9 x10 (g11r0 A (A.ib .and .i64 (x8.getD (A.toN x4) 0) 16777215) (A.ib .add .i64 3 (A.ib .rem .i64 x4 5)) x11 x12 x13 x14) (g11r1 A (A.ib .and .i64 (x8.getD (A.toN x4) 0) 16777215) (A.ib .add .i64 3 (A.ib .rem .i64 x4 5)) x11 x12 x13 x14) (g11r2 A (A.ib .and .i64 (x8.getD (A.toN x4) 0) 16777215) (A.ib .add .i64 3 (A.ib .rem .i64 x4 5)) x11 x12 x13 x14) (g11r3 A (A.ib .and .i64 (x8.getD (A.toN x4) 0) 16777215) (A.ib .add .i64 3 (A.ib .rem .i64 x4 5)) x11 x12 x13 x14) (x15 + 1) (x16 ++ [g10r0 A (x7.getD (A.toN x4) 0) (x8.getD (A.toN x4) 0) (x9.getD (A.toN x4) 0) (x10.getD (A.toN x4) [])]) (x17 ++ [A.ib .and .i64 (x8.getD (A.toN x4) 0) 16777215]) (x18 ++ [A.ib .add .i64 3 (A.ib .rem .i64 x4 5)]) (x19 ++ [((x10.getD (A.toN x4) []).take (A.toN (A.mn (A.ofN ((x10.getD (A.toN x4) []).length)) 300))).drop 0])
                  | false => none
                | false => match A.ic .eql (g10r0 A (x7.getD (A.toN x4) 0) (x8.getD (A.toN x4) 0) (x9.getD (A.toN x4) 0) (x10.getD (A.toN x4) [])) 1 with
                  | true => match g13ok A (((x10.getD (A.toN x4) []).take (A.toN (A.mn (A.ofN ((x10.getD (A.toN x4) []).length)) 300))).drop 0) x11 x12 x13 x14 with
                    | true => lg5L9 x0 x1 x2 (x15 + 1) (A.ib .add .i64 x4 1) x5 x6 x7 x8 x9 x10 (g13r0 A (((x10.getD (A.toN x4) []).take (A.toN (A.mn (A.ofN ((x10.getD (A.toN x4) []).length)) 300))).drop 0) x11 x12 x13 x14) (g13r1 A (((x10.getD (A.toN x4) []).take (A.toN (A.mn (A.ofN ((x10.getD (A.toN x4) []).length)) 300))).drop 0) x11 x12 x13 x14) (g13r2 A (((x10.getD (A.toN x4) []).take (A.toN (A.mn (A.ofN ((x10.getD (A.toN x4) []).length)) 300))).drop 0) x11 x12 x13 x14) (g13r3 A (((x10.getD (A.toN x4) []).take (A.toN (A.mn (A.ofN ((x10.getD (A.toN x4) []).length)) 300))).drop 0) x11 x12 x13 x14) (x15 + 1) (x16 ++ [g10r0 A (x7.getD (A.toN x4) 0) (x8.getD (A.toN x4) 0) (x9.getD (A.toN x4) 0) (x10.getD (A.toN x4) [])]) (x17 ++ [A.ib .and .i64 (x8.getD (A.toN x4) 0) 16777215]) (x18 ++ [A.ib .add .i64 3 (A.ib .rem .i64 x4 5)]) (x19 ++ [((x10.getD (A.toN x4) []).take (A.toN (A.mn (A.ofN ((x10.getD (A.toN x4) []).length)) 300))).drop 0])
                    | false => none
                  | false => match g15ok A (((x10.getD (A.toN x4) []).take (A.toN (A.mn (A.ofN ((x10.getD (A.toN x4) []).length)) 300))).drop 0) (A.ib .add .i64 3 (A.ib .rem .i64 x4 5)) x11 x12 x13 x14 with
                    | true => lg5L9 x0 x1 x2 (x15 + 1) (A.ib .add .i64 x4 1) x5 x6 x7 x8 x9 x10 (g5t0 A x4 x10 x11 x12 x13 x14) (g5t1 A x4 x10 x11 x12 x13 x14) (g5t2 A x4 x10 x11 x12 x13 x14) (g5t3 A x4 x10 x11 x12 x13 x14) (x15 + 1) (x16 ++ [g10r0 A (x7.getD (A.toN x4) 0) (x8.getD (A.toN x4) 0) (x9.getD (A.toN x4) 0) (x10.getD (A.toN x4) [])]) (x17 ++ [A.ib .and .i64 (x8.getD (A.toN x4) 0) 16777215]) (x18 ++ [A.ib .add .i64 3 (A.ib .rem .i64 x4 5)]) (x19 ++ [((x10.getD (A.toN x4) []).take (A.toN (A.mn (A.ofN ((x10.getD (A.toN x4) []).length)) 300))).drop 0])
                    | false => none
              | false => none
            | false => none
          | false => none
      | false => none
    | false => none
def g5J30s (x0 : List Nat) (x1 : Bool) (x2 : Nat) (x3 : Int) (x4 x5 : Nat) (x6 x7 x8 : List Int) (x9 : List (List Nat)) (x10 : Nat) (x11 x12 x13 : List Int) (x14 : List (List Nat)) (x15 : Int) (x16 : List Nat) : St := ⟨[(1, (tS x0)), (5, (bO x1)), (7, (sL 8000 none x2 4)), (12, (pT 25003 0)), (13, (i6 x3))], [(0, ⟨[.recs x5 [.ints .i64 x6, .ints .i64 x7, .ints .i64 x8, .strs x9]], x4, 0⟩), (8000, ⟨[.recs x10 [.ints .i64 x11, .ints .i64 x12, .ints .i64 x13, .strs x14]], 30, 2⟩), (25003, ⟨[.one (.int .i64 x15), .one (.str x16)], 59, 1⟩)]⟩
def g5J30 {R : Type} (A : Ar) (n : Nat) (kk : AV → Heap → Option R) (lg5L28 : List Nat → Bool → Nat → Int → Nat → Nat → List Int → List Int → List Int → List (List Nat) → Nat → List Int → List Int → List Int → List (List Nat) → Int → List Nat → Option R) (x0 : List Nat) (x1 : Bool) (x2 : Nat) (x3 : Int) (x4 x5 : Nat) (x6 x7 x8 : List Int) (x9 : List (List Nat)) (x10 : Nat) (x11 x12 x13 : List Int) (x14 : List (List Nat)) (x15 : Int) (x16 : List Nat) : Option R :=
  match A.neg x3 with
  | true => none
  | false => match A.lt (A.toN x3) x2 with
    | true => match A.ic .eql (x11.getD (A.toN x3) 0) 0 with
      | true => match g19ok A (x13.getD (A.toN x3) 0) x15 x16 with
        | true => match A.ic .neq (g19r0 A (x13.getD (A.toN x3) 0) x15 x16) (x12.getD (A.toN x3) 0) with
          | true => kk (bO false) [(0, ⟨[.recs x5 [.ints .i64 x6, .ints .i64 x7, .ints .i64 x8, .strs x9]], x4, 0⟩)]
          | false => match A.ic .eql (x11.getD (A.toN x3) 0) 1 with
            | true => match g21ok A (A.ofN ((x14.getD (A.toN x3) []).length)) (g19r1 A (x13.getD (A.toN x3) 0) x15 x16) (g19r2 A (x13.getD (A.toN x3) 0) x15 x16) with
              | true => match A.sc .neq (g21r0 A (A.ofN ((x14.getD (A.toN x3) []).length)) (g19r1 A (x13.getD (A.toN x3) 0) x15 x16) (g19r2 A (x13.getD (A.toN x3) 0) x15 x16)) (x14.getD (A.toN x3) []) with
                | true => kk (bO false) [(0, ⟨[.recs x5 [.ints .i64 x6, .ints .i64 x7, .ints .i64 x8, .strs x9]], x4, 0⟩)]
                | false => match A.ic .eql (x11.getD (A.toN x3) 0) 2 with
                  | true => match g23ok A (x13.getD (A.toN x3) 0) (g21r1 A (A.ofN ((x14.getD (A.toN x3) []).length)) (g19r1 A (x13.getD (A.toN x3) 0) x15 x16) (g19r2 A (x13.getD (A.toN x3) 0) x15 x16)) (g21r2 A (A.ofN ((x14.getD (A.toN x3) []).length)) (g19r1 A (x13.getD (A.toN x3) 0) x15 x16) (g19r2 A (x13.getD (A.toN x3) 0) x15 x16)) with
                    | true => match A.sc .neq (g5t7 A x3 x13 x14 x15 x16) (x14.getD (A.toN x3) []) with
                      | true => kk (bO false) [(0, ⟨[.recs x5 [.ints .i64 x6, .ints .i64 x7, .ints .i64 x8, .strs x9]], x4, 0⟩)]
                      | false => lg5L28 x0 x1 x2 (A.ib .add .i64 x3 1) x4 x5 x6 x7 x8 x9 x10 x11 x12 x13 x14 (g5t8 A x3 x13 x14 x15 x16) (g5t9 A x3 x13 x14 x15 x16)
                    | false => none
                  | false => lg5L28 x0 x1 x2 (A.ib .add .i64 x3 1) x4 x5 x6 x7 x8 x9 x10 x11 x12 x13 x14 (g21r1 A (A.ofN ((x14.getD (A.toN x3) []).length)) (g19r1 A (x13.getD (A.toN x3) 0) x15 x16) (g19r2 A (x13.getD (A.toN x3) 0) x15 x16)) (g21r2 A (A.ofN ((x14.getD (A.toN x3) []).length)) (g19r1 A (x13.getD (A.toN x3) 0) x15 x16) (g19r2 A (x13.getD (A.toN x3) 0) x15 x16))
              | false => none
            | false => match A.ic .eql (x11.getD (A.toN x3) 0) 2 with
              | true => match g23ok A (x13.getD (A.toN x3) 0) (g19r1 A (x13.getD (A.toN x3) 0) x15 x16) (g19r2 A (x13.getD (A.toN x3) 0) x15 x16) with
                | true => match A.sc .neq (g23r0 A (x13.getD (A.toN x3) 0) (g19r1 A (x13.getD (A.toN x3) 0) x15 x16) (g19r2 A (x13.getD (A.toN x3) 0) x15 x16)) (x14.getD (A.toN x3) []) with
                  | true => kk (bO false) [(0, ⟨[.recs x5 [.ints .i64 x6, .ints .i64 x7, .ints .i64 x8, .strs x9]], x4, 0⟩)]
                  | false => lg5L28 x0 x1 x2 (A.ib .add .i64 x3 1) x4 x5 x6 x7 x8 x9 x10 x11 x12 x13 x14 (g23r1 A (x13.getD (A.toN x3) 0) (g19r1 A (x13.getD (A.toN x3) 0) x15 x16) (g19r2 A (x13.getD (A.toN x3) 0) x15 x16)) (g23r2 A (x13.getD (A.toN x3) 0) (g19r1 A (x13.getD (A.toN x3) 0) x15 x16) (g19r2 A (x13.getD (A.toN x3) 0) x15 x16))
                | false => none
              | false => lg5L28 x0 x1 x2 (A.ib .add .i64 x3 1) x4 x5 x6 x7 x8 x9 x10 x11 x12 x13 x14 (g19r1 A (x13.getD (A.toN x3) 0) x15 x16) (g19r2 A (x13.getD (A.toN x3) 0) x15 x16)
        | false => none
      | false => match A.ic .eql (x11.getD (A.toN x3) 0) 1 with
        | true => match g21ok A (A.ofN ((x14.getD (A.toN x3) []).length)) x15 x16 with
          | true => match A.sc .neq (g21r0 A (A.ofN ((x14.getD (A.toN x3) []).length)) x15 x16) (x14.getD (A.toN x3) []) with
            | true => kk (bO false) [(0, ⟨[.recs x5 [.ints .i64 x6, .ints .i64 x7, .ints .i64 x8, .strs x9]], x4, 0⟩)]
            | false => match A.ic .eql (x11.getD (A.toN x3) 0) 2 with
              | true => match g23ok A (x13.getD (A.toN x3) 0) (g21r1 A (A.ofN ((x14.getD (A.toN x3) []).length)) x15 x16) (g21r2 A (A.ofN ((x14.getD (A.toN x3) []).length)) x15 x16) with
                | true => match A.sc .neq (g5t10 A x3 x13 x14 x15 x16) (x14.getD (A.toN x3) []) with
                  | true => kk (bO false) [(0, ⟨[.recs x5 [.ints .i64 x6, .ints .i64 x7, .ints .i64 x8, .strs x9]], x4, 0⟩)]
                  | false => lg5L28 x0 x1 x2 (A.ib .add .i64 x3 1) x4 x5 x6 x7 x8 x9 x10 x11 x12 x13 x14 (g5t11 A x3 x13 x14 x15 x16) (g5t12 A x3 x13 x14 x15 x16)
                | false => none
              | false => lg5L28 x0 x1 x2 (A.ib .add .i64 x3 1) x4 x5 x6 x7 x8 x9 x10 x11 x12 x13 x14 (g21r1 A (A.ofN ((x14.getD (A.toN x3) []).length)) x15 x16) (g21r2 A (A.ofN ((x14.getD (A.toN x3) []).length)) x15 x16)
          | false => none
        | false => match A.ic .eql (x11.getD (A.toN x3) 0) 2 with
          | true => match g23ok A (x13.getD (A.toN x3) 0) x15 x16 with
            | true => match A.sc .neq (g23r0 A (x13.getD (A.toN x3) 0) x15 x16) (x14.getD (A.toN x3) []) with
              | true => kk (bO false) [(0, ⟨[.recs x5 [.ints .i64 x6, .ints .i64 x7, .ints .i64 x8, .strs x9]], x4, 0⟩)]
              | false => lg5L28 x0 x1 x2 (A.ib .add .i64 x3 1) x4 x5 x6 x7 x8 x9 x10 x11 x12 x13 x14 (g23r1 A (x13.getD (A.toN x3) 0) x15 x16) (g23r2 A (x13.getD (A.toN x3) 0) x15 x16)
            | false => none
          | false => lg5L28 x0 x1 x2 (A.ib .add .i64 x3 1) x4 x5 x6 x7 x8 x9 x10 x11 x12 x13 x14 x15 x16
    | false => none
def g5J33s (x0 : List Nat) (x1 : Bool) (x2 x3 : Nat) (x4 x5 x6 : List Int) (x7 : List (List Nat)) (x8 : Int) (x9 : List Nat) : St := ⟨[(1, (tS x0)), (5, (bO x1)), (12, (pT 25003 0))], [(0, ⟨[.recs x3 [.ints .i64 x4, .ints .i64 x5, .ints .i64 x6, .strs x7]], x2, 0⟩), (25003, ⟨[.one (.int .i64 x8), .one (.str x9)], 59, 1⟩)]⟩
def g5J33 {R : Type} (A : Ar) (n : Nat) (kk : AV → Heap → Option R)  (x0 : List Nat) (x1 : Bool) (x2 x3 : Nat) (x4 x5 x6 : List Int) (x7 : List (List Nat)) (x8 : Int) (x9 : List Nat) : Option R :=
  match x1 with
  | true => match g25ok A x8 x9 with
    | true => match A.ic .eql (g25r0 A x8 x9) (A.ofN x0.length) with
      | true => match g27ok A (g25r1 A x8 x9) (g25r2 A x8 x9) with
        | true => kk (bO ((A.ic .eql (g27r0 A (g25r1 A x8 x9) (g25r2 A x8 x9)) 0) == (A.sc .eql x0 []))) [(0, ⟨[.recs x3 [.ints .i64 x4, .ints .i64 x5, .ints .i64 x6, .strs x7]], x2, 0⟩), (25003, ⟨[.one (.int .i64 (g27r1 A (g25r1 A x8 x9) (g25r2 A x8 x9))), .one (.str (g27r2 A (g25r1 A x8 x9) (g25r2 A x8 x9)))], 59, 1⟩)]
        | false => none
      | false => kk (bO false) [(0, ⟨[.recs x3 [.ints .i64 x4, .ints .i64 x5, .ints .i64 x6, .strs x7]], x2, 0⟩), (25003, ⟨[.one (.int .i64 (g25r1 A x8 x9)), .one (.str (g25r2 A x8 x9))], 59, 1⟩)]
    | false => none
  | false => kk (bO false) [(0, ⟨[.recs x3 [.ints .i64 x4, .ints .i64 x5, .ints .i64 x6, .strs x7]], x2, 0⟩), (25003, ⟨[.one (.int .i64 x8), .one (.str x9)], 59, 1⟩)]
def g5L28s (x0 : List Nat) (x1 : Bool) (x2 : Nat) (x3 : Int) (x4 x5 : Nat) (x6 x7 x8 : List Int) (x9 : List (List Nat)) (x10 : Nat) (x11 x12 x13 : List Int) (x14 : List (List Nat)) (x15 : Int) (x16 : List Nat) : St := ⟨[(1, (tS x0)), (5, (bO x1)), (7, (sL 8000 none x2 4)), (12, (pT 25003 0)), (13, (i6 x3))], [(0, ⟨[.recs x5 [.ints .i64 x6, .ints .i64 x7, .ints .i64 x8, .strs x9]], x4, 0⟩), (8000, ⟨[.recs x10 [.ints .i64 x11, .ints .i64 x12, .ints .i64 x13, .strs x14]], 30, 2⟩), (25003, ⟨[.one (.int .i64 x15), .one (.str x16)], 59, 1⟩)]⟩
def g5L28 {R : Type} (A : Ar) (n : Nat) (kk : AV → Heap → Option R)  : Nat → List Nat → Bool → Nat → Int → Nat → Nat → List Int → List Int → List Int → List (List Nat) → Nat → List Int → List Int → List Int → List (List Nat) → Int → List Nat → Option R
  | 0, _, _, _, _, _, _, _, _, _, _, _, _, _, _, _, _, _ => none
  | m + 1, x0, x1, x2, x3, x4, x5, x6, x7, x8, x9, x10, x11, x12, x13, x14, x15, x16 => match A.ic .lss x3 (A.ofN x2) with
  | true => g5J30 A n kk (g5L28 A n kk  m) x0 x1 x2 x3 x4 x5 x6 x7 x8 x9 x10 x11 x12 x13 x14 x15 x16
  | false => g5J33 A n kk  x0 x1 x4 x5 x6 x7 x8 x9 x15 x16
def g5J27s (x0 : List Nat) (x1 : Bool) (x2 x3 x4 : Nat) (x5 x6 x7 : List Int) (x8 : List (List Nat)) (x9 : Nat) (x10 x11 x12 : List Int) (x13 : List (List Nat)) (x14 : Int) (x15 : List Nat) : St := ⟨[(1, (tS x0)), (5, (bO x1)), (7, (sL 8000 none x2 4)), (12, (pT 25003 0))], [(0, ⟨[.recs x4 [.ints .i64 x5, .ints .i64 x6, .ints .i64 x7, .strs x8]], x3, 0⟩), (8000, ⟨[.recs x9 [.ints .i64 x10, .ints .i64 x11, .ints .i64 x12, .strs x13]], 30, 2⟩), (25003, ⟨[.one (.int .i64 x14), .one (.str x15)], 59, 1⟩)]⟩
def g5J27 {R : Type} (A : Ar) (n : Nat) (kk : AV → Heap → Option R)  (x0 : List Nat) (x1 : Bool) (x2 x3 x4 : Nat) (x5 x6 x7 : List Int) (x8 : List (List Nat)) (x9 : Nat) (x10 x11 x12 : List Int) (x13 : List (List Nat)) (x14 : Int) (x15 : List Nat) : Option R :=
  g5L28 A n kk  n x0 x1 x2 0 x3 x4 x5 x6 x7 x8 x9 x10 x11 x12 x13 x14 x15
def g5J23s (x0 : List Nat) (x1 : Bool) (x2 x3 x4 : Nat) (x5 x6 x7 : List Int) (x8 : List (List Nat)) (x9 : Int) (x10 x11 : Nat) (x12 : List Nat) (x13 : Nat) (x14 x15 x16 : List Int) (x17 : List (List Nat)) : St := ⟨[(1, (tS x0)), (5, (bO x1)), (6, (pT 5000 0)), (7, (sL 8000 none x2 4))], [(0, ⟨[.recs x4 [.ints .i64 x5, .ints .i64 x6, .ints .i64 x7, .strs x8]], x3, 0⟩), (5000, ⟨[.one (.int .i64 x9), .one (.sl 5500 none x10 1)], 56, 1⟩), (5500, ⟨[.nums .u8 x11 x12], 5, 2⟩), (8000, ⟨[.recs x13 [.ints .i64 x14, .ints .i64 x15, .ints .i64 x16, .strs x17]], 30, 2⟩)]⟩
def g5J23 {R : Type} (A : Ar) (n : Nat) (kk : AV → Heap → Option R)  (x0 : List Nat) (x1 : Bool) (x2 x3 x4 : Nat) (x5 x6 x7 : List Int) (x8 : List (List Nat)) (x9 : Int) (x10 x11 : Nat) (x12 : List Nat) (x13 : Nat) (x14 x15 x16 : List Int) (x17 : List (List Nat)) : Option R :=
  match g17ok A x9 x10 x11 x12 with
  | true => match A.le ((g17r0 A x9 x10 x11 x12).length + x0.length) 9223372036854775807 with
    | true => match g18ok A ((g17r0 A x9 x10 x11 x12) ++ x0) with
      | true => match A.ic .neq (g17r1 A x9 x10 x11 x12) 0 with
        | true => kk (bO false) [(0, ⟨[.recs x4 [.ints .i64 x5, .ints .i64 x6, .ints .i64 x7, .strs x8]], x3, 0⟩)]
        | false => g5J27 A n kk  x0 x1 x2 x3 x4 x5 x6 x7 x8 x13 x14 x15 x16 x17 (g18r0 A ((g17r0 A x9 x10 x11 x12) ++ x0)) (g18r1 A ((g17r0 A x9 x10 x11 x12) ++ x0))
      | false => none
    | false => none
  | false => none
def g5L9s (x0 : Nat) (x1 : List Nat) (x2 : Bool) (x3 : Nat) (x4 : Int) (x5 x6 : Nat) (x7 x8 x9 : List Int) (x10 : List (List Nat)) (x11 : Int) (x12 x13 : Nat) (x14 : List Nat) (x15 : Nat) (x16 x17 x18 : List Int) (x19 : List (List Nat)) : St := ⟨[(0, (sL 0 none x0 4)), (1, (tS x1)), (5, (bO x2)), (6, (pT 5000 0)), (7, (sL 8000 none x3 4)), (8, (i6 x4))], [(0, ⟨[.recs x6 [.ints .i64 x7, .ints .i64 x8, .ints .i64 x9, .strs x10]], x5, 0⟩), (5000, ⟨[.one (.int .i64 x11), .one (.sl 5500 none x12 1)], 56, 1⟩), (5500, ⟨[.nums .u8 x13 x14], 5, 2⟩), (8000, ⟨[.recs x15 [.ints .i64 x16, .ints .i64 x17, .ints .i64 x18, .strs x19]], 30, 2⟩)]⟩
def g5L9 {R : Type} (A : Ar) (n : Nat) (kk : AV → Heap → Option R)  : Nat → Nat → List Nat → Bool → Nat → Int → Nat → Nat → List Int → List Int → List Int → List (List Nat) → Int → Nat → Nat → List Nat → Nat → List Int → List Int → List Int → List (List Nat) → Option R
  | 0, _, _, _, _, _, _, _, _, _, _, _, _, _, _, _, _, _, _, _, _ => none
  | m + 1, x0, x1, x2, x3, x4, x5, x6, x7, x8, x9, x10, x11, x12, x13, x14, x15, x16, x17, x18, x19 => match A.ic .lss x4 (A.ofN x0) with
  | true => match A.ic .lss x4 20 with
    | true => g5J11 A n kk (g5L9 A n kk  m) x0 x1 x2 x3 x4 x5 x6 x7 x8 x9 x10 x11 x12 x13 x14 x15 x16 x17 x18 x19
    | false => g5J23 A n kk  x1 x2 x3 x5 x6 x7 x8 x9 x10 x11 x12 x13 x14 x15 x16 x17 x18 x19
  | false => g5J23 A n kk  x1 x2 x3 x5 x6 x7 x8 x9 x10 x11 x12 x13 x14 x15 x16 x17 x18 x19
def g5J7s (x0 : Nat) (x1 : List Nat) (x2 : Bool) (x3 x4 : Nat) (x5 x6 x7 : List Int) (x8 : List (List Nat)) (x9 : Int) (x10 x11 : Nat) (x12 : List Nat) : St := ⟨[(0, (sL 0 none x0 4)), (1, (tS x1)), (5, (bO x2)), (6, (pT 5000 0))], [(0, ⟨[.recs x4 [.ints .i64 x5, .ints .i64 x6, .ints .i64 x7, .strs x8]], x3, 0⟩), (5000, ⟨[.one (.int .i64 x9), .one (.sl 5500 none x10 1)], 56, 1⟩), (5500, ⟨[.nums .u8 x11 x12], 5, 2⟩)]⟩
def g5J7 {R : Type} (A : Ar) (n : Nat) (kk : AV → Heap → Option R)  (x0 : Nat) (x1 : List Nat) (x2 : Bool) (x3 x4 : Nat) (x5 x6 x7 : List Int) (x8 : List (List Nat)) (x9 : Int) (x10 x11 : Nat) (x12 : List Nat) : Option R :=
  g5L9 A n kk  n x0 x1 x2 0 0 x3 x4 x5 x6 x7 x8 x9 x10 x11 x12 0 [] [] [] []
def g5J4s (x0 : Nat) (x1 : List Nat) (x2 : Bool) (x3 x4 : Nat) (x5 x6 x7 : List Int) (x8 : List (List Nat)) : St := ⟨[(0, (sL 0 none x0 4)), (1, (tS x1)), (5, (bO x2))], [(0, ⟨[.recs x4 [.ints .i64 x5, .ints .i64 x6, .ints .i64 x7, .strs x8]], x3, 0⟩)]⟩
def g5J4 {R : Type} (A : Ar) (n : Nat) (kk : AV → Heap → Option R)  (x0 : Nat) (x1 : List Nat) (x2 : Bool) (x3 x4 : Nat) (x5 x6 x7 : List Int) (x8 : List (List Nat)) : Option R :=
  match g9ok A with
  | true => g5J7 A n kk  x0 x1 x2 x3 x4 x5 x6 x7 x8 (g9r0 A) 0 0 []
  | false => none
def g5 {R : Type} (A : Ar) (n : Nat) (kk : AV → Heap → Option R) (x0 : Nat) (x1 : List Nat) (x2 x3 : Nat) (x4 x5 x6 : List Int) (x7 : List (List Nat)) : Option R :=
  match g8ok A with
  | true => match !(g8r0 A) with
    | true => kk (bO false) [(0, ⟨[.recs x3 [.ints .i64 x4, .ints .i64 x5, .ints .i64 x6, .strs x7]], x2, 0⟩)]
    | false => g5J4 A n kk  x0 x1 (g8r0 A) x2 x3 x4 x5 x6 x7
  | false => none
section
variable {R : Type} {A : Ar} {n : Nat} {kk : AV → Heap → Option R} {tb : Nat → List Bool → St → Option R} (st : Stp (g5N A kk) tb)
include st
theorem g5J11_go {lg5L9 : Nat → List Nat → Bool → Nat → Int → Nat → Nat → List Int → List Int → List Int → List (List Nat) → Int → Nat → Nat → List Nat → Nat → List Int → List Int → List Int → List (List Nat) → Option R} (hg5L9 : ∀ (x0 : Nat) (x1 : List Nat) (x2 : Bool) (x3 : Nat) (x4 : Int) (x5 x6 : Nat) (x7 x8 x9 : List Int) (x10 : List (List Nat)) (x11 : Int) (x12 x13 : Nat) (x14 : List Nat) (x15 : Nat) (x16 x17 x18 : List Int) (x19 : List (List Nat)), Prs (fun k => tb k (pth 2036) (g5L9s x0 x1 x2 x3 x4 x5 x6 x7 x8 x9 x10 x11 x12 x13 x14 x15 x16 x17 x18 x19)) (lg5L9 x0 x1 x2 x3 x4 x5 x6 x7 x8 x9 x10 x11 x12 x13 x14 x15 x16 x17 x18 x19)) {x0 : Nat} {x1 : List Nat} {x2 : Bool} {x3 : Nat} {x4 : Int} {x5 : Nat} {x6 : Nat} {x7 : List Int} {x8 : List Int} {x9 : List Int} {x10 : List (List Nat)} {x11 : Int} {x12 : Nat} {x13 : Nat} {x14 : List Nat} {x15 : Nat} {x16 : List Int} {x17 : List Int} {x18 : List Int} {x19 : List (List Nat)} : Prs (fun k => tb k (pth 4073) (g5J11s x0 x1 x2 x3 x4 x5 x6 x7 x8 x9 x10 x11 x12 x13 x14 x15 x16 x17 x18 x19)) (g5J11 A n kk lg5L9 x0 x1 x2 x3 x4 x5 x6 x7 x8 x9 x10 x11 x12 x13 x14 x15 x16 x17 x18 x19) := by
  unfold g5J11
  exact st.g (pc (SxB13fpi _ pn (SxB13fpi _ (SxB13fpi _ (SxB13fpi _ pn (SxB13fpi _ (SxB13fpi _ (SxB13fpi _ (SxB13fpi _ (SxB13fpi _ (hg5L9 _ _ _ _ _ _ _ _ _ _ _ _ _ _ _ _ _ _ _ _) pn) (SxB13fpi _ (SxB13fpi _ (hg5L9 _ _ _ _ _ _ _ _ _ _ _ _ _ _ _ _ _ _ _ _) pn) (SxB13fpi _ (hg5L9 _ _ _ _ _ _ _ _ _ _ _ _ _ _ _ _ _ _ _ _) pn))) pn) pn) pn)) pn) pn)) (by kernel_rfl))
theorem g5J30_go {lg5L28 : List Nat → Bool → Nat → Int → Nat → Nat → List Int → List Int → List Int → List (List Nat) → Nat → List Int → List Int → List Int → List (List Nat) → Int → List Nat → Option R} (hg5L28 : ∀ (x0 : List Nat) (x1 : Bool) (x2 : Nat) (x3 : Int) (x4 x5 : Nat) (x6 x7 x8 : List Int) (x9 : List (List Nat)) (x10 : Nat) (x11 x12 x13 : List Int) (x14 : List (List Nat)) (x15 : Int) (x16 : List Nat), Prs (fun k => tb k (pth 32756) (g5L28s x0 x1 x2 x3 x4 x5 x6 x7 x8 x9 x10 x11 x12 x13 x14 x15 x16)) (lg5L28 x0 x1 x2 x3 x4 x5 x6 x7 x8 x9 x10 x11 x12 x13 x14 x15 x16)) {x0 : List Nat} {x1 : Bool} {x2 : Nat} {x3 : Int} {x4 : Nat} {x5 : Nat} {x6 : List Int} {x7 : List Int} {x8 : List Int} {x9 : List (List Nat)} {x10 : Nat} {x11 : List Int} {x12 : List Int} {x13 : List Int} {x14 : List (List Nat)} {x15 : Int} {x16 : List Nat} : Prs (fun k => tb k (pth 65513) (g5J30s x0 x1 x2 x3 x4 x5 x6 x7 x8 x9 x10 x11 x12 x13 x14 x15 x16)) (g5J30 A n kk lg5L28 x0 x1 x2 x3 x4 x5 x6 x7 x8 x9 x10 x11 x12 x13 x14 x15 x16) := by
  unfold g5J30
  exact st.g (pc (SxB13fpi _ pn (SxB13fpi _ (SxB13fpi _ (SxB13fpi _ (SxB13fpi _ (pf _) (SxB13fpi _ (SxB13fpi _ (SxB13fpi _ (pf _) (SxB13fpi _ (SxB13fpi _ (SxB13fpi _ (pf _) (hg5L28 _ _ _ _ _ _ _ _ _ _ _ _ _ _ _ _ _)) pn) (hg5L28 _ _ _ _ _ _ _ _ _ _ _ _ _ _ _ _ _))) pn) (SxB13fpi _ (SxB13fpi _ (SxB13fpi _ (pf _) (hg5L28 _ _ _ _ _ _ _ _ _ _ _ _ _ _ _ _ _)) pn) (hg5L28 _ _ _ _ _ _ _ _ _ _ _ _ _ _ _ _ _)))) pn) (SxB13fpi _ (SxB13fpi _ (SxB13fpi _ (pf _) (SxB13fpi _ (SxB13fpi _ (SxB13fpi _ (pf _) (hg5L28 _ _ _ _ _ _ _ _ _ _ _ _ _ _ _ _ _)) pn) (hg5L28 _ _ _ _ _ _ _ _ _ _ _ _ _ _ _ _ _))) pn) (SxB13fpi _ (SxB13fpi _ (SxB13fpi _ (pf _) (hg5L28 _ _ _ _ _ _ _ _ _ _ _ _ _ _ _ _ _)) pn) (hg5L28 _ _ _ _ _ _ _ _ _ _ _ _ _ _ _ _ _)))) pn)) (by kernel_rfl))
theorem g5J33_go {x0 : List Nat} {x1 : Bool} {x2 : Nat} {x3 : Nat} {x4 : List Int} {x5 : List Int} {x6 : List Int} {x7 : List (List Nat)} {x8 : Int} {x9 : List Nat} : Prs (fun k => tb k (pth 4095) (g5J33s x0 x1 x2 x3 x4 x5 x6 x7 x8 x9)) (g5J33 A n kk x0 x1 x2 x3 x4 x5 x6 x7 x8 x9) := by
  unfold g5J33
  exact st.g (pc (SxB13fpi _ (SxB13fpi _ (SxB13fpi _ (SxB13fpi _ (pf _) pn) (pf _)) pn) (pf _)) (by kernel_rfl))
theorem g5L28_go (m : Nat) : ∀ (x0 : List Nat) (x1 : Bool) (x2 : Nat) (x3 : Int) (x4 x5 : Nat) (x6 x7 x8 : List Int) (x9 : List (List Nat)) (x10 : Nat) (x11 x12 x13 : List Int) (x14 : List (List Nat)) (x15 : Int) (x16 : List Nat), Prs (fun k => tb k (pth 32756) (g5L28s x0 x1 x2 x3 x4 x5 x6 x7 x8 x9 x10 x11 x12 x13 x14 x15 x16)) (g5L28 A n kk m x0 x1 x2 x3 x4 x5 x6 x7 x8 x9 x10 x11 x12 x13 x14 x15 x16) := by
  induction m with
  | zero => intro x0 x1 x2 x3 x4 x5 x6 x7 x8 x9 x10 x11 x12 x13 x14 x15 x16; exact pn0
  | succ m ih =>
    intro x0 x1 x2 x3 x4 x5 x6 x7 x8 x9 x10 x11 x12 x13 x14 x15 x16; rw [g5L28]
    exact st.g (pc (SxB13fpi _ (g5J30_go st ih) (g5J33_go st)) (by kernel_rfl))
theorem g5J27_go {x0 : List Nat} {x1 : Bool} {x2 : Nat} {x3 : Nat} {x4 : Nat} {x5 : List Int} {x6 : List Int} {x7 : List Int} {x8 : List (List Nat)} {x9 : Nat} {x10 : List Int} {x11 : List Int} {x12 : List Int} {x13 : List (List Nat)} {x14 : Int} {x15 : List Nat} : Prs (fun k => tb k (pth 2047) (g5J27s x0 x1 x2 x3 x4 x5 x6 x7 x8 x9 x10 x11 x12 x13 x14 x15)) (g5J27 A n kk x0 x1 x2 x3 x4 x5 x6 x7 x8 x9 x10 x11 x12 x13 x14 x15) := by
  unfold g5J27
  exact st.g (pc (g5L28_go st n _ _ _ _ _ _ _ _ _ _ _ _ _ _ _ _ _) (by kernel_rfl))
theorem g5J23_go {x0 : List Nat} {x1 : Bool} {x2 : Nat} {x3 : Nat} {x4 : Nat} {x5 : List Int} {x6 : List Int} {x7 : List Int} {x8 : List (List Nat)} {x9 : Int} {x10 : Nat} {x11 : Nat} {x12 : List Nat} {x13 : Nat} {x14 : List Int} {x15 : List Int} {x16 : List Int} {x17 : List (List Nat)} : Prs (fun k => tb k (pth 255) (g5J23s x0 x1 x2 x3 x4 x5 x6 x7 x8 x9 x10 x11 x12 x13 x14 x15 x16 x17)) (g5J23 A n kk x0 x1 x2 x3 x4 x5 x6 x7 x8 x9 x10 x11 x12 x13 x14 x15 x16 x17) := by
  unfold g5J23
  exact st.g (pc (SxB13fpi _ (SxB13fpi _ (SxB13fpi _ (SxB13fpi _ (pf _) (g5J27_go st)) pn) pn) pn) (by kernel_rfl))
theorem g5L9_go (m : Nat) : ∀ (x0 : Nat) (x1 : List Nat) (x2 : Bool) (x3 : Nat) (x4 : Int) (x5 x6 : Nat) (x7 x8 x9 : List Int) (x10 : List (List Nat)) (x11 : Int) (x12 x13 : Nat) (x14 : List Nat) (x15 : Nat) (x16 x17 x18 : List Int) (x19 : List (List Nat)), Prs (fun k => tb k (pth 2036) (g5L9s x0 x1 x2 x3 x4 x5 x6 x7 x8 x9 x10 x11 x12 x13 x14 x15 x16 x17 x18 x19)) (g5L9 A n kk m x0 x1 x2 x3 x4 x5 x6 x7 x8 x9 x10 x11 x12 x13 x14 x15 x16 x17 x18 x19) := by
  induction m with
  | zero => intro x0 x1 x2 x3 x4 x5 x6 x7 x8 x9 x10 x11 x12 x13 x14 x15 x16 x17 x18 x19; exact pn0
  | succ m ih =>
    intro x0 x1 x2 x3 x4 x5 x6 x7 x8 x9 x10 x11 x12 x13 x14 x15 x16 x17 x18 x19; rw [g5L9]
    exact st.g (pc (SxB13fpi _ (SxB13fpi _ (g5J11_go st ih) (g5J23_go st)) (g5J23_go st)) (by kernel_rfl))
theorem g5J7_go {x0 : Nat} {x1 : List Nat} {x2 : Bool} {x3 : Nat} {x4 : Nat} {x5 : List Int} {x6 : List Int} {x7 : List Int} {x8 : List (List Nat)} {x9 : Int} {x10 : Nat} {x11 : Nat} {x12 : List Nat} : Prs (fun k => tb k (pth 63) (g5J7s x0 x1 x2 x3 x4 x5 x6 x7 x8 x9 x10 x11 x12)) (g5J7 A n kk x0 x1 x2 x3 x4 x5 x6 x7 x8 x9 x10 x11 x12) := by
  unfold g5J7
  exact st.g (pc (g5L9_go st n _ _ _ _ _ _ _ _ _ _ _ _ _ _ _ _ _ _ _ _) (by kernel_rfl))
theorem g5J4_go {x0 : Nat} {x1 : List Nat} {x2 : Bool} {x3 : Nat} {x4 : Nat} {x5 : List Int} {x6 : List Int} {x7 : List Int} {x8 : List (List Nat)} : Prs (fun k => tb k (pth 15) (g5J4s x0 x1 x2 x3 x4 x5 x6 x7 x8)) (g5J4 A n kk x0 x1 x2 x3 x4 x5 x6 x7 x8) := by
  unfold g5J4
  exact st.g (pc (SxB13fpi _ (g5J7_go st) pn) (by kernel_rfl))
theorem g5_go {x0 : Nat} {x1 : List Nat} {x2 : Nat} {x3 : Nat} {x4 : List Int} {x5 : List Int} {x6 : List Int} {x7 : List (List Nat)} : Prs (fun k => funN A gtys (g5O A) g5an g5cut (bodyOf Try.f5) g5res [(sL 0 none x0 4), (tS x1)] [(0, ⟨[.recs x3 [.ints .i64 x4, .ints .i64 x5, .ints .i64 x6, .strs x7]], x2, 0⟩)] kk (tb k)) (g5 A n kk x0 x1 x2 x3 x4 x5 x6 x7) := by
  unfold g5
  exact pc (SxB13fpi _ (SxB13fpi _ (pf _) (g5J4_go st)) pn) (by kernel_rfl)
end
def g5is (o : Option (AV × Heap)) : Bool := match o with
  | some (.v (.cell (.bool _)), [(n0, ⟨[.recs _ [.ints .i64 _, .ints .i64 _, .ints .i64 _, .strs _]], _, n1⟩)]) => Nat.beq n0 0 && (Nat.beq n1 0)
  | _ => false
def g5g0 (o : Option (AV × Heap)) : Bool := match o with
  | some (.v (.cell (.bool x)), [(_, ⟨[.recs _ [.ints .i64 _, .ints .i64 _, .ints .i64 _, .strs _]], _, _⟩)]) => x
  | _ => false
def g5g1 (o : Option (AV × Heap)) : Nat := match o with
  | some (.v (.cell (.bool _)), [(_, ⟨[.recs _ [.ints .i64 _, .ints .i64 _, .ints .i64 _, .strs _]], x, _⟩)]) => x
  | _ => 0
def g5g2 (o : Option (AV × Heap)) : Nat := match o with
  | some (.v (.cell (.bool _)), [(_, ⟨[.recs x [.ints .i64 _, .ints .i64 _, .ints .i64 _, .strs _]], _, _⟩)]) => x
  | _ => 0
def g5g3 (o : Option (AV × Heap)) : List Int := match o with
  | some (.v (.cell (.bool _)), [(_, ⟨[.recs _ [.ints .i64 x, .ints .i64 _, .ints .i64 _, .strs _]], _, _⟩)]) => x
  | _ => []
def g5g4 (o : Option (AV × Heap)) : List Int := match o with
  | some (.v (.cell (.bool _)), [(_, ⟨[.recs _ [.ints .i64 _, .ints .i64 x, .ints .i64 _, .strs _]], _, _⟩)]) => x
  | _ => []
def g5g5 (o : Option (AV × Heap)) : List Int := match o with
  | some (.v (.cell (.bool _)), [(_, ⟨[.recs _ [.ints .i64 _, .ints .i64 _, .ints .i64 x, .strs _]], _, _⟩)]) => x
  | _ => []
def g5g6 (o : Option (AV × Heap)) : List (List Nat) := match o with
  | some (.v (.cell (.bool _)), [(_, ⟨[.recs _ [.ints .i64 _, .ints .i64 _, .ints .i64 _, .strs x]], _, _⟩)]) => x
  | _ => []
theorem g5is_spec {o : Option (AV × Heap)} (h : g5is o = true) : o = some ((bO (g5g0 o)), [(0, ⟨[.recs (g5g2 o) [.ints .i64 (g5g3 o), .ints .i64 (g5g4 o), .ints .i64 (g5g5 o), .strs (g5g6 o)]], (g5g1 o), 0⟩)]) := by
  unfold g5is at h
  split at h
  · rename_i z0 n0 z2 z3 z4 z5 z6 z7 n1
    simp only [Bool.and_eq_true] at h
    have en0 := beq_true h.1
    subst en0
    replace h := h.2
    have en1 := beq_true h
    subst en1
    rfl
  · cases h
def g5v (A : Ar) (x0 : Nat) (x1 : List Nat) (x2 x3 : Nat) (x4 x5 x6 : List Int) (x7 : List (List Nat)) : Option (AV × Heap) := g5 A (100000) (outH [0] none) x0 x1 x2 x3 x4 x5 x6 x7
def g5ok (A : Ar) (x0 : Nat) (x1 : List Nat) (x2 x3 : Nat) (x4 x5 x6 : List Int) (x7 : List (List Nat)) : Bool := g5is (g5v A x0 x1 x2 x3 x4 x5 x6 x7)
def g5r0 (A : Ar) (x0 : Nat) (x1 : List Nat) (x2 x3 : Nat) (x4 x5 x6 : List Int) (x7 : List (List Nat)) : Bool := g5g0 (g5v A x0 x1 x2 x3 x4 x5 x6 x7)
def g5r1 (A : Ar) (x0 : Nat) (x1 : List Nat) (x2 x3 : Nat) (x4 x5 x6 : List Int) (x7 : List (List Nat)) : Nat := g5g1 (g5v A x0 x1 x2 x3 x4 x5 x6 x7)
def g5r2 (A : Ar) (x0 : Nat) (x1 : List Nat) (x2 x3 : Nat) (x4 x5 x6 : List Int) (x7 : List (List Nat)) : Nat := g5g2 (g5v A x0 x1 x2 x3 x4 x5 x6 x7)
def g5r3 (A : Ar) (x0 : Nat) (x1 : List Nat) (x2 x3 : Nat) (x4 x5 x6 : List Int) (x7 : List (List Nat)) : List Int := g5g3 (g5v A x0 x1 x2 x3 x4 x5 x6 x7)
def g5r4 (A : Ar) (x0 : Nat) (x1 : List Nat) (x2 x3 : Nat) (x4 x5 x6 : List Int) (x7 : List (List Nat)) : List Int := g5g4 (g5v A x0 x1 x2 x3 x4 x5 x6 x7)
def g5r5 (A : Ar) (x0 : Nat) (x1 : List Nat) (x2 x3 : Nat) (x4 x5 x6 : List Int) (x7 : List (List Nat)) : List Int := g5g5 (g5v A x0 x1 x2 x3 x4 x5 x6 x7)
def g5r6 (A : Ar) (x0 : Nat) (x1 : List Nat) (x2 x3 : Nat) (x4 x5 x6 : List Int) (x7 : List (List Nat)) : List (List Nat) := g5g6 (g5v A x0 x1 x2 x3 x4 x5 x6 x7)
theorem g5ok_spec {A : Ar} {x0 x1 x2 x3 x4 x5 x6 x7} (h : g5ok A x0 x1 x2 x3 x4 x5 x6 x7 = true) : g5v A x0 x1 x2 x3 x4 x5 x6 x7 = some ((bO (g5r0 A x0 x1 x2 x3 x4 x5 x6 x7)), [(0, ⟨[.recs (g5r2 A x0 x1 x2 x3 x4 x5 x6 x7) [.ints .i64 (g5r3 A x0 x1 x2 x3 x4 x5 x6 x7), .ints .i64 (g5r4 A x0 x1 x2 x3 x4 x5 x6 x7), .ints .i64 (g5r5 A x0 x1 x2 x3 x4 x5 x6 x7), .strs (g5r6 A x0 x1 x2 x3 x4 x5 x6 x7)]], (g5r1 A x0 x1 x2 x3 x4 x5 x6 x7), 0⟩)]) := g5is_spec h
def g5o (A : Ar) (args : List AV) (h : Heap) : Option (Bool × AV × Heap) := match args, h with
  | [.v (.cell (.sl n0 none x0 n1)), .v (.cell (.str x1))], [(n2, ⟨[.recs x3 [.ints .i64 x4, .ints .i64 x5, .ints .i64 x6, .strs x7]], x2, n3⟩)] => match Nat.beq n0 0 && (Nat.beq n1 4 && (Nat.beq n2 0 && (Nat.beq n3 0))) with
    | true => some (g5ok A x0 x1 x2 x3 x4 x5 x6 x7, (bO (g5r0 A x0 x1 x2 x3 x4 x5 x6 x7)), [(0, ⟨[.recs (g5r2 A x0 x1 x2 x3 x4 x5 x6 x7) [.ints .i64 (g5r3 A x0 x1 x2 x3 x4 x5 x6 x7), .ints .i64 (g5r4 A x0 x1 x2 x3 x4 x5 x6 x7), .ints .i64 (g5r5 A x0 x1 x2 x3 x4 x5 x6 x7), .strs (g5r6 A x0 x1 x2 x3 x4 x5 x6 x7)]], (g5r1 A x0 x1 x2 x3 x4 x5 x6 x7), 0⟩)])
    | false => none
  | _, _ => none
theorem g5o_sound : ∀ args h v h', g5o realA args h = some (true, v, h') → FnH Try.prog 5 args h v h' := by
  intro args h v h' hh
  unfold g5o at hh
  split at hh
  · rename_i n0 x0 n1 x1 n2 x3 x4 x5 x6 x7 x2 n3
    split at hh
    case h_2 => cases hh
    rename_i hc0
    simp only [Option.some.injEq, Prod.mk.injEq] at hh
    obtain ⟨hc, hv, hh⟩ := hh
    subst hv
    subst hh
    simp only [Bool.and_eq_true] at hc0
    have en0 := beq_true hc0.1
    subst en0
    replace hc0 := hc0.2
    have en1 := beq_true hc0.1
    subst en1
    replace hc0 := hc0.2
    have en2 := beq_true hc0.1
    subst en2
    replace hc0 := hc0.2
    have en3 := beq_true hc0
    subst en3
    exact fnh_ofG mixed gtysOK g5O_sound g5O_det (an := g5an) (cut := g5cut) Try.func5 (c := bodyOf Try.f5) rfl (by kernel_rfl) Try.call5 (Nat.le_of_ble_eq_true rfl) (pins := [0]) (nilr := none) (fun _ => (show g5v realA x0 x1 x2 x3 x4 x5 x6 x7 = _ from g5ok_spec hc)) fun _ st => g5_go st
  · cases hh
attribute [local irreducible] g5ok g5r0 g5r1 g5r2 g5r3 g5r4 g5r5 g5r6
end Go.Sx
