/- printed by sxgen -/
import Derived.Test.YtcgjapkajaflpaaSxP04b
namespace Go.Sx
open Go.Proofs
set_option linter.unusedVariables false
/- engrosser/engrosserlaw04.examples -/
def g9an : Ann := [(0, ([], [])), (1, ([], [])), (2, ([1], []))]
def g9res : List ResultVar := [.tmp 0]
noncomputable def g9D {R : Type} (A : Ar) (n : Nat) (p : List Bool) (K : Ex → St → Option R) (s : St) : Option R := codeD A gtys (orcOf [(16, g16o), (10, g10o), (12, g12o), (14, g14o)]) g9an n (sub (bodyOf Try.f9) p) K s
noncomputable def g9V {R : Type} (A : Ar) (n : Nat) (p : List Bool) (m : Nat) (K : Ex → St → Option R) (s : St) : Option R := loopD (fun K' s'' => codeD A gtys (orcOf [(16, g16o), (10, g10o), (12, g12o), (14, g14o)]) g9an n (sub (bodyOf Try.f9) p) K' s'') m K s
noncomputable def g9Q {R : Type} (A : Ar) (n : Nat) (p : List Bool) (K : Ex → St → Option R) : Ex → St → Option R := seqC (g9D A n p K) K
noncomputable def g9W {R : Type} (A : Ar) (n : Nat) (p : List Bool) (m : Nat) (K : Ex → St → Option R) : Ex → St → Option R := seqC (g9V A n p m K) K
noncomputable def g9T {R : Type} (kk : AV → Heap → Option R) : Ex → St → Option R := finD gtys g9res kk
theorem g9Qn {R : Type} (A : Ar) (n : Nat) (p : List Bool) (K : Ex → St → Option R) (s : St) : g9Q A n p K .normal s = g9D A n p K s := rfl
theorem g9Qe {R : Type} (A : Ar) (n : Nat) (p : List Bool) (K : Ex → St → Option R) (i : Nat) (s : St) : g9Q A n p K (.exit i) s = K (.exit i) s := rfl
theorem g9Qr {R : Type} (A : Ar) (n : Nat) (p : List Bool) (K : Ex → St → Option R) (s : St) : g9Q A n p K .ret s = K .ret s := rfl
theorem g9Wn {R : Type} (A : Ar) (n : Nat) (p : List Bool) (m : Nat) (K : Ex → St → Option R) (s : St) : g9W A n p m K .normal s = g9V A n p m K s := rfl
theorem g9We {R : Type} (A : Ar) (n : Nat) (p : List Bool) (m : Nat) (K : Ex → St → Option R) (i : Nat) (s : St) : g9W A n p m K (.exit i) s = K (.exit i) s := rfl
theorem g9Wr {R : Type} (A : Ar) (n : Nat) (p : List Bool) (m : Nat) (K : Ex → St → Option R) (s : St) : g9W A n p m K .ret s = K .ret s := rfl
theorem g9Vs {R : Type} (A : Ar) (n : Nat) (p : List Bool) (m : Nat) (K : Ex → St → Option R) (s : St) : g9V A n p (m + 1) K s = g9D A n p (g9W A n p m K) s := rfl
theorem g9p {R : Type} (A : Ar) (n : Nat) (K : Ex → St → Option R) (s : St) : g9D A n [] K s = g9D A n [false] (g9Q A n [true] K) s := by kernel_rfl
theorem g9p0 {R : Type} (A : Ar) (n : Nat) (K : Ex → St → Option R) (s s' : St) (h : keep g9an 0 s = keep g9an 0 s') : g9D A n [false] K s = g9D A n [false] K s' := codeD_first (id := 0) (by kernel_rfl) h K
theorem g9p1 {R : Type} (A : Ar) (n : Nat) (K : Ex → St → Option R) (s : St) : g9D A n [true] K s = g9D A n [true, false] (g9Q A n [true, true] K) s := by kernel_rfl
theorem g9p10 {R : Type} (A : Ar) (n : Nat) (K : Ex → St → Option R) (s s' : St) (h : keep g9an 1 s = keep g9an 1 s') : g9D A n [true, false] K s = g9D A n [true, false] K s' := codeD_first (id := 1) (by kernel_rfl) h K
theorem g9p11 {R : Type} (A : Ar) (n : Nat) (K : Ex → St → Option R) (s : St) : g9D A n [true, true] K s = g9D A n [true, true, false] (g9Q A n [true, true, true] K) s := by kernel_rfl
theorem g9p110 {R : Type} (A : Ar) (n : Nat) (K : Ex → St → Option R) (s s' : St) (h : keep g9an 2 s = keep g9an 2 s') : g9D A n [true, true, false] K s = g9D A n [true, true, false] K s' := codeD_first (id := 2) (by kernel_rfl) h K
theorem g9p111 {R : Type} (A : Ar) (n : Nat) (K : Ex → St → Option R) (s : St) : g9D A n [true, true, true] K s = K .ret s := by kernel_rfl
theorem g9R0 {R : Type} (A : Ar) (n : Nat) (K : Ex → St → Option R)  : g9D A n [false] K ⟨[], []⟩ = K .normal ⟨[(0, (.v (.cell (.bool false))))], []⟩ := by kernel_rfl
theorem g9R1 {R : Type} (A : Ar) (n : Nat) (K : Ex → St → Option R)  : g9D A n [true, false] K ⟨[], []⟩ = match (generalizing := false) A.le 32 32 with
    | true => match (generalizing := false) A.le 32 140737488355328 with
      | true => K .normal ⟨[(1, (.v (.cell (.str ((List.replicate 32 0).take 32))))), (3, (.v (.cell (.str ((List.replicate 32 0).take 32))))), (2, (.v (.cell (.sl 2000 none 32 1))))], [(2000, ⟨[.nums .u8 32 (List.replicate 32 0)], 5, 2⟩)]⟩
      | false => none
    | false => none := by kernel_rfl
theorem g9R2 {R : Type} (A : Ar) (n : Nat) (K : Ex → St → Option R) (x0 : List Nat) : g9D A n [true, true, false] K ⟨[(1, (.v (.cell (.str x0))))], []⟩ = match (generalizing := false) g16ok with
    | true => match (generalizing := false) g10ok g16r0 with
      | true => match (generalizing := false) A.sc .eql (g10r0 g16r0) x0 with
        | true => match (generalizing := false) g16ok with
          | true => match (generalizing := false) g12ok g16r0 with
            | true => match (generalizing := false) g12r0 g16r0 with
              | true => match (generalizing := false) !true with
                | true => match (generalizing := false) g12ok x0 with
                  | true => match (generalizing := false) g12r0 x0 with
                    | true => match (generalizing := false) g14ok [3] [4] [5] with
                      | true => match (generalizing := false) A.le 1 x0.length with
                        | true => match (generalizing := false) A.le ([17].length + ((x0.take x0.length).drop 1).length) 9223372036854775807 with
                          | true => match (generalizing := false) A.sc .eql (g14r0 [3] [4] [5]) ([17] ++ ((x0.take x0.length).drop 1)) with
                            | true => K .normal ⟨[(0, (.v (.cell (.bool true)))), (23, (.v (.cell (.bool true)))), (22, (.v (.cell (.bool true)))), (21, (.v (.cell (.str ([17] ++ ((x0.take x0.length).drop 1)))))), (20, (.v (.cell (.str ((x0.take x0.length).drop 1))))), (19, (.v (.cell (.str x0)))), (18, (.v (.cell (.str (g14r0 [3] [4] [5]))))), (17, (.v (.cell (.bool true)))), (16, (.v (.cell (.bool true)))), (15, (.v (.cell (.bool true)))), (14, (.v (.cell (.str x0)))), (13, (.v (.cell (.bool true)))), (12, (.v (.cell (.bool true)))), (11, (.v (.cell (.bool true)))), (10, (.v (.cell (.bool true)))), (9, (.v (.cell (.str g16r0)))), (8, (.v (.cell (.bool true)))), (7, (.v (.cell (.bool true)))), (6, (.v (.cell (.str x0)))), (5, (.v (.cell (.str (g10r0 g16r0))))), (4, (.v (.cell (.str g16r0)))), (1, (.v (.cell (.str x0))))], []⟩
                            | false => K .normal ⟨[(0, (.v (.cell (.bool false)))), (23, (.v (.cell (.bool false)))), (22, (.v (.cell (.bool false)))), (21, (.v (.cell (.str ([17] ++ ((x0.take x0.length).drop 1)))))), (20, (.v (.cell (.str ((x0.take x0.length).drop 1))))), (19, (.v (.cell (.str x0)))), (18, (.v (.cell (.str (g14r0 [3] [4] [5]))))), (17, (.v (.cell (.bool true)))), (16, (.v (.cell (.bool true)))), (15, (.v (.cell (.bool true)))), (14, (.v (.cell (.str x0)))), (13, (.v (.cell (.bool true)))), (12, (.v (.cell (.bool true)))), (11, (.v (.cell (.bool true)))), (10, (.v (.cell (.bool true)))), (9, (.v (.cell (.str g16r0)))), (8, (.v (.cell (.bool true)))), (7, (.v (.cell (.bool true)))), (6, (.v (.cell (.str x0)))), (5, (.v (.cell (.str (g10r0 g16r0))))), (4, (.v (.cell (.str g16r0)))), (1, (.v (.cell (.str x0))))], []⟩
                          | false => none
                        | false => none
                      | false => none
                    | false => K .normal ⟨[(0, (.v (.cell (.bool false)))), (23, (.v (.cell (.bool false)))), (22, (.v (.cell .un))), (21, (.v (.cell .un))), (20, (.v (.cell .un))), (19, (.v (.cell .un))), (18, (.v (.cell .un))), (17, (.v (.cell (.bool false)))), (16, (.v (.cell (.bool false)))), (15, (.v (.cell (.bool false)))), (14, (.v (.cell (.str x0)))), (13, (.v (.cell (.bool true)))), (12, (.v (.cell (.bool true)))), (11, (.v (.cell (.bool true)))), (10, (.v (.cell (.bool true)))), (9, (.v (.cell (.str g16r0)))), (8, (.v (.cell (.bool true)))), (7, (.v (.cell (.bool true)))), (6, (.v (.cell (.str x0)))), (5, (.v (.cell (.str (g10r0 g16r0))))), (4, (.v (.cell (.str g16r0)))), (1, (.v (.cell (.str x0))))], []⟩
                  | false => none
                | false => K .normal ⟨[(0, (.v (.cell (.bool false)))), (23, (.v (.cell (.bool false)))), (22, (.v (.cell .un))), (21, (.v (.cell .un))), (20, (.v (.cell .un))), (19, (.v (.cell .un))), (18, (.v (.cell .un))), (17, (.v (.cell (.bool false)))), (16, (.v (.cell (.bool false)))), (15, (.v (.cell .un))), (14, (.v (.cell .un))), (13, (.v (.cell (.bool false)))), (12, (.v (.cell (.bool false)))), (11, (.v (.cell (.bool false)))), (10, (.v (.cell (.bool true)))), (9, (.v (.cell (.str g16r0)))), (8, (.v (.cell (.bool true)))), (7, (.v (.cell (.bool true)))), (6, (.v (.cell (.str x0)))), (5, (.v (.cell (.str (g10r0 g16r0))))), (4, (.v (.cell (.str g16r0)))), (1, (.v (.cell (.str x0))))], []⟩
              | false => match (generalizing := false) !false with
                | true => match (generalizing := false) g12ok x0 with
                  | true => match (generalizing := false) g12r0 x0 with
                    | true => match (generalizing := false) g14ok [3] [4] [5] with
                      | true => match (generalizing := false) A.le 1 x0.length with
                        | true => match (generalizing := false) A.le ([17].length + ((x0.take x0.length).drop 1).length) 9223372036854775807 with
                          | true => match (generalizing := false) A.sc .eql (g14r0 [3] [4] [5]) ([17] ++ ((x0.take x0.length).drop 1)) with
                            | true => K .normal ⟨[(0, (.v (.cell (.bool true)))), (23, (.v (.cell (.bool true)))), (22, (.v (.cell (.bool true)))), (21, (.v (.cell (.str ([17] ++ ((x0.take x0.length).drop 1)))))), (20, (.v (.cell (.str ((x0.take x0.length).drop 1))))), (19, (.v (.cell (.str x0)))), (18, (.v (.cell (.str (g14r0 [3] [4] [5]))))), (17, (.v (.cell (.bool true)))), (16, (.v (.cell (.bool true)))), (15, (.v (.cell (.bool true)))), (14, (.v (.cell (.str x0)))), (13, (.v (.cell (.bool true)))), (12, (.v (.cell (.bool true)))), (11, (.v (.cell (.bool true)))), (10, (.v (.cell (.bool false)))), (9, (.v (.cell (.str g16r0)))), (8, (.v (.cell (.bool true)))), (7, (.v (.cell (.bool true)))), (6, (.v (.cell (.str x0)))), (5, (.v (.cell (.str (g10r0 g16r0))))), (4, (.v (.cell (.str g16r0)))), (1, (.v (.cell (.str x0))))], []⟩
                            | false => K .normal ⟨[(0, (.v (.cell (.bool false)))), (23, (.v (.cell (.bool false)))), (22, (.v (.cell (.bool false)))), (21, (.v (.cell (.str ([17] ++ ((x0.take x0.length).drop 1)))))), (20, (.v (.cell (.str ((x0.take x0.length).drop 1))))), (19, (.v (.cell (.str x0)))), (18, (.v (.cell (.str (g14r0 [3] [4] [5]))))), (17, (.v (.cell (.bool true)))), (16, (.v (.cell (.bool true)))), (15, (.v (.cell (.bool true)))), (14, (.v (.cell (.str x0)))), (13, (.v (.cell (.bool true)))), (12, (.v (.cell (.bool true)))), (11, (.v (.cell (.bool true)))), (10, (.v (.cell (.bool false)))), (9, (.v (.cell (.str g16r0)))), (8, (.v (.cell (.bool true)))), (7, (.v (.cell (.bool true)))), (6, (.v (.cell (.str x0)))), (5, (.v (.cell (.str (g10r0 g16r0))))), (4, (.v (.cell (.str g16r0)))), (1, (.v (.cell (.str x0))))], []⟩
                          | false => none
                        | false => none
                      | false => none
                    | false => K .normal ⟨[(0, (.v (.cell (.bool false)))), (23, (.v (.cell (.bool false)))), (22, (.v (.cell .un))), (21, (.v (.cell .un))), (20, (.v (.cell .un))), (19, (.v (.cell .un))), (18, (.v (.cell .un))), (17, (.v (.cell (.bool false)))), (16, (.v (.cell (.bool false)))), (15, (.v (.cell (.bool false)))), (14, (.v (.cell (.str x0)))), (13, (.v (.cell (.bool true)))), (12, (.v (.cell (.bool true)))), (11, (.v (.cell (.bool true)))), (10, (.v (.cell (.bool false)))), (9, (.v (.cell (.str g16r0)))), (8, (.v (.cell (.bool true)))), (7, (.v (.cell (.bool true)))), (6, (.v (.cell (.str x0)))), (5, (.v (.cell (.str (g10r0 g16r0))))), (4, (.v (.cell (.str g16r0)))), (1, (.v (.cell (.str x0))))], []⟩
                  | false => none
                | false => K .normal ⟨[(0, (.v (.cell (.bool false)))), (23, (.v (.cell (.bool false)))), (22, (.v (.cell .un))), (21, (.v (.cell .un))), (20, (.v (.cell .un))), (19, (.v (.cell .un))), (18, (.v (.cell .un))), (17, (.v (.cell (.bool false)))), (16, (.v (.cell (.bool false)))), (15, (.v (.cell .un))), (14, (.v (.cell .un))), (13, (.v (.cell (.bool false)))), (12, (.v (.cell (.bool false)))), (11, (.v (.cell (.bool false)))), (10, (.v (.cell (.bool false)))), (9, (.v (.cell (.str g16r0)))), (8, (.v (.cell (.bool true)))), (7, (.v (.cell (.bool true)))), (6, (.v (.cell (.str x0)))), (5, (.v (.cell (.str (g10r0 g16r0))))), (4, (.v (.cell (.str g16r0)))), (1, (.v (.cell (.str x0))))], []⟩
            | false => none
          | false => none
        | false => K .normal ⟨[(0, (.v (.cell (.bool false)))), (23, (.v (.cell (.bool false)))), (22, (.v (.cell .un))), (21, (.v (.cell .un))), (20, (.v (.cell .un))), (19, (.v (.cell .un))), (18, (.v (.cell .un))), (17, (.v (.cell (.bool false)))), (16, (.v (.cell (.bool false)))), (15, (.v (.cell .un))), (14, (.v (.cell .un))), (13, (.v (.cell (.bool false)))), (12, (.v (.cell (.bool false)))), (11, (.v (.cell .un))), (10, (.v (.cell .un))), (9, (.v (.cell .un))), (8, (.v (.cell (.bool false)))), (7, (.v (.cell (.bool false)))), (6, (.v (.cell (.str x0)))), (5, (.v (.cell (.str (g10r0 g16r0))))), (4, (.v (.cell (.str g16r0)))), (1, (.v (.cell (.str x0))))], []⟩
      | false => none
    | false => none := by kernel_rfl
def g9 {R : Type} (A : Ar) (n : Nat) (kk : AV → Heap → Option R)  : Option R :=
  match (generalizing := false) A.le 32 32 with
  | true => match (generalizing := false) A.le 32 140737488355328 with
    | true => match (generalizing := false) g16ok with
      | true => match (generalizing := false) g10ok g16r0 with
        | true => match (generalizing := false) A.sc .eql (g10r0 g16r0) ((List.replicate 32 0).take 32) with
          | true => match (generalizing := false) g16ok with
            | true => match (generalizing := false) g12ok g16r0 with
              | true => match (generalizing := false) g12r0 g16r0 with
                | true => match (generalizing := false) !true with
                  | true => match (generalizing := false) g12ok ((List.replicate 32 0).take 32) with
                    | true => match (generalizing := false) g12r0 ((List.replicate 32 0).take 32) with
                      | true => match (generalizing := false) g14ok [3] [4] [5] with
                        | true => match (generalizing := false) A.le 1 (((List.replicate 32 0).take 32).length) with
                          | true => match (generalizing := false) A.le ([17].length + ((((List.replicate 32 0).take 32).take (((List.replicate 32 0).take 32).length)).drop 1).length) 9223372036854775807 with
                            | true => match (generalizing := false) A.sc .eql (g14r0 [3] [4] [5]) ([17] ++ ((((List.replicate 32 0).take 32).take (((List.replicate 32 0).take 32).length)).drop 1)) with
                              | true => kk (.v (.cell (.bool true))) []
                              | false => kk (.v (.cell (.bool false))) []
                            | false => none
                          | false => none
                        | false => none
                      | false => kk (.v (.cell (.bool false))) []
                    | false => none
                  | false => kk (.v (.cell (.bool false))) []
                | false => match (generalizing := false) !false with
                  | true => match (generalizing := false) g12ok ((List.replicate 32 0).take 32) with
                    | true => match (generalizing := false) g12r0 ((List.replicate 32 0).take 32) with
                      | true => match (generalizing := false) g14ok [3] [4] [5] with
                        | true => match (generalizing := false) A.le 1 (((List.replicate 32 0).take 32).length) with
                          | true => match (generalizing := false) A.le ([17].length + ((((List.replicate 32 0).take 32).take (((List.replicate 32 0).take 32).length)).drop 1).length) 9223372036854775807 with
                            | true => match (generalizing := false) A.sc .eql (g14r0 [3] [4] [5]) ([17] ++ ((((List.replicate 32 0).take 32).take (((List.replicate 32 0).take 32).length)).drop 1)) with
                              | true => kk (.v (.cell (.bool true))) []
                              | false => kk (.v (.cell (.bool false))) []
                            | false => none
                          | false => none
                        | false => none
                      | false => kk (.v (.cell (.bool false))) []
                    | false => none
                  | false => kk (.v (.cell (.bool false))) []
              | false => none
            | false => none
          | false => kk (.v (.cell (.bool false))) []
        | false => none
      | false => none
    | false => none
  | false => none
set_option maxRecDepth 100000 in
theorem g9_eq {R : Type} (A : Ar) (n : Nat) (kk : AV → Heap → Option R)  :
    funD A gtys (orcOf [(16, g16o), (10, g10o), (12, g12o), (14, g14o)]) g9an n (bodyOf Try.f9) g9res [] [] kk = g9 A n kk  := by
  have h1 : (g9T kk) .ret ⟨[(0, (.v (.cell (.bool true)))), (23, (.v (.cell (.bool true)))), (22, (.v (.cell (.bool true)))), (21, (.v (.cell (.str ([17] ++ ((((List.replicate 32 0).take 32).take (((List.replicate 32 0).take 32).length)).drop 1)))))), (20, (.v (.cell (.str ((((List.replicate 32 0).take 32).take (((List.replicate 32 0).take 32).length)).drop 1))))), (19, (.v (.cell (.str ((List.replicate 32 0).take 32))))), (18, (.v (.cell (.str (g14r0 [3] [4] [5]))))), (17, (.v (.cell (.bool true)))), (16, (.v (.cell (.bool true)))), (15, (.v (.cell (.bool true)))), (14, (.v (.cell (.str ((List.replicate 32 0).take 32))))), (13, (.v (.cell (.bool true)))), (12, (.v (.cell (.bool true)))), (11, (.v (.cell (.bool true)))), (10, (.v (.cell (.bool true)))), (9, (.v (.cell (.str g16r0)))), (8, (.v (.cell (.bool true)))), (7, (.v (.cell (.bool true)))), (6, (.v (.cell (.str ((List.replicate 32 0).take 32))))), (5, (.v (.cell (.str (g10r0 g16r0))))), (4, (.v (.cell (.str g16r0)))), (1, (.v (.cell (.str ((List.replicate 32 0).take 32)))))], []⟩ = kk (.v (.cell (.bool true))) [] := by kernel_rfl
  have h2 := (g9p111 A n _ _).trans h1
  have h3 := (g9Qn A n _ _ _).trans h2
  have h4 : (g9T kk) .ret ⟨[(0, (.v (.cell (.bool false)))), (23, (.v (.cell (.bool false)))), (22, (.v (.cell (.bool false)))), (21, (.v (.cell (.str ([17] ++ ((((List.replicate 32 0).take 32).take (((List.replicate 32 0).take 32).length)).drop 1)))))), (20, (.v (.cell (.str ((((List.replicate 32 0).take 32).take (((List.replicate 32 0).take 32).length)).drop 1))))), (19, (.v (.cell (.str ((List.replicate 32 0).take 32))))), (18, (.v (.cell (.str (g14r0 [3] [4] [5]))))), (17, (.v (.cell (.bool true)))), (16, (.v (.cell (.bool true)))), (15, (.v (.cell (.bool true)))), (14, (.v (.cell (.str ((List.replicate 32 0).take 32))))), (13, (.v (.cell (.bool true)))), (12, (.v (.cell (.bool true)))), (11, (.v (.cell (.bool true)))), (10, (.v (.cell (.bool true)))), (9, (.v (.cell (.str g16r0)))), (8, (.v (.cell (.bool true)))), (7, (.v (.cell (.bool true)))), (6, (.v (.cell (.str ((List.replicate 32 0).take 32))))), (5, (.v (.cell (.str (g10r0 g16r0))))), (4, (.v (.cell (.str g16r0)))), (1, (.v (.cell (.str ((List.replicate 32 0).take 32)))))], []⟩ = kk (.v (.cell (.bool false))) [] := by kernel_rfl
  have h5 := (g9p111 A n _ _).trans h4
  have h6 := (g9Qn A n _ _ _).trans h5
  have h7 : (g9T kk) .ret ⟨[(0, (.v (.cell (.bool false)))), (23, (.v (.cell (.bool false)))), (22, (.v (.cell .un))), (21, (.v (.cell .un))), (20, (.v (.cell .un))), (19, (.v (.cell .un))), (18, (.v (.cell .un))), (17, (.v (.cell (.bool false)))), (16, (.v (.cell (.bool false)))), (15, (.v (.cell (.bool false)))), (14, (.v (.cell (.str ((List.replicate 32 0).take 32))))), (13, (.v (.cell (.bool true)))), (12, (.v (.cell (.bool true)))), (11, (.v (.cell (.bool true)))), (10, (.v (.cell (.bool true)))), (9, (.v (.cell (.str g16r0)))), (8, (.v (.cell (.bool true)))), (7, (.v (.cell (.bool true)))), (6, (.v (.cell (.str ((List.replicate 32 0).take 32))))), (5, (.v (.cell (.str (g10r0 g16r0))))), (4, (.v (.cell (.str g16r0)))), (1, (.v (.cell (.str ((List.replicate 32 0).take 32)))))], []⟩ = kk (.v (.cell (.bool false))) [] := by kernel_rfl
  have h8 := (g9p111 A n _ _).trans h7
  have h9 := (g9Qn A n _ _ _).trans h8
  have h10 : (g9T kk) .ret ⟨[(0, (.v (.cell (.bool false)))), (23, (.v (.cell (.bool false)))), (22, (.v (.cell .un))), (21, (.v (.cell .un))), (20, (.v (.cell .un))), (19, (.v (.cell .un))), (18, (.v (.cell .un))), (17, (.v (.cell (.bool false)))), (16, (.v (.cell (.bool false)))), (15, (.v (.cell .un))), (14, (.v (.cell .un))), (13, (.v (.cell (.bool false)))), (12, (.v (.cell (.bool false)))), (11, (.v (.cell (.bool false)))), (10, (.v (.cell (.bool true)))), (9, (.v (.cell (.str g16r0)))), (8, (.v (.cell (.bool true)))), (7, (.v (.cell (.bool true)))), (6, (.v (.cell (.str ((List.replicate 32 0).take 32))))), (5, (.v (.cell (.str (g10r0 g16r0))))), (4, (.v (.cell (.str g16r0)))), (1, (.v (.cell (.str ((List.replicate 32 0).take 32)))))], []⟩ = kk (.v (.cell (.bool false))) [] := by kernel_rfl
  have h11 := (g9p111 A n _ _).trans h10
  have h12 := (g9Qn A n _ _ _).trans h11
  have h13 : (g9T kk) .ret ⟨[(0, (.v (.cell (.bool true)))), (23, (.v (.cell (.bool true)))), (22, (.v (.cell (.bool true)))), (21, (.v (.cell (.str ([17] ++ ((((List.replicate 32 0).take 32).take (((List.replicate 32 0).take 32).length)).drop 1)))))), (20, (.v (.cell (.str ((((List.replicate 32 0).take 32).take (((List.replicate 32 0).take 32).length)).drop 1))))), (19, (.v (.cell (.str ((List.replicate 32 0).take 32))))), (18, (.v (.cell (.str (g14r0 [3] [4] [5]))))), (17, (.v (.cell (.bool true)))), (16, (.v (.cell (.bool true)))), (15, (.v (.cell (.bool true)))), (14, (.v (.cell (.str ((List.replicate 32 0).take 32))))), (13, (.v (.cell (.bool true)))), (12, (.v (.cell (.bool true)))), (11, (.v (.cell (.bool true)))), (10, (.v (.cell (.bool false)))), (9, (.v (.cell (.str g16r0)))), (8, (.v (.cell (.bool true)))), (7, (.v (.cell (.bool true)))), (6, (.v (.cell (.str ((List.replicate 32 0).take 32))))), (5, (.v (.cell (.str (g10r0 g16r0))))), (4, (.v (.cell (.str g16r0)))), (1, (.v (.cell (.str ((List.replicate 32 0).take 32)))))], []⟩ = kk (.v (.cell (.bool true))) [] := by kernel_rfl
  have h14 := (g9p111 A n _ _).trans h13
  have h15 := (g9Qn A n _ _ _).trans h14
  have h16 : (g9T kk) .ret ⟨[(0, (.v (.cell (.bool false)))), (23, (.v (.cell (.bool false)))), (22, (.v (.cell (.bool false)))), (21, (.v (.cell (.str ([17] ++ ((((List.replicate 32 0).take 32).take (((List.replicate 32 0).take 32).length)).drop 1)))))), (20, (.v (.cell (.str ((((List.replicate 32 0).take 32).take (((List.replicate 32 0).take 32).length)).drop 1))))), (19, (.v (.cell (.str ((List.replicate 32 0).take 32))))), (18, (.v (.cell (.str (g14r0 [3] [4] [5]))))), (17, (.v (.cell (.bool true)))), (16, (.v (.cell (.bool true)))), (15, (.v (.cell (.bool true)))), (14, (.v (.cell (.str ((List.replicate 32 0).take 32))))), (13, (.v (.cell (.bool true)))), (12, (.v (.cell (.bool true)))), (11, (.v (.cell (.bool true)))), (10, (.v (.cell (.bool false)))), (9, (.v (.cell (.str g16r0)))), (8, (.v (.cell (.bool true)))), (7, (.v (.cell (.bool true)))), (6, (.v (.cell (.str ((List.replicate 32 0).take 32))))), (5, (.v (.cell (.str (g10r0 g16r0))))), (4, (.v (.cell (.str g16r0)))), (1, (.v (.cell (.str ((List.replicate 32 0).take 32)))))], []⟩ = kk (.v (.cell (.bool false))) [] := by kernel_rfl
  have h17 := (g9p111 A n _ _).trans h16
  have h18 := (g9Qn A n _ _ _).trans h17
  have h19 : (g9T kk) .ret ⟨[(0, (.v (.cell (.bool false)))), (23, (.v (.cell (.bool false)))), (22, (.v (.cell .un))), (21, (.v (.cell .un))), (20, (.v (.cell .un))), (19, (.v (.cell .un))), (18, (.v (.cell .un))), (17, (.v (.cell (.bool false)))), (16, (.v (.cell (.bool false)))), (15, (.v (.cell (.bool false)))), (14, (.v (.cell (.str ((List.replicate 32 0).take 32))))), (13, (.v (.cell (.bool true)))), (12, (.v (.cell (.bool true)))), (11, (.v (.cell (.bool true)))), (10, (.v (.cell (.bool false)))), (9, (.v (.cell (.str g16r0)))), (8, (.v (.cell (.bool true)))), (7, (.v (.cell (.bool true)))), (6, (.v (.cell (.str ((List.replicate 32 0).take 32))))), (5, (.v (.cell (.str (g10r0 g16r0))))), (4, (.v (.cell (.str g16r0)))), (1, (.v (.cell (.str ((List.replicate 32 0).take 32)))))], []⟩ = kk (.v (.cell (.bool false))) [] := by kernel_rfl
  have h20 := (g9p111 A n _ _).trans h19
  have h21 := (g9Qn A n _ _ _).trans h20
  have h22 : (g9T kk) .ret ⟨[(0, (.v (.cell (.bool false)))), (23, (.v (.cell (.bool false)))), (22, (.v (.cell .un))), (21, (.v (.cell .un))), (20, (.v (.cell .un))), (19, (.v (.cell .un))), (18, (.v (.cell .un))), (17, (.v (.cell (.bool false)))), (16, (.v (.cell (.bool false)))), (15, (.v (.cell .un))), (14, (.v (.cell .un))), (13, (.v (.cell (.bool false)))), (12, (.v (.cell (.bool false)))), (11, (.v (.cell (.bool false)))), (10, (.v (.cell (.bool false)))), (9, (.v (.cell (.str g16r0)))), (8, (.v (.cell (.bool true)))), (7, (.v (.cell (.bool true)))), (6, (.v (.cell (.str ((List.replicate 32 0).take 32))))), (5, (.v (.cell (.str (g10r0 g16r0))))), (4, (.v (.cell (.str g16r0)))), (1, (.v (.cell (.str ((List.replicate 32 0).take 32)))))], []⟩ = kk (.v (.cell (.bool false))) [] := by kernel_rfl
  have h23 := (g9p111 A n _ _).trans h22
  have h24 := (g9Qn A n _ _ _).trans h23
  have h25 : (g9T kk) .ret ⟨[(0, (.v (.cell (.bool false)))), (23, (.v (.cell (.bool false)))), (22, (.v (.cell .un))), (21, (.v (.cell .un))), (20, (.v (.cell .un))), (19, (.v (.cell .un))), (18, (.v (.cell .un))), (17, (.v (.cell (.bool false)))), (16, (.v (.cell (.bool false)))), (15, (.v (.cell .un))), (14, (.v (.cell .un))), (13, (.v (.cell (.bool false)))), (12, (.v (.cell (.bool false)))), (11, (.v (.cell .un))), (10, (.v (.cell .un))), (9, (.v (.cell .un))), (8, (.v (.cell (.bool false)))), (7, (.v (.cell (.bool false)))), (6, (.v (.cell (.str ((List.replicate 32 0).take 32))))), (5, (.v (.cell (.str (g10r0 g16r0))))), (4, (.v (.cell (.str g16r0)))), (1, (.v (.cell (.str ((List.replicate 32 0).take 32)))))], []⟩ = kk (.v (.cell (.bool false))) [] := by kernel_rfl
  have h26 := (g9p111 A n _ _).trans h25
  have h27 := (g9Qn A n _ _ _).trans h26
  have h28 := (g9p110 A n (g9Q A n [true, true, true] (g9T kk)) ⟨[(1, (.v (.cell (.str ((List.replicate 32 0).take 32))))), (3, (.v (.cell (.str ((List.replicate 32 0).take 32))))), (2, (.v (.cell (.sl 2000 none 32 1))))], [(2000, ⟨[.nums .u8 32 (List.replicate 32 0)], 5, 2⟩)]⟩ ⟨[(1, (.v (.cell (.str ((List.replicate 32 0).take 32)))))], []⟩ (by kernel_rfl)).trans (g9R2 A n (g9Q A n [true, true, true] (g9T kk)) ((List.replicate 32 0).take 32))
  rw [h3, h6, h9, h12, h15, h18, h21, h24, h27] at h28
  have h29 := (g9p11 A n _ _).trans h28
  have h30 := (g9Qn A n _ _ _).trans h29
  have h31 := (g9p10 A n (g9Q A n [true, true] (g9T kk)) ⟨[(0, (.v (.cell (.bool false))))], []⟩ ⟨[], []⟩ (by kernel_rfl)).trans (g9R1 A n (g9Q A n [true, true] (g9T kk)) )
  rw [h30] at h31
  have h32 := (g9p1 A n _ _).trans h31
  have h33 := (g9Qn A n _ _ _).trans h32
  have h34 := (g9p0 A n (g9Q A n [true] (g9T kk)) ⟨[], []⟩ ⟨[], []⟩ (by kernel_rfl)).trans (g9R0 A n (g9Q A n [true] (g9T kk)) )
  rw [h33] at h34
  have h35 := (g9p A n _ _).trans h34
  exact (show funD A gtys (orcOf [(16, g16o), (10, g10o), (12, g12o), (14, g14o)]) g9an n (bodyOf Try.f9) g9res [] [] kk = g9D A n [] (g9T kk) ⟨[], []⟩ from by kernel_rfl).trans (h35.trans (by kernel_rfl))
def g9is (o : Option AV) : Bool := match o with
  | some (.v (.cell (.bool _))) => true
  | _ => false
def g9g0 (o : Option AV) : Bool := match o with
  | some (.v (.cell (.bool x))) => x
  | _ => false
theorem g9is_spec {o : Option AV} (h : g9is o = true) : o = some (.v (.cell (.bool (g9g0 o)))) := by
  unfold g9is at h
  split at h
  · rfl
  · cases h
def g9v  : Option AV := g9 realA (100000) (fun v _ => some v) 
def g9ok  : Bool := g9is (g9v )
def g9r0  : Bool := g9g0 (g9v )
theorem g9ok_spec (h : g9ok = true) : g9v = some (.v (.cell (.bool g9r0))) := g9is_spec h
def g9o (args : List AV) : Option (Bool × AV) := match args with
  | [] => some (g9ok , .v (.cell (.bool g9r0)))
  | _ => none
theorem g9O_sound : OSound Try.prog (orcOf [(16, g16o), (10, g10o), (12, g12o), (14, g14o)]) := orc_sound fun f g hm args v hv => by
  simp only [List.mem_cons, List.not_mem_nil, or_false, Prod.mk.injEq] at hm
  rcases hm with ⟨rfl, rfl⟩ | ⟨rfl, rfl⟩ | ⟨rfl, rfl⟩ | ⟨rfl, rfl⟩
  · exact g16o_sound _ _ hv
  · exact g10o_sound _ _ hv
  · exact g12o_sound _ _ hv
  · exact g14o_sound _ _ hv
theorem g9o_sound : ∀ args v, g9o args = some (true, v) → Fn1 Try.prog 9 args v := by
  intro args v h
  unfold g9o at h
  split at h
  · simp only [Option.some.injEq, Prod.mk.injEq] at h
    obtain ⟨hc, h⟩ := h
    subst h
    · skip
      exact fn1_of mixed gtysOK g9O_sound (orc_det _) (an := g9an) (n := 100000) Try.func9 (c := bodyOf Try.f9) rfl (by kernel_rfl) Try.call9 (Nat.le_of_ble_eq_true rfl) (fun b => rfl) (fun _ => (g9_eq realA (100000) (fun v _ => some v) ).trans (show g9v  = _ from g9ok_spec hc))
  · cases h
/- engrosser/engrosserlaw04.ScalarTwice -/
def g4an : Ann := [(0, ([0, 1, 2], [])), (1, ([0, 1, 2], [])), (2, ([0, 1, 2, 7], [])), (3, ([], [])), (4, ([0, 1, 2, 7], [])), (5, ([0, 1, 2, 7], [])), (6, ([0, 1, 2, 7], [])), (7, ([0, 1, 2, 7], [])), (8, ([0, 1, 2, 7, 8], [])), (9, ([0, 1, 2, 7, 8, 9], []))]
def g4res : List ResultVar := [.tmp 6]
noncomputable def g4D {R : Type} (A : Ar) (n : Nat) (p : List Bool) (K : Ex → St → Option R) (s : St) : Option R := codeD A gtys (orcOf [(9, g9o), (10, g10o), (14, g14o), (12, g12o), (16, g16o)]) g4an n (sub (bodyOf Try.f4) p) K s
noncomputable def g4V {R : Type} (A : Ar) (n : Nat) (p : List Bool) (m : Nat) (K : Ex → St → Option R) (s : St) : Option R := loopD (fun K' s'' => codeD A gtys (orcOf [(9, g9o), (10, g10o), (14, g14o), (12, g12o), (16, g16o)]) g4an n (sub (bodyOf Try.f4) p) K' s'') m K s
noncomputable def g4Q {R : Type} (A : Ar) (n : Nat) (p : List Bool) (K : Ex → St → Option R) : Ex → St → Option R := seqC (g4D A n p K) K
noncomputable def g4W {R : Type} (A : Ar) (n : Nat) (p : List Bool) (m : Nat) (K : Ex → St → Option R) : Ex → St → Option R := seqC (g4V A n p m K) K
noncomputable def g4T {R : Type} (kk : AV → Heap → Option R) : Ex → St → Option R := finD gtys g4res kk
theorem g4Qn {R : Type} (A : Ar) (n : Nat) (p : List Bool) (K : Ex → St → Option R) (s : St) : g4Q A n p K .normal s = g4D A n p K s := rfl
theorem g4Qe {R : Type} (A : Ar) (n : Nat) (p : List Bool) (K : Ex → St → Option R) (i : Nat) (s : St) : g4Q A n p K (.exit i) s = K (.exit i) s := rfl
theorem g4Qr {R : Type} (A : Ar) (n : Nat) (p : List Bool) (K : Ex → St → Option R) (s : St) : g4Q A n p K .ret s = K .ret s := rfl
theorem g4Wn {R : Type} (A : Ar) (n : Nat) (p : List Bool) (m : Nat) (K : Ex → St → Option R) (s : St) : g4W A n p m K .normal s = g4V A n p m K s := rfl
theorem g4We {R : Type} (A : Ar) (n : Nat) (p : List Bool) (m : Nat) (K : Ex → St → Option R) (i : Nat) (s : St) : g4W A n p m K (.exit i) s = K (.exit i) s := rfl
theorem g4Wr {R : Type} (A : Ar) (n : Nat) (p : List Bool) (m : Nat) (K : Ex → St → Option R) (s : St) : g4W A n p m K .ret s = K .ret s := rfl
theorem g4Vs {R : Type} (A : Ar) (n : Nat) (p : List Bool) (m : Nat) (K : Ex → St → Option R) (s : St) : g4V A n p (m + 1) K s = g4D A n p (g4W A n p m K) s := rfl
theorem g4p {R : Type} (A : Ar) (n : Nat) (K : Ex → St → Option R) (s : St) : g4D A n [] K s = g4D A n [false] (g4Q A n [true] K) s := by kernel_rfl
theorem g4p0 {R : Type} (A : Ar) (n : Nat) (K : Ex → St → Option R) (s s' : St) (h : keep g4an 0 s = keep g4an 0 s') : g4D A n [false] K s = g4D A n [false] K s' := codeD_first (id := 0) (by kernel_rfl) h K
theorem g4p1 {R : Type} (A : Ar) (n : Nat) (K : Ex → St → Option R) (s : St) : g4D A n [true] K s = g4D A n [true, false] (g4Q A n [true, true] K) s := by kernel_rfl
theorem g4p10 {R : Type} (A : Ar) (n : Nat) (K : Ex → St → Option R) (s s' : St) (h : keep g4an 1 s = keep g4an 1 s') : g4D A n [true, false] K s = g4D A n [true, false] K s' := codeD_first (id := 1) (by kernel_rfl) h K
theorem g4p11 {R : Type} (A : Ar) (n : Nat) (K : Ex → St → Option R) (s : St) : g4D A n [true, true] K s = g4D A n [true, true, false] (g4Q A n [true, true, true] K) s := by kernel_rfl
theorem g4p110 {R : Type} (A : Ar) (n : Nat) (K : Ex → St → Option R) (s : St) : g4D A n [true, true, false] K s = g4D A n [true, true, false, false] (g4Q A n [true, true, false, true] K) s := by kernel_rfl
theorem g4p1100 {R : Type} (A : Ar) (n : Nat) (K : Ex → St → Option R) (s s' : St) (h : keep g4an 2 s = keep g4an 2 s') : g4D A n [true, true, false, false] K s = g4D A n [true, true, false, false] K s' := codeD_first (id := 2) (by kernel_rfl) h K
theorem g4p1101 {R : Type} (A : Ar) (n : Nat) (K : Ex → St → Option R) (s : St) (t : Bool) : ev s (.tmp 12) = some (.v (.cell (.bool t))) → g4D A n [true, true, false, true] K s = (match t with
    | true => g4D A n [true, true, false, true, false] K s
    | false => g4D A n [true, true, false, true, true] K s) := codeD_cond t
theorem g4p11010 {R : Type} (A : Ar) (n : Nat) (K : Ex → St → Option R) (s : St) : g4D A n [true, true, false, true, false] K s = g4D A n [true, true, false, true, false, false] (g4Q A n [true, true, false, true, false, true] K) s := by kernel_rfl
theorem g4p110100 {R : Type} (A : Ar) (n : Nat) (K : Ex → St → Option R) (s s' : St) (h : keep g4an 3 s = keep g4an 3 s') : g4D A n [true, true, false, true, false, false] K s = g4D A n [true, true, false, true, false, false] K s' := codeD_first (id := 3) (by kernel_rfl) h K
theorem g4p110101 {R : Type} (A : Ar) (n : Nat) (K : Ex → St → Option R) (s : St) : g4D A n [true, true, false, true, false, true] K s = K .ret s := by kernel_rfl
theorem g4p11011 {R : Type} (A : Ar) (n : Nat) (K : Ex → St → Option R) (s : St) : g4D A n [true, true, false, true, true] K s = K .normal s := by kernel_rfl
theorem g4p111 {R : Type} (A : Ar) (n : Nat) (K : Ex → St → Option R) (s : St) : g4D A n [true, true, true] K s = g4D A n [true, true, true, false] (g4Q A n [true, true, true, true] K) s := by kernel_rfl
theorem g4p1110 {R : Type} (A : Ar) (n : Nat) (K : Ex → St → Option R) (s s' : St) (h : keep g4an 4 s = keep g4an 4 s') : g4D A n [true, true, true, false] K s = g4D A n [true, true, true, false] K s' := codeD_first (id := 4) (by kernel_rfl) h K
theorem g4p1111 {R : Type} (A : Ar) (n : Nat) (K : Ex → St → Option R) (s : St) : g4D A n [true, true, true, true] K s = g4D A n [true, true, true, true, false] (g4Q A n [true, true, true, true, true] K) s := by kernel_rfl
theorem g4p11110 {R : Type} (A : Ar) (n : Nat) (K : Ex → St → Option R) (s s' : St) (h : keep g4an 5 s = keep g4an 5 s') : g4D A n [true, true, true, true, false] K s = g4D A n [true, true, true, true, false] K s' := codeD_first (id := 5) (by kernel_rfl) h K
theorem g4p11111 {R : Type} (A : Ar) (n : Nat) (K : Ex → St → Option R) (s : St) : g4D A n [true, true, true, true, true] K s = g4D A n [true, true, true, true, true, false] (g4Q A n [true, true, true, true, true, true] K) s := by kernel_rfl
theorem g4p111110 {R : Type} (A : Ar) (n : Nat) (K : Ex → St → Option R) (s s' : St) (h : keep g4an 6 s = keep g4an 6 s') : g4D A n [true, true, true, true, true, false] K s = g4D A n [true, true, true, true, true, false] K s' := codeD_first (id := 6) (by kernel_rfl) h K
theorem g4p111111 {R : Type} (A : Ar) (n : Nat) (K : Ex → St → Option R) (s : St) : g4D A n [true, true, true, true, true, true] K s = g4D A n [true, true, true, true, true, true, false] (g4Q A n [true, true, true, true, true, true, true] K) s := by kernel_rfl
theorem g4p1111110 {R : Type} (A : Ar) (n : Nat) (K : Ex → St → Option R) (s s' : St) (h : keep g4an 7 s = keep g4an 7 s') : g4D A n [true, true, true, true, true, true, false] K s = g4D A n [true, true, true, true, true, true, false] K s' := codeD_first (id := 7) (by kernel_rfl) h K
theorem g4p1111111 {R : Type} (A : Ar) (n : Nat) (K : Ex → St → Option R) (s : St) : g4D A n [true, true, true, true, true, true, true] K s = g4D A n [true, true, true, true, true, true, true, false] (g4Q A n [true, true, true, true, true, true, true, true] K) s := by kernel_rfl
theorem g4p11111110 {R : Type} (A : Ar) (n : Nat) (K : Ex → St → Option R) (s s' : St) (h : keep g4an 8 s = keep g4an 8 s') : g4D A n [true, true, true, true, true, true, true, false] K s = g4D A n [true, true, true, true, true, true, true, false] K s' := codeD_first (id := 8) (by kernel_rfl) h K
theorem g4p11111111 {R : Type} (A : Ar) (n : Nat) (K : Ex → St → Option R) (s : St) : g4D A n [true, true, true, true, true, true, true, true] K s = g4D A n [true, true, true, true, true, true, true, true, false] (g4Q A n [true, true, true, true, true, true, true, true, true] K) s := by kernel_rfl
theorem g4p111111110 {R : Type} (A : Ar) (n : Nat) (K : Ex → St → Option R) (s s' : St) (h : keep g4an 9 s = keep g4an 9 s') : g4D A n [true, true, true, true, true, true, true, true, false] K s = g4D A n [true, true, true, true, true, true, true, true, false] K s' := codeD_first (id := 9) (by kernel_rfl) h K
theorem g4p111111111 {R : Type} (A : Ar) (n : Nat) (K : Ex → St → Option R) (s : St) : g4D A n [true, true, true, true, true, true, true, true, true] K s = K .ret s := by kernel_rfl
theorem g4R4 {R : Type} (A : Ar) (n : Nat) (K : Ex → St → Option R) (x0 : List Nat) (x1 : List Nat) (x2 : List Nat) (x3 : Bool) : g4D A n [true, true, true, false] K ⟨[(0, (.v (.cell (.str x0)))), (1, (.v (.cell (.str x1)))), (2, (.v (.cell (.str x2)))), (7, (.v (.cell (.bool x3))))], []⟩ = match (generalizing := false) A.neg (A.mn (A.ofN x0.length) 32) with
    | true => none
    | false => match (generalizing := false) A.le (A.toN (A.mn (A.ofN x0.length) 32)) x0.length with
      | true => K .normal ⟨[(0, (.v (.cell (.str ((x0.take (A.toN (A.mn (A.ofN x0.length) 32))).drop 0))))), (17, (.v (.cell (.str ((x0.take (A.toN (A.mn (A.ofN x0.length) 32))).drop 0))))), (16, (.v (.cell (.int .i64 (A.mn (A.ofN x0.length) 32))))), (15, (.v (.cell (.int .i64 (A.ofN x0.length))))), (14, (.v (.cell (.str x0)))), (13, (.v (.cell (.str x0)))), (0, (.v (.cell (.str x0)))), (1, (.v (.cell (.str x1)))), (2, (.v (.cell (.str x2)))), (7, (.v (.cell (.bool x3))))], []⟩
      | false => none := by kernel_rfl
theorem g4R5 {R : Type} (A : Ar) (n : Nat) (K : Ex → St → Option R) (x0 : List Nat) (x1 : List Nat) (x2 : List Nat) (x3 : Bool) : g4D A n [true, true, true, true, false] K ⟨[(0, (.v (.cell (.str x0)))), (1, (.v (.cell (.str x1)))), (2, (.v (.cell (.str x2)))), (7, (.v (.cell (.bool x3))))], []⟩ = match (generalizing := false) A.neg (A.mn (A.ofN x1.length) 32) with
    | true => none
    | false => match (generalizing := false) A.le (A.toN (A.mn (A.ofN x1.length) 32)) x1.length with
      | true => K .normal ⟨[(1, (.v (.cell (.str ((x1.take (A.toN (A.mn (A.ofN x1.length) 32))).drop 0))))), (22, (.v (.cell (.str ((x1.take (A.toN (A.mn (A.ofN x1.length) 32))).drop 0))))), (21, (.v (.cell (.int .i64 (A.mn (A.ofN x1.length) 32))))), (20, (.v (.cell (.int .i64 (A.ofN x1.length))))), (19, (.v (.cell (.str x1)))), (18, (.v (.cell (.str x1)))), (0, (.v (.cell (.str x0)))), (1, (.v (.cell (.str x1)))), (2, (.v (.cell (.str x2)))), (7, (.v (.cell (.bool x3))))], []⟩
      | false => none := by kernel_rfl
theorem g4R6 {R : Type} (A : Ar) (n : Nat) (K : Ex → St → Option R) (x0 : List Nat) (x1 : List Nat) (x2 : List Nat) (x3 : Bool) : g4D A n [true, true, true, true, true, false] K ⟨[(0, (.v (.cell (.str x0)))), (1, (.v (.cell (.str x1)))), (2, (.v (.cell (.str x2)))), (7, (.v (.cell (.bool x3))))], []⟩ = match (generalizing := false) A.neg (A.mn (A.ofN x2.length) 32) with
    | true => none
    | false => match (generalizing := false) A.le (A.toN (A.mn (A.ofN x2.length) 32)) x2.length with
      | true => K .normal ⟨[(2, (.v (.cell (.str ((x2.take (A.toN (A.mn (A.ofN x2.length) 32))).drop 0))))), (27, (.v (.cell (.str ((x2.take (A.toN (A.mn (A.ofN x2.length) 32))).drop 0))))), (26, (.v (.cell (.int .i64 (A.mn (A.ofN x2.length) 32))))), (25, (.v (.cell (.int .i64 (A.ofN x2.length))))), (24, (.v (.cell (.str x2)))), (23, (.v (.cell (.str x2)))), (0, (.v (.cell (.str x0)))), (1, (.v (.cell (.str x1)))), (2, (.v (.cell (.str x2)))), (7, (.v (.cell (.bool x3))))], []⟩
      | false => none := by kernel_rfl
theorem g4R7 {R : Type} (A : Ar) (n : Nat) (K : Ex → St → Option R) (x0 : List Nat) (x1 : List Nat) (x2 : List Nat) (x3 : Bool) : g4D A n [true, true, true, true, true, true, false] K ⟨[(0, (.v (.cell (.str x0)))), (1, (.v (.cell (.str x1)))), (2, (.v (.cell (.str x2)))), (7, (.v (.cell (.bool x3))))], []⟩ = match (generalizing := false) g10ok x0 with
    | true => K .normal ⟨[(8, (.v (.cell (.str (g10r0 x0))))), (29, (.v (.cell (.str (g10r0 x0))))), (28, (.v (.cell (.str x0)))), (0, (.v (.cell (.str x0)))), (1, (.v (.cell (.str x1)))), (2, (.v (.cell (.str x2)))), (7, (.v (.cell (.bool x3))))], []⟩
    | false => none := by kernel_rfl
theorem g4R8 {R : Type} (A : Ar) (n : Nat) (K : Ex → St → Option R) (x0 : List Nat) (x1 : List Nat) (x2 : List Nat) (x3 : Bool) (x4 : List Nat) : g4D A n [true, true, true, true, true, true, true, false] K ⟨[(0, (.v (.cell (.str x0)))), (1, (.v (.cell (.str x1)))), (2, (.v (.cell (.str x2)))), (7, (.v (.cell (.bool x3)))), (8, (.v (.cell (.str x4))))], []⟩ = match (generalizing := false) g14ok x0 x1 x2 with
    | true => K .normal ⟨[(9, (.v (.cell (.str (g14r0 x0 x1 x2))))), (33, (.v (.cell (.str (g14r0 x0 x1 x2))))), (32, (.v (.cell (.str x2)))), (31, (.v (.cell (.str x1)))), (30, (.v (.cell (.str x0)))), (0, (.v (.cell (.str x0)))), (1, (.v (.cell (.str x1)))), (2, (.v (.cell (.str x2)))), (7, (.v (.cell (.bool x3)))), (8, (.v (.cell (.str x4))))], []⟩
    | false => none := by kernel_rfl
theorem g4R9 {R : Type} (A : Ar) (n : Nat) (K : Ex → St → Option R) (x0 : List Nat) (x1 : List Nat) (x2 : List Nat) (x3 : Bool) (x4 : List Nat) (x5 : List Nat) : g4D A n [true, true, true, true, true, true, true, true, false] K ⟨[(0, (.v (.cell (.str x0)))), (1, (.v (.cell (.str x1)))), (2, (.v (.cell (.str x2)))), (7, (.v (.cell (.bool x3)))), (8, (.v (.cell (.str x4)))), (9, (.v (.cell (.str x5))))], []⟩ = match (generalizing := false) x3 with
    | true => match (generalizing := false) A.ic .eql (A.ofN x4.length) 32 with
      | true => match (generalizing := false) g12ok x4 with
        | true => match (generalizing := false) g12r0 x4 with
          | true => match (generalizing := false) g10ok x4 with
            | true => match (generalizing := false) A.sc .eql (g10r0 x4) x4 with
              | true => match (generalizing := false) g14ok x1 x0 x2 with
                | true => match (generalizing := false) A.sc .eql x5 (g14r0 x1 x0 x2) with
                  | true => match (generalizing := false) g10ok x1 with
                    | true => match (generalizing := false) g10ok x2 with
                      | true => match (generalizing := false) g14ok x4 (g10r0 x1) (g10r0 x2) with
                        | true => match (generalizing := false) A.sc .eql x5 (g14r0 x4 (g10r0 x1) (g10r0 x2)) with
                          | true => match (generalizing := false) g16ok with
                            | true => match (generalizing := false) g14ok x0 [1] g16r0 with
                              | true => match (generalizing := false) A.sc .eql (g14r0 x0 [1] g16r0) x4 with
                                | true => match (generalizing := false) g14ok x0 [] x2 with
                                  | true => match (generalizing := false) g10ok x2 with
                                    | true => match (generalizing := false) A.sc .eql (g14r0 x0 [] x2) (g10r0 x2) with
                                      | true => K .normal ⟨[(6, (.v (.cell (.bool true)))), (82, (.v (.cell (.bool true)))), (81, (.v (.cell (.bool true)))), (80, (.v (.cell (.str (g10r0 x2))))), (79, (.v (.cell (.str x2)))), (78, (.v (.cell (.str (g14r0 x0 [] x2))))), (77, (.v (.cell (.str x2)))), (76, (.v (.cell (.str x0)))), (75, (.v (.cell (.bool true)))), (74, (.v (.cell (.bool true)))), (73, (.v (.cell (.bool true)))), (72, (.v (.cell (.str x4)))), (71, (.v (.cell (.str (g14r0 x0 [1] g16r0))))), (70, (.v (.cell (.str g16r0)))), (69, (.v (.cell (.str x0)))), (68, (.v (.cell (.bool true)))), (67, (.v (.cell (.bool true)))), (66, (.v (.cell (.bool true)))), (65, (.v (.cell (.str (g14r0 x4 (g10r0 x1) (g10r0 x2)))))), (64, (.v (.cell (.str (g10r0 x2))))), (63, (.v (.cell (.str x2)))), (62, (.v (.cell (.str (g10r0 x1))))), (61, (.v (.cell (.str x1)))), (60, (.v (.cell (.str x4)))), (59, (.v (.cell (.str x5)))), (58, (.v (.cell (.bool true)))), (57, (.v (.cell (.bool true)))), (56, (.v (.cell (.bool true)))), (55, (.v (.cell (.str (g14r0 x1 x0 x2))))), (54, (.v (.cell (.str x2)))), (53, (.v (.cell (.str x0)))), (52, (.v (.cell (.str x1)))), (51, (.v (.cell (.str x5)))), (50, (.v (.cell (.bool true)))), (49, (.v (.cell (.bool true)))), (48, (.v (.cell (.bool true)))), (47, (.v (.cell (.str x4)))), (46, (.v (.cell (.str (g10r0 x4))))), (45, (.v (.cell (.str x4)))), (44, (.v (.cell (.bool true)))), (43, (.v (.cell (.bool true)))), (42, (.v (.cell (.bool true)))), (41, (.v (.cell (.str x4)))), (40, (.v (.cell (.bool true)))), (39, (.v (.cell (.bool true)))), (38, (.v (.cell (.bool true)))), (37, (.v (.cell (.int .i64 (A.ofN x4.length))))), (36, (.v (.cell (.str x4)))), (35, (.v (.cell (.bool true)))), (34, (.v (.cell (.bool true)))), (0, (.v (.cell (.str x0)))), (1, (.v (.cell (.str x1)))), (2, (.v (.cell (.str x2)))), (7, (.v (.cell (.bool x3)))), (8, (.v (.cell (.str x4)))), (9, (.v (.cell (.str x5))))], []⟩
                                      | false => K .normal ⟨[(6, (.v (.cell (.bool false)))), (82, (.v (.cell (.bool false)))), (81, (.v (.cell (.bool false)))), (80, (.v (.cell (.str (g10r0 x2))))), (79, (.v (.cell (.str x2)))), (78, (.v (.cell (.str (g14r0 x0 [] x2))))), (77, (.v (.cell (.str x2)))), (76, (.v (.cell (.str x0)))), (75, (.v (.cell (.bool true)))), (74, (.v (.cell (.bool true)))), (73, (.v (.cell (.bool true)))), (72, (.v (.cell (.str x4)))), (71, (.v (.cell (.str (g14r0 x0 [1] g16r0))))), (70, (.v (.cell (.str g16r0)))), (69, (.v (.cell (.str x0)))), (68, (.v (.cell (.bool true)))), (67, (.v (.cell (.bool true)))), (66, (.v (.cell (.bool true)))), (65, (.v (.cell (.str (g14r0 x4 (g10r0 x1) (g10r0 x2)))))), (64, (.v (.cell (.str (g10r0 x2))))), (63, (.v (.cell (.str x2)))), (62, (.v (.cell (.str (g10r0 x1))))), (61, (.v (.cell (.str x1)))), (60, (.v (.cell (.str x4)))), (59, (.v (.cell (.str x5)))), (58, (.v (.cell (.bool true)))), (57, (.v (.cell (.bool true)))), (56, (.v (.cell (.bool true)))), (55, (.v (.cell (.str (g14r0 x1 x0 x2))))), (54, (.v (.cell (.str x2)))), (53, (.v (.cell (.str x0)))), (52, (.v (.cell (.str x1)))), (51, (.v (.cell (.str x5)))), (50, (.v (.cell (.bool true)))), (49, (.v (.cell (.bool true)))), (48, (.v (.cell (.bool true)))), (47, (.v (.cell (.str x4)))), (46, (.v (.cell (.str (g10r0 x4))))), (45, (.v (.cell (.str x4)))), (44, (.v (.cell (.bool true)))), (43, (.v (.cell (.bool true)))), (42, (.v (.cell (.bool true)))), (41, (.v (.cell (.str x4)))), (40, (.v (.cell (.bool true)))), (39, (.v (.cell (.bool true)))), (38, (.v (.cell (.bool true)))), (37, (.v (.cell (.int .i64 (A.ofN x4.length))))), (36, (.v (.cell (.str x4)))), (35, (.v (.cell (.bool true)))), (34, (.v (.cell (.bool true)))), (0, (.v (.cell (.str x0)))), (1, (.v (.cell (.str x1)))), (2, (.v (.cell (.str x2)))), (7, (.v (.cell (.bool x3)))), (8, (.v (.cell (.str x4)))), (9, (.v (.cell (.str x5))))], []⟩
                                    | false => none
                                  | false => none
                                | false => K .normal ⟨[(6, (.v (.cell (.bool false)))), (82, (.v (.cell (.bool false)))), (81, (.v (.cell .un))), (80, (.v (.cell .un))), (79, (.v (.cell .un))), (78, (.v (.cell .un))), (77, (.v (.cell .un))), (76, (.v (.cell .un))), (75, (.v (.cell (.bool false)))), (74, (.v (.cell (.bool false)))), (73, (.v (.cell (.bool false)))), (72, (.v (.cell (.str x4)))), (71, (.v (.cell (.str (g14r0 x0 [1] g16r0))))), (70, (.v (.cell (.str g16r0)))), (69, (.v (.cell (.str x0)))), (68, (.v (.cell (.bool true)))), (67, (.v (.cell (.bool true)))), (66, (.v (.cell (.bool true)))), (65, (.v (.cell (.str (g14r0 x4 (g10r0 x1) (g10r0 x2)))))), (64, (.v (.cell (.str (g10r0 x2))))), (63, (.v (.cell (.str x2)))), (62, (.v (.cell (.str (g10r0 x1))))), (61, (.v (.cell (.str x1)))), (60, (.v (.cell (.str x4)))), (59, (.v (.cell (.str x5)))), (58, (.v (.cell (.bool true)))), (57, (.v (.cell (.bool true)))), (56, (.v (.cell (.bool true)))), (55, (.v (.cell (.str (g14r0 x1 x0 x2))))), (54, (.v (.cell (.str x2)))), (53, (.v (.cell (.str x0)))), (52, (.v (.cell (.str x1)))), (51, (.v (.cell (.str x5)))), (50, (.v (.cell (.bool true)))), (49, (.v (.cell (.bool true)))), (48, (.v (.cell (.bool true)))), (47, (.v (.cell (.str x4)))), (46, (.v (.cell (.str (g10r0 x4))))), (45, (.v (.cell (.str x4)))), (44, (.v (.cell (.bool true)))), (43, (.v (.cell (.bool true)))), (42, (.v (.cell (.bool true)))), (41, (.v (.cell (.str x4)))), (40, (.v (.cell (.bool true)))), (39, (.v (.cell (.bool true)))), (38, (.v (.cell (.bool true)))), (37, (.v (.cell (.int .i64 (A.ofN x4.length))))), (36, (.v (.cell (.str x4)))), (35, (.v (.cell (.bool true)))), (34, (.v (.cell (.bool true)))), (0, (.v (.cell (.str x0)))), (1, (.v (.cell (.str x1)))), (2, (.v (.cell (.str x2)))), (7, (.v (.cell (.bool x3)))), (8, (.v (.cell (.str x4)))), (9, (.v (.cell (.str x5))))], []⟩
                              | false => none
                            | false => none
                          | false => K .normal ⟨[(6, (.v (.cell (.bool false)))), (82, (.v (.cell (.bool false)))), (81, (.v (.cell .un))), (80, (.v (.cell .un))), (79, (.v (.cell .un))), (78, (.v (.cell .un))), (77, (.v (.cell .un))), (76, (.v (.cell .un))), (75, (.v (.cell (.bool false)))), (74, (.v (.cell (.bool false)))), (73, (.v (.cell .un))), (72, (.v (.cell .un))), (71, (.v (.cell .un))), (70, (.v (.cell .un))), (69, (.v (.cell .un))), (68, (.v (.cell (.bool false)))), (67, (.v (.cell (.bool false)))), (66, (.v (.cell (.bool false)))), (65, (.v (.cell (.str (g14r0 x4 (g10r0 x1) (g10r0 x2)))))), (64, (.v (.cell (.str (g10r0 x2))))), (63, (.v (.cell (.str x2)))), (62, (.v (.cell (.str (g10r0 x1))))), (61, (.v (.cell (.str x1)))), (60, (.v (.cell (.str x4)))), (59, (.v (.cell (.str x5)))), (58, (.v (.cell (.bool true)))), (57, (.v (.cell (.bool true)))), (56, (.v (.cell (.bool true)))), (55, (.v (.cell (.str (g14r0 x1 x0 x2))))), (54, (.v (.cell (.str x2)))), (53, (.v (.cell (.str x0)))), (52, (.v (.cell (.str x1)))), (51, (.v (.cell (.str x5)))), (50, (.v (.cell (.bool true)))), (49, (.v (.cell (.bool true)))), (48, (.v (.cell (.bool true)))), (47, (.v (.cell (.str x4)))), (46, (.v (.cell (.str (g10r0 x4))))), (45, (.v (.cell (.str x4)))), (44, (.v (.cell (.bool true)))), (43, (.v (.cell (.bool true)))), (42, (.v (.cell (.bool true)))), (41, (.v (.cell (.str x4)))), (40, (.v (.cell (.bool true)))), (39, (.v (.cell (.bool true)))), (38, (.v (.cell (.bool true)))), (37, (.v (.cell (.int .i64 (A.ofN x4.length))))), (36, (.v (.cell (.str x4)))), (35, (.v (.cell (.bool true)))), (34, (.v (.cell (.bool true)))), (0, (.v (.cell (.str x0)))), (1, (.v (.cell (.str x1)))), (2, (.v (.cell (.str x2)))), (7, (.v (.cell (.bool x3)))), (8, (.v (.cell (.str x4)))), (9, (.v (.cell (.str x5))))], []⟩
                        | false => none
                      | false => none
                    | false => none
                  | false => K .normal ⟨[(6, (.v (.cell (.bool false)))), (82, (.v (.cell (.bool false)))), (81, (.v (.cell .un))), (80, (.v (.cell .un))), (79, (.v (.cell .un))), (78, (.v (.cell .un))), (77, (.v (.cell .un))), (76, (.v (.cell .un))), (75, (.v (.cell (.bool false)))), (74, (.v (.cell (.bool false)))), (73, (.v (.cell .un))), (72, (.v (.cell .un))), (71, (.v (.cell .un))), (70, (.v (.cell .un))), (69, (.v (.cell .un))), (68, (.v (.cell (.bool false)))), (67, (.v (.cell (.bool false)))), (66, (.v (.cell .un))), (65, (.v (.cell .un))), (64, (.v (.cell .un))), (63, (.v (.cell .un))), (62, (.v (.cell .un))), (61, (.v (.cell .un))), (60, (.v (.cell .un))), (59, (.v (.cell .un))), (58, (.v (.cell (.bool false)))), (57, (.v (.cell (.bool false)))), (56, (.v (.cell (.bool false)))), (55, (.v (.cell (.str (g14r0 x1 x0 x2))))), (54, (.v (.cell (.str x2)))), (53, (.v (.cell (.str x0)))), (52, (.v (.cell (.str x1)))), (51, (.v (.cell (.str x5)))), (50, (.v (.cell (.bool true)))), (49, (.v (.cell (.bool true)))), (48, (.v (.cell (.bool true)))), (47, (.v (.cell (.str x4)))), (46, (.v (.cell (.str (g10r0 x4))))), (45, (.v (.cell (.str x4)))), (44, (.v (.cell (.bool true)))), (43, (.v (.cell (.bool true)))), (42, (.v (.cell (.bool true)))), (41, (.v (.cell (.str x4)))), (40, (.v (.cell (.bool true)))), (39, (.v (.cell (.bool true)))), (38, (.v (.cell (.bool true)))), (37, (.v (.cell (.int .i64 (A.ofN x4.length))))), (36, (.v (.cell (.str x4)))), (35, (.v (.cell (.bool true)))), (34, (.v (.cell (.bool true)))), (0, (.v (.cell (.str x0)))), (1, (.v (.cell (.str x1)))), (2, (.v (.cell (.str x2)))), (7, (.v (.cell (.bool x3)))), (8, (.v (.cell (.str x4)))), (9, (.v (.cell (.str x5))))], []⟩
                | false => none
              | false => K .normal ⟨[(6, (.v (.cell (.bool false)))), (82, (.v (.cell (.bool false)))), (81, (.v (.cell .un))), (80, (.v (.cell .un))), (79, (.v (.cell .un))), (78, (.v (.cell .un))), (77, (.v (.cell .un))), (76, (.v (.cell .un))), (75, (.v (.cell (.bool false)))), (74, (.v (.cell (.bool false)))), (73, (.v (.cell .un))), (72, (.v (.cell .un))), (71, (.v (.cell .un))), (70, (.v (.cell .un))), (69, (.v (.cell .un))), (68, (.v (.cell (.bool false)))), (67, (.v (.cell (.bool false)))), (66, (.v (.cell .un))), (65, (.v (.cell .un))), (64, (.v (.cell .un))), (63, (.v (.cell .un))), (62, (.v (.cell .un))), (61, (.v (.cell .un))), (60, (.v (.cell .un))), (59, (.v (.cell .un))), (58, (.v (.cell (.bool false)))), (57, (.v (.cell (.bool false)))), (56, (.v (.cell .un))), (55, (.v (.cell .un))), (54, (.v (.cell .un))), (53, (.v (.cell .un))), (52, (.v (.cell .un))), (51, (.v (.cell .un))), (50, (.v (.cell (.bool false)))), (49, (.v (.cell (.bool false)))), (48, (.v (.cell (.bool false)))), (47, (.v (.cell (.str x4)))), (46, (.v (.cell (.str (g10r0 x4))))), (45, (.v (.cell (.str x4)))), (44, (.v (.cell (.bool true)))), (43, (.v (.cell (.bool true)))), (42, (.v (.cell (.bool true)))), (41, (.v (.cell (.str x4)))), (40, (.v (.cell (.bool true)))), (39, (.v (.cell (.bool true)))), (38, (.v (.cell (.bool true)))), (37, (.v (.cell (.int .i64 (A.ofN x4.length))))), (36, (.v (.cell (.str x4)))), (35, (.v (.cell (.bool true)))), (34, (.v (.cell (.bool true)))), (0, (.v (.cell (.str x0)))), (1, (.v (.cell (.str x1)))), (2, (.v (.cell (.str x2)))), (7, (.v (.cell (.bool x3)))), (8, (.v (.cell (.str x4)))), (9, (.v (.cell (.str x5))))], []⟩
            | false => none
          | false => K .normal ⟨[(6, (.v (.cell (.bool false)))), (82, (.v (.cell (.bool false)))), (81, (.v (.cell .un))), (80, (.v (.cell .un))), (79, (.v (.cell .un))), (78, (.v (.cell .un))), (77, (.v (.cell .un))), (76, (.v (.cell .un))), (75, (.v (.cell (.bool false)))), (74, (.v (.cell (.bool false)))), (73, (.v (.cell .un))), (72, (.v (.cell .un))), (71, (.v (.cell .un))), (70, (.v (.cell .un))), (69, (.v (.cell .un))), (68, (.v (.cell (.bool false)))), (67, (.v (.cell (.bool false)))), (66, (.v (.cell .un))), (65, (.v (.cell .un))), (64, (.v (.cell .un))), (63, (.v (.cell .un))), (62, (.v (.cell .un))), (61, (.v (.cell .un))), (60, (.v (.cell .un))), (59, (.v (.cell .un))), (58, (.v (.cell (.bool false)))), (57, (.v (.cell (.bool false)))), (56, (.v (.cell .un))), (55, (.v (.cell .un))), (54, (.v (.cell .un))), (53, (.v (.cell .un))), (52, (.v (.cell .un))), (51, (.v (.cell .un))), (50, (.v (.cell (.bool false)))), (49, (.v (.cell (.bool false)))), (48, (.v (.cell .un))), (47, (.v (.cell .un))), (46, (.v (.cell .un))), (45, (.v (.cell .un))), (44, (.v (.cell (.bool false)))), (43, (.v (.cell (.bool false)))), (42, (.v (.cell (.bool false)))), (41, (.v (.cell (.str x4)))), (40, (.v (.cell (.bool true)))), (39, (.v (.cell (.bool true)))), (38, (.v (.cell (.bool true)))), (37, (.v (.cell (.int .i64 (A.ofN x4.length))))), (36, (.v (.cell (.str x4)))), (35, (.v (.cell (.bool true)))), (34, (.v (.cell (.bool true)))), (0, (.v (.cell (.str x0)))), (1, (.v (.cell (.str x1)))), (2, (.v (.cell (.str x2)))), (7, (.v (.cell (.bool x3)))), (8, (.v (.cell (.str x4)))), (9, (.v (.cell (.str x5))))], []⟩
        | false => none
      | false => K .normal ⟨[(6, (.v (.cell (.bool false)))), (82, (.v (.cell (.bool false)))), (81, (.v (.cell .un))), (80, (.v (.cell .un))), (79, (.v (.cell .un))), (78, (.v (.cell .un))), (77, (.v (.cell .un))), (76, (.v (.cell .un))), (75, (.v (.cell (.bool false)))), (74, (.v (.cell (.bool false)))), (73, (.v (.cell .un))), (72, (.v (.cell .un))), (71, (.v (.cell .un))), (70, (.v (.cell .un))), (69, (.v (.cell .un))), (68, (.v (.cell (.bool false)))), (67, (.v (.cell (.bool false)))), (66, (.v (.cell .un))), (65, (.v (.cell .un))), (64, (.v (.cell .un))), (63, (.v (.cell .un))), (62, (.v (.cell .un))), (61, (.v (.cell .un))), (60, (.v (.cell .un))), (59, (.v (.cell .un))), (58, (.v (.cell (.bool false)))), (57, (.v (.cell (.bool false)))), (56, (.v (.cell .un))), (55, (.v (.cell .un))), (54, (.v (.cell .un))), (53, (.v (.cell .un))), (52, (.v (.cell .un))), (51, (.v (.cell .un))), (50, (.v (.cell (.bool false)))), (49, (.v (.cell (.bool false)))), (48, (.v (.cell .un))), (47, (.v (.cell .un))), (46, (.v (.cell .un))), (45, (.v (.cell .un))), (44, (.v (.cell (.bool false)))), (43, (.v (.cell (.bool false)))), (42, (.v (.cell .un))), (41, (.v (.cell .un))), (40, (.v (.cell (.bool false)))), (39, (.v (.cell (.bool false)))), (38, (.v (.cell (.bool false)))), (37, (.v (.cell (.int .i64 (A.ofN x4.length))))), (36, (.v (.cell (.str x4)))), (35, (.v (.cell (.bool true)))), (34, (.v (.cell (.bool true)))), (0, (.v (.cell (.str x0)))), (1, (.v (.cell (.str x1)))), (2, (.v (.cell (.str x2)))), (7, (.v (.cell (.bool x3)))), (8, (.v (.cell (.str x4)))), (9, (.v (.cell (.str x5))))], []⟩
    | false => K .normal ⟨[(6, (.v (.cell (.bool false)))), (82, (.v (.cell (.bool false)))), (81, (.v (.cell .un))), (80, (.v (.cell .un))), (79, (.v (.cell .un))), (78, (.v (.cell .un))), (77, (.v (.cell .un))), (76, (.v (.cell .un))), (75, (.v (.cell (.bool false)))), (74, (.v (.cell (.bool false)))), (73, (.v (.cell .un))), (72, (.v (.cell .un))), (71, (.v (.cell .un))), (70, (.v (.cell .un))), (69, (.v (.cell .un))), (68, (.v (.cell (.bool false)))), (67, (.v (.cell (.bool false)))), (66, (.v (.cell .un))), (65, (.v (.cell .un))), (64, (.v (.cell .un))), (63, (.v (.cell .un))), (62, (.v (.cell .un))), (61, (.v (.cell .un))), (60, (.v (.cell .un))), (59, (.v (.cell .un))), (58, (.v (.cell (.bool false)))), (57, (.v (.cell (.bool false)))), (56, (.v (.cell .un))), (55, (.v (.cell .un))), (54, (.v (.cell .un))), (53, (.v (.cell .un))), (52, (.v (.cell .un))), (51, (.v (.cell .un))), (50, (.v (.cell (.bool false)))), (49, (.v (.cell (.bool false)))), (48, (.v (.cell .un))), (47, (.v (.cell .un))), (46, (.v (.cell .un))), (45, (.v (.cell .un))), (44, (.v (.cell (.bool false)))), (43, (.v (.cell (.bool false)))), (42, (.v (.cell .un))), (41, (.v (.cell .un))), (40, (.v (.cell (.bool false)))), (39, (.v (.cell (.bool false)))), (38, (.v (.cell .un))), (37, (.v (.cell .un))), (36, (.v (.cell .un))), (35, (.v (.cell (.bool false)))), (34, (.v (.cell (.bool false)))), (0, (.v (.cell (.str x0)))), (1, (.v (.cell (.str x1)))), (2, (.v (.cell (.str x2)))), (7, (.v (.cell (.bool x3)))), (8, (.v (.cell (.str x4)))), (9, (.v (.cell (.str x5))))], []⟩ := by kernel_rfl
theorem g4R0 {R : Type} (A : Ar) (n : Nat) (K : Ex → St → Option R) (x0 : List Nat) (x1 : List Nat) (x2 : List Nat) : g4D A n [false] K ⟨[(0, (.v (.cell (.str x0)))), (1, (.v (.cell (.str x1)))), (2, (.v (.cell (.str x2))))], []⟩ = K .normal ⟨[(6, (.v (.cell (.bool false)))), (0, (.v (.cell (.str x0)))), (1, (.v (.cell (.str x1)))), (2, (.v (.cell (.str x2))))], []⟩ := by kernel_rfl
theorem g4R1 {R : Type} (A : Ar) (n : Nat) (K : Ex → St → Option R) (x0 : List Nat) (x1 : List Nat) (x2 : List Nat) : g4D A n [true, false] K ⟨[(0, (.v (.cell (.str x0)))), (1, (.v (.cell (.str x1)))), (2, (.v (.cell (.str x2))))], []⟩ = match (generalizing := false) g9ok with
    | true => K .normal ⟨[(7, (.v (.cell (.bool g9r0)))), (10, (.v (.cell (.bool g9r0)))), (0, (.v (.cell (.str x0)))), (1, (.v (.cell (.str x1)))), (2, (.v (.cell (.str x2))))], []⟩
    | false => none := by kernel_rfl
theorem g4R2 {R : Type} (A : Ar) (n : Nat) (K : Ex → St → Option R) (x0 : List Nat) (x1 : List Nat) (x2 : List Nat) (x3 : Bool) : g4D A n [true, true, false, false] K ⟨[(0, (.v (.cell (.str x0)))), (1, (.v (.cell (.str x1)))), (2, (.v (.cell (.str x2)))), (7, (.v (.cell (.bool x3))))], []⟩ = K .normal ⟨[(12, (.v (.cell (.bool (!x3))))), (11, (.v (.cell (.bool x3)))), (0, (.v (.cell (.str x0)))), (1, (.v (.cell (.str x1)))), (2, (.v (.cell (.str x2)))), (7, (.v (.cell (.bool x3))))], []⟩ := by kernel_rfl
theorem g4R3 {R : Type} (A : Ar) (n : Nat) (K : Ex → St → Option R)  : g4D A n [true, true, false, true, false, false] K ⟨[], []⟩ = K .normal ⟨[(6, (.v (.cell (.bool false))))], []⟩ := by kernel_rfl
def g4J4 {R : Type} (A : Ar) (n : Nat) (kk : AV → Heap → Option R)  (x0 : List Nat) (x1 : List Nat) (x2 : List Nat) (x3 : Bool) : Option R :=
  match (generalizing := false) A.neg (A.mn (A.ofN x0.length) 32) with
  | true => none
  | false => match (generalizing := false) A.le (A.toN (A.mn (A.ofN x0.length) 32)) x0.length with
    | true => match (generalizing := false) A.neg (A.mn (A.ofN x1.length) 32) with
      | true => none
      | false => match (generalizing := false) A.le (A.toN (A.mn (A.ofN x1.length) 32)) x1.length with
        | true => match (generalizing := false) A.neg (A.mn (A.ofN x2.length) 32) with
          | true => none
          | false => match (generalizing := false) A.le (A.toN (A.mn (A.ofN x2.length) 32)) x2.length with
            | true => match (generalizing := false) g10ok ((x0.take (A.toN (A.mn (A.ofN x0.length) 32))).drop 0) with
              | true => match (generalizing := false) g14ok ((x0.take (A.toN (A.mn (A.ofN x0.length) 32))).drop 0) ((x1.take (A.toN (A.mn (A.ofN x1.length) 32))).drop 0) ((x2.take (A.toN (A.mn (A.ofN x2.length) 32))).drop 0) with
                | true => match (generalizing := false) x3 with
                  | true => match (generalizing := false) A.ic .eql (A.ofN ((g10r0 ((x0.take (A.toN (A.mn (A.ofN x0.length) 32))).drop 0)).length)) 32 with
                    | true => match (generalizing := false) g12ok (g10r0 ((x0.take (A.toN (A.mn (A.ofN x0.length) 32))).drop 0)) with
                      | true => match (generalizing := false) g12r0 (g10r0 ((x0.take (A.toN (A.mn (A.ofN x0.length) 32))).drop 0)) with
                        | true => match (generalizing := false) g10ok (g10r0 ((x0.take (A.toN (A.mn (A.ofN x0.length) 32))).drop 0)) with
                          | true => match (generalizing := false) A.sc .eql (g10r0 (g10r0 ((x0.take (A.toN (A.mn (A.ofN x0.length) 32))).drop 0))) (g10r0 ((x0.take (A.toN (A.mn (A.ofN x0.length) 32))).drop 0)) with
                            | true => match (generalizing := false) g14ok ((x1.take (A.toN (A.mn (A.ofN x1.length) 32))).drop 0) ((x0.take (A.toN (A.mn (A.ofN x0.length) 32))).drop 0) ((x2.take (A.toN (A.mn (A.ofN x2.length) 32))).drop 0) with
                              | true => match (generalizing := false) A.sc .eql (g14r0 ((x0.take (A.toN (A.mn (A.ofN x0.length) 32))).drop 0) ((x1.take (A.toN (A.mn (A.ofN x1.length) 32))).drop 0) ((x2.take (A.toN (A.mn (A.ofN x2.length) 32))).drop 0)) (g14r0 ((x1.take (A.toN (A.mn (A.ofN x1.length) 32))).drop 0) ((x0.take (A.toN (A.mn (A.ofN x0.length) 32))).drop 0) ((x2.take (A.toN (A.mn (A.ofN x2.length) 32))).drop 0)) with
                                | true => match (generalizing := false) g10ok ((x1.take (A.toN (A.mn (A.ofN x1.length) 32))).drop 0) with
                                  | true => match (generalizing := false) g10ok ((x2.take (A.toN (A.mn (A.ofN x2.length) 32))).drop 0) with
                                    | true => match (generalizing := false) g14ok (g10r0 ((x0.take (A.toN (A.mn (A.ofN x0.length) 32))).drop 0)) (g10r0 ((x1.take (A.toN (A.mn (A.ofN x1.length) 32))).drop 0)) (g10r0 ((x2.take (A.toN (A.mn (A.ofN x2.length) 32))).drop 0)) with
                                      | true => match (generalizing := false) A.sc .eql (g14r0 ((x0.take (A.toN (A.mn (A.ofN x0.length) 32))).drop 0) ((x1.take (A.toN (A.mn (A.ofN x1.length) 32))).drop 0) ((x2.take (A.toN (A.mn (A.ofN x2.length) 32))).drop 0)) (g14r0 (g10r0 ((x0.take (A.toN (A.mn (A.ofN x0.length) 32))).drop 0)) (g10r0 ((x1.take (A.toN (A.mn (A.ofN x1.length) 32))).drop 0)) (g10r0 ((x2.take (A.toN (A.mn (A.ofN x2.length) 32))).drop 0))) with
                                        | true => match (generalizing := false) g16ok with
                                          | true => match (generalizing := false) g14ok ((x0.take (A.toN (A.mn (A.ofN x0.length) 32))).drop 0) [1] g16r0 with
                                            | true => match (generalizing := false) A.sc .eql (g14r0 ((x0.take (A.toN (A.mn (A.ofN x0.length) 32))).drop 0) [1] g16r0) (g10r0 ((x0.take (A.toN (A.mn (A.ofN x0.length) 32))).drop 0)) with
                                              | true => match (generalizing := false) g14ok ((x0.take (A.toN (A.mn (A.ofN x0.length) 32))).drop 0) [] ((x2.take (A.toN (A.mn (A.ofN x2.length) 32))).drop 0) with
                                                | true => match (generalizing := false) g10ok ((x2.take (A.toN (A.mn (A.ofN x2.length) 32))).drop 0) with
                                                  | true => match (generalizing := false) A.sc .eql (g14r0 ((x0.take (A.toN (A.mn (A.ofN x0.length) 32))).drop 0) [] ((x2.take (A.toN (A.mn (A.ofN x2.length) 32))).drop 0)) (g10r0 ((x2.take (A.toN (A.mn (A.ofN x2.length) 32))).drop 0)) with
                                                    | true => kk (.v (.cell (.bool true))) []
                                                    | false => kk (.v (.cell (.bool false))) []
                                                  | false => none
                                                | false => none
                                              | false => kk (.v (.cell (.bool false))) []
                                            | false => none
                                          | false => none
                                        | false => kk (.v (.cell (.bool false))) []
                                      | false => none
                                    | false => none
                                  | false => none
                                | false => kk (.v (.cell (.bool false))) []
                              | false => none
                            | false => kk (.v (.cell (.bool false))) []
                          | false => none
                        | false => kk (.v (.cell (.bool false))) []
                      | false => none
                    | false => kk (.v (.cell (.bool false))) []
                  | false => kk (.v (.cell (.bool false))) []
                | false => none
              | false => none
            | false => none
        | false => none
    | false => none
set_option maxRecDepth 100000 in
theorem g4J4_eq {R : Type} (A : Ar) (n : Nat) (kk : AV → Heap → Option R)    (s : St) (x0 : List Nat) (x1 : List Nat) (x2 : List Nat) (x3 : Bool) (h : keep g4an 4 s = ⟨[(0, (.v (.cell (.str x0)))), (1, (.v (.cell (.str x1)))), (2, (.v (.cell (.str x2)))), (7, (.v (.cell (.bool x3))))], []⟩) :
    g4D A n [true, true, true] (g4T kk) s = g4J4 A n kk  x0 x1 x2 x3 := by
  have h1 : (g4T kk) .ret ⟨[(6, (.v (.cell (.bool true)))), (82, (.v (.cell (.bool true)))), (81, (.v (.cell (.bool true)))), (80, (.v (.cell (.str (g10r0 ((x2.take (A.toN (A.mn (A.ofN x2.length) 32))).drop 0)))))), (79, (.v (.cell (.str ((x2.take (A.toN (A.mn (A.ofN x2.length) 32))).drop 0))))), (78, (.v (.cell (.str (g14r0 ((x0.take (A.toN (A.mn (A.ofN x0.length) 32))).drop 0) [] ((x2.take (A.toN (A.mn (A.ofN x2.length) 32))).drop 0)))))), (77, (.v (.cell (.str ((x2.take (A.toN (A.mn (A.ofN x2.length) 32))).drop 0))))), (76, (.v (.cell (.str ((x0.take (A.toN (A.mn (A.ofN x0.length) 32))).drop 0))))), (75, (.v (.cell (.bool true)))), (74, (.v (.cell (.bool true)))), (73, (.v (.cell (.bool true)))), (72, (.v (.cell (.str (g10r0 ((x0.take (A.toN (A.mn (A.ofN x0.length) 32))).drop 0)))))), (71, (.v (.cell (.str (g14r0 ((x0.take (A.toN (A.mn (A.ofN x0.length) 32))).drop 0) [1] g16r0))))), (70, (.v (.cell (.str g16r0)))), (69, (.v (.cell (.str ((x0.take (A.toN (A.mn (A.ofN x0.length) 32))).drop 0))))), (68, (.v (.cell (.bool true)))), (67, (.v (.cell (.bool true)))), (66, (.v (.cell (.bool true)))), (65, (.v (.cell (.str (g14r0 (g10r0 ((x0.take (A.toN (A.mn (A.ofN x0.length) 32))).drop 0)) (g10r0 ((x1.take (A.toN (A.mn (A.ofN x1.length) 32))).drop 0)) (g10r0 ((x2.take (A.toN (A.mn (A.ofN x2.length) 32))).drop 0))))))), (64, (.v (.cell (.str (g10r0 ((x2.take (A.toN (A.mn (A.ofN x2.length) 32))).drop 0)))))), (63, (.v (.cell (.str ((x2.take (A.toN (A.mn (A.ofN x2.length) 32))).drop 0))))), (62, (.v (.cell (.str (g10r0 ((x1.take (A.toN (A.mn (A.ofN x1.length) 32))).drop 0)))))), (61, (.v (.cell (.str ((x1.take (A.toN (A.mn (A.ofN x1.length) 32))).drop 0))))), (60, (.v (.cell (.str (g10r0 ((x0.take (A.toN (A.mn (A.ofN x0.length) 32))).drop 0)))))), (59, (.v (.cell (.str (g14r0 ((x0.take (A.toN (A.mn (A.ofN x0.length) 32))).drop 0) ((x1.take (A.toN (A.mn (A.ofN x1.length) 32))).drop 0) ((x2.take (A.toN (A.mn (A.ofN x2.length) 32))).drop 0)))))), (58, (.v (.cell (.bool true)))), (57, (.v (.cell (.bool true)))), (56, (.v (.cell (.bool true)))), (55, (.v (.cell (.str (g14r0 ((x1.take (A.toN (A.mn (A.ofN x1.length) 32))).drop 0) ((x0.take (A.toN (A.mn (A.ofN x0.length) 32))).drop 0) ((x2.take (A.toN (A.mn (A.ofN x2.length) 32))).drop 0)))))), (54, (.v (.cell (.str ((x2.take (A.toN (A.mn (A.ofN x2.length) 32))).drop 0))))), (53, (.v (.cell (.str ((x0.take (A.toN (A.mn (A.ofN x0.length) 32))).drop 0))))), (52, (.v (.cell (.str ((x1.take (A.toN (A.mn (A.ofN x1.length) 32))).drop 0))))), (51, (.v (.cell (.str (g14r0 ((x0.take (A.toN (A.mn (A.ofN x0.length) 32))).drop 0) ((x1.take (A.toN (A.mn (A.ofN x1.length) 32))).drop 0) ((x2.take (A.toN (A.mn (A.ofN x2.length) 32))).drop 0)))))), (50, (.v (.cell (.bool true)))), (49, (.v (.cell (.bool true)))), (48, (.v (.cell (.bool true)))), (47, (.v (.cell (.str (g10r0 ((x0.take (A.toN (A.mn (A.ofN x0.length) 32))).drop 0)))))), (46, (.v (.cell (.str (g10r0 (g10r0 ((x0.take (A.toN (A.mn (A.ofN x0.length) 32))).drop 0))))))), (45, (.v (.cell (.str (g10r0 ((x0.take (A.toN (A.mn (A.ofN x0.length) 32))).drop 0)))))), (44, (.v (.cell (.bool true)))), (43, (.v (.cell (.bool true)))), (42, (.v (.cell (.bool true)))), (41, (.v (.cell (.str (g10r0 ((x0.take (A.toN (A.mn (A.ofN x0.length) 32))).drop 0)))))), (40, (.v (.cell (.bool true)))), (39, (.v (.cell (.bool true)))), (38, (.v (.cell (.bool true)))), (37, (.v (.cell (.int .i64 (A.ofN ((g10r0 ((x0.take (A.toN (A.mn (A.ofN x0.length) 32))).drop 0)).length)))))), (36, (.v (.cell (.str (g10r0 ((x0.take (A.toN (A.mn (A.ofN x0.length) 32))).drop 0)))))), (35, (.v (.cell (.bool true)))), (34, (.v (.cell (.bool true)))), (0, (.v (.cell (.str ((x0.take (A.toN (A.mn (A.ofN x0.length) 32))).drop 0))))), (1, (.v (.cell (.str ((x1.take (A.toN (A.mn (A.ofN x1.length) 32))).drop 0))))), (2, (.v (.cell (.str ((x2.take (A.toN (A.mn (A.ofN x2.length) 32))).drop 0))))), (7, (.v (.cell (.bool x3)))), (8, (.v (.cell (.str (g10r0 ((x0.take (A.toN (A.mn (A.ofN x0.length) 32))).drop 0)))))), (9, (.v (.cell (.str (g14r0 ((x0.take (A.toN (A.mn (A.ofN x0.length) 32))).drop 0) ((x1.take (A.toN (A.mn (A.ofN x1.length) 32))).drop 0) ((x2.take (A.toN (A.mn (A.ofN x2.length) 32))).drop 0))))))], []⟩ = kk (.v (.cell (.bool true))) [] := by kernel_rfl
  have h2 := (g4p111111111 A n _ _).trans h1
  have h3 := (g4Qn A n _ _ _).trans h2
  have h4 : (g4T kk) .ret ⟨[(6, (.v (.cell (.bool false)))), (82, (.v (.cell (.bool false)))), (81, (.v (.cell (.bool false)))), (80, (.v (.cell (.str (g10r0 ((x2.take (A.toN (A.mn (A.ofN x2.length) 32))).drop 0)))))), (79, (.v (.cell (.str ((x2.take (A.toN (A.mn (A.ofN x2.length) 32))).drop 0))))), (78, (.v (.cell (.str (g14r0 ((x0.take (A.toN (A.mn (A.ofN x0.length) 32))).drop 0) [] ((x2.take (A.toN (A.mn (A.ofN x2.length) 32))).drop 0)))))), (77, (.v (.cell (.str ((x2.take (A.toN (A.mn (A.ofN x2.length) 32))).drop 0))))), (76, (.v (.cell (.str ((x0.take (A.toN (A.mn (A.ofN x0.length) 32))).drop 0))))), (75, (.v (.cell (.bool true)))), (74, (.v (.cell (.bool true)))), (73, (.v (.cell (.bool true)))), (72, (.v (.cell (.str (g10r0 ((x0.take (A.toN (A.mn (A.ofN x0.length) 32))).drop 0)))))), (71, (.v (.cell (.str (g14r0 ((x0.take (A.toN (A.mn (A.ofN x0.length) 32))).drop 0) [1] g16r0))))), (70, (.v (.cell (.str g16r0)))), (69, (.v (.cell (.str ((x0.take (A.toN (A.mn (A.ofN x0.length) 32))).drop 0))))), (68, (.v (.cell (.bool true)))), (67, (.v (.cell (.bool true)))), (66, (.v (.cell (.bool true)))), (65, (.v (.cell (.str (g14r0 (g10r0 ((x0.take (A.toN (A.mn (A.ofN x0.length) 32))).drop 0)) (g10r0 ((x1.take (A.toN (A.mn (A.ofN x1.length) 32))).drop 0)) (g10r0 ((x2.take (A.toN (A.mn (A.ofN x2.length) 32))).drop 0))))))), (64, (.v (.cell (.str (g10r0 ((x2.take (A.toN (A.mn (A.ofN x2.length) 32))).drop 0)))))), (63, (.v (.cell (.str ((x2.take (A.toN (A.mn (A.ofN x2.length) 32))).drop 0))))), (62, (.v (.cell (.str (g10r0 ((x1.take (A.toN (A.mn (A.ofN x1.length) 32))).drop 0)))))), (61, (.v (.cell (.str ((x1.take (A.toN (A.mn (A.ofN x1.length) 32))).drop 0))))), (60, (.v (.cell (.str (g10r0 ((x0.take (A.toN (A.mn (A.ofN x0.length) 32))).drop 0)))))), (59, (.v (.cell (.str (g14r0 ((x0.take (A.toN (A.mn (A.ofN x0.length) 32))).drop 0) ((x1.take (A.toN (A.mn (A.ofN x1.length) 32))).drop 0) ((x2.take (A.toN (A.mn (A.ofN x2.length) 32))).drop 0)))))), (58, (.v (.cell (.bool true)))), (57, (.v (.cell (.bool true)))), (56, (.v (.cell (.bool true)))), (55, (.v (.cell (.str (g14r0 ((x1.take (A.toN (A.mn (A.ofN x1.length) 32))).drop 0) ((x0.take (A.toN (A.mn (A.ofN x0.length) 32))).drop 0) ((x2.take (A.toN (A.mn (A.ofN x2.length) 32))).drop 0)))))), (54, (.v (.cell (.str ((x2.take (A.toN (A.mn (A.ofN x2.length) 32))).drop 0))))), (53, (.v (.cell (.str ((x0.take (A.toN (A.mn (A.ofN x0.length) 32))).drop 0))))), (52, (.v (.cell (.str ((x1.take (A.toN (A.mn (A.ofN x1.length) 32))).drop 0))))), (51, (.v (.cell (.str (g14r0 ((x0.take (A.toN (A.mn (A.ofN x0.length) 32))).drop 0) ((x1.take (A.toN (A.mn (A.ofN x1.length) 32))).drop 0) ((x2.take (A.toN (A.mn (A.ofN x2.length) 32))).drop 0)))))), (50, (.v (.cell (.bool true)))), (49, (.v (.cell (.bool true)))), (48, (.v (.cell (.bool true)))), (47, (.v (.cell (.str (g10r0 ((x0.take (A.toN (A.mn (A.ofN x0.length) 32))).drop 0)))))), (46, (.v (.cell (.str (g10r0 (g10r0 ((x0.take (A.toN (A.mn (A.ofN x0.length) 32))).drop 0))))))), (45, (.v (.cell (.str (g10r0 ((x0.take (A.toN (A.mn (A.ofN x0.length) 32))).drop 0)))))), (44, (.v (.cell (.bool true)))), (43, (.v (.cell (.bool true)))), (42, (.v (.cell (.bool true)))), (41, (.v (.cell (.str (g10r0 ((x0.take (A.toN (A.mn (A.ofN x0.length) 32))).drop 0)))))), (40, (.v (.cell (.bool true)))), (39, (.v (.cell (.bool true)))), (38, (.v (.cell (.bool true)))), (37, (.v (.cell (.int .i64 (A.ofN ((g10r0 ((x0.take (A.toN (A.mn (A.ofN x0.length) 32))).drop 0)).length)))))), (36, (.v (.cell (.str (g10r0 ((x0.take (A.toN (A.mn (A.ofN x0.length) 32))).drop 0)))))), (35, (.v (.cell (.bool true)))), (34, (.v (.cell (.bool true)))), (0, (.v (.cell (.str ((x0.take (A.toN (A.mn (A.ofN x0.length) 32))).drop 0))))), (1, (.v (.cell (.str ((x1.take (A.toN (A.mn (A.ofN x1.length) 32))).drop 0))))), (2, (.v (.cell (.str ((x2.take (A.toN (A.mn (A.ofN x2.length) 32))).drop 0))))), (7, (.v (.cell (.bool x3)))), (8, (.v (.cell (.str (g10r0 ((x0.take (A.toN (A.mn (A.ofN x0.length) 32))).drop 0)))))), (9, (.v (.cell (.str (g14r0 ((x0.take (A.toN (A.mn (A.ofN x0.length) 32))).drop 0) ((x1.take (A.toN (A.mn (A.ofN x1.length) 32))).drop 0) ((x2.take (A.toN (A.mn (A.ofN x2.length) 32))).drop 0))))))], []⟩ = kk (.v (.cell (.bool false))) [] := by kernel_rfl
  have h5 := (g4p111111111 A n _ _).trans h4
  have h6 := (g4Qn A n _ _ _).trans h5
  have h7 : (g4T kk) .ret ⟨[(6, (.v (.cell (.bool false)))), (82, (.v (.cell (.bool false)))), (81, (.v (.cell .un))), (80, (.v (.cell .un))), (79, (.v (.cell .un))), (78, (.v (.cell .un))), (77, (.v (.cell .un))), (76, (.v (.cell .un))), (75, (.v (.cell (.bool false)))), (74, (.v (.cell (.bool false)))), (73, (.v (.cell (.bool false)))), (72, (.v (.cell (.str (g10r0 ((x0.take (A.toN (A.mn (A.ofN x0.length) 32))).drop 0)))))), (71, (.v (.cell (.str (g14r0 ((x0.take (A.toN (A.mn (A.ofN x0.length) 32))).drop 0) [1] g16r0))))), (70, (.v (.cell (.str g16r0)))), (69, (.v (.cell (.str ((x0.take (A.toN (A.mn (A.ofN x0.length) 32))).drop 0))))), (68, (.v (.cell (.bool true)))), (67, (.v (.cell (.bool true)))), (66, (.v (.cell (.bool true)))), (65, (.v (.cell (.str (g14r0 (g10r0 ((x0.take (A.toN (A.mn (A.ofN x0.length) 32))).drop 0)) (g10r0 ((x1.take (A.toN (A.mn (A.ofN x1.length) 32))).drop 0)) (g10r0 ((x2.take (A.toN (A.mn (A.ofN x2.length) 32))).drop 0))))))), (64, (.v (.cell (.str (g10r0 ((x2.take (A.toN (A.mn (A.ofN x2.length) 32))).drop 0)))))), (63, (.v (.cell (.str ((x2.take (A.toN (A.mn (A.ofN x2.length) 32))).drop 0))))), (62, (.v (.cell (.str (g10r0 ((x1.take (A.toN (A.mn (A.ofN x1.length) 32))).drop 0)))))), (61, (.v (.cell (.str ((x1.take (A.toN (A.mn (A.ofN x1.length) 32))).drop 0))))), (60, (.v (.cell (.str (g10r0 ((x0.take (A.toN (A.mn (A.ofN x0.length) 32))).drop 0)))))), (59, (.v (.cell (.str (g14r0 ((x0.take (A.toN (A.mn (A.ofN x0.length) 32))).drop 0) ((x1.take (A.toN (A.mn (A.ofN x1.length) 32))).drop 0) ((x2.take (A.toN (A.mn (A.ofN x2.length) 32))).drop 0)))))), (58, (.v (.cell (.bool true)))), (57, (.v (.cell (.bool true)))), (56, (.v (.cell (.bool true)))), (55, (.v (.cell (.str (g14r0 ((x1.take (A.toN (A.mn (A.ofN x1.length) 32))).drop 0) ((x0.take (A.toN (A.mn (A.ofN x0.length) 32))).drop 0) ((x2.take (A.toN (A.mn (A.ofN x2.length) 32))).drop 0)))))), (54, (.v (.cell (.str ((x2.take (A.toN (A.mn (A.ofN x2.length) 32))).drop 0))))), (53, (.v (.cell (.str ((x0.take (A.toN (A.mn (A.ofN x0.length) 32))).drop 0))))), (52, (.v (.cell (.str ((x1.take (A.toN (A.mn (A.ofN x1.length) 32))).drop 0))))), (51, (.v (.cell (.str (g14r0 ((x0.take (A.toN (A.mn (A.ofN x0.length) 32))).drop 0) ((x1.take (A.toN (A.mn (A.ofN x1.length) 32))).drop 0) ((x2.take (A.toN (A.mn (A.ofN x2.length) 32))).drop 0)))))), (50, (.v (.cell (.bool true)))), (49, (.v (.cell (.bool true)))), (48, (.v (.cell (.bool true)))), (47, (.v (.cell (.str (g10r0 ((x0.take (A.toN (A.mn (A.ofN x0.length) 32))).drop 0)))))), (46, (.v (.cell (.str (g10r0 (g10r0 ((x0.take (A.toN (A.mn (A.ofN x0.length) 32))).drop 0))))))), (45, (.v (.cell (.str (g10r0 ((x0.take (A.toN (A.mn (A.ofN x0.length) 32))).drop 0)))))), (44, (.v (.cell (.bool true)))), (43, (.v (.cell (.bool true)))), (42, (.v (.cell (.bool true)))), (41, (.v (.cell (.str (g10r0 ((x0.take (A.toN (A.mn (A.ofN x0.length) 32))).drop 0)))))), (40, (.v (.cell (.bool true)))), (39, (.v (.cell (.bool true)))), (38, (.v (.cell (.bool true)))), (37, (.v (.cell (.int .i64 (A.ofN ((g10r0 ((x0.take (A.toN (A.mn (A.ofN x0.length) 32))).drop 0)).length)))))), (36, (.v (.cell (.str (g10r0 ((x0.take (A.toN (A.mn (A.ofN x0.length) 32))).drop 0)))))), (35, (.v (.cell (.bool true)))), (34, (.v (.cell (.bool true)))), (0, (.v (.cell (.str ((x0.take (A.toN (A.mn (A.ofN x0.length) 32))).drop 0))))), (1, (.v (.cell (.str ((x1.take (A.toN (A.mn (A.ofN x1.length) 32))).drop 0))))), (2, (.v (.cell (.str ((x2.take (A.toN (A.mn (A.ofN x2.length) 32))).drop 0))))), (7, (.v (.cell (.bool x3)))), (8, (.v (.cell (.str (g10r0 ((x0.take (A.toN (A.mn (A.ofN x0.length) 32))).drop 0)))))), (9, (.v (.cell (.str (g14r0 ((x0.take (A.toN (A.mn (A.ofN x0.length) 32))).drop 0) ((x1.take (A.toN (A.mn (A.ofN x1.length) 32))).drop 0) ((x2.take (A.toN (A.mn (A.ofN x2.length) 32))).drop 0))))))], []⟩ = kk (.v (.cell (.bool false))) [] := by kernel_rfl
  have h8 := (g4p111111111 A n _ _).trans h7
  have h9 := (g4Qn A n _ _ _).trans h8
  have h10 : (g4T kk) .ret ⟨[(6, (.v (.cell (.bool false)))), (82, (.v (.cell (.bool false)))), (81, (.v (.cell .un))), (80, (.v (.cell .un))), (79, (.v (.cell .un))), (78, (.v (.cell .un))), (77, (.v (.cell .un))), (76, (.v (.cell .un))), (75, (.v (.cell (.bool false)))), (74, (.v (.cell (.bool false)))), (73, (.v (.cell .un))), (72, (.v (.cell .un))), (71, (.v (.cell .un))), (70, (.v (.cell .un))), (69, (.v (.cell .un))), (68, (.v (.cell (.bool false)))), (67, (.v (.cell (.bool false)))), (66, (.v (.cell (.bool false)))), (65, (.v (.cell (.str (g14r0 (g10r0 ((x0.take (A.toN (A.mn (A.ofN x0.length) 32))).drop 0)) (g10r0 ((x1.take (A.toN (A.mn (A.ofN x1.length) 32))).drop 0)) (g10r0 ((x2.take (A.toN (A.mn (A.ofN x2.length) 32))).drop 0))))))), (64, (.v (.cell (.str (g10r0 ((x2.take (A.toN (A.mn (A.ofN x2.length) 32))).drop 0)))))), (63, (.v (.cell (.str ((x2.take (A.toN (A.mn (A.ofN x2.length) 32))).drop 0))))), (62, (.v (.cell (.str (g10r0 ((x1.take (A.toN (A.mn (A.ofN x1.length) 32))).drop 0)))))), (61, (.v (.cell (.str ((x1.take (A.toN (A.mn (A.ofN x1.length) 32))).drop 0))))), (60, (.v (.cell (.str (g10r0 ((x0.take (A.toN (A.mn (A.ofN x0.length) 32))).drop 0)))))), (59, (.v (.cell (.str (g14r0 ((x0.take (A.toN (A.mn (A.ofN x0.length) 32))).drop 0) ((x1.take (A.toN (A.mn (A.ofN x1.length) 32))).drop 0) ((x2.take (A.toN (A.mn (A.ofN x2.length) 32))).drop 0)))))), (58, (.v (.cell (.bool true)))), (57, (.v (.cell (.bool true)))), (56, (.v (.cell (.bool true)))), (55, (.v (.cell (.str (g14r0 ((x1.take (A.toN (A.mn (A.ofN x1.length) 32))).drop 0) ((x0.take (A.toN (A.mn (A.ofN x0.length) 32))).drop 0) ((x2.take (A.toN (A.mn (A.ofN x2.length) 32))).drop 0)))))), (54, (.v (.cell (.str ((x2.take (A.toN (A.mn (A.ofN x2.length) 32))).drop 0))))), (53, (.v (.cell (.str ((x0.take (A.toN (A.mn (A.ofN x0.length) 32))).drop 0))))), (52, (.v (.cell (.str ((x1.take (A.toN (A.mn (A.ofN x1.length) 32))).drop 0))))), (51, (.v (.cell (.str (g14r0 ((x0.take (A.toN (A.mn (A.ofN x0.length) 32))).drop 0) ((x1.take (A.toN (A.mn (A.ofN x1.length) 32))).drop 0) ((x2.take (A.toN (A.mn (A.ofN x2.length) 32))).drop 0)))))), (50, (.v (.cell (.bool true)))), (49, (.v (.cell (.bool true)))), (48, (.v (.cell (.bool true)))), (47, (.v (.cell (.str (g10r0 ((x0.take (A.toN (A.mn (A.ofN x0.length) 32))).drop 0)))))), (46, (.v (.cell (.str (g10r0 (g10r0 ((x0.take (A.toN (A.mn (A.ofN x0.length) 32))).drop 0))))))), (45, (.v (.cell (.str (g10r0 ((x0.take (A.toN (A.mn (A.ofN x0.length) 32))).drop 0)))))), (44, (.v (.cell (.bool true)))), (43, (.v (.cell (.bool true)))), (42, (.v (.cell (.bool true)))), (41, (.v (.cell (.str (g10r0 ((x0.take (A.toN (A.mn (A.ofN x0.length) 32))).drop 0)))))), (40, (.v (.cell (.bool true)))), (39, (.v (.cell (.bool true)))), (38, (.v (.cell (.bool true)))), (37, (.v (.cell (.int .i64 (A.ofN ((g10r0 ((x0.take (A.toN (A.mn (A.ofN x0.length) 32))).drop 0)).length)))))), (36, (.v (.cell (.str (g10r0 ((x0.take (A.toN (A.mn (A.ofN x0.length) 32))).drop 0)))))), (35, (.v (.cell (.bool true)))), (34, (.v (.cell (.bool true)))), (0, (.v (.cell (.str ((x0.take (A.toN (A.mn (A.ofN x0.length) 32))).drop 0))))), (1, (.v (.cell (.str ((x1.take (A.toN (A.mn (A.ofN x1.length) 32))).drop 0))))), (2, (.v (.cell (.str ((x2.take (A.toN (A.mn (A.ofN x2.length) 32))).drop 0))))), (7, (.v (.cell (.bool x3)))), (8, (.v (.cell (.str (g10r0 ((x0.take (A.toN (A.mn (A.ofN x0.length) 32))).drop 0)))))), (9, (.v (.cell (.str (g14r0 ((x0.take (A.toN (A.mn (A.ofN x0.length) 32))).drop 0) ((x1.take (A.toN (A.mn (A.ofN x1.length) 32))).drop 0) ((x2.take (A.toN (A.mn (A.ofN x2.length) 32))).drop 0))))))], []⟩ = kk (.v (.cell (.bool false))) [] := by kernel_rfl
  have h11 := (g4p111111111 A n _ _).trans h10
  have h12 := (g4Qn A n _ _ _).trans h11
  have h13 : (g4T kk) .ret ⟨[(6, (.v (.cell (.bool false)))), (82, (.v (.cell (.bool false)))), (81, (.v (.cell .un))), (80, (.v (.cell .un))), (79, (.v (.cell .un))), (78, (.v (.cell .un))), (77, (.v (.cell .un))), (76, (.v (.cell .un))), (75, (.v (.cell (.bool false)))), (74, (.v (.cell (.bool false)))), (73, (.v (.cell .un))), (72, (.v (.cell .un))), (71, (.v (.cell .un))), (70, (.v (.cell .un))), (69, (.v (.cell .un))), (68, (.v (.cell (.bool false)))), (67, (.v (.cell (.bool false)))), (66, (.v (.cell .un))), (65, (.v (.cell .un))), (64, (.v (.cell .un))), (63, (.v (.cell .un))), (62, (.v (.cell .un))), (61, (.v (.cell .un))), (60, (.v (.cell .un))), (59, (.v (.cell .un))), (58, (.v (.cell (.bool false)))), (57, (.v (.cell (.bool false)))), (56, (.v (.cell (.bool false)))), (55, (.v (.cell (.str (g14r0 ((x1.take (A.toN (A.mn (A.ofN x1.length) 32))).drop 0) ((x0.take (A.toN (A.mn (A.ofN x0.length) 32))).drop 0) ((x2.take (A.toN (A.mn (A.ofN x2.length) 32))).drop 0)))))), (54, (.v (.cell (.str ((x2.take (A.toN (A.mn (A.ofN x2.length) 32))).drop 0))))), (53, (.v (.cell (.str ((x0.take (A.toN (A.mn (A.ofN x0.length) 32))).drop 0))))), (52, (.v (.cell (.str ((x1.take (A.toN (A.mn (A.ofN x1.length) 32))).drop 0))))), (51, (.v (.cell (.str (g14r0 ((x0.take (A.toN (A.mn (A.ofN x0.length) 32))).drop 0) ((x1.take (A.toN (A.mn (A.ofN x1.length) 32))).drop 0) ((x2.take (A.toN (A.mn (A.ofN x2.length) 32))).drop 0)))))), (50, (.v (.cell (.bool true)))), (49, (.v (.cell (.bool true)))), (48, (.v (.cell (.bool true)))), (47, (.v (.cell (.str (g10r0 ((x0.take (A.toN (A.mn (A.ofN x0.length) 32))).drop 0)))))), (46, (.v (.cell (.str (g10r0 (g10r0 ((x0.take (A.toN (A.mn (A.ofN x0.length) 32))).drop 0))))))), (45, (.v (.cell (.str (g10r0 ((x0.take (A.toN (A.mn (A.ofN x0.length) 32))).drop 0)))))), (44, (.v (.cell (.bool true)))), (43, (.v (.cell (.bool true)))), (42, (.v (.cell (.bool true)))), (41, (.v (.cell (.str (g10r0 ((x0.take (A.toN (A.mn (A.ofN x0.length) 32))).drop 0)))))), (40, (.v (.cell (.bool true)))), (39, (.v (.cell (.bool true)))), (38, (.v (.cell (.bool true)))), (37, (.v (.cell (.int .i64 (A.ofN ((g10r0 ((x0.take (A.toN (A.mn (A.ofN x0.length) 32))).drop 0)).length)))))), (36, (.v (.cell (.str (g10r0 ((x0.take (A.toN (A.mn (A.ofN x0.length) 32))).drop 0)))))), (35, (.v (.cell (.bool true)))), (34, (.v (.cell (.bool true)))), (0, (.v (.cell (.str ((x0.take (A.toN (A.mn (A.ofN x0.length) 32))).drop 0))))), (1, (.v (.cell (.str ((x1.take (A.toN (A.mn (A.ofN x1.length) 32))).drop 0))))), (2, (.v (.cell (.str ((x2.take (A.toN (A.mn (A.ofN x2.length) 32))).drop 0))))), (7, (.v (.cell (.bool x3)))), (8, (.v (.cell (.str (g10r0 ((x0.take (A.toN (A.mn (A.ofN x0.length) 32))).drop 0)))))), (9, (.v (.cell (.str (g14r0 ((x0.take (A.toN (A.mn (A.ofN x0.length) 32))).drop 0) ((x1.take (A.toN (A.mn (A.ofN x1.length) 32))).drop 0) ((x2.take (A.toN (A.mn (A.ofN x2.length) 32))).drop 0))))))], []⟩ = kk (.v (.cell (.bool false))) [] := by kernel_rfl
  have h14 := (g4p111111111 A n _ _).trans h13
  have h15 := (g4Qn A n _ _ _).trans h14
  have h16 : (g4T kk) .ret ⟨[(6, (.v (.cell (.bool false)))), (82, (.v (.cell (.bool false)))), (81, (.v (.cell .un))), (80, (.v (.cell .un))), (79, (.v (.cell .un))), (78, (.v (.cell .un))), (77, (.v (.cell .un))), (76, (.v (.cell .un))), (75, (.v (.cell (.bool false)))), (74, (.v (.cell (.bool false)))), (73, (.v (.cell .un))), (72, (.v (.cell .un))), (71, (.v (.cell .un))), (70, (.v (.cell .un))), (69, (.v (.cell .un))), (68, (.v (.cell (.bool false)))), (67, (.v (.cell (.bool false)))), (66, (.v (.cell .un))), (65, (.v (.cell .un))), (64, (.v (.cell .un))), (63, (.v (.cell .un))), (62, (.v (.cell .un))), (61, (.v (.cell .un))), (60, (.v (.cell .un))), (59, (.v (.cell .un))), (58, (.v (.cell (.bool false)))), (57, (.v (.cell (.bool false)))), (56, (.v (.cell .un))), (55, (.v (.cell .un))), (54, (.v (.cell .un))), (53, (.v (.cell .un))), (52, (.v (.cell .un))), (51, (.v (.cell .un))), (50, (.v (.cell (.bool false)))), (49, (.v (.cell (.bool false)))), (48, (.v (.cell (.bool false)))), (47, (.v (.cell (.str (g10r0 ((x0.take (A.toN (A.mn (A.ofN x0.length) 32))).drop 0)))))), (46, (.v (.cell (.str (g10r0 (g10r0 ((x0.take (A.toN (A.mn (A.ofN x0.length) 32))).drop 0))))))), (45, (.v (.cell (.str (g10r0 ((x0.take (A.toN (A.mn (A.ofN x0.length) 32))).drop 0)))))), (44, (.v (.cell (.bool true)))), (43, (.v (.cell (.bool true)))), (42, (.v (.cell (.bool true)))), (41, (.v (.cell (.str (g10r0 ((x0.take (A.toN (A.mn (A.ofN x0.length) 32))).drop 0)))))), (40, (.v (.cell (.bool true)))), (39, (.v (.cell (.bool true)))), (38, (.v (.cell (.bool true)))), (37, (.v (.cell (.int .i64 (A.ofN ((g10r0 ((x0.take (A.toN (A.mn (A.ofN x0.length) 32))).drop 0)).length)))))), (36, (.v (.cell (.str (g10r0 ((x0.take (A.toN (A.mn (A.ofN x0.length) 32))).drop 0)))))), (35, (.v (.cell (.bool true)))), (34, (.v (.cell (.bool true)))), (0, (.v (.cell (.str ((x0.take (A.toN (A.mn (A.ofN x0.length) 32))).drop 0))))), (1, (.v (.cell (.str ((x1.take (A.toN (A.mn (A.ofN x1.length) 32))).drop 0))))), (2, (.v (.cell (.str ((x2.take (A.toN (A.mn (A.ofN x2.length) 32))).drop 0))))), (7, (.v (.cell (.bool x3)))), (8, (.v (.cell (.str (g10r0 ((x0.take (A.toN (A.mn (A.ofN x0.length) 32))).drop 0)))))), (9, (.v (.cell (.str (g14r0 ((x0.take (A.toN (A.mn (A.ofN x0.length) 32))).drop 0) ((x1.take (A.toN (A.mn (A.ofN x1.length) 32))).drop 0) ((x2.take (A.toN (A.mn (A.ofN x2.length) 32))).drop 0))))))], []⟩ = kk (.v (.cell (.bool false))) [] := by kernel_rfl
  have h17 := (g4p111111111 A n _ _).trans h16
  have h18 := (g4Qn A n _ _ _).trans h17
  have h19 : (g4T kk) .ret ⟨[(6, (.v (.cell (.bool false)))), (82, (.v (.cell (.bool false)))), (81, (.v (.cell .un))), (80, (.v (.cell .un))), (79, (.v (.cell .un))), (78, (.v (.cell .un))), (77, (.v (.cell .un))), (76, (.v (.cell .un))), (75, (.v (.cell (.bool false)))), (74, (.v (.cell (.bool false)))), (73, (.v (.cell .un))), (72, (.v (.cell .un))), (71, (.v (.cell .un))), (70, (.v (.cell .un))), (69, (.v (.cell .un))), (68, (.v (.cell (.bool false)))), (67, (.v (.cell (.bool false)))), (66, (.v (.cell .un))), (65, (.v (.cell .un))), (64, (.v (.cell .un))), (63, (.v (.cell .un))), (62, (.v (.cell .un))), (61, (.v (.cell .un))), (60, (.v (.cell .un))), (59, (.v (.cell .un))), (58, (.v (.cell (.bool false)))), (57, (.v (.cell (.bool false)))), (56, (.v (.cell .un))), (55, (.v (.cell .un))), (54, (.v (.cell .un))), (53, (.v (.cell .un))), (52, (.v (.cell .un))), (51, (.v (.cell .un))), (50, (.v (.cell (.bool false)))), (49, (.v (.cell (.bool false)))), (48, (.v (.cell .un))), (47, (.v (.cell .un))), (46, (.v (.cell .un))), (45, (.v (.cell .un))), (44, (.v (.cell (.bool false)))), (43, (.v (.cell (.bool false)))), (42, (.v (.cell (.bool false)))), (41, (.v (.cell (.str (g10r0 ((x0.take (A.toN (A.mn (A.ofN x0.length) 32))).drop 0)))))), (40, (.v (.cell (.bool true)))), (39, (.v (.cell (.bool true)))), (38, (.v (.cell (.bool true)))), (37, (.v (.cell (.int .i64 (A.ofN ((g10r0 ((x0.take (A.toN (A.mn (A.ofN x0.length) 32))).drop 0)).length)))))), (36, (.v (.cell (.str (g10r0 ((x0.take (A.toN (A.mn (A.ofN x0.length) 32))).drop 0)))))), (35, (.v (.cell (.bool true)))), (34, (.v (.cell (.bool true)))), (0, (.v (.cell (.str ((x0.take (A.toN (A.mn (A.ofN x0.length) 32))).drop 0))))), (1, (.v (.cell (.str ((x1.take (A.toN (A.mn (A.ofN x1.length) 32))).drop 0))))), (2, (.v (.cell (.str ((x2.take (A.toN (A.mn (A.ofN x2.length) 32))).drop 0))))), (7, (.v (.cell (.bool x3)))), (8, (.v (.cell (.str (g10r0 ((x0.take (A.toN (A.mn (A.ofN x0.length) 32))).drop 0)))))), (9, (.v (.cell (.str (g14r0 ((x0.take (A.toN (A.mn (A.ofN x0.length) 32))).drop 0) ((x1.take (A.toN (A.mn (A.ofN x1.length) 32))).drop 0) ((x2.take (A.toN (A.mn (A.ofN x2.length) 32))).drop 0))))))], []⟩ = kk (.v (.cell (.bool false))) [] := by kernel_rfl
  have h20 := (g4p111111111 A n _ _).trans h19
  have h21 := (g4Qn A n _ _ _).trans h20
  have h22 : (g4T kk) .ret ⟨[(6, (.v (.cell (.bool false)))), (82, (.v (.cell (.bool false)))), (81, (.v (.cell .un))), (80, (.v (.cell .un))), (79, (.v (.cell .un))), (78, (.v (.cell .un))), (77, (.v (.cell .un))), (76, (.v (.cell .un))), (75, (.v (.cell (.bool false)))), (74, (.v (.cell (.bool false)))), (73, (.v (.cell .un))), (72, (.v (.cell .un))), (71, (.v (.cell .un))), (70, (.v (.cell .un))), (69, (.v (.cell .un))), (68, (.v (.cell (.bool false)))), (67, (.v (.cell (.bool false)))), (66, (.v (.cell .un))), (65, (.v (.cell .un))), (64, (.v (.cell .un))), (63, (.v (.cell .un))), (62, (.v (.cell .un))), (61, (.v (.cell .un))), (60, (.v (.cell .un))), (59, (.v (.cell .un))), (58, (.v (.cell (.bool false)))), (57, (.v (.cell (.bool false)))), (56, (.v (.cell .un))), (55, (.v (.cell .un))), (54, (.v (.cell .un))), (53, (.v (.cell .un))), (52, (.v (.cell .un))), (51, (.v (.cell .un))), (50, (.v (.cell (.bool false)))), (49, (.v (.cell (.bool false)))), (48, (.v (.cell .un))), (47, (.v (.cell .un))), (46, (.v (.cell .un))), (45, (.v (.cell .un))), (44, (.v (.cell (.bool false)))), (43, (.v (.cell (.bool false)))), (42, (.v (.cell .un))), (41, (.v (.cell .un))), (40, (.v (.cell (.bool false)))), (39, (.v (.cell (.bool false)))), (38, (.v (.cell (.bool false)))), (37, (.v (.cell (.int .i64 (A.ofN ((g10r0 ((x0.take (A.toN (A.mn (A.ofN x0.length) 32))).drop 0)).length)))))), (36, (.v (.cell (.str (g10r0 ((x0.take (A.toN (A.mn (A.ofN x0.length) 32))).drop 0)))))), (35, (.v (.cell (.bool true)))), (34, (.v (.cell (.bool true)))), (0, (.v (.cell (.str ((x0.take (A.toN (A.mn (A.ofN x0.length) 32))).drop 0))))), (1, (.v (.cell (.str ((x1.take (A.toN (A.mn (A.ofN x1.length) 32))).drop 0))))), (2, (.v (.cell (.str ((x2.take (A.toN (A.mn (A.ofN x2.length) 32))).drop 0))))), (7, (.v (.cell (.bool x3)))), (8, (.v (.cell (.str (g10r0 ((x0.take (A.toN (A.mn (A.ofN x0.length) 32))).drop 0)))))), (9, (.v (.cell (.str (g14r0 ((x0.take (A.toN (A.mn (A.ofN x0.length) 32))).drop 0) ((x1.take (A.toN (A.mn (A.ofN x1.length) 32))).drop 0) ((x2.take (A.toN (A.mn (A.ofN x2.length) 32))).drop 0))))))], []⟩ = kk (.v (.cell (.bool false))) [] := by kernel_rfl
  have h23 := (g4p111111111 A n _ _).trans h22
  have h24 := (g4Qn A n _ _ _).trans h23
  have h25 : (g4T kk) .ret ⟨[(6, (.v (.cell (.bool false)))), (82, (.v (.cell (.bool false)))), (81, (.v (.cell .un))), (80, (.v (.cell .un))), (79, (.v (.cell .un))), (78, (.v (.cell .un))), (77, (.v (.cell .un))), (76, (.v (.cell .un))), (75, (.v (.cell (.bool false)))), (74, (.v (.cell (.bool false)))), (73, (.v (.cell .un))), (72, (.v (.cell .un))), (71, (.v (.cell .un))), (70, (.v (.cell .un))), (69, (.v (.cell .un))), (68, (.v (.cell (.bool false)))), (67, (.v (.cell (.bool false)))), (66, (.v (.cell .un))), (65, (.v (.cell .un))), (64, (.v (.cell .un))), (63, (.v (.cell .un))), (62, (.v (.cell .un))), (61, (.v (.cell .un))), (60, (.v (.cell .un))), (59, (.v (.cell .un))), (58, (.v (.cell (.bool false)))), (57, (.v (.cell (.bool false)))), (56, (.v (.cell .un))), (55, (.v (.cell .un))), (54, (.v (.cell .un))), (53, (.v (.cell .un))), (52, (.v (.cell .un))), (51, (.v (.cell .un))), (50, (.v (.cell (.bool false)))), (49, (.v (.cell (.bool false)))), (48, (.v (.cell .un))), (47, (.v (.cell .un))), (46, (.v (.cell .un))), (45, (.v (.cell .un))), (44, (.v (.cell (.bool false)))), (43, (.v (.cell (.bool false)))), (42, (.v (.cell .un))), (41, (.v (.cell .un))), (40, (.v (.cell (.bool false)))), (39, (.v (.cell (.bool false)))), (38, (.v (.cell .un))), (37, (.v (.cell .un))), (36, (.v (.cell .un))), (35, (.v (.cell (.bool false)))), (34, (.v (.cell (.bool false)))), (0, (.v (.cell (.str ((x0.take (A.toN (A.mn (A.ofN x0.length) 32))).drop 0))))), (1, (.v (.cell (.str ((x1.take (A.toN (A.mn (A.ofN x1.length) 32))).drop 0))))), (2, (.v (.cell (.str ((x2.take (A.toN (A.mn (A.ofN x2.length) 32))).drop 0))))), (7, (.v (.cell (.bool x3)))), (8, (.v (.cell (.str (g10r0 ((x0.take (A.toN (A.mn (A.ofN x0.length) 32))).drop 0)))))), (9, (.v (.cell (.str (g14r0 ((x0.take (A.toN (A.mn (A.ofN x0.length) 32))).drop 0) ((x1.take (A.toN (A.mn (A.ofN x1.length) 32))).drop 0) ((x2.take (A.toN (A.mn (A.ofN x2.length) 32))).drop 0))))))], []⟩ = kk (.v (.cell (.bool false))) [] := by kernel_rfl
  have h26 := (g4p111111111 A n _ _).trans h25
  have h27 := (g4Qn A n _ _ _).trans h26
  have h28 := (g4p111111110 A n (g4Q A n [true, true, true, true, true, true, true, true, true] (g4T kk)) ⟨[(9, (.v (.cell (.str (g14r0 ((x0.take (A.toN (A.mn (A.ofN x0.length) 32))).drop 0) ((x1.take (A.toN (A.mn (A.ofN x1.length) 32))).drop 0) ((x2.take (A.toN (A.mn (A.ofN x2.length) 32))).drop 0)))))), (33, (.v (.cell (.str (g14r0 ((x0.take (A.toN (A.mn (A.ofN x0.length) 32))).drop 0) ((x1.take (A.toN (A.mn (A.ofN x1.length) 32))).drop 0) ((x2.take (A.toN (A.mn (A.ofN x2.length) 32))).drop 0)))))), (32, (.v (.cell (.str ((x2.take (A.toN (A.mn (A.ofN x2.length) 32))).drop 0))))), (31, (.v (.cell (.str ((x1.take (A.toN (A.mn (A.ofN x1.length) 32))).drop 0))))), (30, (.v (.cell (.str ((x0.take (A.toN (A.mn (A.ofN x0.length) 32))).drop 0))))), (0, (.v (.cell (.str ((x0.take (A.toN (A.mn (A.ofN x0.length) 32))).drop 0))))), (1, (.v (.cell (.str ((x1.take (A.toN (A.mn (A.ofN x1.length) 32))).drop 0))))), (2, (.v (.cell (.str ((x2.take (A.toN (A.mn (A.ofN x2.length) 32))).drop 0))))), (7, (.v (.cell (.bool x3)))), (8, (.v (.cell (.str (g10r0 ((x0.take (A.toN (A.mn (A.ofN x0.length) 32))).drop 0))))))], []⟩ ⟨[(0, (.v (.cell (.str ((x0.take (A.toN (A.mn (A.ofN x0.length) 32))).drop 0))))), (1, (.v (.cell (.str ((x1.take (A.toN (A.mn (A.ofN x1.length) 32))).drop 0))))), (2, (.v (.cell (.str ((x2.take (A.toN (A.mn (A.ofN x2.length) 32))).drop 0))))), (7, (.v (.cell (.bool x3)))), (8, (.v (.cell (.str (g10r0 ((x0.take (A.toN (A.mn (A.ofN x0.length) 32))).drop 0)))))), (9, (.v (.cell (.str (g14r0 ((x0.take (A.toN (A.mn (A.ofN x0.length) 32))).drop 0) ((x1.take (A.toN (A.mn (A.ofN x1.length) 32))).drop 0) ((x2.take (A.toN (A.mn (A.ofN x2.length) 32))).drop 0))))))], []⟩ (by kernel_rfl)).trans (g4R9 A n (g4Q A n [true, true, true, true, true, true, true, true, true] (g4T kk)) ((x0.take (A.toN (A.mn (A.ofN x0.length) 32))).drop 0) ((x1.take (A.toN (A.mn (A.ofN x1.length) 32))).drop 0) ((x2.take (A.toN (A.mn (A.ofN x2.length) 32))).drop 0) x3 (g10r0 ((x0.take (A.toN (A.mn (A.ofN x0.length) 32))).drop 0)) (g14r0 ((x0.take (A.toN (A.mn (A.ofN x0.length) 32))).drop 0) ((x1.take (A.toN (A.mn (A.ofN x1.length) 32))).drop 0) ((x2.take (A.toN (A.mn (A.ofN x2.length) 32))).drop 0)))
  rw [h3, h6, h9, h12, h15, h18, h21, h24, h27] at h28
  have h29 := (g4p11111111 A n _ _).trans h28
  have h30 := (g4Qn A n _ _ _).trans h29
  have h31 := (g4p11111110 A n (g4Q A n [true, true, true, true, true, true, true, true] (g4T kk)) ⟨[(8, (.v (.cell (.str (g10r0 ((x0.take (A.toN (A.mn (A.ofN x0.length) 32))).drop 0)))))), (29, (.v (.cell (.str (g10r0 ((x0.take (A.toN (A.mn (A.ofN x0.length) 32))).drop 0)))))), (28, (.v (.cell (.str ((x0.take (A.toN (A.mn (A.ofN x0.length) 32))).drop 0))))), (0, (.v (.cell (.str ((x0.take (A.toN (A.mn (A.ofN x0.length) 32))).drop 0))))), (1, (.v (.cell (.str ((x1.take (A.toN (A.mn (A.ofN x1.length) 32))).drop 0))))), (2, (.v (.cell (.str ((x2.take (A.toN (A.mn (A.ofN x2.length) 32))).drop 0))))), (7, (.v (.cell (.bool x3))))], []⟩ ⟨[(0, (.v (.cell (.str ((x0.take (A.toN (A.mn (A.ofN x0.length) 32))).drop 0))))), (1, (.v (.cell (.str ((x1.take (A.toN (A.mn (A.ofN x1.length) 32))).drop 0))))), (2, (.v (.cell (.str ((x2.take (A.toN (A.mn (A.ofN x2.length) 32))).drop 0))))), (7, (.v (.cell (.bool x3)))), (8, (.v (.cell (.str (g10r0 ((x0.take (A.toN (A.mn (A.ofN x0.length) 32))).drop 0))))))], []⟩ (by kernel_rfl)).trans (g4R8 A n (g4Q A n [true, true, true, true, true, true, true, true] (g4T kk)) ((x0.take (A.toN (A.mn (A.ofN x0.length) 32))).drop 0) ((x1.take (A.toN (A.mn (A.ofN x1.length) 32))).drop 0) ((x2.take (A.toN (A.mn (A.ofN x2.length) 32))).drop 0) x3 (g10r0 ((x0.take (A.toN (A.mn (A.ofN x0.length) 32))).drop 0)))
  rw [h30] at h31
  have h32 := (g4p1111111 A n _ _).trans h31
  have h33 := (g4Qn A n _ _ _).trans h32
  have h34 := (g4p1111110 A n (g4Q A n [true, true, true, true, true, true, true] (g4T kk)) ⟨[(2, (.v (.cell (.str ((x2.take (A.toN (A.mn (A.ofN x2.length) 32))).drop 0))))), (27, (.v (.cell (.str ((x2.take (A.toN (A.mn (A.ofN x2.length) 32))).drop 0))))), (26, (.v (.cell (.int .i64 (A.mn (A.ofN x2.length) 32))))), (25, (.v (.cell (.int .i64 (A.ofN x2.length))))), (24, (.v (.cell (.str x2)))), (23, (.v (.cell (.str x2)))), (0, (.v (.cell (.str ((x0.take (A.toN (A.mn (A.ofN x0.length) 32))).drop 0))))), (1, (.v (.cell (.str ((x1.take (A.toN (A.mn (A.ofN x1.length) 32))).drop 0))))), (2, (.v (.cell (.str x2)))), (7, (.v (.cell (.bool x3))))], []⟩ ⟨[(0, (.v (.cell (.str ((x0.take (A.toN (A.mn (A.ofN x0.length) 32))).drop 0))))), (1, (.v (.cell (.str ((x1.take (A.toN (A.mn (A.ofN x1.length) 32))).drop 0))))), (2, (.v (.cell (.str ((x2.take (A.toN (A.mn (A.ofN x2.length) 32))).drop 0))))), (7, (.v (.cell (.bool x3))))], []⟩ (by kernel_rfl)).trans (g4R7 A n (g4Q A n [true, true, true, true, true, true, true] (g4T kk)) ((x0.take (A.toN (A.mn (A.ofN x0.length) 32))).drop 0) ((x1.take (A.toN (A.mn (A.ofN x1.length) 32))).drop 0) ((x2.take (A.toN (A.mn (A.ofN x2.length) 32))).drop 0) x3)
  rw [h33] at h34
  have h35 := (g4p111111 A n _ _).trans h34
  have h36 := (g4Qn A n _ _ _).trans h35
  have h37 := (g4p111110 A n (g4Q A n [true, true, true, true, true, true] (g4T kk)) ⟨[(1, (.v (.cell (.str ((x1.take (A.toN (A.mn (A.ofN x1.length) 32))).drop 0))))), (22, (.v (.cell (.str ((x1.take (A.toN (A.mn (A.ofN x1.length) 32))).drop 0))))), (21, (.v (.cell (.int .i64 (A.mn (A.ofN x1.length) 32))))), (20, (.v (.cell (.int .i64 (A.ofN x1.length))))), (19, (.v (.cell (.str x1)))), (18, (.v (.cell (.str x1)))), (0, (.v (.cell (.str ((x0.take (A.toN (A.mn (A.ofN x0.length) 32))).drop 0))))), (1, (.v (.cell (.str x1)))), (2, (.v (.cell (.str x2)))), (7, (.v (.cell (.bool x3))))], []⟩ ⟨[(0, (.v (.cell (.str ((x0.take (A.toN (A.mn (A.ofN x0.length) 32))).drop 0))))), (1, (.v (.cell (.str ((x1.take (A.toN (A.mn (A.ofN x1.length) 32))).drop 0))))), (2, (.v (.cell (.str x2)))), (7, (.v (.cell (.bool x3))))], []⟩ (by kernel_rfl)).trans (g4R6 A n (g4Q A n [true, true, true, true, true, true] (g4T kk)) ((x0.take (A.toN (A.mn (A.ofN x0.length) 32))).drop 0) ((x1.take (A.toN (A.mn (A.ofN x1.length) 32))).drop 0) x2 x3)
  rw [h36] at h37
  have h38 := (g4p11111 A n _ _).trans h37
  have h39 := (g4Qn A n _ _ _).trans h38
  have h40 := (g4p11110 A n (g4Q A n [true, true, true, true, true] (g4T kk)) ⟨[(0, (.v (.cell (.str ((x0.take (A.toN (A.mn (A.ofN x0.length) 32))).drop 0))))), (17, (.v (.cell (.str ((x0.take (A.toN (A.mn (A.ofN x0.length) 32))).drop 0))))), (16, (.v (.cell (.int .i64 (A.mn (A.ofN x0.length) 32))))), (15, (.v (.cell (.int .i64 (A.ofN x0.length))))), (14, (.v (.cell (.str x0)))), (13, (.v (.cell (.str x0)))), (0, (.v (.cell (.str x0)))), (1, (.v (.cell (.str x1)))), (2, (.v (.cell (.str x2)))), (7, (.v (.cell (.bool x3))))], []⟩ ⟨[(0, (.v (.cell (.str ((x0.take (A.toN (A.mn (A.ofN x0.length) 32))).drop 0))))), (1, (.v (.cell (.str x1)))), (2, (.v (.cell (.str x2)))), (7, (.v (.cell (.bool x3))))], []⟩ (by kernel_rfl)).trans (g4R5 A n (g4Q A n [true, true, true, true, true] (g4T kk)) ((x0.take (A.toN (A.mn (A.ofN x0.length) 32))).drop 0) x1 x2 x3)
  rw [h39] at h40
  have h41 := (g4p1111 A n _ _).trans h40
  have h42 := (g4Qn A n _ _ _).trans h41
  have h43 := (g4p1110 A n (g4Q A n [true, true, true, true] (g4T kk)) ⟨[(0, (.v (.cell (.str x0)))), (1, (.v (.cell (.str x1)))), (2, (.v (.cell (.str x2)))), (7, (.v (.cell (.bool x3))))], []⟩ ⟨[(0, (.v (.cell (.str x0)))), (1, (.v (.cell (.str x1)))), (2, (.v (.cell (.str x2)))), (7, (.v (.cell (.bool x3))))], []⟩ (by kernel_rfl)).trans (g4R4 A n (g4Q A n [true, true, true, true] (g4T kk)) x0 x1 x2 x3)
  rw [h42] at h43
  have h44 := (g4p111 A n _ _).trans h43
  exact (codeD_first (s' := ⟨[(0, (.v (.cell (.str x0)))), (1, (.v (.cell (.str x1)))), (2, (.v (.cell (.str x2)))), (7, (.v (.cell (.bool x3))))], []⟩) (id := 4) (by kernel_rfl) (h.trans (by kernel_rfl)) _).trans (h44.trans (by kernel_rfl))
def g4 {R : Type} (A : Ar) (n : Nat) (kk : AV → Heap → Option R) (a : List Nat) (b : List Nat) (c : List Nat) : Option R :=
  match (generalizing := false) g9ok with
  | true => match (generalizing := false) !g9r0 with
    | true => kk (.v (.cell (.bool false))) []
    | false => g4J4 A n kk  a b c g9r0
  | false => none
set_option maxRecDepth 100000 in
theorem g4_eq {R : Type} (A : Ar) (n : Nat) (kk : AV → Heap → Option R) (a : List Nat) (b : List Nat) (c : List Nat) :
    funD A gtys (orcOf [(9, g9o), (10, g10o), (14, g14o), (12, g12o), (16, g16o)]) g4an n (bodyOf Try.f4) g4res [(.v (.cell (.str a))), (.v (.cell (.str b))), (.v (.cell (.str c)))] [] kk = g4 A n kk a b c := by
  have h1 : (g4T kk) .ret ⟨[(6, (.v (.cell (.bool false))))], []⟩ = kk (.v (.cell (.bool false))) [] := by kernel_rfl
  have h2 := (g4Qr A n [true, true, true] _ _).trans h1
  have h3 := (g4p110101 A n _ _).trans h2
  have h4 := (g4Qn A n _ _ _).trans h3
  have h5 := (g4p110100 A n (g4Q A n [true, true, false, true, false, true] (g4Q A n [true, true, true] (g4T kk))) ⟨[(12, (.v (.cell (.bool (!g9r0))))), (11, (.v (.cell (.bool g9r0)))), (0, (.v (.cell (.str a)))), (1, (.v (.cell (.str b)))), (2, (.v (.cell (.str c)))), (7, (.v (.cell (.bool g9r0))))], []⟩ ⟨[], []⟩ (by kernel_rfl)).trans (g4R3 A n (g4Q A n [true, true, false, true, false, true] (g4Q A n [true, true, true] (g4T kk))) )
  rw [h4] at h5
  have h6 := (g4p11010 A n _ _).trans h5
  have h7 := (g4Qn A n _ _ _).trans (g4J4_eq A n kk     ⟨[(12, (.v (.cell (.bool (!g9r0))))), (11, (.v (.cell (.bool g9r0)))), (0, (.v (.cell (.str a)))), (1, (.v (.cell (.str b)))), (2, (.v (.cell (.str c)))), (7, (.v (.cell (.bool g9r0))))], []⟩ a b c g9r0 (by kernel_rfl))
  have h8 := (g4p11011 A n _ _).trans h7
  have h9 := g4p1101 A n (g4Q A n [true, true, true] (g4T kk)) ⟨[(12, (.v (.cell (.bool (!g9r0))))), (11, (.v (.cell (.bool g9r0)))), (0, (.v (.cell (.str a)))), (1, (.v (.cell (.str b)))), (2, (.v (.cell (.str c)))), (7, (.v (.cell (.bool g9r0))))], []⟩ (!g9r0) (by kernel_rfl)
  rw [h6, h8] at h9
  have h10 := (g4Qn A n _ _ _).trans h9
  have h11 := (g4p1100 A n (g4Q A n [true, true, false, true] (g4Q A n [true, true, true] (g4T kk))) ⟨[(7, (.v (.cell (.bool g9r0)))), (10, (.v (.cell (.bool g9r0)))), (0, (.v (.cell (.str a)))), (1, (.v (.cell (.str b)))), (2, (.v (.cell (.str c))))], []⟩ ⟨[(0, (.v (.cell (.str a)))), (1, (.v (.cell (.str b)))), (2, (.v (.cell (.str c)))), (7, (.v (.cell (.bool g9r0))))], []⟩ (by kernel_rfl)).trans (g4R2 A n (g4Q A n [true, true, false, true] (g4Q A n [true, true, true] (g4T kk))) a b c g9r0)
  rw [h10] at h11
  have h12 := (g4p110 A n _ _).trans h11
  have h13 := (g4p11 A n _ _).trans h12
  have h14 := (g4Qn A n _ _ _).trans h13
  have h15 := (g4p10 A n (g4Q A n [true, true] (g4T kk)) ⟨[(6, (.v (.cell (.bool false)))), (0, (.v (.cell (.str a)))), (1, (.v (.cell (.str b)))), (2, (.v (.cell (.str c))))], []⟩ ⟨[(0, (.v (.cell (.str a)))), (1, (.v (.cell (.str b)))), (2, (.v (.cell (.str c))))], []⟩ (by kernel_rfl)).trans (g4R1 A n (g4Q A n [true, true] (g4T kk)) a b c)
  rw [h14] at h15
  have h16 := (g4p1 A n _ _).trans h15
  have h17 := (g4Qn A n _ _ _).trans h16
  have h18 := (g4p0 A n (g4Q A n [true] (g4T kk)) ⟨[(0, (.v (.cell (.str a)))), (1, (.v (.cell (.str b)))), (2, (.v (.cell (.str c))))], []⟩ ⟨[(0, (.v (.cell (.str a)))), (1, (.v (.cell (.str b)))), (2, (.v (.cell (.str c))))], []⟩ (by kernel_rfl)).trans (g4R0 A n (g4Q A n [true] (g4T kk)) a b c)
  rw [h17] at h18
  have h19 := (g4p A n _ _).trans h18
  exact (show funD A gtys (orcOf [(9, g9o), (10, g10o), (14, g14o), (12, g12o), (16, g16o)]) g4an n (bodyOf Try.f4) g4res [(.v (.cell (.str a))), (.v (.cell (.str b))), (.v (.cell (.str c)))] [] kk = g4D A n [] (g4T kk) ⟨[(0, (.v (.cell (.str a)))), (1, (.v (.cell (.str b)))), (2, (.v (.cell (.str c))))], []⟩ from by kernel_rfl).trans (h19.trans (by kernel_rfl))
def g4is (o : Option AV) : Bool := match o with
  | some (.v (.cell (.bool _))) => true
  | _ => false
def g4g0 (o : Option AV) : Bool := match o with
  | some (.v (.cell (.bool x))) => x
  | _ => false
theorem g4is_spec {o : Option AV} (h : g4is o = true) : o = some (.v (.cell (.bool (g4g0 o)))) := by
  unfold g4is at h
  split at h
  · rfl
  · cases h
def g4v (a : List Nat) (b : List Nat) (c : List Nat) : Option AV := g4 realA (100000) (fun v _ => some v) a b c
def g4ok (a : List Nat) (b : List Nat) (c : List Nat) : Bool := g4is (g4v a b c)
def g4r0 (a : List Nat) (b : List Nat) (c : List Nat) : Bool := g4g0 (g4v a b c)
theorem g4ok_spec {a b c} (h : g4ok a b c = true) : g4v a b c = some (.v (.cell (.bool (g4r0 a b c)))) := g4is_spec h
def g4o (args : List AV) : Option (Bool × AV) := match args with
  | [.v (.cell (.str a)), .v (.cell (.str b)), .v (.cell (.str c))] => some (g4ok a b c, .v (.cell (.bool (g4r0 a b c))))
  | _ => none
theorem g4O_sound : OSound Try.prog (orcOf [(9, g9o), (10, g10o), (14, g14o), (12, g12o), (16, g16o)]) := orc_sound fun f g hm args v hv => by
  simp only [List.mem_cons, List.not_mem_nil, or_false, Prod.mk.injEq] at hm
  rcases hm with ⟨rfl, rfl⟩ | ⟨rfl, rfl⟩ | ⟨rfl, rfl⟩ | ⟨rfl, rfl⟩ | ⟨rfl, rfl⟩
  · exact g9o_sound _ _ hv
  · exact g10o_sound _ _ hv
  · exact g14o_sound _ _ hv
  · exact g12o_sound _ _ hv
  · exact g16o_sound _ _ hv
theorem g4o_sound : ∀ args v, g4o args = some (true, v) → Fn1 Try.prog 4 args v := by
  intro args v h
  unfold g4o at h
  split at h
  · rename_i a b c
    simp only [Option.some.injEq, Prod.mk.injEq] at h
    obtain ⟨hc, h⟩ := h
    subst h
    · skip
      exact fn1_of mixed gtysOK g4O_sound (orc_det _) (an := g4an) (n := 100000) Try.func4 (c := bodyOf Try.f4) rfl (by kernel_rfl) Try.call4 (Nat.le_of_ble_eq_true rfl) (fun b => rfl) (fun _ => (g4_eq realA (100000) (fun v _ => some v) a b c).trans (show g4v a b c = _ from g4ok_spec hc))
  · cases h
/- engrosser/engrosserlaw04.ScalarSpreads -/
def g5an : Ann := [(0, ([0, 1, 2], [])), (1, ([0, 1, 2], [])), (2, ([0, 1, 2, 7], [])), (3, ([], [])), (4, ([0, 1, 2, 7], [])), (5, ([0, 1, 2, 7], [])), (6, ([0, 1, 2, 7], [])), (7, ([0, 1, 2, 7], [])), (8, ([0, 1, 2, 7, 8], [])), (9, ([0, 1, 2, 7, 8, 9], [])), (10, ([0, 1, 7, 8, 9, 10], []))]
def g5res : List ResultVar := [.tmp 6]
noncomputable def g5D {R : Type} (A : Ar) (n : Nat) (p : List Bool) (K : Ex → St → Option R) (s : St) : Option R := codeD A gtys (orcOf [(9, g9o), (14, g14o), (10, g10o)]) g5an n (sub (bodyOf Try.f5) p) K s
noncomputable def g5V {R : Type} (A : Ar) (n : Nat) (p : List Bool) (m : Nat) (K : Ex → St → Option R) (s : St) : Option R := loopD (fun K' s'' => codeD A gtys (orcOf [(9, g9o), (14, g14o), (10, g10o)]) g5an n (sub (bodyOf Try.f5) p) K' s'') m K s
noncomputable def g5Q {R : Type} (A : Ar) (n : Nat) (p : List Bool) (K : Ex → St → Option R) : Ex → St → Option R := seqC (g5D A n p K) K
noncomputable def g5W {R : Type} (A : Ar) (n : Nat) (p : List Bool) (m : Nat) (K : Ex → St → Option R) : Ex → St → Option R := seqC (g5V A n p m K) K
noncomputable def g5T {R : Type} (kk : AV → Heap → Option R) : Ex → St → Option R := finD gtys g5res kk
theorem g5Qn {R : Type} (A : Ar) (n : Nat) (p : List Bool) (K : Ex → St → Option R) (s : St) : g5Q A n p K .normal s = g5D A n p K s := rfl
theorem g5Qe {R : Type} (A : Ar) (n : Nat) (p : List Bool) (K : Ex → St → Option R) (i : Nat) (s : St) : g5Q A n p K (.exit i) s = K (.exit i) s := rfl
theorem g5Qr {R : Type} (A : Ar) (n : Nat) (p : List Bool) (K : Ex → St → Option R) (s : St) : g5Q A n p K .ret s = K .ret s := rfl
theorem g5Wn {R : Type} (A : Ar) (n : Nat) (p : List Bool) (m : Nat) (K : Ex → St → Option R) (s : St) : g5W A n p m K .normal s = g5V A n p m K s := rfl
theorem g5We {R : Type} (A : Ar) (n : Nat) (p : List Bool) (m : Nat) (K : Ex → St → Option R) (i : Nat) (s : St) : g5W A n p m K (.exit i) s = K (.exit i) s := rfl
theorem g5Wr {R : Type} (A : Ar) (n : Nat) (p : List Bool) (m : Nat) (K : Ex → St → Option R) (s : St) : g5W A n p m K .ret s = K .ret s := rfl
theorem g5Vs {R : Type} (A : Ar) (n : Nat) (p : List Bool) (m : Nat) (K : Ex → St → Option R) (s : St) : g5V A n p (m + 1) K s = g5D A n p (g5W A n p m K) s := rfl
theorem g5p {R : Type} (A : Ar) (n : Nat) (K : Ex → St → Option R) (s : St) : g5D A n [] K s = g5D A n [false] (g5Q A n [true] K) s := by kernel_rfl
theorem g5p0 {R : Type} (A : Ar) (n : Nat) (K : Ex → St → Option R) (s s' : St) (h : keep g5an 0 s = keep g5an 0 s') : g5D A n [false] K s = g5D A n [false] K s' := codeD_first (id := 0) (by kernel_rfl) h K
theorem g5p1 {R : Type} (A : Ar) (n : Nat) (K : Ex → St → Option R) (s : St) : g5D A n [true] K s = g5D A n [true, false] (g5Q A n [true, true] K) s := by kernel_rfl
theorem g5p10 {R : Type} (A : Ar) (n : Nat) (K : Ex → St → Option R) (s s' : St) (h : keep g5an 1 s = keep g5an 1 s') : g5D A n [true, false] K s = g5D A n [true, false] K s' := codeD_first (id := 1) (by kernel_rfl) h K
theorem g5p11 {R : Type} (A : Ar) (n : Nat) (K : Ex → St → Option R) (s : St) : g5D A n [true, true] K s = g5D A n [true, true, false] (g5Q A n [true, true, true] K) s := by kernel_rfl
theorem g5p110 {R : Type} (A : Ar) (n : Nat) (K : Ex → St → Option R) (s : St) : g5D A n [true, true, false] K s = g5D A n [true, true, false, false] (g5Q A n [true, true, false, true] K) s := by kernel_rfl
theorem g5p1100 {R : Type} (A : Ar) (n : Nat) (K : Ex → St → Option R) (s s' : St) (h : keep g5an 2 s = keep g5an 2 s') : g5D A n [true, true, false, false] K s = g5D A n [true, true, false, false] K s' := codeD_first (id := 2) (by kernel_rfl) h K
theorem g5p1101 {R : Type} (A : Ar) (n : Nat) (K : Ex → St → Option R) (s : St) (t : Bool) : ev s (.tmp 13) = some (.v (.cell (.bool t))) → g5D A n [true, true, false, true] K s = (match t with
    | true => g5D A n [true, true, false, true, false] K s
    | false => g5D A n [true, true, false, true, true] K s) := codeD_cond t
theorem g5p11010 {R : Type} (A : Ar) (n : Nat) (K : Ex → St → Option R) (s : St) : g5D A n [true, true, false, true, false] K s = g5D A n [true, true, false, true, false, false] (g5Q A n [true, true, false, true, false, true] K) s := by kernel_rfl
theorem g5p110100 {R : Type} (A : Ar) (n : Nat) (K : Ex → St → Option R) (s s' : St) (h : keep g5an 3 s = keep g5an 3 s') : g5D A n [true, true, false, true, false, false] K s = g5D A n [true, true, false, true, false, false] K s' := codeD_first (id := 3) (by kernel_rfl) h K
theorem g5p110101 {R : Type} (A : Ar) (n : Nat) (K : Ex → St → Option R) (s : St) : g5D A n [true, true, false, true, false, true] K s = K .ret s := by kernel_rfl
theorem g5p11011 {R : Type} (A : Ar) (n : Nat) (K : Ex → St → Option R) (s : St) : g5D A n [true, true, false, true, true] K s = K .normal s := by kernel_rfl
theorem g5p111 {R : Type} (A : Ar) (n : Nat) (K : Ex → St → Option R) (s : St) : g5D A n [true, true, true] K s = g5D A n [true, true, true, false] (g5Q A n [true, true, true, true] K) s := by kernel_rfl
theorem g5p1110 {R : Type} (A : Ar) (n : Nat) (K : Ex → St → Option R) (s s' : St) (h : keep g5an 4 s = keep g5an 4 s') : g5D A n [true, true, true, false] K s = g5D A n [true, true, true, false] K s' := codeD_first (id := 4) (by kernel_rfl) h K
theorem g5p1111 {R : Type} (A : Ar) (n : Nat) (K : Ex → St → Option R) (s : St) : g5D A n [true, true, true, true] K s = g5D A n [true, true, true, true, false] (g5Q A n [true, true, true, true, true] K) s := by kernel_rfl
theorem g5p11110 {R : Type} (A : Ar) (n : Nat) (K : Ex → St → Option R) (s s' : St) (h : keep g5an 5 s = keep g5an 5 s') : g5D A n [true, true, true, true, false] K s = g5D A n [true, true, true, true, false] K s' := codeD_first (id := 5) (by kernel_rfl) h K
theorem g5p11111 {R : Type} (A : Ar) (n : Nat) (K : Ex → St → Option R) (s : St) : g5D A n [true, true, true, true, true] K s = g5D A n [true, true, true, true, true, false] (g5Q A n [true, true, true, true, true, true] K) s := by kernel_rfl
theorem g5p111110 {R : Type} (A : Ar) (n : Nat) (K : Ex → St → Option R) (s s' : St) (h : keep g5an 6 s = keep g5an 6 s') : g5D A n [true, true, true, true, true, false] K s = g5D A n [true, true, true, true, true, false] K s' := codeD_first (id := 6) (by kernel_rfl) h K
theorem g5p111111 {R : Type} (A : Ar) (n : Nat) (K : Ex → St → Option R) (s : St) : g5D A n [true, true, true, true, true, true] K s = g5D A n [true, true, true, true, true, true, false] (g5Q A n [true, true, true, true, true, true, true] K) s := by kernel_rfl
theorem g5p1111110 {R : Type} (A : Ar) (n : Nat) (K : Ex → St → Option R) (s s' : St) (h : keep g5an 7 s = keep g5an 7 s') : g5D A n [true, true, true, true, true, true, false] K s = g5D A n [true, true, true, true, true, true, false] K s' := codeD_first (id := 7) (by kernel_rfl) h K
theorem g5p1111111 {R : Type} (A : Ar) (n : Nat) (K : Ex → St → Option R) (s : St) : g5D A n [true, true, true, true, true, true, true] K s = g5D A n [true, true, true, true, true, true, true, false] (g5Q A n [true, true, true, true, true, true, true, true] K) s := by kernel_rfl
theorem g5p11111110 {R : Type} (A : Ar) (n : Nat) (K : Ex → St → Option R) (s s' : St) (h : keep g5an 8 s = keep g5an 8 s') : g5D A n [true, true, true, true, true, true, true, false] K s = g5D A n [true, true, true, true, true, true, true, false] K s' := codeD_first (id := 8) (by kernel_rfl) h K
theorem g5p11111111 {R : Type} (A : Ar) (n : Nat) (K : Ex → St → Option R) (s : St) : g5D A n [true, true, true, true, true, true, true, true] K s = g5D A n [true, true, true, true, true, true, true, true, false] (g5Q A n [true, true, true, true, true, true, true, true, true] K) s := by kernel_rfl
theorem g5p111111110 {R : Type} (A : Ar) (n : Nat) (K : Ex → St → Option R) (s s' : St) (h : keep g5an 9 s = keep g5an 9 s') : g5D A n [true, true, true, true, true, true, true, true, false] K s = g5D A n [true, true, true, true, true, true, true, true, false] K s' := codeD_first (id := 9) (by kernel_rfl) h K
theorem g5p111111111 {R : Type} (A : Ar) (n : Nat) (K : Ex → St → Option R) (s : St) : g5D A n [true, true, true, true, true, true, true, true, true] K s = g5D A n [true, true, true, true, true, true, true, true, true, false] (g5Q A n [true, true, true, true, true, true, true, true, true, true] K) s := by kernel_rfl
theorem g5p1111111110 {R : Type} (A : Ar) (n : Nat) (K : Ex → St → Option R) (s s' : St) (h : keep g5an 10 s = keep g5an 10 s') : g5D A n [true, true, true, true, true, true, true, true, true, false] K s = g5D A n [true, true, true, true, true, true, true, true, true, false] K s' := codeD_first (id := 10) (by kernel_rfl) h K
theorem g5p1111111111 {R : Type} (A : Ar) (n : Nat) (K : Ex → St → Option R) (s : St) : g5D A n [true, true, true, true, true, true, true, true, true, true] K s = K .ret s := by kernel_rfl
theorem g5R4 {R : Type} (A : Ar) (n : Nat) (K : Ex → St → Option R) (x0 : List Nat) (x1 : List Nat) (x2 : List Nat) (x3 : Bool) : g5D A n [true, true, true, false] K ⟨[(0, (.v (.cell (.str x0)))), (1, (.v (.cell (.str x1)))), (2, (.v (.cell (.str x2)))), (7, (.v (.cell (.bool x3))))], []⟩ = match (generalizing := false) A.neg (A.mn (A.ofN x0.length) 30) with
    | true => none
    | false => match (generalizing := false) A.le (A.toN (A.mn (A.ofN x0.length) 30)) x0.length with
      | true => K .normal ⟨[(0, (.v (.cell (.str ((x0.take (A.toN (A.mn (A.ofN x0.length) 30))).drop 0))))), (18, (.v (.cell (.str ((x0.take (A.toN (A.mn (A.ofN x0.length) 30))).drop 0))))), (17, (.v (.cell (.int .i64 (A.mn (A.ofN x0.length) 30))))), (16, (.v (.cell (.int .i64 (A.ofN x0.length))))), (15, (.v (.cell (.str x0)))), (14, (.v (.cell (.str x0)))), (0, (.v (.cell (.str x0)))), (1, (.v (.cell (.str x1)))), (2, (.v (.cell (.str x2)))), (7, (.v (.cell (.bool x3))))], []⟩
      | false => none := by kernel_rfl
theorem g5R5 {R : Type} (A : Ar) (n : Nat) (K : Ex → St → Option R) (x0 : List Nat) (x1 : List Nat) (x2 : List Nat) (x3 : Bool) : g5D A n [true, true, true, true, false] K ⟨[(0, (.v (.cell (.str x0)))), (1, (.v (.cell (.str x1)))), (2, (.v (.cell (.str x2)))), (7, (.v (.cell (.bool x3))))], []⟩ = match (generalizing := false) A.neg (A.mn (A.ofN x1.length) 30) with
    | true => none
    | false => match (generalizing := false) A.le (A.toN (A.mn (A.ofN x1.length) 30)) x1.length with
      | true => K .normal ⟨[(1, (.v (.cell (.str ((x1.take (A.toN (A.mn (A.ofN x1.length) 30))).drop 0))))), (23, (.v (.cell (.str ((x1.take (A.toN (A.mn (A.ofN x1.length) 30))).drop 0))))), (22, (.v (.cell (.int .i64 (A.mn (A.ofN x1.length) 30))))), (21, (.v (.cell (.int .i64 (A.ofN x1.length))))), (20, (.v (.cell (.str x1)))), (19, (.v (.cell (.str x1)))), (0, (.v (.cell (.str x0)))), (1, (.v (.cell (.str x1)))), (2, (.v (.cell (.str x2)))), (7, (.v (.cell (.bool x3))))], []⟩
      | false => none := by kernel_rfl
theorem g5R6 {R : Type} (A : Ar) (n : Nat) (K : Ex → St → Option R) (x0 : List Nat) (x1 : List Nat) (x2 : List Nat) (x3 : Bool) : g5D A n [true, true, true, true, true, false] K ⟨[(0, (.v (.cell (.str x0)))), (1, (.v (.cell (.str x1)))), (2, (.v (.cell (.str x2)))), (7, (.v (.cell (.bool x3))))], []⟩ = match (generalizing := false) A.neg (A.mn (A.ofN x2.length) 30) with
    | true => none
    | false => match (generalizing := false) A.le (A.toN (A.mn (A.ofN x2.length) 30)) x2.length with
      | true => K .normal ⟨[(2, (.v (.cell (.str ((x2.take (A.toN (A.mn (A.ofN x2.length) 30))).drop 0))))), (28, (.v (.cell (.str ((x2.take (A.toN (A.mn (A.ofN x2.length) 30))).drop 0))))), (27, (.v (.cell (.int .i64 (A.mn (A.ofN x2.length) 30))))), (26, (.v (.cell (.int .i64 (A.ofN x2.length))))), (25, (.v (.cell (.str x2)))), (24, (.v (.cell (.str x2)))), (0, (.v (.cell (.str x0)))), (1, (.v (.cell (.str x1)))), (2, (.v (.cell (.str x2)))), (7, (.v (.cell (.bool x3))))], []⟩
      | false => none := by kernel_rfl
theorem g5R7 {R : Type} (A : Ar) (n : Nat) (K : Ex → St → Option R) (x0 : List Nat) (x1 : List Nat) (x2 : List Nat) (x3 : Bool) : g5D A n [true, true, true, true, true, true, false] K ⟨[(0, (.v (.cell (.str x0)))), (1, (.v (.cell (.str x1)))), (2, (.v (.cell (.str x2)))), (7, (.v (.cell (.bool x3))))], []⟩ = match (generalizing := false) g14ok x0 [1] x1 with
    | true => K .normal ⟨[(8, (.v (.cell (.str (g14r0 x0 [1] x1))))), (31, (.v (.cell (.str (g14r0 x0 [1] x1))))), (30, (.v (.cell (.str x1)))), (29, (.v (.cell (.str x0)))), (0, (.v (.cell (.str x0)))), (1, (.v (.cell (.str x1)))), (2, (.v (.cell (.str x2)))), (7, (.v (.cell (.bool x3))))], []⟩
    | false => none := by kernel_rfl
theorem g5R8 {R : Type} (A : Ar) (n : Nat) (K : Ex → St → Option R) (x0 : List Nat) (x1 : List Nat) (x2 : List Nat) (x3 : Bool) (x4 : List Nat) : g5D A n [true, true, true, true, true, true, true, false] K ⟨[(0, (.v (.cell (.str x0)))), (1, (.v (.cell (.str x1)))), (2, (.v (.cell (.str x2)))), (7, (.v (.cell (.bool x3)))), (8, (.v (.cell (.str x4))))], []⟩ = match (generalizing := false) g14ok x4 x2 [] with
    | true => K .normal ⟨[(9, (.v (.cell (.str (g14r0 x4 x2 []))))), (34, (.v (.cell (.str (g14r0 x4 x2 []))))), (33, (.v (.cell (.str x2)))), (32, (.v (.cell (.str x4)))), (0, (.v (.cell (.str x0)))), (1, (.v (.cell (.str x1)))), (2, (.v (.cell (.str x2)))), (7, (.v (.cell (.bool x3)))), (8, (.v (.cell (.str x4))))], []⟩
    | false => none := by kernel_rfl
theorem g5R9 {R : Type} (A : Ar) (n : Nat) (K : Ex → St → Option R) (x0 : List Nat) (x1 : List Nat) (x2 : List Nat) (x3 : Bool) (x4 : List Nat) (x5 : List Nat) : g5D A n [true, true, true, true, true, true, true, true, false] K ⟨[(0, (.v (.cell (.str x0)))), (1, (.v (.cell (.str x1)))), (2, (.v (.cell (.str x2)))), (7, (.v (.cell (.bool x3)))), (8, (.v (.cell (.str x4)))), (9, (.v (.cell (.str x5))))], []⟩ = match (generalizing := false) g14ok x1 x2 [] with
    | true => match (generalizing := false) g14ok x0 x2 (g14r0 x1 x2 []) with
      | true => K .normal ⟨[(10, (.v (.cell (.str (g14r0 x0 x2 (g14r0 x1 x2 [])))))), (40, (.v (.cell (.str (g14r0 x0 x2 (g14r0 x1 x2 [])))))), (39, (.v (.cell (.str (g14r0 x1 x2 []))))), (38, (.v (.cell (.str x2)))), (37, (.v (.cell (.str x1)))), (36, (.v (.cell (.str x2)))), (35, (.v (.cell (.str x0)))), (0, (.v (.cell (.str x0)))), (1, (.v (.cell (.str x1)))), (2, (.v (.cell (.str x2)))), (7, (.v (.cell (.bool x3)))), (8, (.v (.cell (.str x4)))), (9, (.v (.cell (.str x5))))], []⟩
      | false => none
    | false => none := by kernel_rfl
theorem g5R10 {R : Type} (A : Ar) (n : Nat) (K : Ex → St → Option R) (x0 : List Nat) (x1 : List Nat) (x2 : Bool) (x3 : List Nat) (x4 : List Nat) (x5 : List Nat) : g5D A n [true, true, true, true, true, true, true, true, true, false] K ⟨[(0, (.v (.cell (.str x0)))), (1, (.v (.cell (.str x1)))), (7, (.v (.cell (.bool x2)))), (8, (.v (.cell (.str x3)))), (9, (.v (.cell (.str x4)))), (10, (.v (.cell (.str x5))))], []⟩ = match (generalizing := false) x2 with
    | true => match (generalizing := false) A.sc .eql x4 x5 with
      | true => match (generalizing := false) A.le (x0.length + [0, 0].length) 9223372036854775807 with
        | true => match (generalizing := false) g10ok (x0 ++ [0, 0]) with
          | true => match (generalizing := false) g10ok x0 with
            | true => match (generalizing := false) A.sc .eql (g10r0 (x0 ++ [0, 0])) (g10r0 x0) with
              | true => match (generalizing := false) g14ok x1 [1] x0 with
                | true => match (generalizing := false) A.sc .eql x3 (g14r0 x1 [1] x0) with
                  | true => K .normal ⟨[(6, (.v (.cell (.bool true)))), (61, (.v (.cell (.bool true)))), (60, (.v (.cell (.bool true)))), (59, (.v (.cell (.str (g14r0 x1 [1] x0))))), (58, (.v (.cell (.str x0)))), (57, (.v (.cell (.str x1)))), (56, (.v (.cell (.str x3)))), (55, (.v (.cell (.bool true)))), (54, (.v (.cell (.bool true)))), (53, (.v (.cell (.bool true)))), (52, (.v (.cell (.str (g10r0 x0))))), (51, (.v (.cell (.str x0)))), (50, (.v (.cell (.str (g10r0 (x0 ++ [0, 0])))))), (49, (.v (.cell (.str (x0 ++ [0, 0]))))), (48, (.v (.cell (.str x0)))), (47, (.v (.cell (.bool true)))), (46, (.v (.cell (.bool true)))), (45, (.v (.cell (.bool true)))), (44, (.v (.cell (.str x5)))), (43, (.v (.cell (.str x4)))), (42, (.v (.cell (.bool true)))), (41, (.v (.cell (.bool true)))), (0, (.v (.cell (.str x0)))), (1, (.v (.cell (.str x1)))), (7, (.v (.cell (.bool x2)))), (8, (.v (.cell (.str x3)))), (9, (.v (.cell (.str x4)))), (10, (.v (.cell (.str x5))))], []⟩
                  | false => K .normal ⟨[(6, (.v (.cell (.bool false)))), (61, (.v (.cell (.bool false)))), (60, (.v (.cell (.bool false)))), (59, (.v (.cell (.str (g14r0 x1 [1] x0))))), (58, (.v (.cell (.str x0)))), (57, (.v (.cell (.str x1)))), (56, (.v (.cell (.str x3)))), (55, (.v (.cell (.bool true)))), (54, (.v (.cell (.bool true)))), (53, (.v (.cell (.bool true)))), (52, (.v (.cell (.str (g10r0 x0))))), (51, (.v (.cell (.str x0)))), (50, (.v (.cell (.str (g10r0 (x0 ++ [0, 0])))))), (49, (.v (.cell (.str (x0 ++ [0, 0]))))), (48, (.v (.cell (.str x0)))), (47, (.v (.cell (.bool true)))), (46, (.v (.cell (.bool true)))), (45, (.v (.cell (.bool true)))), (44, (.v (.cell (.str x5)))), (43, (.v (.cell (.str x4)))), (42, (.v (.cell (.bool true)))), (41, (.v (.cell (.bool true)))), (0, (.v (.cell (.str x0)))), (1, (.v (.cell (.str x1)))), (7, (.v (.cell (.bool x2)))), (8, (.v (.cell (.str x3)))), (9, (.v (.cell (.str x4)))), (10, (.v (.cell (.str x5))))], []⟩
                | false => none
              | false => K .normal ⟨[(6, (.v (.cell (.bool false)))), (61, (.v (.cell (.bool false)))), (60, (.v (.cell .un))), (59, (.v (.cell .un))), (58, (.v (.cell .un))), (57, (.v (.cell .un))), (56, (.v (.cell .un))), (55, (.v (.cell (.bool false)))), (54, (.v (.cell (.bool false)))), (53, (.v (.cell (.bool false)))), (52, (.v (.cell (.str (g10r0 x0))))), (51, (.v (.cell (.str x0)))), (50, (.v (.cell (.str (g10r0 (x0 ++ [0, 0])))))), (49, (.v (.cell (.str (x0 ++ [0, 0]))))), (48, (.v (.cell (.str x0)))), (47, (.v (.cell (.bool true)))), (46, (.v (.cell (.bool true)))), (45, (.v (.cell (.bool true)))), (44, (.v (.cell (.str x5)))), (43, (.v (.cell (.str x4)))), (42, (.v (.cell (.bool true)))), (41, (.v (.cell (.bool true)))), (0, (.v (.cell (.str x0)))), (1, (.v (.cell (.str x1)))), (7, (.v (.cell (.bool x2)))), (8, (.v (.cell (.str x3)))), (9, (.v (.cell (.str x4)))), (10, (.v (.cell (.str x5))))], []⟩
            | false => none
          | false => none
        | false => none
      | false => K .normal ⟨[(6, (.v (.cell (.bool false)))), (61, (.v (.cell (.bool false)))), (60, (.v (.cell .un))), (59, (.v (.cell .un))), (58, (.v (.cell .un))), (57, (.v (.cell .un))), (56, (.v (.cell .un))), (55, (.v (.cell (.bool false)))), (54, (.v (.cell (.bool false)))), (53, (.v (.cell .un))), (52, (.v (.cell .un))), (51, (.v (.cell .un))), (50, (.v (.cell .un))), (49, (.v (.cell .un))), (48, (.v (.cell .un))), (47, (.v (.cell (.bool false)))), (46, (.v (.cell (.bool false)))), (45, (.v (.cell (.bool false)))), (44, (.v (.cell (.str x5)))), (43, (.v (.cell (.str x4)))), (42, (.v (.cell (.bool true)))), (41, (.v (.cell (.bool true)))), (0, (.v (.cell (.str x0)))), (1, (.v (.cell (.str x1)))), (7, (.v (.cell (.bool x2)))), (8, (.v (.cell (.str x3)))), (9, (.v (.cell (.str x4)))), (10, (.v (.cell (.str x5))))], []⟩
    | false => K .normal ⟨[(6, (.v (.cell (.bool false)))), (61, (.v (.cell (.bool false)))), (60, (.v (.cell .un))), (59, (.v (.cell .un))), (58, (.v (.cell .un))), (57, (.v (.cell .un))), (56, (.v (.cell .un))), (55, (.v (.cell (.bool false)))), (54, (.v (.cell (.bool false)))), (53, (.v (.cell .un))), (52, (.v (.cell .un))), (51, (.v (.cell .un))), (50, (.v (.cell .un))), (49, (.v (.cell .un))), (48, (.v (.cell .un))), (47, (.v (.cell (.bool false)))), (46, (.v (.cell (.bool false)))), (45, (.v (.cell .un))), (44, (.v (.cell .un))), (43, (.v (.cell .un))), (42, (.v (.cell (.bool false)))), (41, (.v (.cell (.bool false)))), (0, (.v (.cell (.str x0)))), (1, (.v (.cell (.str x1)))), (7, (.v (.cell (.bool x2)))), (8, (.v (.cell (.str x3)))), (9, (.v (.cell (.str x4)))), (10, (.v (.cell (.str x5))))], []⟩ := by kernel_rfl
theorem g5R0 {R : Type} (A : Ar) (n : Nat) (K : Ex → St → Option R) (x0 : List Nat) (x1 : List Nat) (x2 : List Nat) : g5D A n [false] K ⟨[(0, (.v (.cell (.str x0)))), (1, (.v (.cell (.str x1)))), (2, (.v (.cell (.str x2))))], []⟩ = K .normal ⟨[(6, (.v (.cell (.bool false)))), (0, (.v (.cell (.str x0)))), (1, (.v (.cell (.str x1)))), (2, (.v (.cell (.str x2))))], []⟩ := by kernel_rfl
theorem g5R1 {R : Type} (A : Ar) (n : Nat) (K : Ex → St → Option R) (x0 : List Nat) (x1 : List Nat) (x2 : List Nat) : g5D A n [true, false] K ⟨[(0, (.v (.cell (.str x0)))), (1, (.v (.cell (.str x1)))), (2, (.v (.cell (.str x2))))], []⟩ = match (generalizing := false) g9ok with
    | true => K .normal ⟨[(7, (.v (.cell (.bool g9r0)))), (11, (.v (.cell (.bool g9r0)))), (0, (.v (.cell (.str x0)))), (1, (.v (.cell (.str x1)))), (2, (.v (.cell (.str x2))))], []⟩
    | false => none := by kernel_rfl
theorem g5R2 {R : Type} (A : Ar) (n : Nat) (K : Ex → St → Option R) (x0 : List Nat) (x1 : List Nat) (x2 : List Nat) (x3 : Bool) : g5D A n [true, true, false, false] K ⟨[(0, (.v (.cell (.str x0)))), (1, (.v (.cell (.str x1)))), (2, (.v (.cell (.str x2)))), (7, (.v (.cell (.bool x3))))], []⟩ = K .normal ⟨[(13, (.v (.cell (.bool (!x3))))), (12, (.v (.cell (.bool x3)))), (0, (.v (.cell (.str x0)))), (1, (.v (.cell (.str x1)))), (2, (.v (.cell (.str x2)))), (7, (.v (.cell (.bool x3))))], []⟩ := by kernel_rfl
theorem g5R3 {R : Type} (A : Ar) (n : Nat) (K : Ex → St → Option R)  : g5D A n [true, true, false, true, false, false] K ⟨[], []⟩ = K .normal ⟨[(6, (.v (.cell (.bool false))))], []⟩ := by kernel_rfl
def g5J4 {R : Type} (A : Ar) (n : Nat) (kk : AV → Heap → Option R)  (x0 : List Nat) (x1 : List Nat) (x2 : List Nat) (x3 : Bool) : Option R :=
  match (generalizing := false) A.neg (A.mn (A.ofN x0.length) 30) with
  | true => none
  | false => match (generalizing := false) A.le (A.toN (A.mn (A.ofN x0.length) 30)) x0.length with
    | true => match (generalizing := false) A.neg (A.mn (A.ofN x1.length) 30) with
      | true => none
      | false => match (generalizing := false) A.le (A.toN (A.mn (A.ofN x1.length) 30)) x1.length with
        | true => match (generalizing := false) A.neg (A.mn (A.ofN x2.length) 30) with
          | true => none
          | false => match (generalizing := false) A.le (A.toN (A.mn (A.ofN x2.length) 30)) x2.length with
            | true => match (generalizing := false) g14ok ((x0.take (A.toN (A.mn (A.ofN x0.length) 30))).drop 0) [1] ((x1.take (A.toN (A.mn (A.ofN x1.length) 30))).drop 0) with
              | true => match (generalizing := false) g14ok (g14r0 ((x0.take (A.toN (A.mn (A.ofN x0.length) 30))).drop 0) [1] ((x1.take (A.toN (A.mn (A.ofN x1.length) 30))).drop 0)) ((x2.take (A.toN (A.mn (A.ofN x2.length) 30))).drop 0) [] with
                | true => match (generalizing := false) g14ok ((x1.take (A.toN (A.mn (A.ofN x1.length) 30))).drop 0) ((x2.take (A.toN (A.mn (A.ofN x2.length) 30))).drop 0) [] with
                  | true => match (generalizing := false) g14ok ((x0.take (A.toN (A.mn (A.ofN x0.length) 30))).drop 0) ((x2.take (A.toN (A.mn (A.ofN x2.length) 30))).drop 0) (g14r0 ((x1.take (A.toN (A.mn (A.ofN x1.length) 30))).drop 0) ((x2.take (A.toN (A.mn (A.ofN x2.length) 30))).drop 0) []) with
                    | true => match (generalizing := false) x3 with
                      | true => match (generalizing := false) A.sc .eql (g14r0 (g14r0 ((x0.take (A.toN (A.mn (A.ofN x0.length) 30))).drop 0) [1] ((x1.take (A.toN (A.mn (A.ofN x1.length) 30))).drop 0)) ((x2.take (A.toN (A.mn (A.ofN x2.length) 30))).drop 0) []) (g14r0 ((x0.take (A.toN (A.mn (A.ofN x0.length) 30))).drop 0) ((x2.take (A.toN (A.mn (A.ofN x2.length) 30))).drop 0) (g14r0 ((x1.take (A.toN (A.mn (A.ofN x1.length) 30))).drop 0) ((x2.take (A.toN (A.mn (A.ofN x2.length) 30))).drop 0) [])) with
                        | true => match (generalizing := false) A.le (((x0.take (A.toN (A.mn (A.ofN x0.length) 30))).drop 0).length + [0, 0].length) 9223372036854775807 with
                          | true => match (generalizing := false) g10ok (((x0.take (A.toN (A.mn (A.ofN x0.length) 30))).drop 0) ++ [0, 0]) with
                            | true => match (generalizing := false) g10ok ((x0.take (A.toN (A.mn (A.ofN x0.length) 30))).drop 0) with
                              | true => match (generalizing := false) A.sc .eql (g10r0 (((x0.take (A.toN (A.mn (A.ofN x0.length) 30))).drop 0) ++ [0, 0])) (g10r0 ((x0.take (A.toN (A.mn (A.ofN x0.length) 30))).drop 0)) with
                                | true => match (generalizing := false) g14ok ((x1.take (A.toN (A.mn (A.ofN x1.length) 30))).drop 0) [1] ((x0.take (A.toN (A.mn (A.ofN x0.length) 30))).drop 0) with
                                  | true => match (generalizing := false) A.sc .eql (g14r0 ((x0.take (A.toN (A.mn (A.ofN x0.length) 30))).drop 0) [1] ((x1.take (A.toN (A.mn (A.ofN x1.length) 30))).drop 0)) (g14r0 ((x1.take (A.toN (A.mn (A.ofN x1.length) 30))).drop 0) [1] ((x0.take (A.toN (A.mn (A.ofN x0.length) 30))).drop 0)) with
                                    | true => kk (.v (.cell (.bool true))) []
                                    | false => kk (.v (.cell (.bool false))) []
                                  | false => none
                                | false => kk (.v (.cell (.bool false))) []
                              | false => none
                            | false => none
                          | false => none
                        | false => kk (.v (.cell (.bool false))) []
                      | false => kk (.v (.cell (.bool false))) []
                    | false => none
                  | false => none
                | false => none
              | false => none
            | false => none
        | false => none
    | false => none
set_option maxRecDepth 100000 in
theorem g5J4_eq {R : Type} (A : Ar) (n : Nat) (kk : AV → Heap → Option R)    (s : St) (x0 : List Nat) (x1 : List Nat) (x2 : List Nat) (x3 : Bool) (h : keep g5an 4 s = ⟨[(0, (.v (.cell (.str x0)))), (1, (.v (.cell (.str x1)))), (2, (.v (.cell (.str x2)))), (7, (.v (.cell (.bool x3))))], []⟩) :
    g5D A n [true, true, true] (g5T kk) s = g5J4 A n kk  x0 x1 x2 x3 := by
  have h1 : (g5T kk) .ret ⟨[(6, (.v (.cell (.bool true)))), (61, (.v (.cell (.bool true)))), (60, (.v (.cell (.bool true)))), (59, (.v (.cell (.str (g14r0 ((x1.take (A.toN (A.mn (A.ofN x1.length) 30))).drop 0) [1] ((x0.take (A.toN (A.mn (A.ofN x0.length) 30))).drop 0)))))), (58, (.v (.cell (.str ((x0.take (A.toN (A.mn (A.ofN x0.length) 30))).drop 0))))), (57, (.v (.cell (.str ((x1.take (A.toN (A.mn (A.ofN x1.length) 30))).drop 0))))), (56, (.v (.cell (.str (g14r0 ((x0.take (A.toN (A.mn (A.ofN x0.length) 30))).drop 0) [1] ((x1.take (A.toN (A.mn (A.ofN x1.length) 30))).drop 0)))))), (55, (.v (.cell (.bool true)))), (54, (.v (.cell (.bool true)))), (53, (.v (.cell (.bool true)))), (52, (.v (.cell (.str (g10r0 ((x0.take (A.toN (A.mn (A.ofN x0.length) 30))).drop 0)))))), (51, (.v (.cell (.str ((x0.take (A.toN (A.mn (A.ofN x0.length) 30))).drop 0))))), (50, (.v (.cell (.str (g10r0 (((x0.take (A.toN (A.mn (A.ofN x0.length) 30))).drop 0) ++ [0, 0])))))), (49, (.v (.cell (.str (((x0.take (A.toN (A.mn (A.ofN x0.length) 30))).drop 0) ++ [0, 0]))))), (48, (.v (.cell (.str ((x0.take (A.toN (A.mn (A.ofN x0.length) 30))).drop 0))))), (47, (.v (.cell (.bool true)))), (46, (.v (.cell (.bool true)))), (45, (.v (.cell (.bool true)))), (44, (.v (.cell (.str (g14r0 ((x0.take (A.toN (A.mn (A.ofN x0.length) 30))).drop 0) ((x2.take (A.toN (A.mn (A.ofN x2.length) 30))).drop 0) (g14r0 ((x1.take (A.toN (A.mn (A.ofN x1.length) 30))).drop 0) ((x2.take (A.toN (A.mn (A.ofN x2.length) 30))).drop 0) [])))))), (43, (.v (.cell (.str (g14r0 (g14r0 ((x0.take (A.toN (A.mn (A.ofN x0.length) 30))).drop 0) [1] ((x1.take (A.toN (A.mn (A.ofN x1.length) 30))).drop 0)) ((x2.take (A.toN (A.mn (A.ofN x2.length) 30))).drop 0) []))))), (42, (.v (.cell (.bool true)))), (41, (.v (.cell (.bool true)))), (0, (.v (.cell (.str ((x0.take (A.toN (A.mn (A.ofN x0.length) 30))).drop 0))))), (1, (.v (.cell (.str ((x1.take (A.toN (A.mn (A.ofN x1.length) 30))).drop 0))))), (7, (.v (.cell (.bool x3)))), (8, (.v (.cell (.str (g14r0 ((x0.take (A.toN (A.mn (A.ofN x0.length) 30))).drop 0) [1] ((x1.take (A.toN (A.mn (A.ofN x1.length) 30))).drop 0)))))), (9, (.v (.cell (.str (g14r0 (g14r0 ((x0.take (A.toN (A.mn (A.ofN x0.length) 30))).drop 0) [1] ((x1.take (A.toN (A.mn (A.ofN x1.length) 30))).drop 0)) ((x2.take (A.toN (A.mn (A.ofN x2.length) 30))).drop 0) []))))), (10, (.v (.cell (.str (g14r0 ((x0.take (A.toN (A.mn (A.ofN x0.length) 30))).drop 0) ((x2.take (A.toN (A.mn (A.ofN x2.length) 30))).drop 0) (g14r0 ((x1.take (A.toN (A.mn (A.ofN x1.length) 30))).drop 0) ((x2.take (A.toN (A.mn (A.ofN x2.length) 30))).drop 0) []))))))], []⟩ = kk (.v (.cell (.bool true))) [] := by kernel_rfl
  have h2 := (g5p1111111111 A n _ _).trans h1
  have h3 := (g5Qn A n _ _ _).trans h2
  have h4 : (g5T kk) .ret ⟨[(6, (.v (.cell (.bool false)))), (61, (.v (.cell (.bool false)))), (60, (.v (.cell (.bool false)))), (59, (.v (.cell (.str (g14r0 ((x1.take (A.toN (A.mn (A.ofN x1.length) 30))).drop 0) [1] ((x0.take (A.toN (A.mn (A.ofN x0.length) 30))).drop 0)))))), (58, (.v (.cell (.str ((x0.take (A.toN (A.mn (A.ofN x0.length) 30))).drop 0))))), (57, (.v (.cell (.str ((x1.take (A.toN (A.mn (A.ofN x1.length) 30))).drop 0))))), (56, (.v (.cell (.str (g14r0 ((x0.take (A.toN (A.mn (A.ofN x0.length) 30))).drop 0) [1] ((x1.take (A.toN (A.mn (A.ofN x1.length) 30))).drop 0)))))), (55, (.v (.cell (.bool true)))), (54, (.v (.cell (.bool true)))), (53, (.v (.cell (.bool true)))), (52, (.v (.cell (.str (g10r0 ((x0.take (A.toN (A.mn (A.ofN x0.length) 30))).drop 0)))))), (51, (.v (.cell (.str ((x0.take (A.toN (A.mn (A.ofN x0.length) 30))).drop 0))))), (50, (.v (.cell (.str (g10r0 (((x0.take (A.toN (A.mn (A.ofN x0.length) 30))).drop 0) ++ [0, 0])))))), (49, (.v (.cell (.str (((x0.take (A.toN (A.mn (A.ofN x0.length) 30))).drop 0) ++ [0, 0]))))), (48, (.v (.cell (.str ((x0.take (A.toN (A.mn (A.ofN x0.length) 30))).drop 0))))), (47, (.v (.cell (.bool true)))), (46, (.v (.cell (.bool true)))), (45, (.v (.cell (.bool true)))), (44, (.v (.cell (.str (g14r0 ((x0.take (A.toN (A.mn (A.ofN x0.length) 30))).drop 0) ((x2.take (A.toN (A.mn (A.ofN x2.length) 30))).drop 0) (g14r0 ((x1.take (A.toN (A.mn (A.ofN x1.length) 30))).drop 0) ((x2.take (A.toN (A.mn (A.ofN x2.length) 30))).drop 0) [])))))), (43, (.v (.cell (.str (g14r0 (g14r0 ((x0.take (A.toN (A.mn (A.ofN x0.length) 30))).drop 0) [1] ((x1.take (A.toN (A.mn (A.ofN x1.length) 30))).drop 0)) ((x2.take (A.toN (A.mn (A.ofN x2.length) 30))).drop 0) []))))), (42, (.v (.cell (.bool true)))), (41, (.v (.cell (.bool true)))), (0, (.v (.cell (.str ((x0.take (A.toN (A.mn (A.ofN x0.length) 30))).drop 0))))), (1, (.v (.cell (.str ((x1.take (A.toN (A.mn (A.ofN x1.length) 30))).drop 0))))), (7, (.v (.cell (.bool x3)))), (8, (.v (.cell (.str (g14r0 ((x0.take (A.toN (A.mn (A.ofN x0.length) 30))).drop 0) [1] ((x1.take (A.toN (A.mn (A.ofN x1.length) 30))).drop 0)))))), (9, (.v (.cell (.str (g14r0 (g14r0 ((x0.take (A.toN (A.mn (A.ofN x0.length) 30))).drop 0) [1] ((x1.take (A.toN (A.mn (A.ofN x1.length) 30))).drop 0)) ((x2.take (A.toN (A.mn (A.ofN x2.length) 30))).drop 0) []))))), (10, (.v (.cell (.str (g14r0 ((x0.take (A.toN (A.mn (A.ofN x0.length) 30))).drop 0) ((x2.take (A.toN (A.mn (A.ofN x2.length) 30))).drop 0) (g14r0 ((x1.take (A.toN (A.mn (A.ofN x1.length) 30))).drop 0) ((x2.take (A.toN (A.mn (A.ofN x2.length) 30))).drop 0) []))))))], []⟩ = kk (.v (.cell (.bool false))) [] := by kernel_rfl
  have h5 := (g5p1111111111 A n _ _).trans h4
  have h6 := (g5Qn A n _ _ _).trans h5
  have h7 : (g5T kk) .ret ⟨[(6, (.v (.cell (.bool false)))), (61, (.v (.cell (.bool false)))), (60, (.v (.cell .un))), (59, (.v (.cell .un))), (58, (.v (.cell .un))), (57, (.v (.cell .un))), (56, (.v (.cell .un))), (55, (.v (.cell (.bool false)))), (54, (.v (.cell (.bool false)))), (53, (.v (.cell (.bool false)))), (52, (.v (.cell (.str (g10r0 ((x0.take (A.toN (A.mn (A.ofN x0.length) 30))).drop 0)))))), (51, (.v (.cell (.str ((x0.take (A.toN (A.mn (A.ofN x0.length) 30))).drop 0))))), (50, (.v (.cell (.str (g10r0 (((x0.take (A.toN (A.mn (A.ofN x0.length) 30))).drop 0) ++ [0, 0])))))), (49, (.v (.cell (.str (((x0.take (A.toN (A.mn (A.ofN x0.length) 30))).drop 0) ++ [0, 0]))))), (48, (.v (.cell (.str ((x0.take (A.toN (A.mn (A.ofN x0.length) 30))).drop 0))))), (47, (.v (.cell (.bool true)))), (46, (.v (.cell (.bool true)))), (45, (.v (.cell (.bool true)))), (44, (.v (.cell (.str (g14r0 ((x0.take (A.toN (A.mn (A.ofN x0.length) 30))).drop 0) ((x2.take (A.toN (A.mn (A.ofN x2.length) 30))).drop 0) (g14r0 ((x1.take (A.toN (A.mn (A.ofN x1.length) 30))).drop 0) ((x2.take (A.toN (A.mn (A.ofN x2.length) 30))).drop 0) [])))))), (43, (.v (.cell (.str (g14r0 (g14r0 ((x0.take (A.toN (A.mn (A.ofN x0.length) 30))).drop 0) [1] ((x1.take (A.toN (A.mn (A.ofN x1.length) 30))).drop 0)) ((x2.take (A.toN (A.mn (A.ofN x2.length) 30))).drop 0) []))))), (42, (.v (.cell (.bool true)))), (41, (.v (.cell (.bool true)))), (0, (.v (.cell (.str ((x0.take (A.toN (A.mn (A.ofN x0.length) 30))).drop 0))))), (1, (.v (.cell (.str ((x1.take (A.toN (A.mn (A.ofN x1.length) 30))).drop 0))))), (7, (.v (.cell (.bool x3)))), (8, (.v (.cell (.str (g14r0 ((x0.take (A.toN (A.mn (A.ofN x0.length) 30))).drop 0) [1] ((x1.take (A.toN (A.mn (A.ofN x1.length) 30))).drop 0)))))), (9, (.v (.cell (.str (g14r0 (g14r0 ((x0.take (A.toN (A.mn (A.ofN x0.length) 30))).drop 0) [1] ((x1.take (A.toN (A.mn (A.ofN x1.length) 30))).drop 0)) ((x2.take (A.toN (A.mn (A.ofN x2.length) 30))).drop 0) []))))), (10, (.v (.cell (.str (g14r0 ((x0.take (A.toN (A.mn (A.ofN x0.length) 30))).drop 0) ((x2.take (A.toN (A.mn (A.ofN x2.length) 30))).drop 0) (g14r0 ((x1.take (A.toN (A.mn (A.ofN x1.length) 30))).drop 0) ((x2.take (A.toN (A.mn (A.ofN x2.length) 30))).drop 0) []))))))], []⟩ = kk (.v (.cell (.bool false))) [] := by kernel_rfl
  have h8 := (g5p1111111111 A n _ _).trans h7
  have h9 := (g5Qn A n _ _ _).trans h8
  have h10 : (g5T kk) .ret ⟨[(6, (.v (.cell (.bool false)))), (61, (.v (.cell (.bool false)))), (60, (.v (.cell .un))), (59, (.v (.cell .un))), (58, (.v (.cell .un))), (57, (.v (.cell .un))), (56, (.v (.cell .un))), (55, (.v (.cell (.bool false)))), (54, (.v (.cell (.bool false)))), (53, (.v (.cell .un))), (52, (.v (.cell .un))), (51, (.v (.cell .un))), (50, (.v (.cell .un))), (49, (.v (.cell .un))), (48, (.v (.cell .un))), (47, (.v (.cell (.bool false)))), (46, (.v (.cell (.bool false)))), (45, (.v (.cell (.bool false)))), (44, (.v (.cell (.str (g14r0 ((x0.take (A.toN (A.mn (A.ofN x0.length) 30))).drop 0) ((x2.take (A.toN (A.mn (A.ofN x2.length) 30))).drop 0) (g14r0 ((x1.take (A.toN (A.mn (A.ofN x1.length) 30))).drop 0) ((x2.take (A.toN (A.mn (A.ofN x2.length) 30))).drop 0) [])))))), (43, (.v (.cell (.str (g14r0 (g14r0 ((x0.take (A.toN (A.mn (A.ofN x0.length) 30))).drop 0) [1] ((x1.take (A.toN (A.mn (A.ofN x1.length) 30))).drop 0)) ((x2.take (A.toN (A.mn (A.ofN x2.length) 30))).drop 0) []))))), (42, (.v (.cell (.bool true)))), (41, (.v (.cell (.bool true)))), (0, (.v (.cell (.str ((x0.take (A.toN (A.mn (A.ofN x0.length) 30))).drop 0))))), (1, (.v (.cell (.str ((x1.take (A.toN (A.mn (A.ofN x1.length) 30))).drop 0))))), (7, (.v (.cell (.bool x3)))), (8, (.v (.cell (.str (g14r0 ((x0.take (A.toN (A.mn (A.ofN x0.length) 30))).drop 0) [1] ((x1.take (A.toN (A.mn (A.ofN x1.length) 30))).drop 0)))))), (9, (.v (.cell (.str (g14r0 (g14r0 ((x0.take (A.toN (A.mn (A.ofN x0.length) 30))).drop 0) [1] ((x1.take (A.toN (A.mn (A.ofN x1.length) 30))).drop 0)) ((x2.take (A.toN (A.mn (A.ofN x2.length) 30))).drop 0) []))))), (10, (.v (.cell (.str (g14r0 ((x0.take (A.toN (A.mn (A.ofN x0.length) 30))).drop 0) ((x2.take (A.toN (A.mn (A.ofN x2.length) 30))).drop 0) (g14r0 ((x1.take (A.toN (A.mn (A.ofN x1.length) 30))).drop 0) ((x2.take (A.toN (A.mn (A.ofN x2.length) 30))).drop 0) []))))))], []⟩ = kk (.v (.cell (.bool false))) [] := by kernel_rfl
  have h11 := (g5p1111111111 A n _ _).trans h10
  have h12 := (g5Qn A n _ _ _).trans h11
  have h13 : (g5T kk) .ret ⟨[(6, (.v (.cell (.bool false)))), (61, (.v (.cell (.bool false)))), (60, (.v (.cell .un))), (59, (.v (.cell .un))), (58, (.v (.cell .un))), (57, (.v (.cell .un))), (56, (.v (.cell .un))), (55, (.v (.cell (.bool false)))), (54, (.v (.cell (.bool false)))), (53, (.v (.cell .un))), (52, (.v (.cell .un))), (51, (.v (.cell .un))), (50, (.v (.cell .un))), (49, (.v (.cell .un))), (48, (.v (.cell .un))), (47, (.v (.cell (.bool false)))), (46, (.v (.cell (.bool false)))), (45, (.v (.cell .un))), (44, (.v (.cell .un))), (43, (.v (.cell .un))), (42, (.v (.cell (.bool false)))), (41, (.v (.cell (.bool false)))), (0, (.v (.cell (.str ((x0.take (A.toN (A.mn (A.ofN x0.length) 30))).drop 0))))), (1, (.v (.cell (.str ((x1.take (A.toN (A.mn (A.ofN x1.length) 30))).drop 0))))), (7, (.v (.cell (.bool x3)))), (8, (.v (.cell (.str (g14r0 ((x0.take (A.toN (A.mn (A.ofN x0.length) 30))).drop 0) [1] ((x1.take (A.toN (A.mn (A.ofN x1.length) 30))).drop 0)))))), (9, (.v (.cell (.str (g14r0 (g14r0 ((x0.take (A.toN (A.mn (A.ofN x0.length) 30))).drop 0) [1] ((x1.take (A.toN (A.mn (A.ofN x1.length) 30))).drop 0)) ((x2.take (A.toN (A.mn (A.ofN x2.length) 30))).drop 0) []))))), (10, (.v (.cell (.str (g14r0 ((x0.take (A.toN (A.mn (A.ofN x0.length) 30))).drop 0) ((x2.take (A.toN (A.mn (A.ofN x2.length) 30))).drop 0) (g14r0 ((x1.take (A.toN (A.mn (A.ofN x1.length) 30))).drop 0) ((x2.take (A.toN (A.mn (A.ofN x2.length) 30))).drop 0) []))))))], []⟩ = kk (.v (.cell (.bool false))) [] := by kernel_rfl
  have h14 := (g5p1111111111 A n _ _).trans h13
  have h15 := (g5Qn A n _ _ _).trans h14
  have h16 := (g5p1111111110 A n (g5Q A n [true, true, true, true, true, true, true, true, true, true] (g5T kk)) ⟨[(10, (.v (.cell (.str (g14r0 ((x0.take (A.toN (A.mn (A.ofN x0.length) 30))).drop 0) ((x2.take (A.toN (A.mn (A.ofN x2.length) 30))).drop 0) (g14r0 ((x1.take (A.toN (A.mn (A.ofN x1.length) 30))).drop 0) ((x2.take (A.toN (A.mn (A.ofN x2.length) 30))).drop 0) [])))))), (40, (.v (.cell (.str (g14r0 ((x0.take (A.toN (A.mn (A.ofN x0.length) 30))).drop 0) ((x2.take (A.toN (A.mn (A.ofN x2.length) 30))).drop 0) (g14r0 ((x1.take (A.toN (A.mn (A.ofN x1.length) 30))).drop 0) ((x2.take (A.toN (A.mn (A.ofN x2.length) 30))).drop 0) [])))))), (39, (.v (.cell (.str (g14r0 ((x1.take (A.toN (A.mn (A.ofN x1.length) 30))).drop 0) ((x2.take (A.toN (A.mn (A.ofN x2.length) 30))).drop 0) []))))), (38, (.v (.cell (.str ((x2.take (A.toN (A.mn (A.ofN x2.length) 30))).drop 0))))), (37, (.v (.cell (.str ((x1.take (A.toN (A.mn (A.ofN x1.length) 30))).drop 0))))), (36, (.v (.cell (.str ((x2.take (A.toN (A.mn (A.ofN x2.length) 30))).drop 0))))), (35, (.v (.cell (.str ((x0.take (A.toN (A.mn (A.ofN x0.length) 30))).drop 0))))), (0, (.v (.cell (.str ((x0.take (A.toN (A.mn (A.ofN x0.length) 30))).drop 0))))), (1, (.v (.cell (.str ((x1.take (A.toN (A.mn (A.ofN x1.length) 30))).drop 0))))), (2, (.v (.cell (.str ((x2.take (A.toN (A.mn (A.ofN x2.length) 30))).drop 0))))), (7, (.v (.cell (.bool x3)))), (8, (.v (.cell (.str (g14r0 ((x0.take (A.toN (A.mn (A.ofN x0.length) 30))).drop 0) [1] ((x1.take (A.toN (A.mn (A.ofN x1.length) 30))).drop 0)))))), (9, (.v (.cell (.str (g14r0 (g14r0 ((x0.take (A.toN (A.mn (A.ofN x0.length) 30))).drop 0) [1] ((x1.take (A.toN (A.mn (A.ofN x1.length) 30))).drop 0)) ((x2.take (A.toN (A.mn (A.ofN x2.length) 30))).drop 0) [])))))], []⟩ ⟨[(0, (.v (.cell (.str ((x0.take (A.toN (A.mn (A.ofN x0.length) 30))).drop 0))))), (1, (.v (.cell (.str ((x1.take (A.toN (A.mn (A.ofN x1.length) 30))).drop 0))))), (7, (.v (.cell (.bool x3)))), (8, (.v (.cell (.str (g14r0 ((x0.take (A.toN (A.mn (A.ofN x0.length) 30))).drop 0) [1] ((x1.take (A.toN (A.mn (A.ofN x1.length) 30))).drop 0)))))), (9, (.v (.cell (.str (g14r0 (g14r0 ((x0.take (A.toN (A.mn (A.ofN x0.length) 30))).drop 0) [1] ((x1.take (A.toN (A.mn (A.ofN x1.length) 30))).drop 0)) ((x2.take (A.toN (A.mn (A.ofN x2.length) 30))).drop 0) []))))), (10, (.v (.cell (.str (g14r0 ((x0.take (A.toN (A.mn (A.ofN x0.length) 30))).drop 0) ((x2.take (A.toN (A.mn (A.ofN x2.length) 30))).drop 0) (g14r0 ((x1.take (A.toN (A.mn (A.ofN x1.length) 30))).drop 0) ((x2.take (A.toN (A.mn (A.ofN x2.length) 30))).drop 0) []))))))], []⟩ (by kernel_rfl)).trans (g5R10 A n (g5Q A n [true, true, true, true, true, true, true, true, true, true] (g5T kk)) ((x0.take (A.toN (A.mn (A.ofN x0.length) 30))).drop 0) ((x1.take (A.toN (A.mn (A.ofN x1.length) 30))).drop 0) x3 (g14r0 ((x0.take (A.toN (A.mn (A.ofN x0.length) 30))).drop 0) [1] ((x1.take (A.toN (A.mn (A.ofN x1.length) 30))).drop 0)) (g14r0 (g14r0 ((x0.take (A.toN (A.mn (A.ofN x0.length) 30))).drop 0) [1] ((x1.take (A.toN (A.mn (A.ofN x1.length) 30))).drop 0)) ((x2.take (A.toN (A.mn (A.ofN x2.length) 30))).drop 0) []) (g14r0 ((x0.take (A.toN (A.mn (A.ofN x0.length) 30))).drop 0) ((x2.take (A.toN (A.mn (A.ofN x2.length) 30))).drop 0) (g14r0 ((x1.take (A.toN (A.mn (A.ofN x1.length) 30))).drop 0) ((x2.take (A.toN (A.mn (A.ofN x2.length) 30))).drop 0) [])))
  rw [h3, h6, h9, h12, h15] at h16
  have h17 := (g5p111111111 A n _ _).trans h16
  have h18 := (g5Qn A n _ _ _).trans h17
  have h19 := (g5p111111110 A n (g5Q A n [true, true, true, true, true, true, true, true, true] (g5T kk)) ⟨[(9, (.v (.cell (.str (g14r0 (g14r0 ((x0.take (A.toN (A.mn (A.ofN x0.length) 30))).drop 0) [1] ((x1.take (A.toN (A.mn (A.ofN x1.length) 30))).drop 0)) ((x2.take (A.toN (A.mn (A.ofN x2.length) 30))).drop 0) []))))), (34, (.v (.cell (.str (g14r0 (g14r0 ((x0.take (A.toN (A.mn (A.ofN x0.length) 30))).drop 0) [1] ((x1.take (A.toN (A.mn (A.ofN x1.length) 30))).drop 0)) ((x2.take (A.toN (A.mn (A.ofN x2.length) 30))).drop 0) []))))), (33, (.v (.cell (.str ((x2.take (A.toN (A.mn (A.ofN x2.length) 30))).drop 0))))), (32, (.v (.cell (.str (g14r0 ((x0.take (A.toN (A.mn (A.ofN x0.length) 30))).drop 0) [1] ((x1.take (A.toN (A.mn (A.ofN x1.length) 30))).drop 0)))))), (0, (.v (.cell (.str ((x0.take (A.toN (A.mn (A.ofN x0.length) 30))).drop 0))))), (1, (.v (.cell (.str ((x1.take (A.toN (A.mn (A.ofN x1.length) 30))).drop 0))))), (2, (.v (.cell (.str ((x2.take (A.toN (A.mn (A.ofN x2.length) 30))).drop 0))))), (7, (.v (.cell (.bool x3)))), (8, (.v (.cell (.str (g14r0 ((x0.take (A.toN (A.mn (A.ofN x0.length) 30))).drop 0) [1] ((x1.take (A.toN (A.mn (A.ofN x1.length) 30))).drop 0))))))], []⟩ ⟨[(0, (.v (.cell (.str ((x0.take (A.toN (A.mn (A.ofN x0.length) 30))).drop 0))))), (1, (.v (.cell (.str ((x1.take (A.toN (A.mn (A.ofN x1.length) 30))).drop 0))))), (2, (.v (.cell (.str ((x2.take (A.toN (A.mn (A.ofN x2.length) 30))).drop 0))))), (7, (.v (.cell (.bool x3)))), (8, (.v (.cell (.str (g14r0 ((x0.take (A.toN (A.mn (A.ofN x0.length) 30))).drop 0) [1] ((x1.take (A.toN (A.mn (A.ofN x1.length) 30))).drop 0)))))), (9, (.v (.cell (.str (g14r0 (g14r0 ((x0.take (A.toN (A.mn (A.ofN x0.length) 30))).drop 0) [1] ((x1.take (A.toN (A.mn (A.ofN x1.length) 30))).drop 0)) ((x2.take (A.toN (A.mn (A.ofN x2.length) 30))).drop 0) [])))))], []⟩ (by kernel_rfl)).trans (g5R9 A n (g5Q A n [true, true, true, true, true, true, true, true, true] (g5T kk)) ((x0.take (A.toN (A.mn (A.ofN x0.length) 30))).drop 0) ((x1.take (A.toN (A.mn (A.ofN x1.length) 30))).drop 0) ((x2.take (A.toN (A.mn (A.ofN x2.length) 30))).drop 0) x3 (g14r0 ((x0.take (A.toN (A.mn (A.ofN x0.length) 30))).drop 0) [1] ((x1.take (A.toN (A.mn (A.ofN x1.length) 30))).drop 0)) (g14r0 (g14r0 ((x0.take (A.toN (A.mn (A.ofN x0.length) 30))).drop 0) [1] ((x1.take (A.toN (A.mn (A.ofN x1.length) 30))).drop 0)) ((x2.take (A.toN (A.mn (A.ofN x2.length) 30))).drop 0) []))
  rw [h18] at h19
  have h20 := (g5p11111111 A n _ _).trans h19
  have h21 := (g5Qn A n _ _ _).trans h20
  have h22 := (g5p11111110 A n (g5Q A n [true, true, true, true, true, true, true, true] (g5T kk)) ⟨[(8, (.v (.cell (.str (g14r0 ((x0.take (A.toN (A.mn (A.ofN x0.length) 30))).drop 0) [1] ((x1.take (A.toN (A.mn (A.ofN x1.length) 30))).drop 0)))))), (31, (.v (.cell (.str (g14r0 ((x0.take (A.toN (A.mn (A.ofN x0.length) 30))).drop 0) [1] ((x1.take (A.toN (A.mn (A.ofN x1.length) 30))).drop 0)))))), (30, (.v (.cell (.str ((x1.take (A.toN (A.mn (A.ofN x1.length) 30))).drop 0))))), (29, (.v (.cell (.str ((x0.take (A.toN (A.mn (A.ofN x0.length) 30))).drop 0))))), (0, (.v (.cell (.str ((x0.take (A.toN (A.mn (A.ofN x0.length) 30))).drop 0))))), (1, (.v (.cell (.str ((x1.take (A.toN (A.mn (A.ofN x1.length) 30))).drop 0))))), (2, (.v (.cell (.str ((x2.take (A.toN (A.mn (A.ofN x2.length) 30))).drop 0))))), (7, (.v (.cell (.bool x3))))], []⟩ ⟨[(0, (.v (.cell (.str ((x0.take (A.toN (A.mn (A.ofN x0.length) 30))).drop 0))))), (1, (.v (.cell (.str ((x1.take (A.toN (A.mn (A.ofN x1.length) 30))).drop 0))))), (2, (.v (.cell (.str ((x2.take (A.toN (A.mn (A.ofN x2.length) 30))).drop 0))))), (7, (.v (.cell (.bool x3)))), (8, (.v (.cell (.str (g14r0 ((x0.take (A.toN (A.mn (A.ofN x0.length) 30))).drop 0) [1] ((x1.take (A.toN (A.mn (A.ofN x1.length) 30))).drop 0))))))], []⟩ (by kernel_rfl)).trans (g5R8 A n (g5Q A n [true, true, true, true, true, true, true, true] (g5T kk)) ((x0.take (A.toN (A.mn (A.ofN x0.length) 30))).drop 0) ((x1.take (A.toN (A.mn (A.ofN x1.length) 30))).drop 0) ((x2.take (A.toN (A.mn (A.ofN x2.length) 30))).drop 0) x3 (g14r0 ((x0.take (A.toN (A.mn (A.ofN x0.length) 30))).drop 0) [1] ((x1.take (A.toN (A.mn (A.ofN x1.length) 30))).drop 0)))
  rw [h21] at h22
  have h23 := (g5p1111111 A n _ _).trans h22
  have h24 := (g5Qn A n _ _ _).trans h23
  have h25 := (g5p1111110 A n (g5Q A n [true, true, true, true, true, true, true] (g5T kk)) ⟨[(2, (.v (.cell (.str ((x2.take (A.toN (A.mn (A.ofN x2.length) 30))).drop 0))))), (28, (.v (.cell (.str ((x2.take (A.toN (A.mn (A.ofN x2.length) 30))).drop 0))))), (27, (.v (.cell (.int .i64 (A.mn (A.ofN x2.length) 30))))), (26, (.v (.cell (.int .i64 (A.ofN x2.length))))), (25, (.v (.cell (.str x2)))), (24, (.v (.cell (.str x2)))), (0, (.v (.cell (.str ((x0.take (A.toN (A.mn (A.ofN x0.length) 30))).drop 0))))), (1, (.v (.cell (.str ((x1.take (A.toN (A.mn (A.ofN x1.length) 30))).drop 0))))), (2, (.v (.cell (.str x2)))), (7, (.v (.cell (.bool x3))))], []⟩ ⟨[(0, (.v (.cell (.str ((x0.take (A.toN (A.mn (A.ofN x0.length) 30))).drop 0))))), (1, (.v (.cell (.str ((x1.take (A.toN (A.mn (A.ofN x1.length) 30))).drop 0))))), (2, (.v (.cell (.str ((x2.take (A.toN (A.mn (A.ofN x2.length) 30))).drop 0))))), (7, (.v (.cell (.bool x3))))], []⟩ (by kernel_rfl)).trans (g5R7 A n (g5Q A n [true, true, true, true, true, true, true] (g5T kk)) ((x0.take (A.toN (A.mn (A.ofN x0.length) 30))).drop 0) ((x1.take (A.toN (A.mn (A.ofN x1.length) 30))).drop 0) ((x2.take (A.toN (A.mn (A.ofN x2.length) 30))).drop 0) x3)
  rw [h24] at h25
  have h26 := (g5p111111 A n _ _).trans h25
  have h27 := (g5Qn A n _ _ _).trans h26
  have h28 := (g5p111110 A n (g5Q A n [true, true, true, true, true, true] (g5T kk)) ⟨[(1, (.v (.cell (.str ((x1.take (A.toN (A.mn (A.ofN x1.length) 30))).drop 0))))), (23, (.v (.cell (.str ((x1.take (A.toN (A.mn (A.ofN x1.length) 30))).drop 0))))), (22, (.v (.cell (.int .i64 (A.mn (A.ofN x1.length) 30))))), (21, (.v (.cell (.int .i64 (A.ofN x1.length))))), (20, (.v (.cell (.str x1)))), (19, (.v (.cell (.str x1)))), (0, (.v (.cell (.str ((x0.take (A.toN (A.mn (A.ofN x0.length) 30))).drop 0))))), (1, (.v (.cell (.str x1)))), (2, (.v (.cell (.str x2)))), (7, (.v (.cell (.bool x3))))], []⟩ ⟨[(0, (.v (.cell (.str ((x0.take (A.toN (A.mn (A.ofN x0.length) 30))).drop 0))))), (1, (.v (.cell (.str ((x1.take (A.toN (A.mn (A.ofN x1.length) 30))).drop 0))))), (2, (.v (.cell (.str x2)))), (7, (.v (.cell (.bool x3))))], []⟩ (by kernel_rfl)).trans (g5R6 A n (g5Q A n [true, true, true, true, true, true] (g5T kk)) ((x0.take (A.toN (A.mn (A.ofN x0.length) 30))).drop 0) ((x1.take (A.toN (A.mn (A.ofN x1.length) 30))).drop 0) x2 x3)
  rw [h27] at h28
  have h29 := (g5p11111 A n _ _).trans h28
  have h30 := (g5Qn A n _ _ _).trans h29
  have h31 := (g5p11110 A n (g5Q A n [true, true, true, true, true] (g5T kk)) ⟨[(0, (.v (.cell (.str ((x0.take (A.toN (A.mn (A.ofN x0.length) 30))).drop 0))))), (18, (.v (.cell (.str ((x0.take (A.toN (A.mn (A.ofN x0.length) 30))).drop 0))))), (17, (.v (.cell (.int .i64 (A.mn (A.ofN x0.length) 30))))), (16, (.v (.cell (.int .i64 (A.ofN x0.length))))), (15, (.v (.cell (.str x0)))), (14, (.v (.cell (.str x0)))), (0, (.v (.cell (.str x0)))), (1, (.v (.cell (.str x1)))), (2, (.v (.cell (.str x2)))), (7, (.v (.cell (.bool x3))))], []⟩ ⟨[(0, (.v (.cell (.str ((x0.take (A.toN (A.mn (A.ofN x0.length) 30))).drop 0))))), (1, (.v (.cell (.str x1)))), (2, (.v (.cell (.str x2)))), (7, (.v (.cell (.bool x3))))], []⟩ (by kernel_rfl)).trans (g5R5 A n (g5Q A n [true, true, true, true, true] (g5T kk)) ((x0.take (A.toN (A.mn (A.ofN x0.length) 30))).drop 0) x1 x2 x3)
  rw [h30] at h31
  have h32 := (g5p1111 A n _ _).trans h31
  have h33 := (g5Qn A n _ _ _).trans h32
  have h34 := (g5p1110 A n (g5Q A n [true, true, true, true] (g5T kk)) ⟨[(0, (.v (.cell (.str x0)))), (1, (.v (.cell (.str x1)))), (2, (.v (.cell (.str x2)))), (7, (.v (.cell (.bool x3))))], []⟩ ⟨[(0, (.v (.cell (.str x0)))), (1, (.v (.cell (.str x1)))), (2, (.v (.cell (.str x2)))), (7, (.v (.cell (.bool x3))))], []⟩ (by kernel_rfl)).trans (g5R4 A n (g5Q A n [true, true, true, true] (g5T kk)) x0 x1 x2 x3)
  rw [h33] at h34
  have h35 := (g5p111 A n _ _).trans h34
  exact (codeD_first (s' := ⟨[(0, (.v (.cell (.str x0)))), (1, (.v (.cell (.str x1)))), (2, (.v (.cell (.str x2)))), (7, (.v (.cell (.bool x3))))], []⟩) (id := 4) (by kernel_rfl) (h.trans (by kernel_rfl)) _).trans (h35.trans (by kernel_rfl))
def g5 {R : Type} (A : Ar) (n : Nat) (kk : AV → Heap → Option R) (a : List Nat) (b : List Nat) (c : List Nat) : Option R :=
  match (generalizing := false) g9ok with
  | true => match (generalizing := false) !g9r0 with
    | true => kk (.v (.cell (.bool false))) []
    | false => g5J4 A n kk  a b c g9r0
  | false => none
set_option maxRecDepth 100000 in
theorem g5_eq {R : Type} (A : Ar) (n : Nat) (kk : AV → Heap → Option R) (a : List Nat) (b : List Nat) (c : List Nat) :
    funD A gtys (orcOf [(9, g9o), (14, g14o), (10, g10o)]) g5an n (bodyOf Try.f5) g5res [(.v (.cell (.str a))), (.v (.cell (.str b))), (.v (.cell (.str c)))] [] kk = g5 A n kk a b c := by
  have h1 : (g5T kk) .ret ⟨[(6, (.v (.cell (.bool false))))], []⟩ = kk (.v (.cell (.bool false))) [] := by kernel_rfl
  have h2 := (g5Qr A n [true, true, true] _ _).trans h1
  have h3 := (g5p110101 A n _ _).trans h2
  have h4 := (g5Qn A n _ _ _).trans h3
  have h5 := (g5p110100 A n (g5Q A n [true, true, false, true, false, true] (g5Q A n [true, true, true] (g5T kk))) ⟨[(13, (.v (.cell (.bool (!g9r0))))), (12, (.v (.cell (.bool g9r0)))), (0, (.v (.cell (.str a)))), (1, (.v (.cell (.str b)))), (2, (.v (.cell (.str c)))), (7, (.v (.cell (.bool g9r0))))], []⟩ ⟨[], []⟩ (by kernel_rfl)).trans (g5R3 A n (g5Q A n [true, true, false, true, false, true] (g5Q A n [true, true, true] (g5T kk))) )
  rw [h4] at h5
  have h6 := (g5p11010 A n _ _).trans h5
  have h7 := (g5Qn A n _ _ _).trans (g5J4_eq A n kk     ⟨[(13, (.v (.cell (.bool (!g9r0))))), (12, (.v (.cell (.bool g9r0)))), (0, (.v (.cell (.str a)))), (1, (.v (.cell (.str b)))), (2, (.v (.cell (.str c)))), (7, (.v (.cell (.bool g9r0))))], []⟩ a b c g9r0 (by kernel_rfl))
  have h8 := (g5p11011 A n _ _).trans h7
  have h9 := g5p1101 A n (g5Q A n [true, true, true] (g5T kk)) ⟨[(13, (.v (.cell (.bool (!g9r0))))), (12, (.v (.cell (.bool g9r0)))), (0, (.v (.cell (.str a)))), (1, (.v (.cell (.str b)))), (2, (.v (.cell (.str c)))), (7, (.v (.cell (.bool g9r0))))], []⟩ (!g9r0) (by kernel_rfl)
  rw [h6, h8] at h9
  have h10 := (g5Qn A n _ _ _).trans h9
  have h11 := (g5p1100 A n (g5Q A n [true, true, false, true] (g5Q A n [true, true, true] (g5T kk))) ⟨[(7, (.v (.cell (.bool g9r0)))), (11, (.v (.cell (.bool g9r0)))), (0, (.v (.cell (.str a)))), (1, (.v (.cell (.str b)))), (2, (.v (.cell (.str c))))], []⟩ ⟨[(0, (.v (.cell (.str a)))), (1, (.v (.cell (.str b)))), (2, (.v (.cell (.str c)))), (7, (.v (.cell (.bool g9r0))))], []⟩ (by kernel_rfl)).trans (g5R2 A n (g5Q A n [true, true, false, true] (g5Q A n [true, true, true] (g5T kk))) a b c g9r0)
  rw [h10] at h11
  have h12 := (g5p110 A n _ _).trans h11
  have h13 := (g5p11 A n _ _).trans h12
  have h14 := (g5Qn A n _ _ _).trans h13
  have h15 := (g5p10 A n (g5Q A n [true, true] (g5T kk)) ⟨[(6, (.v (.cell (.bool false)))), (0, (.v (.cell (.str a)))), (1, (.v (.cell (.str b)))), (2, (.v (.cell (.str c))))], []⟩ ⟨[(0, (.v (.cell (.str a)))), (1, (.v (.cell (.str b)))), (2, (.v (.cell (.str c))))], []⟩ (by kernel_rfl)).trans (g5R1 A n (g5Q A n [true, true] (g5T kk)) a b c)
  rw [h14] at h15
  have h16 := (g5p1 A n _ _).trans h15
  have h17 := (g5Qn A n _ _ _).trans h16
  have h18 := (g5p0 A n (g5Q A n [true] (g5T kk)) ⟨[(0, (.v (.cell (.str a)))), (1, (.v (.cell (.str b)))), (2, (.v (.cell (.str c))))], []⟩ ⟨[(0, (.v (.cell (.str a)))), (1, (.v (.cell (.str b)))), (2, (.v (.cell (.str c))))], []⟩ (by kernel_rfl)).trans (g5R0 A n (g5Q A n [true] (g5T kk)) a b c)
  rw [h17] at h18
  have h19 := (g5p A n _ _).trans h18
  exact (show funD A gtys (orcOf [(9, g9o), (14, g14o), (10, g10o)]) g5an n (bodyOf Try.f5) g5res [(.v (.cell (.str a))), (.v (.cell (.str b))), (.v (.cell (.str c)))] [] kk = g5D A n [] (g5T kk) ⟨[(0, (.v (.cell (.str a)))), (1, (.v (.cell (.str b)))), (2, (.v (.cell (.str c))))], []⟩ from by kernel_rfl).trans (h19.trans (by kernel_rfl))
def g5is (o : Option AV) : Bool := match o with
  | some (.v (.cell (.bool _))) => true
  | _ => false
def g5g0 (o : Option AV) : Bool := match o with
  | some (.v (.cell (.bool x))) => x
  | _ => false
theorem g5is_spec {o : Option AV} (h : g5is o = true) : o = some (.v (.cell (.bool (g5g0 o)))) := by
  unfold g5is at h
  split at h
  · rfl
  · cases h
def g5v (a : List Nat) (b : List Nat) (c : List Nat) : Option AV := g5 realA (100000) (fun v _ => some v) a b c
def g5ok (a : List Nat) (b : List Nat) (c : List Nat) : Bool := g5is (g5v a b c)
def g5r0 (a : List Nat) (b : List Nat) (c : List Nat) : Bool := g5g0 (g5v a b c)
theorem g5ok_spec {a b c} (h : g5ok a b c = true) : g5v a b c = some (.v (.cell (.bool (g5r0 a b c)))) := g5is_spec h
def g5o (args : List AV) : Option (Bool × AV) := match args with
  | [.v (.cell (.str a)), .v (.cell (.str b)), .v (.cell (.str c))] => some (g5ok a b c, .v (.cell (.bool (g5r0 a b c))))
  | _ => none
theorem g5O_sound : OSound Try.prog (orcOf [(9, g9o), (14, g14o), (10, g10o)]) := orc_sound fun f g hm args v hv => by
  simp only [List.mem_cons, List.not_mem_nil, or_false, Prod.mk.injEq] at hm
  rcases hm with ⟨rfl, rfl⟩ | ⟨rfl, rfl⟩ | ⟨rfl, rfl⟩
  · exact g9o_sound _ _ hv
  · exact g14o_sound _ _ hv
  · exact g10o_sound _ _ hv
theorem g5o_sound : ∀ args v, g5o args = some (true, v) → Fn1 Try.prog 5 args v := by
  intro args v h
  unfold g5o at h
  split at h
  · rename_i a b c
    simp only [Option.some.injEq, Prod.mk.injEq] at h
    obtain ⟨hc, h⟩ := h
    subst h
    · skip
      exact fn1_of mixed gtysOK g5O_sound (orc_det _) (an := g5an) (n := 100000) Try.func5 (c := bodyOf Try.f5) rfl (by kernel_rfl) Try.call5 (Nat.le_of_ble_eq_true rfl) (fun b => rfl) (fun _ => (g5_eq realA (100000) (fun v _ => some v) a b c).trans (show g5v a b c = _ from g5ok_spec hc))
  · cases h
/- engrosser/engrosserlaw04.four -/
def g17an : Ann := [(0, ([0], [])), (1, ([0], []))]
def g17res : List ResultVar := [.tmp 2]
noncomputable def g17D {R : Type} (A : Ar) (n : Nat) (p : List Bool) (K : Ex → St → Option R) (s : St) : Option R := codeD A gtys (orcOf []) g17an n (sub (bodyOf Try.f17) p) K s
noncomputable def g17V {R : Type} (A : Ar) (n : Nat) (p : List Bool) (m : Nat) (K : Ex → St → Option R) (s : St) : Option R := loopD (fun K' s'' => codeD A gtys (orcOf []) g17an n (sub (bodyOf Try.f17) p) K' s'') m K s
noncomputable def g17Q {R : Type} (A : Ar) (n : Nat) (p : List Bool) (K : Ex → St → Option R) : Ex → St → Option R := seqC (g17D A n p K) K
noncomputable def g17W {R : Type} (A : Ar) (n : Nat) (p : List Bool) (m : Nat) (K : Ex → St → Option R) : Ex → St → Option R := seqC (g17V A n p m K) K
noncomputable def g17T {R : Type} (kk : AV → Heap → Option R) : Ex → St → Option R := finD gtys g17res kk
theorem g17Qn {R : Type} (A : Ar) (n : Nat) (p : List Bool) (K : Ex → St → Option R) (s : St) : g17Q A n p K .normal s = g17D A n p K s := rfl
theorem g17Qe {R : Type} (A : Ar) (n : Nat) (p : List Bool) (K : Ex → St → Option R) (i : Nat) (s : St) : g17Q A n p K (.exit i) s = K (.exit i) s := rfl
theorem g17Qr {R : Type} (A : Ar) (n : Nat) (p : List Bool) (K : Ex → St → Option R) (s : St) : g17Q A n p K .ret s = K .ret s := rfl
theorem g17Wn {R : Type} (A : Ar) (n : Nat) (p : List Bool) (m : Nat) (K : Ex → St → Option R) (s : St) : g17W A n p m K .normal s = g17V A n p m K s := rfl
theorem g17We {R : Type} (A : Ar) (n : Nat) (p : List Bool) (m : Nat) (K : Ex → St → Option R) (i : Nat) (s : St) : g17W A n p m K (.exit i) s = K (.exit i) s := rfl
theorem g17Wr {R : Type} (A : Ar) (n : Nat) (p : List Bool) (m : Nat) (K : Ex → St → Option R) (s : St) : g17W A n p m K .ret s = K .ret s := rfl
theorem g17Vs {R : Type} (A : Ar) (n : Nat) (p : List Bool) (m : Nat) (K : Ex → St → Option R) (s : St) : g17V A n p (m + 1) K s = g17D A n p (g17W A n p m K) s := rfl
theorem g17p {R : Type} (A : Ar) (n : Nat) (K : Ex → St → Option R) (s : St) : g17D A n [] K s = g17D A n [false] (g17Q A n [true] K) s := by kernel_rfl
theorem g17p0 {R : Type} (A : Ar) (n : Nat) (K : Ex → St → Option R) (s s' : St) (h : keep g17an 0 s = keep g17an 0 s') : g17D A n [false] K s = g17D A n [false] K s' := codeD_first (id := 0) (by kernel_rfl) h K
theorem g17p1 {R : Type} (A : Ar) (n : Nat) (K : Ex → St → Option R) (s : St) : g17D A n [true] K s = g17D A n [true, false] (g17Q A n [true, true] K) s := by kernel_rfl
theorem g17p10 {R : Type} (A : Ar) (n : Nat) (K : Ex → St → Option R) (s s' : St) (h : keep g17an 1 s = keep g17an 1 s') : g17D A n [true, false] K s = g17D A n [true, false] K s' := codeD_first (id := 1) (by kernel_rfl) h K
theorem g17p11 {R : Type} (A : Ar) (n : Nat) (K : Ex → St → Option R) (s : St) : g17D A n [true, true] K s = K .ret s := by kernel_rfl
theorem g17R0 {R : Type} (A : Ar) (n : Nat) (K : Ex → St → Option R) (x0 : Nat) : g17D A n [false] K ⟨[(0, (.v (.cell (.nat .u32 x0))))], []⟩ = K .normal ⟨[(2, (.v (.cell (.str [])))), (0, (.v (.cell (.nat .u32 x0))))], []⟩ := by kernel_rfl
theorem g17R1 {R : Type} (A : Ar) (n : Nat) (K : Ex → St → Option R) (x0 : Nat) : g17D A n [true, false] K ⟨[(0, (.v (.cell (.nat .u32 x0))))], []⟩ = K .normal ⟨[(2, (.v (.cell (.str ([A.n2n .u8 x0, A.n2n .u8 (A.nsh .shr .u32 x0 8), A.n2n .u8 (A.nsh .shr .u32 x0 16), A.n2n .u8 (A.nsh .shr .u32 x0 24)].take 4))))), (15, (.v (.cell (.str ([A.n2n .u8 x0, A.n2n .u8 (A.nsh .shr .u32 x0 8), A.n2n .u8 (A.nsh .shr .u32 x0 16), A.n2n .u8 (A.nsh .shr .u32 x0 24)].take 4))))), (14, (.v (.cell (.sl 2011 none 4 1)))), (13, (.v (.cell (.nat .u8 (A.n2n .u8 (A.nsh .shr .u32 x0 24)))))), (12, (.v (.cell (.nat .u32 (A.nsh .shr .u32 x0 24))))), (11, (.v (.cell (.nat .u32 x0)))), (10, (.v (.cell (.nat .u8 (A.n2n .u8 (A.nsh .shr .u32 x0 16)))))), (9, (.v (.cell (.nat .u32 (A.nsh .shr .u32 x0 16))))), (8, (.v (.cell (.nat .u32 x0)))), (7, (.v (.cell (.nat .u8 (A.n2n .u8 (A.nsh .shr .u32 x0 8)))))), (6, (.v (.cell (.nat .u32 (A.nsh .shr .u32 x0 8))))), (5, (.v (.cell (.nat .u32 x0)))), (4, (.v (.cell (.nat .u8 (A.n2n .u8 x0))))), (3, (.v (.cell (.nat .u32 x0)))), (0, (.v (.cell (.nat .u32 x0))))], [(2011, ⟨[.nums .u8 4 [A.n2n .u8 x0, A.n2n .u8 (A.nsh .shr .u32 x0 8), A.n2n .u8 (A.nsh .shr .u32 x0 16), A.n2n .u8 (A.nsh .shr .u32 x0 24)]], 5, 2⟩)]⟩ := by kernel_rfl
def g17 {R : Type} (A : Ar) (n : Nat) (kk : AV → Heap → Option R) (a : Nat) : Option R :=
  kk (.v (.cell (.str ([A.n2n .u8 a, A.n2n .u8 (A.nsh .shr .u32 a 8), A.n2n .u8 (A.nsh .shr .u32 a 16), A.n2n .u8 (A.nsh .shr .u32 a 24)].take 4)))) [(2011, ⟨[.nums .u8 4 [A.n2n .u8 a, A.n2n .u8 (A.nsh .shr .u32 a 8), A.n2n .u8 (A.nsh .shr .u32 a 16), A.n2n .u8 (A.nsh .shr .u32 a 24)]], 5, 2⟩)]
set_option maxRecDepth 100000 in
theorem g17_eq {R : Type} (A : Ar) (n : Nat) (kk : AV → Heap → Option R) (a : Nat) :
    funD A gtys (orcOf []) g17an n (bodyOf Try.f17) g17res [(.v (.cell (.nat .u32 a)))] [] kk = g17 A n kk a := by
  have h1 : (g17T kk) .ret ⟨[(2, (.v (.cell (.str ([A.n2n .u8 a, A.n2n .u8 (A.nsh .shr .u32 a 8), A.n2n .u8 (A.nsh .shr .u32 a 16), A.n2n .u8 (A.nsh .shr .u32 a 24)].take 4))))), (15, (.v (.cell (.str ([A.n2n .u8 a, A.n2n .u8 (A.nsh .shr .u32 a 8), A.n2n .u8 (A.nsh .shr .u32 a 16), A.n2n .u8 (A.nsh .shr .u32 a 24)].take 4))))), (14, (.v (.cell (.sl 2011 none 4 1)))), (13, (.v (.cell (.nat .u8 (A.n2n .u8 (A.nsh .shr .u32 a 24)))))), (12, (.v (.cell (.nat .u32 (A.nsh .shr .u32 a 24))))), (11, (.v (.cell (.nat .u32 a)))), (10, (.v (.cell (.nat .u8 (A.n2n .u8 (A.nsh .shr .u32 a 16)))))), (9, (.v (.cell (.nat .u32 (A.nsh .shr .u32 a 16))))), (8, (.v (.cell (.nat .u32 a)))), (7, (.v (.cell (.nat .u8 (A.n2n .u8 (A.nsh .shr .u32 a 8)))))), (6, (.v (.cell (.nat .u32 (A.nsh .shr .u32 a 8))))), (5, (.v (.cell (.nat .u32 a)))), (4, (.v (.cell (.nat .u8 (A.n2n .u8 a))))), (3, (.v (.cell (.nat .u32 a)))), (0, (.v (.cell (.nat .u32 a))))], [(2011, ⟨[.nums .u8 4 [A.n2n .u8 a, A.n2n .u8 (A.nsh .shr .u32 a 8), A.n2n .u8 (A.nsh .shr .u32 a 16), A.n2n .u8 (A.nsh .shr .u32 a 24)]], 5, 2⟩)]⟩ = kk (.v (.cell (.str ([A.n2n .u8 a, A.n2n .u8 (A.nsh .shr .u32 a 8), A.n2n .u8 (A.nsh .shr .u32 a 16), A.n2n .u8 (A.nsh .shr .u32 a 24)].take 4)))) [(2011, ⟨[.nums .u8 4 [A.n2n .u8 a, A.n2n .u8 (A.nsh .shr .u32 a 8), A.n2n .u8 (A.nsh .shr .u32 a 16), A.n2n .u8 (A.nsh .shr .u32 a 24)]], 5, 2⟩)] := by kernel_rfl
  have h2 := (g17p11 A n _ _).trans h1
  have h3 := (g17Qn A n _ _ _).trans h2
  have h4 := (g17p10 A n (g17Q A n [true, true] (g17T kk)) ⟨[(2, (.v (.cell (.str [])))), (0, (.v (.cell (.nat .u32 a))))], []⟩ ⟨[(0, (.v (.cell (.nat .u32 a))))], []⟩ (by kernel_rfl)).trans (g17R1 A n (g17Q A n [true, true] (g17T kk)) a)
  rw [h3] at h4
  have h5 := (g17p1 A n _ _).trans h4
  have h6 := (g17Qn A n _ _ _).trans h5
  have h7 := (g17p0 A n (g17Q A n [true] (g17T kk)) ⟨[(0, (.v (.cell (.nat .u32 a))))], []⟩ ⟨[(0, (.v (.cell (.nat .u32 a))))], []⟩ (by kernel_rfl)).trans (g17R0 A n (g17Q A n [true] (g17T kk)) a)
  rw [h6] at h7
  have h8 := (g17p A n _ _).trans h7
  exact (show funD A gtys (orcOf []) g17an n (bodyOf Try.f17) g17res [(.v (.cell (.nat .u32 a)))] [] kk = g17D A n [] (g17T kk) ⟨[(0, (.v (.cell (.nat .u32 a))))], []⟩ from by kernel_rfl).trans (h8.trans (by kernel_rfl))
def g17is (o : Option AV) : Bool := match o with
  | some (.v (.cell (.str _))) => true
  | _ => false
def g17g0 (o : Option AV) : List Nat := match o with
  | some (.v (.cell (.str x))) => x
  | _ => []
theorem g17is_spec {o : Option AV} (h : g17is o = true) : o = some (.v (.cell (.str (g17g0 o)))) := by
  unfold g17is at h
  split at h
  · rfl
  · cases h
def g17v (a : Nat) : Option AV := g17 realA (100000) (fun v _ => some v) a
def g17ok (a : Nat) : Bool := g17is (g17v a)
def g17r0 (a : Nat) : List Nat := g17g0 (g17v a)
theorem g17ok_spec {a} (h : g17ok a = true) : g17v a = some (.v (.cell (.str (g17r0 a)))) := g17is_spec h
def g17o (args : List AV) : Option (Bool × AV) := match args with
  | [.v (.cell (.nat .u32 a))] => some (g17ok a, .v (.cell (.str (g17r0 a))))
  | _ => none
theorem g17O_sound : OSound Try.prog (orcOf []) := orc_sound fun f g hm args v hv => by
  cases hm
theorem g17o_sound : ∀ args v, g17o args = some (true, v) → Fn1 Try.prog 17 args v := by
  intro args v h
  unfold g17o at h
  split at h
  · rename_i a
    simp only [Option.some.injEq, Prod.mk.injEq] at h
    obtain ⟨hc, h⟩ := h
    subst h
    · skip
      exact fn1_of mixed gtysOK g17O_sound (orc_det _) (an := g17an) (n := 100000) Try.func17 (c := bodyOf Try.f17) rfl (by kernel_rfl) Try.call17 (Nat.le_of_ble_eq_true rfl) (fun b => rfl) (fun _ => (g17_eq realA (100000) (fun v _ => some v) a).trans (show g17v a = _ from g17ok_spec hc))
  · cases h
/- engrosser/engrosserlaw04.ScalarShifts -/
def g6an : Ann := [(0, ([0, 1, 2], [])), (1, ([0, 1, 2], [])), (2, ([0, 1, 2, 7], [])), (3, ([], [])), (4, ([0, 1, 2, 7], [])), (5, ([0, 1, 2, 7], [])), (6, ([0, 1, 2, 7, 8], [])), (7, ([0, 1, 2, 7, 8, 9], [7000])), (8, ([0, 1, 2, 7, 8, 9, 10], [7000])), (9, ([0, 1, 2, 7, 8, 9, 10], [7000])), (10, ([0, 1, 2, 7, 8, 9, 10], [7000])), (11, ([0, 1, 2, 7, 9], [7000]))]
def g6res : List ResultVar := [.tmp 6]
noncomputable def g6D {R : Type} (A : Ar) (n : Nat) (p : List Bool) (K : Ex → St → Option R) (s : St) : Option R := codeD A gtys (orcOf [(9, g9o), (10, g10o), (14, g14o), (17, g17o)]) g6an n (sub (bodyOf Try.f6) p) K s
noncomputable def g6V {R : Type} (A : Ar) (n : Nat) (p : List Bool) (m : Nat) (K : Ex → St → Option R) (s : St) : Option R := loopD (fun K' s'' => codeD A gtys (orcOf [(9, g9o), (10, g10o), (14, g14o), (17, g17o)]) g6an n (sub (bodyOf Try.f6) p) K' s'') m K s
noncomputable def g6Q {R : Type} (A : Ar) (n : Nat) (p : List Bool) (K : Ex → St → Option R) : Ex → St → Option R := seqC (g6D A n p K) K
noncomputable def g6W {R : Type} (A : Ar) (n : Nat) (p : List Bool) (m : Nat) (K : Ex → St → Option R) : Ex → St → Option R := seqC (g6V A n p m K) K
noncomputable def g6T {R : Type} (kk : AV → Heap → Option R) : Ex → St → Option R := finD gtys g6res kk
theorem g6Qn {R : Type} (A : Ar) (n : Nat) (p : List Bool) (K : Ex → St → Option R) (s : St) : g6Q A n p K .normal s = g6D A n p K s := rfl
theorem g6Qe {R : Type} (A : Ar) (n : Nat) (p : List Bool) (K : Ex → St → Option R) (i : Nat) (s : St) : g6Q A n p K (.exit i) s = K (.exit i) s := rfl
theorem g6Qr {R : Type} (A : Ar) (n : Nat) (p : List Bool) (K : Ex → St → Option R) (s : St) : g6Q A n p K .ret s = K .ret s := rfl
theorem g6Wn {R : Type} (A : Ar) (n : Nat) (p : List Bool) (m : Nat) (K : Ex → St → Option R) (s : St) : g6W A n p m K .normal s = g6V A n p m K s := rfl
theorem g6We {R : Type} (A : Ar) (n : Nat) (p : List Bool) (m : Nat) (K : Ex → St → Option R) (i : Nat) (s : St) : g6W A n p m K (.exit i) s = K (.exit i) s := rfl
theorem g6Wr {R : Type} (A : Ar) (n : Nat) (p : List Bool) (m : Nat) (K : Ex → St → Option R) (s : St) : g6W A n p m K .ret s = K .ret s := rfl
theorem g6Vs {R : Type} (A : Ar) (n : Nat) (p : List Bool) (m : Nat) (K : Ex → St → Option R) (s : St) : g6V A n p (m + 1) K s = g6D A n p (g6W A n p m K) s := rfl
theorem g6p {R : Type} (A : Ar) (n : Nat) (K : Ex → St → Option R) (s : St) : g6D A n [] K s = g6D A n [false] (g6Q A n [true] K) s := by kernel_rfl
theorem g6p0 {R : Type} (A : Ar) (n : Nat) (K : Ex → St → Option R) (s s' : St) (h : keep g6an 0 s = keep g6an 0 s') : g6D A n [false] K s = g6D A n [false] K s' := codeD_first (id := 0) (by kernel_rfl) h K
theorem g6p1 {R : Type} (A : Ar) (n : Nat) (K : Ex → St → Option R) (s : St) : g6D A n [true] K s = g6D A n [true, false] (g6Q A n [true, true] K) s := by kernel_rfl
theorem g6p10 {R : Type} (A : Ar) (n : Nat) (K : Ex → St → Option R) (s s' : St) (h : keep g6an 1 s = keep g6an 1 s') : g6D A n [true, false] K s = g6D A n [true, false] K s' := codeD_first (id := 1) (by kernel_rfl) h K
theorem g6p11 {R : Type} (A : Ar) (n : Nat) (K : Ex → St → Option R) (s : St) : g6D A n [true, true] K s = g6D A n [true, true, false] (g6Q A n [true, true, true] K) s := by kernel_rfl
theorem g6p110 {R : Type} (A : Ar) (n : Nat) (K : Ex → St → Option R) (s : St) : g6D A n [true, true, false] K s = g6D A n [true, true, false, false] (g6Q A n [true, true, false, true] K) s := by kernel_rfl
theorem g6p1100 {R : Type} (A : Ar) (n : Nat) (K : Ex → St → Option R) (s s' : St) (h : keep g6an 2 s = keep g6an 2 s') : g6D A n [true, true, false, false] K s = g6D A n [true, true, false, false] K s' := codeD_first (id := 2) (by kernel_rfl) h K
theorem g6p1101 {R : Type} (A : Ar) (n : Nat) (K : Ex → St → Option R) (s : St) (t : Bool) : ev s (.tmp 13) = some (.v (.cell (.bool t))) → g6D A n [true, true, false, true] K s = (match t with
    | true => g6D A n [true, true, false, true, false] K s
    | false => g6D A n [true, true, false, true, true] K s) := codeD_cond t
theorem g6p11010 {R : Type} (A : Ar) (n : Nat) (K : Ex → St → Option R) (s : St) : g6D A n [true, true, false, true, false] K s = g6D A n [true, true, false, true, false, false] (g6Q A n [true, true, false, true, false, true] K) s := by kernel_rfl
theorem g6p110100 {R : Type} (A : Ar) (n : Nat) (K : Ex → St → Option R) (s s' : St) (h : keep g6an 3 s = keep g6an 3 s') : g6D A n [true, true, false, true, false, false] K s = g6D A n [true, true, false, true, false, false] K s' := codeD_first (id := 3) (by kernel_rfl) h K
theorem g6p110101 {R : Type} (A : Ar) (n : Nat) (K : Ex → St → Option R) (s : St) : g6D A n [true, true, false, true, false, true] K s = K .ret s := by kernel_rfl
theorem g6p11011 {R : Type} (A : Ar) (n : Nat) (K : Ex → St → Option R) (s : St) : g6D A n [true, true, false, true, true] K s = K .normal s := by kernel_rfl
theorem g6p111 {R : Type} (A : Ar) (n : Nat) (K : Ex → St → Option R) (s : St) : g6D A n [true, true, true] K s = g6D A n [true, true, true, false] (g6Q A n [true, true, true, true] K) s := by kernel_rfl
theorem g6p1110 {R : Type} (A : Ar) (n : Nat) (K : Ex → St → Option R) (s s' : St) (h : keep g6an 4 s = keep g6an 4 s') : g6D A n [true, true, true, false] K s = g6D A n [true, true, true, false] K s' := codeD_first (id := 4) (by kernel_rfl) h K
theorem g6p1111 {R : Type} (A : Ar) (n : Nat) (K : Ex → St → Option R) (s : St) : g6D A n [true, true, true, true] K s = g6D A n [true, true, true, true, false] (g6Q A n [true, true, true, true, true] K) s := by kernel_rfl
theorem g6p11110 {R : Type} (A : Ar) (n : Nat) (K : Ex → St → Option R) (s s' : St) (h : keep g6an 5 s = keep g6an 5 s') : g6D A n [true, true, true, true, false] K s = g6D A n [true, true, true, true, false] K s' := codeD_first (id := 5) (by kernel_rfl) h K
theorem g6p11111 {R : Type} (A : Ar) (n : Nat) (K : Ex → St → Option R) (s : St) : g6D A n [true, true, true, true, true] K s = g6D A n [true, true, true, true, true, false] (g6Q A n [true, true, true, true, true, true] K) s := by kernel_rfl
theorem g6p111110 {R : Type} (A : Ar) (n : Nat) (K : Ex → St → Option R) (s s' : St) (h : keep g6an 6 s = keep g6an 6 s') : g6D A n [true, true, true, true, true, false] K s = g6D A n [true, true, true, true, true, false] K s' := codeD_first (id := 6) (by kernel_rfl) h K
theorem g6p111111 {R : Type} (A : Ar) (n : Nat) (K : Ex → St → Option R) (s : St) : g6D A n [true, true, true, true, true, true] K s = g6D A n [true, true, true, true, true, true, false] (g6Q A n [true, true, true, true, true, true, true] K) s := by kernel_rfl
theorem g6p1111110 {R : Type} (A : Ar) (n : Nat) (K : Ex → St → Option R) (s : St) : g6D A n [true, true, true, true, true, true, false] K s = g6D A n [true, true, true, true, true, true, false, false] (g6Q A n [true, true, true, true, true, true, false, true] K) s := by kernel_rfl
theorem g6p11111100 {R : Type} (A : Ar) (n : Nat) (K : Ex → St → Option R) (s s' : St) (h : keep g6an 7 s = keep g6an 7 s') : g6D A n [true, true, true, true, true, true, false, false] K s = g6D A n [true, true, true, true, true, true, false, false] K s' := codeD_first (id := 7) (by kernel_rfl) h K
theorem g6p11111101 {R : Type} (A : Ar) (n : Nat) (K : Ex → St → Option R) (s : St) : g6D A n [true, true, true, true, true, true, false, true] K s = g6D A n [true, true, true, true, true, true, false, true, false] (blockK 0 K) s := by kernel_rfl
theorem g6p111111010 {R : Type} (A : Ar) (n : Nat) (K : Ex → St → Option R) (s : St) : g6D A n [true, true, true, true, true, true, false, true, false] K s = g6V A n [true, true, true, true, true, true, false, true, false, false] n K s := by kernel_rfl
theorem g6p1111110100 {R : Type} (A : Ar) (n : Nat) (K : Ex → St → Option R) (s : St) : g6D A n [true, true, true, true, true, true, false, true, false, false] K s = g6D A n [true, true, true, true, true, true, false, true, false, false, false] (g6Q A n [true, true, true, true, true, true, false, true, false, false, true] K) s := by kernel_rfl
theorem g6p11111101000 {R : Type} (A : Ar) (n : Nat) (K : Ex → St → Option R) (s : St) : g6D A n [true, true, true, true, true, true, false, true, false, false, false] K s = g6D A n [true, true, true, true, true, true, false, true, false, false, false, false] (g6Q A n [true, true, true, true, true, true, false, true, false, false, false, true] K) s := by kernel_rfl
theorem g6p111111010000 {R : Type} (A : Ar) (n : Nat) (K : Ex → St → Option R) (s s' : St) (h : keep g6an 8 s = keep g6an 8 s') : g6D A n [true, true, true, true, true, true, false, true, false, false, false, false] K s = g6D A n [true, true, true, true, true, true, false, true, false, false, false, false] K s' := codeD_first (id := 8) (by kernel_rfl) h K
theorem g6p111111010001 {R : Type} (A : Ar) (n : Nat) (K : Ex → St → Option R) (s : St) (t : Bool) : ev s (.tmp 26) = some (.v (.cell (.bool t))) → g6D A n [true, true, true, true, true, true, false, true, false, false, false, true] K s = (match t with
    | true => g6D A n [true, true, true, true, true, true, false, true, false, false, false, true, false] K s
    | false => g6D A n [true, true, true, true, true, true, false, true, false, false, false, true, true] K s) := codeD_cond t
theorem g6p1111110100010 {R : Type} (A : Ar) (n : Nat) (K : Ex → St → Option R) (s : St) : g6D A n [true, true, true, true, true, true, false, true, false, false, false, true, false] K s = K .normal s := by kernel_rfl
theorem g6p1111110100011 {R : Type} (A : Ar) (n : Nat) (K : Ex → St → Option R) (s : St) : g6D A n [true, true, true, true, true, true, false, true, false, false, false, true, true] K s = K (.exit 0) s := by kernel_rfl
theorem g6p11111101001 {R : Type} (A : Ar) (n : Nat) (K : Ex → St → Option R) (s : St) : g6D A n [true, true, true, true, true, true, false, true, false, false, true] K s = g6D A n [true, true, true, true, true, true, false, true, false, false, true, false] (g6Q A n [true, true, true, true, true, true, false, true, false, false, true, true] K) s := by kernel_rfl
theorem g6p111111010010 {R : Type} (A : Ar) (n : Nat) (K : Ex → St → Option R) (s : St) : g6D A n [true, true, true, true, true, true, false, true, false, false, true, false] K s = g6D A n [true, true, true, true, true, true, false, true, false, false, true, false, false] (blockK 1 K) s := by kernel_rfl
theorem g6p1111110100100 {R : Type} (A : Ar) (n : Nat) (K : Ex → St → Option R) (s s' : St) (h : keep g6an 10 s = keep g6an 10 s') : g6D A n [true, true, true, true, true, true, false, true, false, false, true, false, false] K s = g6D A n [true, true, true, true, true, true, false, true, false, false, true, false, false] K s' := codeD_first (id := 10) (by kernel_rfl) h K
theorem g6p111111010011 {R : Type} (A : Ar) (n : Nat) (K : Ex → St → Option R) (s s' : St) (h : keep g6an 9 s = keep g6an 9 s') : g6D A n [true, true, true, true, true, true, false, true, false, false, true, true] K s = g6D A n [true, true, true, true, true, true, false, true, false, false, true, true] K s' := codeD_first (id := 9) (by kernel_rfl) h K
theorem g6p1111111 {R : Type} (A : Ar) (n : Nat) (K : Ex → St → Option R) (s : St) : g6D A n [true, true, true, true, true, true, true] K s = g6D A n [true, true, true, true, true, true, true, false] (g6Q A n [true, true, true, true, true, true, true, true] K) s := by kernel_rfl
theorem g6p11111110 {R : Type} (A : Ar) (n : Nat) (K : Ex → St → Option R) (s s' : St) (h : keep g6an 11 s = keep g6an 11 s') : g6D A n [true, true, true, true, true, true, true, false] K s = g6D A n [true, true, true, true, true, true, true, false] K s' := codeD_first (id := 11) (by kernel_rfl) h K
theorem g6p11111111 {R : Type} (A : Ar) (n : Nat) (K : Ex → St → Option R) (s : St) : g6D A n [true, true, true, true, true, true, true, true] K s = K .ret s := by kernel_rfl
theorem g6R10 {R : Type} (A : Ar) (n : Nat) (K : Ex → St → Option R) (x0 : List Nat) (x1 : Nat) (x2 : Nat) (x3 : Bool) (x4 : Nat) (x5 : Nat) (x6 : Int) (x7 : Nat) (x8 : List Nat) : g6D A n [true, true, true, true, true, true, false, true, false, false, true, false, false] K ⟨[(0, (.v (.cell (.str x0)))), (1, (.v (.cell (.nat .u32 x1)))), (2, (.v (.cell (.nat .u32 x2)))), (7, (.v (.cell (.bool x3)))), (8, (.v (.cell (.nat .u64 x4)))), (9, (.v (.cell (.sl 7000 none x5 1)))), (10, (.v (.cell (.int .i64 x6))))], [(7000, ⟨[.nums .u8 x7 x8], 5, 2⟩)]⟩ = match (generalizing := false) A.neg (A.ib .mul .i64 8 x6) with
    | true => none
    | false => match (generalizing := false) A.neg x6 with
      | true => none
      | false => match (generalizing := false) A.lt (A.toN x6) x5 with
        | true => K .normal ⟨[(36, (.v (.cell (.ptr 7000 0 (some ⟨A.toN x6, 1, x5, A.toN x6, 0, 1⟩))))), (35, (.v (.cell (.nat .u8 (A.n2n .u8 (A.nsh .shr .u64 x4 (A.toN (A.ib .mul .i64 8 x6)))))))), (34, (.v (.cell (.nat .u64 (A.nsh .shr .u64 x4 (A.toN (A.ib .mul .i64 8 x6))))))), (33, (.v (.cell (.int .i64 (A.ib .mul .i64 8 x6))))), (32, (.v (.cell (.int .i64 x6)))), (31, (.v (.cell (.nat .u64 x4)))), (30, (.v (.cell (.int .i64 x6)))), (29, (.v (.cell (.sl 7000 none x5 1)))), (0, (.v (.cell (.str x0)))), (1, (.v (.cell (.nat .u32 x1)))), (2, (.v (.cell (.nat .u32 x2)))), (7, (.v (.cell (.bool x3)))), (8, (.v (.cell (.nat .u64 x4)))), (9, (.v (.cell (.sl 7000 none x5 1)))), (10, (.v (.cell (.int .i64 x6))))], [(7000, ⟨[.nums .u8 x7 (x8.set (A.toN x6) (A.n2n .u8 (A.nsh .shr .u64 x4 (A.toN (A.ib .mul .i64 8 x6)))))], 5, 2⟩)]⟩
        | false => none := by kernel_rfl
theorem g6R9 {R : Type} (A : Ar) (n : Nat) (K : Ex → St → Option R) (x0 : List Nat) (x1 : Nat) (x2 : Nat) (x3 : Bool) (x4 : Nat) (x5 : Nat) (x6 : Int) (x7 : Nat) (x8 : List Nat) : g6D A n [true, true, true, true, true, true, false, true, false, false, true, true] K ⟨[(0, (.v (.cell (.str x0)))), (1, (.v (.cell (.nat .u32 x1)))), (2, (.v (.cell (.nat .u32 x2)))), (7, (.v (.cell (.bool x3)))), (8, (.v (.cell (.nat .u64 x4)))), (9, (.v (.cell (.sl 7000 none x5 1)))), (10, (.v (.cell (.int .i64 x6))))], [(7000, ⟨[.nums .u8 x7 x8], 5, 2⟩)]⟩ = K .normal ⟨[(10, (.v (.cell (.int .i64 (A.ib .add .i64 x6 1))))), (28, (.v (.cell (.int .i64 (A.ib .add .i64 x6 1))))), (27, (.v (.cell (.int .i64 x6)))), (0, (.v (.cell (.str x0)))), (1, (.v (.cell (.nat .u32 x1)))), (2, (.v (.cell (.nat .u32 x2)))), (7, (.v (.cell (.bool x3)))), (8, (.v (.cell (.nat .u64 x4)))), (9, (.v (.cell (.sl 7000 none x5 1)))), (10, (.v (.cell (.int .i64 x6))))], [(7000, ⟨[.nums .u8 x7 x8], 5, 2⟩)]⟩ := by kernel_rfl
theorem g6R11 {R : Type} (A : Ar) (n : Nat) (K : Ex → St → Option R) (x0 : List Nat) (x1 : Nat) (x2 : Nat) (x3 : Bool) (x4 : Nat) (x5 : Nat) (x6 : List Nat) : g6D A n [true, true, true, true, true, true, true, false] K ⟨[(0, (.v (.cell (.str x0)))), (1, (.v (.cell (.nat .u32 x1)))), (2, (.v (.cell (.nat .u32 x2)))), (7, (.v (.cell (.bool x3)))), (9, (.v (.cell (.sl 7000 none x4 1))))], [(7000, ⟨[.nums .u8 x5 x6], 5, 2⟩)]⟩ = match (generalizing := false) x3 with
    | true => match (generalizing := false) A.le ([0].length + x0.length) 9223372036854775807 with
      | true => match (generalizing := false) g10ok ([0] ++ x0) with
        | true => match (generalizing := false) g14ok x0 [0, 1] [] with
          | true => match (generalizing := false) A.sc .eql (g10r0 ([0] ++ x0)) (g14r0 x0 [0, 1] []) with
            | true => match (generalizing := false) g17ok x1 with
              | true => match (generalizing := false) g17ok x2 with
                | true => match (generalizing := false) g14ok (g17r0 x1) (g17r0 x2) [] with
                  | true => match (generalizing := false) A.sc .eql (g14r0 (g17r0 x1) (g17r0 x2) []) (x6.take x4) with
                    | true => K .normal ⟨[(6, (.v (.cell (.bool true)))), (55, (.v (.cell (.bool true)))), (54, (.v (.cell (.bool true)))), (53, (.v (.cell (.str (x6.take x4))))), (52, (.v (.cell (.sl 7000 none x4 1)))), (51, (.v (.cell (.str (g14r0 (g17r0 x1) (g17r0 x2) []))))), (50, (.v (.cell (.str (g17r0 x2))))), (49, (.v (.cell (.nat .u32 x2)))), (48, (.v (.cell (.str (g17r0 x1))))), (47, (.v (.cell (.nat .u32 x1)))), (46, (.v (.cell (.bool true)))), (45, (.v (.cell (.bool true)))), (44, (.v (.cell (.bool true)))), (43, (.v (.cell (.str (g14r0 x0 [0, 1] []))))), (42, (.v (.cell (.str x0)))), (41, (.v (.cell (.str (g10r0 ([0] ++ x0)))))), (40, (.v (.cell (.str ([0] ++ x0))))), (39, (.v (.cell (.str x0)))), (38, (.v (.cell (.bool true)))), (37, (.v (.cell (.bool true)))), (0, (.v (.cell (.str x0)))), (1, (.v (.cell (.nat .u32 x1)))), (2, (.v (.cell (.nat .u32 x2)))), (7, (.v (.cell (.bool x3)))), (9, (.v (.cell (.sl 7000 none x4 1))))], [(7000, ⟨[.nums .u8 x5 x6], 5, 2⟩)]⟩
                    | false => K .normal ⟨[(6, (.v (.cell (.bool false)))), (55, (.v (.cell (.bool false)))), (54, (.v (.cell (.bool false)))), (53, (.v (.cell (.str (x6.take x4))))), (52, (.v (.cell (.sl 7000 none x4 1)))), (51, (.v (.cell (.str (g14r0 (g17r0 x1) (g17r0 x2) []))))), (50, (.v (.cell (.str (g17r0 x2))))), (49, (.v (.cell (.nat .u32 x2)))), (48, (.v (.cell (.str (g17r0 x1))))), (47, (.v (.cell (.nat .u32 x1)))), (46, (.v (.cell (.bool true)))), (45, (.v (.cell (.bool true)))), (44, (.v (.cell (.bool true)))), (43, (.v (.cell (.str (g14r0 x0 [0, 1] []))))), (42, (.v (.cell (.str x0)))), (41, (.v (.cell (.str (g10r0 ([0] ++ x0)))))), (40, (.v (.cell (.str ([0] ++ x0))))), (39, (.v (.cell (.str x0)))), (38, (.v (.cell (.bool true)))), (37, (.v (.cell (.bool true)))), (0, (.v (.cell (.str x0)))), (1, (.v (.cell (.nat .u32 x1)))), (2, (.v (.cell (.nat .u32 x2)))), (7, (.v (.cell (.bool x3)))), (9, (.v (.cell (.sl 7000 none x4 1))))], [(7000, ⟨[.nums .u8 x5 x6], 5, 2⟩)]⟩
                  | false => none
                | false => none
              | false => none
            | false => K .normal ⟨[(6, (.v (.cell (.bool false)))), (55, (.v (.cell (.bool false)))), (54, (.v (.cell .un))), (53, (.v (.cell .un))), (52, (.v (.cell .un))), (51, (.v (.cell .un))), (50, (.v (.cell .un))), (49, (.v (.cell .un))), (48, (.v (.cell .un))), (47, (.v (.cell .un))), (46, (.v (.cell (.bool false)))), (45, (.v (.cell (.bool false)))), (44, (.v (.cell (.bool false)))), (43, (.v (.cell (.str (g14r0 x0 [0, 1] []))))), (42, (.v (.cell (.str x0)))), (41, (.v (.cell (.str (g10r0 ([0] ++ x0)))))), (40, (.v (.cell (.str ([0] ++ x0))))), (39, (.v (.cell (.str x0)))), (38, (.v (.cell (.bool true)))), (37, (.v (.cell (.bool true)))), (0, (.v (.cell (.str x0)))), (1, (.v (.cell (.nat .u32 x1)))), (2, (.v (.cell (.nat .u32 x2)))), (7, (.v (.cell (.bool x3)))), (9, (.v (.cell (.sl 7000 none x4 1))))], [(7000, ⟨[.nums .u8 x5 x6], 5, 2⟩)]⟩
          | false => none
        | false => none
      | false => none
    | false => K .normal ⟨[(6, (.v (.cell (.bool false)))), (55, (.v (.cell (.bool false)))), (54, (.v (.cell .un))), (53, (.v (.cell .un))), (52, (.v (.cell .un))), (51, (.v (.cell .un))), (50, (.v (.cell .un))), (49, (.v (.cell .un))), (48, (.v (.cell .un))), (47, (.v (.cell .un))), (46, (.v (.cell (.bool false)))), (45, (.v (.cell (.bool false)))), (44, (.v (.cell .un))), (43, (.v (.cell .un))), (42, (.v (.cell .un))), (41, (.v (.cell .un))), (40, (.v (.cell .un))), (39, (.v (.cell .un))), (38, (.v (.cell (.bool false)))), (37, (.v (.cell (.bool false)))), (0, (.v (.cell (.str x0)))), (1, (.v (.cell (.nat .u32 x1)))), (2, (.v (.cell (.nat .u32 x2)))), (7, (.v (.cell (.bool x3)))), (9, (.v (.cell (.sl 7000 none x4 1))))], [(7000, ⟨[.nums .u8 x5 x6], 5, 2⟩)]⟩ := by kernel_rfl
theorem g6R8 {R : Type} (A : Ar) (n : Nat) (K : Ex → St → Option R) (x0 : List Nat) (x1 : Nat) (x2 : Nat) (x3 : Bool) (x4 : Nat) (x5 : Nat) (x6 : Int) (x7 : Nat) (x8 : List Nat) : g6D A n [true, true, true, true, true, true, false, true, false, false, false, false] K ⟨[(0, (.v (.cell (.str x0)))), (1, (.v (.cell (.nat .u32 x1)))), (2, (.v (.cell (.nat .u32 x2)))), (7, (.v (.cell (.bool x3)))), (8, (.v (.cell (.nat .u64 x4)))), (9, (.v (.cell (.sl 7000 none x5 1)))), (10, (.v (.cell (.int .i64 x6))))], [(7000, ⟨[.nums .u8 x7 x8], 5, 2⟩)]⟩ = K .normal ⟨[(26, (.v (.cell (.bool (A.ic .lss x6 8))))), (25, (.v (.cell (.int .i64 x6)))), (0, (.v (.cell (.str x0)))), (1, (.v (.cell (.nat .u32 x1)))), (2, (.v (.cell (.nat .u32 x2)))), (7, (.v (.cell (.bool x3)))), (8, (.v (.cell (.nat .u64 x4)))), (9, (.v (.cell (.sl 7000 none x5 1)))), (10, (.v (.cell (.int .i64 x6))))], [(7000, ⟨[.nums .u8 x7 x8], 5, 2⟩)]⟩ := by kernel_rfl
theorem g6R4 {R : Type} (A : Ar) (n : Nat) (K : Ex → St → Option R) (x0 : List Nat) (x1 : Nat) (x2 : Nat) (x3 : Bool) : g6D A n [true, true, true, false] K ⟨[(0, (.v (.cell (.str x0)))), (1, (.v (.cell (.nat .u32 x1)))), (2, (.v (.cell (.nat .u32 x2)))), (7, (.v (.cell (.bool x3))))], []⟩ = match (generalizing := false) A.neg (A.mn (A.ofN x0.length) 31) with
    | true => none
    | false => match (generalizing := false) A.le (A.toN (A.mn (A.ofN x0.length) 31)) x0.length with
      | true => K .normal ⟨[(0, (.v (.cell (.str ((x0.take (A.toN (A.mn (A.ofN x0.length) 31))).drop 0))))), (18, (.v (.cell (.str ((x0.take (A.toN (A.mn (A.ofN x0.length) 31))).drop 0))))), (17, (.v (.cell (.int .i64 (A.mn (A.ofN x0.length) 31))))), (16, (.v (.cell (.int .i64 (A.ofN x0.length))))), (15, (.v (.cell (.str x0)))), (14, (.v (.cell (.str x0)))), (0, (.v (.cell (.str x0)))), (1, (.v (.cell (.nat .u32 x1)))), (2, (.v (.cell (.nat .u32 x2)))), (7, (.v (.cell (.bool x3))))], []⟩
      | false => none := by kernel_rfl
theorem g6R5 {R : Type} (A : Ar) (n : Nat) (K : Ex → St → Option R) (x0 : List Nat) (x1 : Nat) (x2 : Nat) (x3 : Bool) : g6D A n [true, true, true, true, false] K ⟨[(0, (.v (.cell (.str x0)))), (1, (.v (.cell (.nat .u32 x1)))), (2, (.v (.cell (.nat .u32 x2)))), (7, (.v (.cell (.bool x3))))], []⟩ = K .normal ⟨[(8, (.v (.cell (.nat .u64 (A.nb .mul .u64 x1 x2))))), (23, (.v (.cell (.nat .u64 (A.nb .mul .u64 x1 x2))))), (22, (.v (.cell (.nat .u64 x2)))), (21, (.v (.cell (.nat .u32 x2)))), (20, (.v (.cell (.nat .u64 x1)))), (19, (.v (.cell (.nat .u32 x1)))), (0, (.v (.cell (.str x0)))), (1, (.v (.cell (.nat .u32 x1)))), (2, (.v (.cell (.nat .u32 x2)))), (7, (.v (.cell (.bool x3))))], []⟩ := by kernel_rfl
theorem g6R6 {R : Type} (A : Ar) (n : Nat) (K : Ex → St → Option R) (x0 : List Nat) (x1 : Nat) (x2 : Nat) (x3 : Bool) (x4 : Nat) : g6D A n [true, true, true, true, true, false] K ⟨[(0, (.v (.cell (.str x0)))), (1, (.v (.cell (.nat .u32 x1)))), (2, (.v (.cell (.nat .u32 x2)))), (7, (.v (.cell (.bool x3)))), (8, (.v (.cell (.nat .u64 x4))))], []⟩ = match (generalizing := false) A.le 32 32 with
    | true => match (generalizing := false) A.le 32 140737488355328 with
      | true => K .normal ⟨[(9, (.v (.cell (.sl 7000 none 32 1)))), (24, (.v (.cell (.sl 7000 none 32 1)))), (0, (.v (.cell (.str x0)))), (1, (.v (.cell (.nat .u32 x1)))), (2, (.v (.cell (.nat .u32 x2)))), (7, (.v (.cell (.bool x3)))), (8, (.v (.cell (.nat .u64 x4))))], [(7000, ⟨[.nums .u8 32 (List.replicate 32 0)], 5, 2⟩)]⟩
      | false => none
    | false => none := by kernel_rfl
theorem g6R7 {R : Type} (A : Ar) (n : Nat) (K : Ex → St → Option R) (x0 : List Nat) (x1 : Nat) (x2 : Nat) (x3 : Bool) (x4 : Nat) (x5 : Nat) (x6 : Nat) (x7 : List Nat) : g6D A n [true, true, true, true, true, true, false, false] K ⟨[(0, (.v (.cell (.str x0)))), (1, (.v (.cell (.nat .u32 x1)))), (2, (.v (.cell (.nat .u32 x2)))), (7, (.v (.cell (.bool x3)))), (8, (.v (.cell (.nat .u64 x4)))), (9, (.v (.cell (.sl 7000 none x5 1))))], [(7000, ⟨[.nums .u8 x6 x7], 5, 2⟩)]⟩ = K .normal ⟨[(10, (.v (.cell (.int .i64 0)))), (0, (.v (.cell (.str x0)))), (1, (.v (.cell (.nat .u32 x1)))), (2, (.v (.cell (.nat .u32 x2)))), (7, (.v (.cell (.bool x3)))), (8, (.v (.cell (.nat .u64 x4)))), (9, (.v (.cell (.sl 7000 none x5 1))))], [(7000, ⟨[.nums .u8 x6 x7], 5, 2⟩)]⟩ := by kernel_rfl
theorem g6R0 {R : Type} (A : Ar) (n : Nat) (K : Ex → St → Option R) (x0 : List Nat) (x1 : Nat) (x2 : Nat) : g6D A n [false] K ⟨[(0, (.v (.cell (.str x0)))), (1, (.v (.cell (.nat .u32 x1)))), (2, (.v (.cell (.nat .u32 x2))))], []⟩ = K .normal ⟨[(6, (.v (.cell (.bool false)))), (0, (.v (.cell (.str x0)))), (1, (.v (.cell (.nat .u32 x1)))), (2, (.v (.cell (.nat .u32 x2))))], []⟩ := by kernel_rfl
theorem g6R1 {R : Type} (A : Ar) (n : Nat) (K : Ex → St → Option R) (x0 : List Nat) (x1 : Nat) (x2 : Nat) : g6D A n [true, false] K ⟨[(0, (.v (.cell (.str x0)))), (1, (.v (.cell (.nat .u32 x1)))), (2, (.v (.cell (.nat .u32 x2))))], []⟩ = match (generalizing := false) g9ok with
    | true => K .normal ⟨[(7, (.v (.cell (.bool g9r0)))), (11, (.v (.cell (.bool g9r0)))), (0, (.v (.cell (.str x0)))), (1, (.v (.cell (.nat .u32 x1)))), (2, (.v (.cell (.nat .u32 x2))))], []⟩
    | false => none := by kernel_rfl
theorem g6R2 {R : Type} (A : Ar) (n : Nat) (K : Ex → St → Option R) (x0 : List Nat) (x1 : Nat) (x2 : Nat) (x3 : Bool) : g6D A n [true, true, false, false] K ⟨[(0, (.v (.cell (.str x0)))), (1, (.v (.cell (.nat .u32 x1)))), (2, (.v (.cell (.nat .u32 x2)))), (7, (.v (.cell (.bool x3))))], []⟩ = K .normal ⟨[(13, (.v (.cell (.bool (!x3))))), (12, (.v (.cell (.bool x3)))), (0, (.v (.cell (.str x0)))), (1, (.v (.cell (.nat .u32 x1)))), (2, (.v (.cell (.nat .u32 x2)))), (7, (.v (.cell (.bool x3))))], []⟩ := by kernel_rfl
theorem g6R3 {R : Type} (A : Ar) (n : Nat) (K : Ex → St → Option R)  : g6D A n [true, true, false, true, false, false] K ⟨[], []⟩ = K .normal ⟨[(6, (.v (.cell (.bool false))))], []⟩ := by kernel_rfl
def g6J10 {R : Type} (A : Ar) (n : Nat) (kk : AV → Heap → Option R) (lg6L8 : List Nat → Nat → Nat → Bool → Nat → Nat → Int → Nat → List Nat → Option R) (x0 : List Nat) (x1 : Nat) (x2 : Nat) (x3 : Bool) (x4 : Nat) (x5 : Nat) (x6 : Int) (x7 : Nat) (x8 : List Nat) : Option R :=
  match (generalizing := false) A.neg (A.ib .mul .i64 8 x6) with
  | true => none
  | false => match (generalizing := false) A.neg x6 with
    | true => none
    | false => match (generalizing := false) A.lt (A.toN x6) x5 with
      | true => lg6L8 x0 x1 x2 x3 x4 x5 (A.ib .add .i64 x6 1) x7 (x8.set (A.toN x6) (A.n2n .u8 (A.nsh .shr .u64 x4 (A.toN (A.ib .mul .i64 8 x6)))))
      | false => none
set_option maxRecDepth 100000 in
theorem g6J10_eq {R : Type} (A : Ar) (n : Nat) (kk : AV → Heap → Option R) (m0 : Nat) (lg6L8 : List Nat → Nat → Nat → Bool → Nat → Nat → Int → Nat → List Nat → Option R) 
    (hg6L8 : ∀ (s : St) (x0 : List Nat) (x1 : Nat) (x2 : Nat) (x3 : Bool) (x4 : Nat) (x5 : Nat) (x6 : Int) (x7 : Nat) (x8 : List Nat), keep g6an 8 s = ⟨[(0, (.v (.cell (.str x0)))), (1, (.v (.cell (.nat .u32 x1)))), (2, (.v (.cell (.nat .u32 x2)))), (7, (.v (.cell (.bool x3)))), (8, (.v (.cell (.nat .u64 x4)))), (9, (.v (.cell (.sl 7000 none x5 1)))), (10, (.v (.cell (.int .i64 x6))))], [(7000, ⟨[.nums .u8 x7 x8], 5, 2⟩)]⟩ → g6V A n [true, true, true, true, true, true, false, true, false, false] m0 (blockK 0 (g6Q A n [true, true, true, true, true, true, true] (g6T kk))) s = lg6L8 x0 x1 x2 x3 x4 x5 x6 x7 x8) (s : St) (x0 : List Nat) (x1 : Nat) (x2 : Nat) (x3 : Bool) (x4 : Nat) (x5 : Nat) (x6 : Int) (x7 : Nat) (x8 : List Nat) (h : keep g6an 10 s = ⟨[(0, (.v (.cell (.str x0)))), (1, (.v (.cell (.nat .u32 x1)))), (2, (.v (.cell (.nat .u32 x2)))), (7, (.v (.cell (.bool x3)))), (8, (.v (.cell (.nat .u64 x4)))), (9, (.v (.cell (.sl 7000 none x5 1)))), (10, (.v (.cell (.int .i64 x6))))], [(7000, ⟨[.nums .u8 x7 x8], 5, 2⟩)]⟩) :
    g6D A n [true, true, true, true, true, true, false, true, false, false, true] (g6W A n [true, true, true, true, true, true, false, true, false, false] m0 (blockK 0 (g6Q A n [true, true, true, true, true, true, true] (g6T kk)))) s = g6J10 A n kk lg6L8 x0 x1 x2 x3 x4 x5 x6 x7 x8 := by
  have h1 := (g6Wn A n _ _ _ _).trans (hg6L8 ⟨[(10, (.v (.cell (.int .i64 (A.ib .add .i64 x6 1))))), (28, (.v (.cell (.int .i64 (A.ib .add .i64 x6 1))))), (27, (.v (.cell (.int .i64 x6)))), (0, (.v (.cell (.str x0)))), (1, (.v (.cell (.nat .u32 x1)))), (2, (.v (.cell (.nat .u32 x2)))), (7, (.v (.cell (.bool x3)))), (8, (.v (.cell (.nat .u64 x4)))), (9, (.v (.cell (.sl 7000 none x5 1)))), (10, (.v (.cell (.int .i64 x6))))], [(7000, ⟨[.nums .u8 x7 (x8.set (A.toN x6) (A.n2n .u8 (A.nsh .shr .u64 x4 (A.toN (A.ib .mul .i64 8 x6)))))], 5, 2⟩)]⟩ x0 x1 x2 x3 x4 x5 (A.ib .add .i64 x6 1) x7 (x8.set (A.toN x6) (A.n2n .u8 (A.nsh .shr .u64 x4 (A.toN (A.ib .mul .i64 8 x6))))) (by kernel_rfl))
  have h2 := (g6p111111010011 A n (g6W A n [true, true, true, true, true, true, false, true, false, false] m0 (blockK 0 (g6Q A n [true, true, true, true, true, true, true] (g6T kk)))) ⟨[(36, (.v (.cell (.ptr 7000 0 (some ⟨A.toN x6, 1, x5, A.toN x6, 0, 1⟩))))), (35, (.v (.cell (.nat .u8 (A.n2n .u8 (A.nsh .shr .u64 x4 (A.toN (A.ib .mul .i64 8 x6)))))))), (34, (.v (.cell (.nat .u64 (A.nsh .shr .u64 x4 (A.toN (A.ib .mul .i64 8 x6))))))), (33, (.v (.cell (.int .i64 (A.ib .mul .i64 8 x6))))), (32, (.v (.cell (.int .i64 x6)))), (31, (.v (.cell (.nat .u64 x4)))), (30, (.v (.cell (.int .i64 x6)))), (29, (.v (.cell (.sl 7000 none x5 1)))), (0, (.v (.cell (.str x0)))), (1, (.v (.cell (.nat .u32 x1)))), (2, (.v (.cell (.nat .u32 x2)))), (7, (.v (.cell (.bool x3)))), (8, (.v (.cell (.nat .u64 x4)))), (9, (.v (.cell (.sl 7000 none x5 1)))), (10, (.v (.cell (.int .i64 x6))))], [(7000, ⟨[.nums .u8 x7 (x8.set (A.toN x6) (A.n2n .u8 (A.nsh .shr .u64 x4 (A.toN (A.ib .mul .i64 8 x6)))))], 5, 2⟩)]⟩ ⟨[(0, (.v (.cell (.str x0)))), (1, (.v (.cell (.nat .u32 x1)))), (2, (.v (.cell (.nat .u32 x2)))), (7, (.v (.cell (.bool x3)))), (8, (.v (.cell (.nat .u64 x4)))), (9, (.v (.cell (.sl 7000 none x5 1)))), (10, (.v (.cell (.int .i64 x6))))], [(7000, ⟨[.nums .u8 x7 (x8.set (A.toN x6) (A.n2n .u8 (A.nsh .shr .u64 x4 (A.toN (A.ib .mul .i64 8 x6)))))], 5, 2⟩)]⟩ (by kernel_rfl)).trans (g6R9 A n (g6W A n [true, true, true, true, true, true, false, true, false, false] m0 (blockK 0 (g6Q A n [true, true, true, true, true, true, true] (g6T kk)))) x0 x1 x2 x3 x4 x5 x6 x7 (x8.set (A.toN x6) (A.n2n .u8 (A.nsh .shr .u64 x4 (A.toN (A.ib .mul .i64 8 x6))))))
  rw [h1] at h2
  have h3 := (g6Qn A n _ _ _).trans h2
  have h4 := (blockK_n 1 _ _).trans h3
  have h5 := (g6p1111110100100 A n (blockK 1 (g6Q A n [true, true, true, true, true, true, false, true, false, false, true, true] (g6W A n [true, true, true, true, true, true, false, true, false, false] m0 (blockK 0 (g6Q A n [true, true, true, true, true, true, true] (g6T kk)))))) ⟨[(0, (.v (.cell (.str x0)))), (1, (.v (.cell (.nat .u32 x1)))), (2, (.v (.cell (.nat .u32 x2)))), (7, (.v (.cell (.bool x3)))), (8, (.v (.cell (.nat .u64 x4)))), (9, (.v (.cell (.sl 7000 none x5 1)))), (10, (.v (.cell (.int .i64 x6))))], [(7000, ⟨[.nums .u8 x7 x8], 5, 2⟩)]⟩ ⟨[(0, (.v (.cell (.str x0)))), (1, (.v (.cell (.nat .u32 x1)))), (2, (.v (.cell (.nat .u32 x2)))), (7, (.v (.cell (.bool x3)))), (8, (.v (.cell (.nat .u64 x4)))), (9, (.v (.cell (.sl 7000 none x5 1)))), (10, (.v (.cell (.int .i64 x6))))], [(7000, ⟨[.nums .u8 x7 x8], 5, 2⟩)]⟩ (by kernel_rfl)).trans (g6R10 A n (blockK 1 (g6Q A n [true, true, true, true, true, true, false, true, false, false, true, true] (g6W A n [true, true, true, true, true, true, false, true, false, false] m0 (blockK 0 (g6Q A n [true, true, true, true, true, true, true] (g6T kk)))))) x0 x1 x2 x3 x4 x5 x6 x7 x8)
  rw [h4] at h5
  have h6 := (g6p111111010010 A n _ _).trans h5
  have h7 := (g6p11111101001 A n _ _).trans h6
  exact (codeD_first (s' := ⟨[(0, (.v (.cell (.str x0)))), (1, (.v (.cell (.nat .u32 x1)))), (2, (.v (.cell (.nat .u32 x2)))), (7, (.v (.cell (.bool x3)))), (8, (.v (.cell (.nat .u64 x4)))), (9, (.v (.cell (.sl 7000 none x5 1)))), (10, (.v (.cell (.int .i64 x6))))], [(7000, ⟨[.nums .u8 x7 x8], 5, 2⟩)]⟩) (id := 10) (by kernel_rfl) (h.trans (by kernel_rfl)) _).trans (h7.trans (by kernel_rfl))
def g6J11 {R : Type} (A : Ar) (n : Nat) (kk : AV → Heap → Option R)  (x0 : List Nat) (x1 : Nat) (x2 : Nat) (x3 : Bool) (x4 : Nat) (x5 : Nat) (x6 : List Nat) : Option R :=
  match (generalizing := false) x3 with
  | true => match (generalizing := false) A.le ([0].length + x0.length) 9223372036854775807 with
    | true => match (generalizing := false) g10ok ([0] ++ x0) with
      | true => match (generalizing := false) g14ok x0 [0, 1] [] with
        | true => match (generalizing := false) A.sc .eql (g10r0 ([0] ++ x0)) (g14r0 x0 [0, 1] []) with
          | true => match (generalizing := false) g17ok x1 with
            | true => match (generalizing := false) g17ok x2 with
              | true => match (generalizing := false) g14ok (g17r0 x1) (g17r0 x2) [] with
                | true => match (generalizing := false) A.sc .eql (g14r0 (g17r0 x1) (g17r0 x2) []) (x6.take x4) with
                  | true => kk (.v (.cell (.bool true))) [(7000, ⟨[.nums .u8 x5 x6], 5, 2⟩)]
                  | false => kk (.v (.cell (.bool false))) [(7000, ⟨[.nums .u8 x5 x6], 5, 2⟩)]
                | false => none
              | false => none
            | false => none
          | false => kk (.v (.cell (.bool false))) [(7000, ⟨[.nums .u8 x5 x6], 5, 2⟩)]
        | false => none
      | false => none
    | false => none
  | false => kk (.v (.cell (.bool false))) [(7000, ⟨[.nums .u8 x5 x6], 5, 2⟩)]
set_option maxRecDepth 100000 in
theorem g6J11_eq {R : Type} (A : Ar) (n : Nat) (kk : AV → Heap → Option R)    (s : St) (x0 : List Nat) (x1 : Nat) (x2 : Nat) (x3 : Bool) (x4 : Nat) (x5 : Nat) (x6 : List Nat) (h : keep g6an 11 s = ⟨[(0, (.v (.cell (.str x0)))), (1, (.v (.cell (.nat .u32 x1)))), (2, (.v (.cell (.nat .u32 x2)))), (7, (.v (.cell (.bool x3)))), (9, (.v (.cell (.sl 7000 none x4 1))))], [(7000, ⟨[.nums .u8 x5 x6], 5, 2⟩)]⟩) :
    g6D A n [true, true, true, true, true, true, true] (g6T kk) s = g6J11 A n kk  x0 x1 x2 x3 x4 x5 x6 := by
  have h1 : (g6T kk) .ret ⟨[(6, (.v (.cell (.bool true)))), (55, (.v (.cell (.bool true)))), (54, (.v (.cell (.bool true)))), (53, (.v (.cell (.str (x6.take x4))))), (52, (.v (.cell (.sl 7000 none x4 1)))), (51, (.v (.cell (.str (g14r0 (g17r0 x1) (g17r0 x2) []))))), (50, (.v (.cell (.str (g17r0 x2))))), (49, (.v (.cell (.nat .u32 x2)))), (48, (.v (.cell (.str (g17r0 x1))))), (47, (.v (.cell (.nat .u32 x1)))), (46, (.v (.cell (.bool true)))), (45, (.v (.cell (.bool true)))), (44, (.v (.cell (.bool true)))), (43, (.v (.cell (.str (g14r0 x0 [0, 1] []))))), (42, (.v (.cell (.str x0)))), (41, (.v (.cell (.str (g10r0 ([0] ++ x0)))))), (40, (.v (.cell (.str ([0] ++ x0))))), (39, (.v (.cell (.str x0)))), (38, (.v (.cell (.bool true)))), (37, (.v (.cell (.bool true)))), (0, (.v (.cell (.str x0)))), (1, (.v (.cell (.nat .u32 x1)))), (2, (.v (.cell (.nat .u32 x2)))), (7, (.v (.cell (.bool x3)))), (9, (.v (.cell (.sl 7000 none x4 1))))], [(7000, ⟨[.nums .u8 x5 x6], 5, 2⟩)]⟩ = kk (.v (.cell (.bool true))) [(7000, ⟨[.nums .u8 x5 x6], 5, 2⟩)] := by kernel_rfl
  have h2 := (g6p11111111 A n _ _).trans h1
  have h3 := (g6Qn A n _ _ _).trans h2
  have h4 : (g6T kk) .ret ⟨[(6, (.v (.cell (.bool false)))), (55, (.v (.cell (.bool false)))), (54, (.v (.cell (.bool false)))), (53, (.v (.cell (.str (x6.take x4))))), (52, (.v (.cell (.sl 7000 none x4 1)))), (51, (.v (.cell (.str (g14r0 (g17r0 x1) (g17r0 x2) []))))), (50, (.v (.cell (.str (g17r0 x2))))), (49, (.v (.cell (.nat .u32 x2)))), (48, (.v (.cell (.str (g17r0 x1))))), (47, (.v (.cell (.nat .u32 x1)))), (46, (.v (.cell (.bool true)))), (45, (.v (.cell (.bool true)))), (44, (.v (.cell (.bool true)))), (43, (.v (.cell (.str (g14r0 x0 [0, 1] []))))), (42, (.v (.cell (.str x0)))), (41, (.v (.cell (.str (g10r0 ([0] ++ x0)))))), (40, (.v (.cell (.str ([0] ++ x0))))), (39, (.v (.cell (.str x0)))), (38, (.v (.cell (.bool true)))), (37, (.v (.cell (.bool true)))), (0, (.v (.cell (.str x0)))), (1, (.v (.cell (.nat .u32 x1)))), (2, (.v (.cell (.nat .u32 x2)))), (7, (.v (.cell (.bool x3)))), (9, (.v (.cell (.sl 7000 none x4 1))))], [(7000, ⟨[.nums .u8 x5 x6], 5, 2⟩)]⟩ = kk (.v (.cell (.bool false))) [(7000, ⟨[.nums .u8 x5 x6], 5, 2⟩)] := by kernel_rfl
  have h5 := (g6p11111111 A n _ _).trans h4
  have h6 := (g6Qn A n _ _ _).trans h5
  have h7 : (g6T kk) .ret ⟨[(6, (.v (.cell (.bool false)))), (55, (.v (.cell (.bool false)))), (54, (.v (.cell .un))), (53, (.v (.cell .un))), (52, (.v (.cell .un))), (51, (.v (.cell .un))), (50, (.v (.cell .un))), (49, (.v (.cell .un))), (48, (.v (.cell .un))), (47, (.v (.cell .un))), (46, (.v (.cell (.bool false)))), (45, (.v (.cell (.bool false)))), (44, (.v (.cell (.bool false)))), (43, (.v (.cell (.str (g14r0 x0 [0, 1] []))))), (42, (.v (.cell (.str x0)))), (41, (.v (.cell (.str (g10r0 ([0] ++ x0)))))), (40, (.v (.cell (.str ([0] ++ x0))))), (39, (.v (.cell (.str x0)))), (38, (.v (.cell (.bool true)))), (37, (.v (.cell (.bool true)))), (0, (.v (.cell (.str x0)))), (1, (.v (.cell (.nat .u32 x1)))), (2, (.v (.cell (.nat .u32 x2)))), (7, (.v (.cell (.bool x3)))), (9, (.v (.cell (.sl 7000 none x4 1))))], [(7000, ⟨[.nums .u8 x5 x6], 5, 2⟩)]⟩ = kk (.v (.cell (.bool false))) [(7000, ⟨[.nums .u8 x5 x6], 5, 2⟩)] := by kernel_rfl
  have h8 := (g6p11111111 A n _ _).trans h7
  have h9 := (g6Qn A n _ _ _).trans h8
  have h10 : (g6T kk) .ret ⟨[(6, (.v (.cell (.bool false)))), (55, (.v (.cell (.bool false)))), (54, (.v (.cell .un))), (53, (.v (.cell .un))), (52, (.v (.cell .un))), (51, (.v (.cell .un))), (50, (.v (.cell .un))), (49, (.v (.cell .un))), (48, (.v (.cell .un))), (47, (.v (.cell .un))), (46, (.v (.cell (.bool false)))), (45, (.v (.cell (.bool false)))), (44, (.v (.cell .un))), (43, (.v (.cell .un))), (42, (.v (.cell .un))), (41, (.v (.cell .un))), (40, (.v (.cell .un))), (39, (.v (.cell .un))), (38, (.v (.cell (.bool false)))), (37, (.v (.cell (.bool false)))), (0, (.v (.cell (.str x0)))), (1, (.v (.cell (.nat .u32 x1)))), (2, (.v (.cell (.nat .u32 x2)))), (7, (.v (.cell (.bool x3)))), (9, (.v (.cell (.sl 7000 none x4 1))))], [(7000, ⟨[.nums .u8 x5 x6], 5, 2⟩)]⟩ = kk (.v (.cell (.bool false))) [(7000, ⟨[.nums .u8 x5 x6], 5, 2⟩)] := by kernel_rfl
  have h11 := (g6p11111111 A n _ _).trans h10
  have h12 := (g6Qn A n _ _ _).trans h11
  have h13 := (g6p11111110 A n (g6Q A n [true, true, true, true, true, true, true, true] (g6T kk)) ⟨[(0, (.v (.cell (.str x0)))), (1, (.v (.cell (.nat .u32 x1)))), (2, (.v (.cell (.nat .u32 x2)))), (7, (.v (.cell (.bool x3)))), (9, (.v (.cell (.sl 7000 none x4 1))))], [(7000, ⟨[.nums .u8 x5 x6], 5, 2⟩)]⟩ ⟨[(0, (.v (.cell (.str x0)))), (1, (.v (.cell (.nat .u32 x1)))), (2, (.v (.cell (.nat .u32 x2)))), (7, (.v (.cell (.bool x3)))), (9, (.v (.cell (.sl 7000 none x4 1))))], [(7000, ⟨[.nums .u8 x5 x6], 5, 2⟩)]⟩ (by kernel_rfl)).trans (g6R11 A n (g6Q A n [true, true, true, true, true, true, true, true] (g6T kk)) x0 x1 x2 x3 x4 x5 x6)
  rw [h3, h6, h9, h12] at h13
  have h14 := (g6p1111111 A n _ _).trans h13
  exact (codeD_first (s' := ⟨[(0, (.v (.cell (.str x0)))), (1, (.v (.cell (.nat .u32 x1)))), (2, (.v (.cell (.nat .u32 x2)))), (7, (.v (.cell (.bool x3)))), (9, (.v (.cell (.sl 7000 none x4 1))))], [(7000, ⟨[.nums .u8 x5 x6], 5, 2⟩)]⟩) (id := 11) (by kernel_rfl) (h.trans (by kernel_rfl)) _).trans (h14.trans (by kernel_rfl))
def g6L8 {R : Type} (A : Ar) (n : Nat) (kk : AV → Heap → Option R)  : Nat → List Nat → Nat → Nat → Bool → Nat → Nat → Int → Nat → List Nat → Option R
  | 0, _, _, _, _, _, _, _, _, _ => none
  | m + 1, x0, x1, x2, x3, x4, x5, x6, x7, x8 => match (generalizing := false) A.ic .lss x6 8 with
  | true => g6J10 A n kk (g6L8 A n kk  m) x0 x1 x2 x3 x4 x5 x6 x7 x8
  | false => g6J11 A n kk  x0 x1 x2 x3 x5 x7 x8
set_option maxRecDepth 100000 in
theorem g6L8_eq {R : Type} (A : Ar) (n : Nat) (kk : AV → Heap → Option R)    (m : Nat) (s : St) (x0 : List Nat) (x1 : Nat) (x2 : Nat) (x3 : Bool) (x4 : Nat) (x5 : Nat) (x6 : Int) (x7 : Nat) (x8 : List Nat) (h : keep g6an 8 s = ⟨[(0, (.v (.cell (.str x0)))), (1, (.v (.cell (.nat .u32 x1)))), (2, (.v (.cell (.nat .u32 x2)))), (7, (.v (.cell (.bool x3)))), (8, (.v (.cell (.nat .u64 x4)))), (9, (.v (.cell (.sl 7000 none x5 1)))), (10, (.v (.cell (.int .i64 x6))))], [(7000, ⟨[.nums .u8 x7 x8], 5, 2⟩)]⟩) :
    g6V A n [true, true, true, true, true, true, false, true, false, false] m (blockK 0 (g6Q A n [true, true, true, true, true, true, true] (g6T kk))) s = g6L8 A n kk  m x0 x1 x2 x3 x4 x5 x6 x7 x8 := by
  induction m generalizing s x0 x1 x2 x3 x4 x5 x6 x7 x8 with
  | zero => rfl
  | succ m ih =>
    have h1 := (g6Qn A n _ _ _).trans (g6J10_eq A n kk m (g6L8 A n kk  m) ih  ⟨[(26, (.v (.cell (.bool (A.ic .lss x6 8))))), (25, (.v (.cell (.int .i64 x6)))), (0, (.v (.cell (.str x0)))), (1, (.v (.cell (.nat .u32 x1)))), (2, (.v (.cell (.nat .u32 x2)))), (7, (.v (.cell (.bool x3)))), (8, (.v (.cell (.nat .u64 x4)))), (9, (.v (.cell (.sl 7000 none x5 1)))), (10, (.v (.cell (.int .i64 x6))))], [(7000, ⟨[.nums .u8 x7 x8], 5, 2⟩)]⟩ x0 x1 x2 x3 x4 x5 x6 x7 x8 (by kernel_rfl))
    have h2 := (g6p1111110100010 A n _ _).trans h1
    have h3 := (g6Qn A n _ _ _).trans (g6J11_eq A n kk     ⟨[(26, (.v (.cell (.bool (A.ic .lss x6 8))))), (25, (.v (.cell (.int .i64 x6)))), (0, (.v (.cell (.str x0)))), (1, (.v (.cell (.nat .u32 x1)))), (2, (.v (.cell (.nat .u32 x2)))), (7, (.v (.cell (.bool x3)))), (8, (.v (.cell (.nat .u64 x4)))), (9, (.v (.cell (.sl 7000 none x5 1)))), (10, (.v (.cell (.int .i64 x6))))], [(7000, ⟨[.nums .u8 x7 x8], 5, 2⟩)]⟩ x0 x1 x2 x3 x5 x7 x8 (by kernel_rfl))
    have h4 := (blockK_hit 0 _ _).trans h3
    have h5 := (g6We A n [true, true, true, true, true, true, false, true, false, false] m _ _ _).trans h4
    have h6 := (g6Qe A n [true, true, true, true, true, true, false, true, false, false, true] _ _ _).trans h5
    have h7 := (g6p1111110100011 A n _ _).trans h6
    have h8 := g6p111111010001 A n (g6Q A n [true, true, true, true, true, true, false, true, false, false, true] (g6W A n [true, true, true, true, true, true, false, true, false, false] m (blockK 0 (g6Q A n [true, true, true, true, true, true, true] (g6T kk))))) ⟨[(26, (.v (.cell (.bool (A.ic .lss x6 8))))), (25, (.v (.cell (.int .i64 x6)))), (0, (.v (.cell (.str x0)))), (1, (.v (.cell (.nat .u32 x1)))), (2, (.v (.cell (.nat .u32 x2)))), (7, (.v (.cell (.bool x3)))), (8, (.v (.cell (.nat .u64 x4)))), (9, (.v (.cell (.sl 7000 none x5 1)))), (10, (.v (.cell (.int .i64 x6))))], [(7000, ⟨[.nums .u8 x7 x8], 5, 2⟩)]⟩ (A.ic .lss x6 8) (by kernel_rfl)
    rw [h2, h7] at h8
    have h9 := (g6Qn A n _ _ _).trans h8
    have h10 := (g6p111111010000 A n (g6Q A n [true, true, true, true, true, true, false, true, false, false, false, true] (g6Q A n [true, true, true, true, true, true, false, true, false, false, true] (g6W A n [true, true, true, true, true, true, false, true, false, false] m (blockK 0 (g6Q A n [true, true, true, true, true, true, true] (g6T kk)))))) ⟨[(0, (.v (.cell (.str x0)))), (1, (.v (.cell (.nat .u32 x1)))), (2, (.v (.cell (.nat .u32 x2)))), (7, (.v (.cell (.bool x3)))), (8, (.v (.cell (.nat .u64 x4)))), (9, (.v (.cell (.sl 7000 none x5 1)))), (10, (.v (.cell (.int .i64 x6))))], [(7000, ⟨[.nums .u8 x7 x8], 5, 2⟩)]⟩ ⟨[(0, (.v (.cell (.str x0)))), (1, (.v (.cell (.nat .u32 x1)))), (2, (.v (.cell (.nat .u32 x2)))), (7, (.v (.cell (.bool x3)))), (8, (.v (.cell (.nat .u64 x4)))), (9, (.v (.cell (.sl 7000 none x5 1)))), (10, (.v (.cell (.int .i64 x6))))], [(7000, ⟨[.nums .u8 x7 x8], 5, 2⟩)]⟩ (by kernel_rfl)).trans (g6R8 A n (g6Q A n [true, true, true, true, true, true, false, true, false, false, false, true] (g6Q A n [true, true, true, true, true, true, false, true, false, false, true] (g6W A n [true, true, true, true, true, true, false, true, false, false] m (blockK 0 (g6Q A n [true, true, true, true, true, true, true] (g6T kk)))))) x0 x1 x2 x3 x4 x5 x6 x7 x8)
    rw [h9] at h10
    have h11 := (g6p11111101000 A n _ _).trans h10
    have h12 := (g6p1111110100 A n _ _).trans h11
    exact (loopD_first (s' := ⟨[(0, (.v (.cell (.str x0)))), (1, (.v (.cell (.nat .u32 x1)))), (2, (.v (.cell (.nat .u32 x2)))), (7, (.v (.cell (.bool x3)))), (8, (.v (.cell (.nat .u64 x4)))), (9, (.v (.cell (.sl 7000 none x5 1)))), (10, (.v (.cell (.int .i64 x6))))], [(7000, ⟨[.nums .u8 x7 x8], 5, 2⟩)]⟩) (id := 8) (by kernel_rfl) (h.trans (by kernel_rfl)) _).trans ((g6Vs A n _ m _ _).trans (h12.trans (by kernel_rfl)))
def g6J4 {R : Type} (A : Ar) (n : Nat) (kk : AV → Heap → Option R)  (x0 : List Nat) (x1 : Nat) (x2 : Nat) (x3 : Bool) : Option R :=
  match (generalizing := false) A.neg (A.mn (A.ofN x0.length) 31) with
  | true => none
  | false => match (generalizing := false) A.le (A.toN (A.mn (A.ofN x0.length) 31)) x0.length with
    | true => match (generalizing := false) A.le 32 32 with
      | true => match (generalizing := false) A.le 32 140737488355328 with
        | true => g6L8 A n kk  n ((x0.take (A.toN (A.mn (A.ofN x0.length) 31))).drop 0) x1 x2 x3 (A.nb .mul .u64 x1 x2) 32 0 32 (List.replicate 32 0)
        | false => none
      | false => none
    | false => none
set_option maxRecDepth 100000 in
theorem g6J4_eq {R : Type} (A : Ar) (n : Nat) (kk : AV → Heap → Option R)    (s : St) (x0 : List Nat) (x1 : Nat) (x2 : Nat) (x3 : Bool) (h : keep g6an 4 s = ⟨[(0, (.v (.cell (.str x0)))), (1, (.v (.cell (.nat .u32 x1)))), (2, (.v (.cell (.nat .u32 x2)))), (7, (.v (.cell (.bool x3))))], []⟩) :
    g6D A n [true, true, true] (g6T kk) s = g6J4 A n kk  x0 x1 x2 x3 := by
  have h1 := (g6p111111010 A n _ _).trans (g6L8_eq A n kk    n ⟨[(10, (.v (.cell (.int .i64 0)))), (0, (.v (.cell (.str ((x0.take (A.toN (A.mn (A.ofN x0.length) 31))).drop 0))))), (1, (.v (.cell (.nat .u32 x1)))), (2, (.v (.cell (.nat .u32 x2)))), (7, (.v (.cell (.bool x3)))), (8, (.v (.cell (.nat .u64 (A.nb .mul .u64 x1 x2))))), (9, (.v (.cell (.sl 7000 none 32 1))))], [(7000, ⟨[.nums .u8 32 (List.replicate 32 0)], 5, 2⟩)]⟩ ((x0.take (A.toN (A.mn (A.ofN x0.length) 31))).drop 0) x1 x2 x3 (A.nb .mul .u64 x1 x2) 32 0 32 (List.replicate 32 0) (by kernel_rfl))
  have h2 := (g6p11111101 A n _ _).trans h1
  have h3 := (g6Qn A n _ _ _).trans h2
  have h4 := (g6p11111100 A n (g6Q A n [true, true, true, true, true, true, false, true] (g6Q A n [true, true, true, true, true, true, true] (g6T kk))) ⟨[(9, (.v (.cell (.sl 7000 none 32 1)))), (24, (.v (.cell (.sl 7000 none 32 1)))), (0, (.v (.cell (.str ((x0.take (A.toN (A.mn (A.ofN x0.length) 31))).drop 0))))), (1, (.v (.cell (.nat .u32 x1)))), (2, (.v (.cell (.nat .u32 x2)))), (7, (.v (.cell (.bool x3)))), (8, (.v (.cell (.nat .u64 (A.nb .mul .u64 x1 x2)))))], [(7000, ⟨[.nums .u8 32 (List.replicate 32 0)], 5, 2⟩)]⟩ ⟨[(0, (.v (.cell (.str ((x0.take (A.toN (A.mn (A.ofN x0.length) 31))).drop 0))))), (1, (.v (.cell (.nat .u32 x1)))), (2, (.v (.cell (.nat .u32 x2)))), (7, (.v (.cell (.bool x3)))), (8, (.v (.cell (.nat .u64 (A.nb .mul .u64 x1 x2))))), (9, (.v (.cell (.sl 7000 none 32 1))))], [(7000, ⟨[.nums .u8 32 (List.replicate 32 0)], 5, 2⟩)]⟩ (by kernel_rfl)).trans (g6R7 A n (g6Q A n [true, true, true, true, true, true, false, true] (g6Q A n [true, true, true, true, true, true, true] (g6T kk))) ((x0.take (A.toN (A.mn (A.ofN x0.length) 31))).drop 0) x1 x2 x3 (A.nb .mul .u64 x1 x2) 32 32 (List.replicate 32 0))
  rw [h3] at h4
  have h5 := (g6p1111110 A n _ _).trans h4
  have h6 := (g6p111111 A n _ _).trans h5
  have h7 := (g6Qn A n _ _ _).trans h6
  have h8 := (g6p111110 A n (g6Q A n [true, true, true, true, true, true] (g6T kk)) ⟨[(8, (.v (.cell (.nat .u64 (A.nb .mul .u64 x1 x2))))), (23, (.v (.cell (.nat .u64 (A.nb .mul .u64 x1 x2))))), (22, (.v (.cell (.nat .u64 x2)))), (21, (.v (.cell (.nat .u32 x2)))), (20, (.v (.cell (.nat .u64 x1)))), (19, (.v (.cell (.nat .u32 x1)))), (0, (.v (.cell (.str ((x0.take (A.toN (A.mn (A.ofN x0.length) 31))).drop 0))))), (1, (.v (.cell (.nat .u32 x1)))), (2, (.v (.cell (.nat .u32 x2)))), (7, (.v (.cell (.bool x3))))], []⟩ ⟨[(0, (.v (.cell (.str ((x0.take (A.toN (A.mn (A.ofN x0.length) 31))).drop 0))))), (1, (.v (.cell (.nat .u32 x1)))), (2, (.v (.cell (.nat .u32 x2)))), (7, (.v (.cell (.bool x3)))), (8, (.v (.cell (.nat .u64 (A.nb .mul .u64 x1 x2)))))], []⟩ (by kernel_rfl)).trans (g6R6 A n (g6Q A n [true, true, true, true, true, true] (g6T kk)) ((x0.take (A.toN (A.mn (A.ofN x0.length) 31))).drop 0) x1 x2 x3 (A.nb .mul .u64 x1 x2))
  rw [h7] at h8
  have h9 := (g6p11111 A n _ _).trans h8
  have h10 := (g6Qn A n _ _ _).trans h9
  have h11 := (g6p11110 A n (g6Q A n [true, true, true, true, true] (g6T kk)) ⟨[(0, (.v (.cell (.str ((x0.take (A.toN (A.mn (A.ofN x0.length) 31))).drop 0))))), (18, (.v (.cell (.str ((x0.take (A.toN (A.mn (A.ofN x0.length) 31))).drop 0))))), (17, (.v (.cell (.int .i64 (A.mn (A.ofN x0.length) 31))))), (16, (.v (.cell (.int .i64 (A.ofN x0.length))))), (15, (.v (.cell (.str x0)))), (14, (.v (.cell (.str x0)))), (0, (.v (.cell (.str x0)))), (1, (.v (.cell (.nat .u32 x1)))), (2, (.v (.cell (.nat .u32 x2)))), (7, (.v (.cell (.bool x3))))], []⟩ ⟨[(0, (.v (.cell (.str ((x0.take (A.toN (A.mn (A.ofN x0.length) 31))).drop 0))))), (1, (.v (.cell (.nat .u32 x1)))), (2, (.v (.cell (.nat .u32 x2)))), (7, (.v (.cell (.bool x3))))], []⟩ (by kernel_rfl)).trans (g6R5 A n (g6Q A n [true, true, true, true, true] (g6T kk)) ((x0.take (A.toN (A.mn (A.ofN x0.length) 31))).drop 0) x1 x2 x3)
  rw [h10] at h11
  have h12 := (g6p1111 A n _ _).trans h11
  have h13 := (g6Qn A n _ _ _).trans h12
  have h14 := (g6p1110 A n (g6Q A n [true, true, true, true] (g6T kk)) ⟨[(0, (.v (.cell (.str x0)))), (1, (.v (.cell (.nat .u32 x1)))), (2, (.v (.cell (.nat .u32 x2)))), (7, (.v (.cell (.bool x3))))], []⟩ ⟨[(0, (.v (.cell (.str x0)))), (1, (.v (.cell (.nat .u32 x1)))), (2, (.v (.cell (.nat .u32 x2)))), (7, (.v (.cell (.bool x3))))], []⟩ (by kernel_rfl)).trans (g6R4 A n (g6Q A n [true, true, true, true] (g6T kk)) x0 x1 x2 x3)
  rw [h13] at h14
  have h15 := (g6p111 A n _ _).trans h14
  exact (codeD_first (s' := ⟨[(0, (.v (.cell (.str x0)))), (1, (.v (.cell (.nat .u32 x1)))), (2, (.v (.cell (.nat .u32 x2)))), (7, (.v (.cell (.bool x3))))], []⟩) (id := 4) (by kernel_rfl) (h.trans (by kernel_rfl)) _).trans (h15.trans (by kernel_rfl))
def g6 {R : Type} (A : Ar) (n : Nat) (kk : AV → Heap → Option R) (a : List Nat) (b : Nat) (c : Nat) : Option R :=
  match (generalizing := false) g9ok with
  | true => match (generalizing := false) !g9r0 with
    | true => kk (.v (.cell (.bool false))) []
    | false => g6J4 A n kk  a b c g9r0
  | false => none
set_option maxRecDepth 100000 in
theorem g6_eq {R : Type} (A : Ar) (n : Nat) (kk : AV → Heap → Option R) (a : List Nat) (b : Nat) (c : Nat) :
    funD A gtys (orcOf [(9, g9o), (10, g10o), (14, g14o), (17, g17o)]) g6an n (bodyOf Try.f6) g6res [(.v (.cell (.str a))), (.v (.cell (.nat .u32 b))), (.v (.cell (.nat .u32 c)))] [] kk = g6 A n kk a b c := by
  have h1 : (g6T kk) .ret ⟨[(6, (.v (.cell (.bool false))))], []⟩ = kk (.v (.cell (.bool false))) [] := by kernel_rfl
  have h2 := (g6Qr A n [true, true, true] _ _).trans h1
  have h3 := (g6p110101 A n _ _).trans h2
  have h4 := (g6Qn A n _ _ _).trans h3
  have h5 := (g6p110100 A n (g6Q A n [true, true, false, true, false, true] (g6Q A n [true, true, true] (g6T kk))) ⟨[(13, (.v (.cell (.bool (!g9r0))))), (12, (.v (.cell (.bool g9r0)))), (0, (.v (.cell (.str a)))), (1, (.v (.cell (.nat .u32 b)))), (2, (.v (.cell (.nat .u32 c)))), (7, (.v (.cell (.bool g9r0))))], []⟩ ⟨[], []⟩ (by kernel_rfl)).trans (g6R3 A n (g6Q A n [true, true, false, true, false, true] (g6Q A n [true, true, true] (g6T kk))) )
  rw [h4] at h5
  have h6 := (g6p11010 A n _ _).trans h5
  have h7 := (g6Qn A n _ _ _).trans (g6J4_eq A n kk     ⟨[(13, (.v (.cell (.bool (!g9r0))))), (12, (.v (.cell (.bool g9r0)))), (0, (.v (.cell (.str a)))), (1, (.v (.cell (.nat .u32 b)))), (2, (.v (.cell (.nat .u32 c)))), (7, (.v (.cell (.bool g9r0))))], []⟩ a b c g9r0 (by kernel_rfl))
  have h8 := (g6p11011 A n _ _).trans h7
  have h9 := g6p1101 A n (g6Q A n [true, true, true] (g6T kk)) ⟨[(13, (.v (.cell (.bool (!g9r0))))), (12, (.v (.cell (.bool g9r0)))), (0, (.v (.cell (.str a)))), (1, (.v (.cell (.nat .u32 b)))), (2, (.v (.cell (.nat .u32 c)))), (7, (.v (.cell (.bool g9r0))))], []⟩ (!g9r0) (by kernel_rfl)
  rw [h6, h8] at h9
  have h10 := (g6Qn A n _ _ _).trans h9
  have h11 := (g6p1100 A n (g6Q A n [true, true, false, true] (g6Q A n [true, true, true] (g6T kk))) ⟨[(7, (.v (.cell (.bool g9r0)))), (11, (.v (.cell (.bool g9r0)))), (0, (.v (.cell (.str a)))), (1, (.v (.cell (.nat .u32 b)))), (2, (.v (.cell (.nat .u32 c))))], []⟩ ⟨[(0, (.v (.cell (.str a)))), (1, (.v (.cell (.nat .u32 b)))), (2, (.v (.cell (.nat .u32 c)))), (7, (.v (.cell (.bool g9r0))))], []⟩ (by kernel_rfl)).trans (g6R2 A n (g6Q A n [true, true, false, true] (g6Q A n [true, true, true] (g6T kk))) a b c g9r0)
  rw [h10] at h11
  have h12 := (g6p110 A n _ _).trans h11
  have h13 := (g6p11 A n _ _).trans h12
  have h14 := (g6Qn A n _ _ _).trans h13
  have h15 := (g6p10 A n (g6Q A n [true, true] (g6T kk)) ⟨[(6, (.v (.cell (.bool false)))), (0, (.v (.cell (.str a)))), (1, (.v (.cell (.nat .u32 b)))), (2, (.v (.cell (.nat .u32 c))))], []⟩ ⟨[(0, (.v (.cell (.str a)))), (1, (.v (.cell (.nat .u32 b)))), (2, (.v (.cell (.nat .u32 c))))], []⟩ (by kernel_rfl)).trans (g6R1 A n (g6Q A n [true, true] (g6T kk)) a b c)
  rw [h14] at h15
  have h16 := (g6p1 A n _ _).trans h15
  have h17 := (g6Qn A n _ _ _).trans h16
  have h18 := (g6p0 A n (g6Q A n [true] (g6T kk)) ⟨[(0, (.v (.cell (.str a)))), (1, (.v (.cell (.nat .u32 b)))), (2, (.v (.cell (.nat .u32 c))))], []⟩ ⟨[(0, (.v (.cell (.str a)))), (1, (.v (.cell (.nat .u32 b)))), (2, (.v (.cell (.nat .u32 c))))], []⟩ (by kernel_rfl)).trans (g6R0 A n (g6Q A n [true] (g6T kk)) a b c)
  rw [h17] at h18
  have h19 := (g6p A n _ _).trans h18
  exact (show funD A gtys (orcOf [(9, g9o), (10, g10o), (14, g14o), (17, g17o)]) g6an n (bodyOf Try.f6) g6res [(.v (.cell (.str a))), (.v (.cell (.nat .u32 b))), (.v (.cell (.nat .u32 c)))] [] kk = g6D A n [] (g6T kk) ⟨[(0, (.v (.cell (.str a)))), (1, (.v (.cell (.nat .u32 b)))), (2, (.v (.cell (.nat .u32 c))))], []⟩ from by kernel_rfl).trans (h19.trans (by kernel_rfl))
def g6is (o : Option AV) : Bool := match o with
  | some (.v (.cell (.bool _))) => true
  | _ => false
def g6g0 (o : Option AV) : Bool := match o with
  | some (.v (.cell (.bool x))) => x
  | _ => false
theorem g6is_spec {o : Option AV} (h : g6is o = true) : o = some (.v (.cell (.bool (g6g0 o)))) := by
  unfold g6is at h
  split at h
  · rfl
  · cases h
def g6v (a : List Nat) (b : Nat) (c : Nat) : Option AV := g6 realA (100000) (fun v _ => some v) a b c
def g6ok (a : List Nat) (b : Nat) (c : Nat) : Bool := g6is (g6v a b c)
def g6r0 (a : List Nat) (b : Nat) (c : Nat) : Bool := g6g0 (g6v a b c)
theorem g6ok_spec {a b c} (h : g6ok a b c = true) : g6v a b c = some (.v (.cell (.bool (g6r0 a b c)))) := g6is_spec h
def g6o (args : List AV) : Option (Bool × AV) := match args with
  | [.v (.cell (.str a)), .v (.cell (.nat .u32 b)), .v (.cell (.nat .u32 c))] => some (g6ok a b c, .v (.cell (.bool (g6r0 a b c))))
  | _ => none
theorem g6O_sound : OSound Try.prog (orcOf [(9, g9o), (10, g10o), (14, g14o), (17, g17o)]) := orc_sound fun f g hm args v hv => by
  simp only [List.mem_cons, List.not_mem_nil, or_false, Prod.mk.injEq] at hm
  rcases hm with ⟨rfl, rfl⟩ | ⟨rfl, rfl⟩ | ⟨rfl, rfl⟩ | ⟨rfl, rfl⟩
  · exact g9o_sound _ _ hv
  · exact g10o_sound _ _ hv
  · exact g14o_sound _ _ hv
  · exact g17o_sound _ _ hv
theorem g6o_sound : ∀ args v, g6o args = some (true, v) → Fn1 Try.prog 6 args v := by
  intro args v h
  unfold g6o at h
  split at h
  · rename_i a b c
    simp only [Option.some.injEq, Prod.mk.injEq] at h
    obtain ⟨hc, h⟩ := h
    subst h
    · skip
      exact fn1_of mixed gtysOK g6O_sound (orc_det _) (an := g6an) (n := 100000) Try.func6 (c := bodyOf Try.f6) rfl (by kernel_rfl) Try.call6 (Nat.le_of_ble_eq_true rfl) (fun b => rfl) (fun _ => (g6_eq realA (100000) (fun v _ => some v) a b c).trans (show g6v a b c = _ from g6ok_spec hc))
  · cases h
/- engrosser/scalar.Clamp -/
def g18an : Ann := [(0, ([0], [])), (1, ([0], [])), (2, ([], [])), (3, ([0], [])), (4, ([4], [4001])), (5, ([4], [4001])), (6, ([4], [4001]))]
def g18res : List ResultVar := [.tmp 2, .tmp 3]
noncomputable def g18D {R : Type} (A : Ar) (n : Nat) (p : List Bool) (K : Ex → St → Option R) (s : St) : Option R := codeD A gtys (orcOf []) g18an n (sub (bodyOf Try.f18) p) K s
noncomputable def g18V {R : Type} (A : Ar) (n : Nat) (p : List Bool) (m : Nat) (K : Ex → St → Option R) (s : St) : Option R := loopD (fun K' s'' => codeD A gtys (orcOf []) g18an n (sub (bodyOf Try.f18) p) K' s'') m K s
noncomputable def g18Q {R : Type} (A : Ar) (n : Nat) (p : List Bool) (K : Ex → St → Option R) : Ex → St → Option R := seqC (g18D A n p K) K
noncomputable def g18W {R : Type} (A : Ar) (n : Nat) (p : List Bool) (m : Nat) (K : Ex → St → Option R) : Ex → St → Option R := seqC (g18V A n p m K) K
noncomputable def g18T {R : Type} (kk : AV → Heap → Option R) : Ex → St → Option R := finD gtys g18res kk
theorem g18Qn {R : Type} (A : Ar) (n : Nat) (p : List Bool) (K : Ex → St → Option R) (s : St) : g18Q A n p K .normal s = g18D A n p K s := rfl
theorem g18Qe {R : Type} (A : Ar) (n : Nat) (p : List Bool) (K : Ex → St → Option R) (i : Nat) (s : St) : g18Q A n p K (.exit i) s = K (.exit i) s := rfl
theorem g18Qr {R : Type} (A : Ar) (n : Nat) (p : List Bool) (K : Ex → St → Option R) (s : St) : g18Q A n p K .ret s = K .ret s := rfl
theorem g18Wn {R : Type} (A : Ar) (n : Nat) (p : List Bool) (m : Nat) (K : Ex → St → Option R) (s : St) : g18W A n p m K .normal s = g18V A n p m K s := rfl
theorem g18We {R : Type} (A : Ar) (n : Nat) (p : List Bool) (m : Nat) (K : Ex → St → Option R) (i : Nat) (s : St) : g18W A n p m K (.exit i) s = K (.exit i) s := rfl
theorem g18Wr {R : Type} (A : Ar) (n : Nat) (p : List Bool) (m : Nat) (K : Ex → St → Option R) (s : St) : g18W A n p m K .ret s = K .ret s := rfl
theorem g18Vs {R : Type} (A : Ar) (n : Nat) (p : List Bool) (m : Nat) (K : Ex → St → Option R) (s : St) : g18V A n p (m + 1) K s = g18D A n p (g18W A n p m K) s := rfl
theorem g18p {R : Type} (A : Ar) (n : Nat) (K : Ex → St → Option R) (s : St) : g18D A n [] K s = g18D A n [false] (g18Q A n [true] K) s := by kernel_rfl
theorem g18p0 {R : Type} (A : Ar) (n : Nat) (K : Ex → St → Option R) (s s' : St) (h : keep g18an 0 s = keep g18an 0 s') : g18D A n [false] K s = g18D A n [false] K s' := codeD_first (id := 0) (by kernel_rfl) h K
theorem g18p1 {R : Type} (A : Ar) (n : Nat) (K : Ex → St → Option R) (s : St) : g18D A n [true] K s = g18D A n [true, false] (g18Q A n [true, true] K) s := by kernel_rfl
theorem g18p10 {R : Type} (A : Ar) (n : Nat) (K : Ex → St → Option R) (s : St) : g18D A n [true, false] K s = g18D A n [true, false, false] (g18Q A n [true, false, true] K) s := by kernel_rfl
theorem g18p100 {R : Type} (A : Ar) (n : Nat) (K : Ex → St → Option R) (s s' : St) (h : keep g18an 1 s = keep g18an 1 s') : g18D A n [true, false, false] K s = g18D A n [true, false, false] K s' := codeD_first (id := 1) (by kernel_rfl) h K
theorem g18p101 {R : Type} (A : Ar) (n : Nat) (K : Ex → St → Option R) (s : St) (t : Bool) : ev s (.tmp 7) = some (.v (.cell (.bool t))) → g18D A n [true, false, true] K s = (match t with
    | true => g18D A n [true, false, true, false] K s
    | false => g18D A n [true, false, true, true] K s) := codeD_cond t
theorem g18p1010 {R : Type} (A : Ar) (n : Nat) (K : Ex → St → Option R) (s : St) : g18D A n [true, false, true, false] K s = g18D A n [true, false, true, false, false] (g18Q A n [true, false, true, false, true] K) s := by kernel_rfl
theorem g18p10100 {R : Type} (A : Ar) (n : Nat) (K : Ex → St → Option R) (s s' : St) (h : keep g18an 2 s = keep g18an 2 s') : g18D A n [true, false, true, false, false] K s = g18D A n [true, false, true, false, false] K s' := codeD_first (id := 2) (by kernel_rfl) h K
theorem g18p10101 {R : Type} (A : Ar) (n : Nat) (K : Ex → St → Option R) (s : St) : g18D A n [true, false, true, false, true] K s = K .ret s := by kernel_rfl
theorem g18p1011 {R : Type} (A : Ar) (n : Nat) (K : Ex → St → Option R) (s : St) : g18D A n [true, false, true, true] K s = K .normal s := by kernel_rfl
theorem g18p11 {R : Type} (A : Ar) (n : Nat) (K : Ex → St → Option R) (s : St) : g18D A n [true, true] K s = g18D A n [true, true, false] (g18Q A n [true, true, true] K) s := by kernel_rfl
theorem g18p110 {R : Type} (A : Ar) (n : Nat) (K : Ex → St → Option R) (s s' : St) (h : keep g18an 3 s = keep g18an 3 s') : g18D A n [true, true, false] K s = g18D A n [true, true, false] K s' := codeD_first (id := 3) (by kernel_rfl) h K
theorem g18p111 {R : Type} (A : Ar) (n : Nat) (K : Ex → St → Option R) (s : St) : g18D A n [true, true, true] K s = g18D A n [true, true, true, false] (g18Q A n [true, true, true, true] K) s := by kernel_rfl
theorem g18p1110 {R : Type} (A : Ar) (n : Nat) (K : Ex → St → Option R) (s s' : St) (h : keep g18an 4 s = keep g18an 4 s') : g18D A n [true, true, true, false] K s = g18D A n [true, true, true, false] K s' := codeD_first (id := 4) (by kernel_rfl) h K
theorem g18p1111 {R : Type} (A : Ar) (n : Nat) (K : Ex → St → Option R) (s : St) : g18D A n [true, true, true, true] K s = g18D A n [true, true, true, true, false] (g18Q A n [true, true, true, true, true] K) s := by kernel_rfl
theorem g18p11110 {R : Type} (A : Ar) (n : Nat) (K : Ex → St → Option R) (s s' : St) (h : keep g18an 5 s = keep g18an 5 s') : g18D A n [true, true, true, true, false] K s = g18D A n [true, true, true, true, false] K s' := codeD_first (id := 5) (by kernel_rfl) h K
theorem g18p11111 {R : Type} (A : Ar) (n : Nat) (K : Ex → St → Option R) (s : St) : g18D A n [true, true, true, true, true] K s = g18D A n [true, true, true, true, true, false] (g18Q A n [true, true, true, true, true, true] K) s := by kernel_rfl
theorem g18p111110 {R : Type} (A : Ar) (n : Nat) (K : Ex → St → Option R) (s s' : St) (h : keep g18an 6 s = keep g18an 6 s') : g18D A n [true, true, true, true, true, false] K s = g18D A n [true, true, true, true, true, false] K s' := codeD_first (id := 6) (by kernel_rfl) h K
theorem g18p111111 {R : Type} (A : Ar) (n : Nat) (K : Ex → St → Option R) (s : St) : g18D A n [true, true, true, true, true, true] K s = K .ret s := by kernel_rfl
theorem g18R3 {R : Type} (A : Ar) (n : Nat) (K : Ex → St → Option R) (x0 : List Nat) : g18D A n [true, true, false] K ⟨[(0, (.v (.cell (.str x0))))], []⟩ = match (generalizing := false) A.le x0.length 9223372036854775807 with
    | true => K .normal ⟨[(4, (.v (.cell (.sl 4001 none x0.length 1)))), (9, (.v (.cell (.sl 4001 none x0.length 1)))), (8, (.v (.cell (.str x0)))), (0, (.v (.cell (.str x0))))], [(4001, ⟨[.nums .u8 x0.length x0], 5, 1⟩)]⟩
    | false => none := by kernel_rfl
theorem g18R4 {R : Type} (A : Ar) (n : Nat) (K : Ex → St → Option R) (x0 : Nat) (x1 : Nat) (x2 : List Nat) : g18D A n [true, true, true, false] K ⟨[(4, (.v (.cell (.sl 4001 none x0 1))))], [(4001, ⟨[.nums .u8 x1 x2], 5, 1⟩)]⟩ = match (generalizing := false) Nat.blt 0 x0 with
    | true => match (generalizing := false) Nat.blt 0 x0 with
      | true => K .normal ⟨[(14, (.v (.cell (.ptr 4001 0 (some ⟨0, 1, x0, 0, 0, 1⟩))))), (13, (.v (.cell (.nat .u8 (A.nb .and .u8 (x2.getD 0 0) 248))))), (12, (.v (.cell (.nat .u8 (x2.getD 0 0))))), (11, (.v (.cell (.ptr 4001 0 (some ⟨0, 1, x0, 0, 0, 1⟩))))), (10, (.v (.cell (.sl 4001 none x0 1)))), (4, (.v (.cell (.sl 4001 none x0 1))))], [(4001, ⟨[.nums .u8 x1 (x2.set 0 (A.nb .and .u8 (x2.getD 0 0) 248))], 5, 1⟩)]⟩
      | false => none
    | false => none := by kernel_rfl
theorem g18R5 {R : Type} (A : Ar) (n : Nat) (K : Ex → St → Option R) (x0 : Nat) (x1 : Nat) (x2 : List Nat) : g18D A n [true, true, true, true, false] K ⟨[(4, (.v (.cell (.sl 4001 none x0 1))))], [(4001, ⟨[.nums .u8 x1 x2], 5, 1⟩)]⟩ = match (generalizing := false) Nat.blt 31 x0 with
    | true => match (generalizing := false) Nat.blt 31 x0 with
      | true => K .normal ⟨[(21, (.v (.cell (.ptr 4001 0 (some ⟨31, 1, x0, 31, 0, 1⟩))))), (20, (.v (.cell (.nat .u8 (A.nb .or .u8 (A.nb .and .u8 (x2.getD 31 0) 63) 64))))), (19, (.v (.cell (.nat .u8 (A.nb .and .u8 (x2.getD 31 0) 63))))), (18, (.v (.cell (.nat .u8 (x2.getD 31 0))))), (17, (.v (.cell (.ptr 4001 0 (some ⟨31, 1, x0, 31, 0, 1⟩))))), (16, (.v (.cell (.sl 4001 none x0 1)))), (15, (.v (.cell (.sl 4001 none x0 1)))), (4, (.v (.cell (.sl 4001 none x0 1))))], [(4001, ⟨[.nums .u8 x1 (x2.set 31 (A.nb .or .u8 (A.nb .and .u8 (x2.getD 31 0) 63) 64))], 5, 1⟩)]⟩
      | false => none
    | false => none := by kernel_rfl
theorem g18R6 {R : Type} (A : Ar) (n : Nat) (K : Ex → St → Option R) (x0 : Nat) (x1 : Nat) (x2 : List Nat) : g18D A n [true, true, true, true, true, false] K ⟨[(4, (.v (.cell (.sl 4001 none x0 1))))], [(4001, ⟨[.nums .u8 x1 x2], 5, 1⟩)]⟩ = K .normal ⟨[(3, (.v (.cell (.bool true)))), (2, (.v (.cell (.str (x2.take x0))))), (23, (.v (.cell (.str (x2.take x0))))), (22, (.v (.cell (.sl 4001 none x0 1)))), (4, (.v (.cell (.sl 4001 none x0 1))))], [(4001, ⟨[.nums .u8 x1 x2], 5, 1⟩)]⟩ := by kernel_rfl
theorem g18R0 {R : Type} (A : Ar) (n : Nat) (K : Ex → St → Option R) (x0 : List Nat) : g18D A n [false] K ⟨[(0, (.v (.cell (.str x0))))], []⟩ = K .normal ⟨[(3, (.v (.cell (.bool false)))), (2, (.v (.cell (.str [])))), (0, (.v (.cell (.str x0))))], []⟩ := by kernel_rfl
theorem g18R1 {R : Type} (A : Ar) (n : Nat) (K : Ex → St → Option R) (x0 : List Nat) : g18D A n [true, false, false] K ⟨[(0, (.v (.cell (.str x0))))], []⟩ = K .normal ⟨[(7, (.v (.cell (.bool (A.ic .neq (A.ofN x0.length) 32))))), (6, (.v (.cell (.int .i64 (A.ofN x0.length))))), (5, (.v (.cell (.str x0)))), (0, (.v (.cell (.str x0))))], []⟩ := by kernel_rfl
theorem g18R2 {R : Type} (A : Ar) (n : Nat) (K : Ex → St → Option R)  : g18D A n [true, false, true, false, false] K ⟨[], []⟩ = K .normal ⟨[(3, (.v (.cell (.bool false)))), (2, (.v (.cell (.str []))))], []⟩ := by kernel_rfl
def g18J3 {R : Type} (A : Ar) (n : Nat) (kk : AV → Heap → Option R)  (x0 : List Nat) : Option R :=
  match (generalizing := false) A.le x0.length 9223372036854775807 with
  | true => match (generalizing := false) Nat.blt 0 x0.length with
    | true => match (generalizing := false) Nat.blt 0 x0.length with
      | true => match (generalizing := false) Nat.blt 31 x0.length with
        | true => match (generalizing := false) Nat.blt 31 x0.length with
          | true => kk (.tup [(.cell (.str (((x0.set 0 (A.nb .and .u8 (x0.getD 0 0) 248)).set 31 (A.nb .or .u8 (A.nb .and .u8 ((x0.set 0 (A.nb .and .u8 (x0.getD 0 0) 248)).getD 31 0) 63) 64)).take x0.length))), (.cell (.bool true))]) [(4001, ⟨[.nums .u8 x0.length ((x0.set 0 (A.nb .and .u8 (x0.getD 0 0) 248)).set 31 (A.nb .or .u8 (A.nb .and .u8 ((x0.set 0 (A.nb .and .u8 (x0.getD 0 0) 248)).getD 31 0) 63) 64))], 5, 1⟩)]
          | false => none
        | false => none
      | false => none
    | false => none
  | false => none
set_option maxRecDepth 100000 in
theorem g18J3_eq {R : Type} (A : Ar) (n : Nat) (kk : AV → Heap → Option R)    (s : St) (x0 : List Nat) (h : keep g18an 3 s = ⟨[(0, (.v (.cell (.str x0))))], []⟩) :
    g18D A n [true, true] (g18T kk) s = g18J3 A n kk  x0 := by
  have h1 : (g18T kk) .ret ⟨[(3, (.v (.cell (.bool true)))), (2, (.v (.cell (.str (((x0.set 0 (A.nb .and .u8 (x0.getD 0 0) 248)).set 31 (A.nb .or .u8 (A.nb .and .u8 ((x0.set 0 (A.nb .and .u8 (x0.getD 0 0) 248)).getD 31 0) 63) 64)).take x0.length))))), (23, (.v (.cell (.str (((x0.set 0 (A.nb .and .u8 (x0.getD 0 0) 248)).set 31 (A.nb .or .u8 (A.nb .and .u8 ((x0.set 0 (A.nb .and .u8 (x0.getD 0 0) 248)).getD 31 0) 63) 64)).take x0.length))))), (22, (.v (.cell (.sl 4001 none x0.length 1)))), (4, (.v (.cell (.sl 4001 none x0.length 1))))], [(4001, ⟨[.nums .u8 x0.length ((x0.set 0 (A.nb .and .u8 (x0.getD 0 0) 248)).set 31 (A.nb .or .u8 (A.nb .and .u8 ((x0.set 0 (A.nb .and .u8 (x0.getD 0 0) 248)).getD 31 0) 63) 64))], 5, 1⟩)]⟩ = kk (.tup [(.cell (.str (((x0.set 0 (A.nb .and .u8 (x0.getD 0 0) 248)).set 31 (A.nb .or .u8 (A.nb .and .u8 ((x0.set 0 (A.nb .and .u8 (x0.getD 0 0) 248)).getD 31 0) 63) 64)).take x0.length))), (.cell (.bool true))]) [(4001, ⟨[.nums .u8 x0.length ((x0.set 0 (A.nb .and .u8 (x0.getD 0 0) 248)).set 31 (A.nb .or .u8 (A.nb .and .u8 ((x0.set 0 (A.nb .and .u8 (x0.getD 0 0) 248)).getD 31 0) 63) 64))], 5, 1⟩)] := by kernel_rfl
  have h2 := (g18p111111 A n _ _).trans h1
  have h3 := (g18Qn A n _ _ _).trans h2
  have h4 := (g18p111110 A n (g18Q A n [true, true, true, true, true, true] (g18T kk)) ⟨[(21, (.v (.cell (.ptr 4001 0 (some ⟨31, 1, x0.length, 31, 0, 1⟩))))), (20, (.v (.cell (.nat .u8 (A.nb .or .u8 (A.nb .and .u8 ((x0.set 0 (A.nb .and .u8 (x0.getD 0 0) 248)).getD 31 0) 63) 64))))), (19, (.v (.cell (.nat .u8 (A.nb .and .u8 ((x0.set 0 (A.nb .and .u8 (x0.getD 0 0) 248)).getD 31 0) 63))))), (18, (.v (.cell (.nat .u8 ((x0.set 0 (A.nb .and .u8 (x0.getD 0 0) 248)).getD 31 0))))), (17, (.v (.cell (.ptr 4001 0 (some ⟨31, 1, x0.length, 31, 0, 1⟩))))), (16, (.v (.cell (.sl 4001 none x0.length 1)))), (15, (.v (.cell (.sl 4001 none x0.length 1)))), (4, (.v (.cell (.sl 4001 none x0.length 1))))], [(4001, ⟨[.nums .u8 x0.length ((x0.set 0 (A.nb .and .u8 (x0.getD 0 0) 248)).set 31 (A.nb .or .u8 (A.nb .and .u8 ((x0.set 0 (A.nb .and .u8 (x0.getD 0 0) 248)).getD 31 0) 63) 64))], 5, 1⟩)]⟩ ⟨[(4, (.v (.cell (.sl 4001 none x0.length 1))))], [(4001, ⟨[.nums .u8 x0.length ((x0.set 0 (A.nb .and .u8 (x0.getD 0 0) 248)).set 31 (A.nb .or .u8 (A.nb .and .u8 ((x0.set 0 (A.nb .and .u8 (x0.getD 0 0) 248)).getD 31 0) 63) 64))], 5, 1⟩)]⟩ (by kernel_rfl)).trans (g18R6 A n (g18Q A n [true, true, true, true, true, true] (g18T kk)) x0.length x0.length ((x0.set 0 (A.nb .and .u8 (x0.getD 0 0) 248)).set 31 (A.nb .or .u8 (A.nb .and .u8 ((x0.set 0 (A.nb .and .u8 (x0.getD 0 0) 248)).getD 31 0) 63) 64)))
  rw [h3] at h4
  have h5 := (g18p11111 A n _ _).trans h4
  have h6 := (g18Qn A n _ _ _).trans h5
  have h7 := (g18p11110 A n (g18Q A n [true, true, true, true, true] (g18T kk)) ⟨[(14, (.v (.cell (.ptr 4001 0 (some ⟨0, 1, x0.length, 0, 0, 1⟩))))), (13, (.v (.cell (.nat .u8 (A.nb .and .u8 (x0.getD 0 0) 248))))), (12, (.v (.cell (.nat .u8 (x0.getD 0 0))))), (11, (.v (.cell (.ptr 4001 0 (some ⟨0, 1, x0.length, 0, 0, 1⟩))))), (10, (.v (.cell (.sl 4001 none x0.length 1)))), (4, (.v (.cell (.sl 4001 none x0.length 1))))], [(4001, ⟨[.nums .u8 x0.length (x0.set 0 (A.nb .and .u8 (x0.getD 0 0) 248))], 5, 1⟩)]⟩ ⟨[(4, (.v (.cell (.sl 4001 none x0.length 1))))], [(4001, ⟨[.nums .u8 x0.length (x0.set 0 (A.nb .and .u8 (x0.getD 0 0) 248))], 5, 1⟩)]⟩ (by kernel_rfl)).trans (g18R5 A n (g18Q A n [true, true, true, true, true] (g18T kk)) x0.length x0.length (x0.set 0 (A.nb .and .u8 (x0.getD 0 0) 248)))
  rw [h6] at h7
  have h8 := (g18p1111 A n _ _).trans h7
  have h9 := (g18Qn A n _ _ _).trans h8
  have h10 := (g18p1110 A n (g18Q A n [true, true, true, true] (g18T kk)) ⟨[(4, (.v (.cell (.sl 4001 none x0.length 1)))), (9, (.v (.cell (.sl 4001 none x0.length 1)))), (8, (.v (.cell (.str x0)))), (0, (.v (.cell (.str x0))))], [(4001, ⟨[.nums .u8 x0.length x0], 5, 1⟩)]⟩ ⟨[(4, (.v (.cell (.sl 4001 none x0.length 1))))], [(4001, ⟨[.nums .u8 x0.length x0], 5, 1⟩)]⟩ (by kernel_rfl)).trans (g18R4 A n (g18Q A n [true, true, true, true] (g18T kk)) x0.length x0.length x0)
  rw [h9] at h10
  have h11 := (g18p111 A n _ _).trans h10
  have h12 := (g18Qn A n _ _ _).trans h11
  have h13 := (g18p110 A n (g18Q A n [true, true, true] (g18T kk)) ⟨[(0, (.v (.cell (.str x0))))], []⟩ ⟨[(0, (.v (.cell (.str x0))))], []⟩ (by kernel_rfl)).trans (g18R3 A n (g18Q A n [true, true, true] (g18T kk)) x0)
  rw [h12] at h13
  have h14 := (g18p11 A n _ _).trans h13
  exact (codeD_first (s' := ⟨[(0, (.v (.cell (.str x0))))], []⟩) (id := 3) (by kernel_rfl) (h.trans (by kernel_rfl)) _).trans (h14.trans (by kernel_rfl))
def g18 {R : Type} (A : Ar) (n : Nat) (kk : AV → Heap → Option R) (a : List Nat) : Option R :=
  match (generalizing := false) A.ic .neq (A.ofN a.length) 32 with
  | true => kk (.tup [(.cell (.str [])), (.cell (.bool false))]) []
  | false => g18J3 A n kk  a
set_option maxRecDepth 100000 in
theorem g18_eq {R : Type} (A : Ar) (n : Nat) (kk : AV → Heap → Option R) (a : List Nat) :
    funD A gtys (orcOf []) g18an n (bodyOf Try.f18) g18res [(.v (.cell (.str a)))] [] kk = g18 A n kk a := by
  have h1 : (g18T kk) .ret ⟨[(3, (.v (.cell (.bool false)))), (2, (.v (.cell (.str []))))], []⟩ = kk (.tup [(.cell (.str [])), (.cell (.bool false))]) [] := by kernel_rfl
  have h2 := (g18Qr A n [true, true] _ _).trans h1
  have h3 := (g18p10101 A n _ _).trans h2
  have h4 := (g18Qn A n _ _ _).trans h3
  have h5 := (g18p10100 A n (g18Q A n [true, false, true, false, true] (g18Q A n [true, true] (g18T kk))) ⟨[(7, (.v (.cell (.bool (A.ic .neq (A.ofN a.length) 32))))), (6, (.v (.cell (.int .i64 (A.ofN a.length))))), (5, (.v (.cell (.str a)))), (0, (.v (.cell (.str a))))], []⟩ ⟨[], []⟩ (by kernel_rfl)).trans (g18R2 A n (g18Q A n [true, false, true, false, true] (g18Q A n [true, true] (g18T kk))) )
  rw [h4] at h5
  have h6 := (g18p1010 A n _ _).trans h5
  have h7 := (g18Qn A n _ _ _).trans (g18J3_eq A n kk     ⟨[(7, (.v (.cell (.bool (A.ic .neq (A.ofN a.length) 32))))), (6, (.v (.cell (.int .i64 (A.ofN a.length))))), (5, (.v (.cell (.str a)))), (0, (.v (.cell (.str a))))], []⟩ a (by kernel_rfl))
  have h8 := (g18p1011 A n _ _).trans h7
  have h9 := g18p101 A n (g18Q A n [true, true] (g18T kk)) ⟨[(7, (.v (.cell (.bool (A.ic .neq (A.ofN a.length) 32))))), (6, (.v (.cell (.int .i64 (A.ofN a.length))))), (5, (.v (.cell (.str a)))), (0, (.v (.cell (.str a))))], []⟩ (A.ic .neq (A.ofN a.length) 32) (by kernel_rfl)
  rw [h6, h8] at h9
  have h10 := (g18Qn A n _ _ _).trans h9
  have h11 := (g18p100 A n (g18Q A n [true, false, true] (g18Q A n [true, true] (g18T kk))) ⟨[(3, (.v (.cell (.bool false)))), (2, (.v (.cell (.str [])))), (0, (.v (.cell (.str a))))], []⟩ ⟨[(0, (.v (.cell (.str a))))], []⟩ (by kernel_rfl)).trans (g18R1 A n (g18Q A n [true, false, true] (g18Q A n [true, true] (g18T kk))) a)
  rw [h10] at h11
  have h12 := (g18p10 A n _ _).trans h11
  have h13 := (g18p1 A n _ _).trans h12
  have h14 := (g18Qn A n _ _ _).trans h13
  have h15 := (g18p0 A n (g18Q A n [true] (g18T kk)) ⟨[(0, (.v (.cell (.str a))))], []⟩ ⟨[(0, (.v (.cell (.str a))))], []⟩ (by kernel_rfl)).trans (g18R0 A n (g18Q A n [true] (g18T kk)) a)
  rw [h14] at h15
  have h16 := (g18p A n _ _).trans h15
  exact (show funD A gtys (orcOf []) g18an n (bodyOf Try.f18) g18res [(.v (.cell (.str a)))] [] kk = g18D A n [] (g18T kk) ⟨[(0, (.v (.cell (.str a))))], []⟩ from by kernel_rfl).trans (h16.trans (by kernel_rfl))
def g18is (o : Option AV) : Bool := match o with
  | some (.tup [.cell (.str _), .cell (.bool _)]) => true
  | _ => false
def g18g0 (o : Option AV) : List Nat := match o with
  | some (.tup [.cell (.str x), .cell (.bool _)]) => x
  | _ => []
def g18g1 (o : Option AV) : Bool := match o with
  | some (.tup [.cell (.str _), .cell (.bool x)]) => x
  | _ => false
theorem g18is_spec {o : Option AV} (h : g18is o = true) : o = some (.tup [.cell (.str (g18g0 o)), .cell (.bool (g18g1 o))]) := by
  unfold g18is at h
  split at h
  · rfl
  · cases h
def g18v (a : List Nat) : Option AV := g18 realA (100000) (fun v _ => some v) a
def g18ok (a : List Nat) : Bool := g18is (g18v a)
def g18r0 (a : List Nat) : List Nat := g18g0 (g18v a)
def g18r1 (a : List Nat) : Bool := g18g1 (g18v a)
theorem g18ok_spec {a} (h : g18ok a = true) : g18v a = some (.tup [.cell (.str (g18r0 a)), .cell (.bool (g18r1 a))]) := g18is_spec h
def g18o (args : List AV) : Option (Bool × AV) := match args with
  | [.v (.cell (.str a))] => some (g18ok a, .tup [.cell (.str (g18r0 a)), .cell (.bool (g18r1 a))])
  | _ => none
theorem g18O_sound : OSound Try.prog (orcOf []) := orc_sound fun f g hm args v hv => by
  cases hm
theorem g18o_sound : ∀ args v, g18o args = some (true, v) → Fn1 Try.prog 18 args v := by
  intro args v h
  unfold g18o at h
  split at h
  · rename_i a
    simp only [Option.some.injEq, Prod.mk.injEq] at h
    obtain ⟨hc, h⟩ := h
    subst h
    · skip
      exact fn1_of mixed gtysOK g18O_sound (orc_det _) (an := g18an) (n := 100000) Try.func18 (c := bodyOf Try.f18) rfl (by kernel_rfl) Try.call18 (Nat.le_of_ble_eq_true rfl) (fun b => rfl) (fun _ => (g18_eq realA (100000) (fun v _ => some v) a).trans (show g18v a = _ from g18ok_spec hc))
  · cases h
/- engrosser/engrosserref04.Clamp -/
def g19an : Ann := [(0, ([0], [])), (1, ([0], [])), (2, ([], [])), (3, ([0], [])), (4, ([4], [4001])), (5, ([4], [4001])), (6, ([4], [4001]))]
def g19res : List ResultVar := [.tmp 2, .tmp 3]
noncomputable def g19D {R : Type} (A : Ar) (n : Nat) (p : List Bool) (K : Ex → St → Option R) (s : St) : Option R := codeD A gtys (orcOf []) g19an n (sub (bodyOf Try.f19) p) K s
noncomputable def g19V {R : Type} (A : Ar) (n : Nat) (p : List Bool) (m : Nat) (K : Ex → St → Option R) (s : St) : Option R := loopD (fun K' s'' => codeD A gtys (orcOf []) g19an n (sub (bodyOf Try.f19) p) K' s'') m K s
noncomputable def g19Q {R : Type} (A : Ar) (n : Nat) (p : List Bool) (K : Ex → St → Option R) : Ex → St → Option R := seqC (g19D A n p K) K
noncomputable def g19W {R : Type} (A : Ar) (n : Nat) (p : List Bool) (m : Nat) (K : Ex → St → Option R) : Ex → St → Option R := seqC (g19V A n p m K) K
noncomputable def g19T {R : Type} (kk : AV → Heap → Option R) : Ex → St → Option R := finD gtys g19res kk
theorem g19Qn {R : Type} (A : Ar) (n : Nat) (p : List Bool) (K : Ex → St → Option R) (s : St) : g19Q A n p K .normal s = g19D A n p K s := rfl
theorem g19Qe {R : Type} (A : Ar) (n : Nat) (p : List Bool) (K : Ex → St → Option R) (i : Nat) (s : St) : g19Q A n p K (.exit i) s = K (.exit i) s := rfl
theorem g19Qr {R : Type} (A : Ar) (n : Nat) (p : List Bool) (K : Ex → St → Option R) (s : St) : g19Q A n p K .ret s = K .ret s := rfl
theorem g19Wn {R : Type} (A : Ar) (n : Nat) (p : List Bool) (m : Nat) (K : Ex → St → Option R) (s : St) : g19W A n p m K .normal s = g19V A n p m K s := rfl
theorem g19We {R : Type} (A : Ar) (n : Nat) (p : List Bool) (m : Nat) (K : Ex → St → Option R) (i : Nat) (s : St) : g19W A n p m K (.exit i) s = K (.exit i) s := rfl
theorem g19Wr {R : Type} (A : Ar) (n : Nat) (p : List Bool) (m : Nat) (K : Ex → St → Option R) (s : St) : g19W A n p m K .ret s = K .ret s := rfl
theorem g19Vs {R : Type} (A : Ar) (n : Nat) (p : List Bool) (m : Nat) (K : Ex → St → Option R) (s : St) : g19V A n p (m + 1) K s = g19D A n p (g19W A n p m K) s := rfl
theorem g19p {R : Type} (A : Ar) (n : Nat) (K : Ex → St → Option R) (s : St) : g19D A n [] K s = g19D A n [false] (g19Q A n [true] K) s := by kernel_rfl
theorem g19p0 {R : Type} (A : Ar) (n : Nat) (K : Ex → St → Option R) (s s' : St) (h : keep g19an 0 s = keep g19an 0 s') : g19D A n [false] K s = g19D A n [false] K s' := codeD_first (id := 0) (by kernel_rfl) h K
theorem g19p1 {R : Type} (A : Ar) (n : Nat) (K : Ex → St → Option R) (s : St) : g19D A n [true] K s = g19D A n [true, false] (g19Q A n [true, true] K) s := by kernel_rfl
theorem g19p10 {R : Type} (A : Ar) (n : Nat) (K : Ex → St → Option R) (s : St) : g19D A n [true, false] K s = g19D A n [true, false, false] (g19Q A n [true, false, true] K) s := by kernel_rfl
theorem g19p100 {R : Type} (A : Ar) (n : Nat) (K : Ex → St → Option R) (s s' : St) (h : keep g19an 1 s = keep g19an 1 s') : g19D A n [true, false, false] K s = g19D A n [true, false, false] K s' := codeD_first (id := 1) (by kernel_rfl) h K
theorem g19p101 {R : Type} (A : Ar) (n : Nat) (K : Ex → St → Option R) (s : St) (t : Bool) : ev s (.tmp 7) = some (.v (.cell (.bool t))) → g19D A n [true, false, true] K s = (match t with
    | true => g19D A n [true, false, true, false] K s
    | false => g19D A n [true, false, true, true] K s) := codeD_cond t
theorem g19p1010 {R : Type} (A : Ar) (n : Nat) (K : Ex → St → Option R) (s : St) : g19D A n [true, false, true, false] K s = g19D A n [true, false, true, false, false] (g19Q A n [true, false, true, false, true] K) s := by kernel_rfl
theorem g19p10100 {R : Type} (A : Ar) (n : Nat) (K : Ex → St → Option R) (s s' : St) (h : keep g19an 2 s = keep g19an 2 s') : g19D A n [true, false, true, false, false] K s = g19D A n [true, false, true, false, false] K s' := codeD_first (id := 2) (by kernel_rfl) h K
theorem g19p10101 {R : Type} (A : Ar) (n : Nat) (K : Ex → St → Option R) (s : St) : g19D A n [true, false, true, false, true] K s = K .ret s := by kernel_rfl
theorem g19p1011 {R : Type} (A : Ar) (n : Nat) (K : Ex → St → Option R) (s : St) : g19D A n [true, false, true, true] K s = K .normal s := by kernel_rfl
theorem g19p11 {R : Type} (A : Ar) (n : Nat) (K : Ex → St → Option R) (s : St) : g19D A n [true, true] K s = g19D A n [true, true, false] (g19Q A n [true, true, true] K) s := by kernel_rfl
theorem g19p110 {R : Type} (A : Ar) (n : Nat) (K : Ex → St → Option R) (s s' : St) (h : keep g19an 3 s = keep g19an 3 s') : g19D A n [true, true, false] K s = g19D A n [true, true, false] K s' := codeD_first (id := 3) (by kernel_rfl) h K
theorem g19p111 {R : Type} (A : Ar) (n : Nat) (K : Ex → St → Option R) (s : St) : g19D A n [true, true, true] K s = g19D A n [true, true, true, false] (g19Q A n [true, true, true, true] K) s := by kernel_rfl
theorem g19p1110 {R : Type} (A : Ar) (n : Nat) (K : Ex → St → Option R) (s s' : St) (h : keep g19an 4 s = keep g19an 4 s') : g19D A n [true, true, true, false] K s = g19D A n [true, true, true, false] K s' := codeD_first (id := 4) (by kernel_rfl) h K
theorem g19p1111 {R : Type} (A : Ar) (n : Nat) (K : Ex → St → Option R) (s : St) : g19D A n [true, true, true, true] K s = g19D A n [true, true, true, true, false] (g19Q A n [true, true, true, true, true] K) s := by kernel_rfl
theorem g19p11110 {R : Type} (A : Ar) (n : Nat) (K : Ex → St → Option R) (s s' : St) (h : keep g19an 5 s = keep g19an 5 s') : g19D A n [true, true, true, true, false] K s = g19D A n [true, true, true, true, false] K s' := codeD_first (id := 5) (by kernel_rfl) h K
theorem g19p11111 {R : Type} (A : Ar) (n : Nat) (K : Ex → St → Option R) (s : St) : g19D A n [true, true, true, true, true] K s = g19D A n [true, true, true, true, true, false] (g19Q A n [true, true, true, true, true, true] K) s := by kernel_rfl
theorem g19p111110 {R : Type} (A : Ar) (n : Nat) (K : Ex → St → Option R) (s s' : St) (h : keep g19an 6 s = keep g19an 6 s') : g19D A n [true, true, true, true, true, false] K s = g19D A n [true, true, true, true, true, false] K s' := codeD_first (id := 6) (by kernel_rfl) h K
theorem g19p111111 {R : Type} (A : Ar) (n : Nat) (K : Ex → St → Option R) (s : St) : g19D A n [true, true, true, true, true, true] K s = K .ret s := by kernel_rfl
theorem g19R3 {R : Type} (A : Ar) (n : Nat) (K : Ex → St → Option R) (x0 : List Nat) : g19D A n [true, true, false] K ⟨[(0, (.v (.cell (.str x0))))], []⟩ = match (generalizing := false) A.le x0.length 9223372036854775807 with
    | true => K .normal ⟨[(4, (.v (.cell (.sl 4001 none x0.length 1)))), (9, (.v (.cell (.sl 4001 none x0.length 1)))), (8, (.v (.cell (.str x0)))), (0, (.v (.cell (.str x0))))], [(4001, ⟨[.nums .u8 x0.length x0], 5, 1⟩)]⟩
    | false => none := by kernel_rfl
theorem g19R4 {R : Type} (A : Ar) (n : Nat) (K : Ex → St → Option R) (x0 : Nat) (x1 : Nat) (x2 : List Nat) : g19D A n [true, true, true, false] K ⟨[(4, (.v (.cell (.sl 4001 none x0 1))))], [(4001, ⟨[.nums .u8 x1 x2], 5, 1⟩)]⟩ = match (generalizing := false) Nat.blt 0 x0 with
    | true => match (generalizing := false) Nat.blt 0 x0 with
      | true => K .normal ⟨[(16, (.v (.cell (.ptr 4001 0 (some ⟨0, 1, x0, 0, 0, 1⟩))))), (15, (.v (.cell (.nat .u8 (A.nb .mul .u8 (A.nb .quo .u8 (x2.getD 0 0) 8) 8))))), (14, (.v (.cell (.nat .u8 (A.nb .quo .u8 (x2.getD 0 0) 8))))), (13, (.v (.cell (.nat .u8 (x2.getD 0 0))))), (12, (.v (.cell (.ptr 4001 0 (some ⟨0, 1, x0, 0, 0, 1⟩))))), (11, (.v (.cell (.sl 4001 none x0 1)))), (10, (.v (.cell (.sl 4001 none x0 1)))), (4, (.v (.cell (.sl 4001 none x0 1))))], [(4001, ⟨[.nums .u8 x1 (x2.set 0 (A.nb .mul .u8 (A.nb .quo .u8 (x2.getD 0 0) 8) 8))], 5, 1⟩)]⟩
      | false => none
    | false => none := by kernel_rfl
theorem g19R5 {R : Type} (A : Ar) (n : Nat) (K : Ex → St → Option R) (x0 : Nat) (x1 : Nat) (x2 : List Nat) : g19D A n [true, true, true, true, false] K ⟨[(4, (.v (.cell (.sl 4001 none x0 1))))], [(4001, ⟨[.nums .u8 x1 x2], 5, 1⟩)]⟩ = match (generalizing := false) Nat.blt 31 x0 with
    | true => match (generalizing := false) Nat.blt 31 x0 with
      | true => K .normal ⟨[(23, (.v (.cell (.ptr 4001 0 (some ⟨31, 1, x0, 31, 0, 1⟩))))), (22, (.v (.cell (.nat .u8 (A.nb .add .u8 (A.nb .rem .u8 (x2.getD 31 0) 64) 64))))), (21, (.v (.cell (.nat .u8 (A.nb .rem .u8 (x2.getD 31 0) 64))))), (20, (.v (.cell (.nat .u8 (x2.getD 31 0))))), (19, (.v (.cell (.ptr 4001 0 (some ⟨31, 1, x0, 31, 0, 1⟩))))), (18, (.v (.cell (.sl 4001 none x0 1)))), (17, (.v (.cell (.sl 4001 none x0 1)))), (4, (.v (.cell (.sl 4001 none x0 1))))], [(4001, ⟨[.nums .u8 x1 (x2.set 31 (A.nb .add .u8 (A.nb .rem .u8 (x2.getD 31 0) 64) 64))], 5, 1⟩)]⟩
      | false => none
    | false => none := by kernel_rfl
theorem g19R6 {R : Type} (A : Ar) (n : Nat) (K : Ex → St → Option R) (x0 : Nat) (x1 : Nat) (x2 : List Nat) : g19D A n [true, true, true, true, true, false] K ⟨[(4, (.v (.cell (.sl 4001 none x0 1))))], [(4001, ⟨[.nums .u8 x1 x2], 5, 1⟩)]⟩ = K .normal ⟨[(3, (.v (.cell (.bool true)))), (2, (.v (.cell (.str (x2.take x0))))), (25, (.v (.cell (.str (x2.take x0))))), (24, (.v (.cell (.sl 4001 none x0 1)))), (4, (.v (.cell (.sl 4001 none x0 1))))], [(4001, ⟨[.nums .u8 x1 x2], 5, 1⟩)]⟩ := by kernel_rfl
theorem g19R0 {R : Type} (A : Ar) (n : Nat) (K : Ex → St → Option R) (x0 : List Nat) : g19D A n [false] K ⟨[(0, (.v (.cell (.str x0))))], []⟩ = K .normal ⟨[(3, (.v (.cell (.bool false)))), (2, (.v (.cell (.str [])))), (0, (.v (.cell (.str x0))))], []⟩ := by kernel_rfl
theorem g19R1 {R : Type} (A : Ar) (n : Nat) (K : Ex → St → Option R) (x0 : List Nat) : g19D A n [true, false, false] K ⟨[(0, (.v (.cell (.str x0))))], []⟩ = K .normal ⟨[(7, (.v (.cell (.bool (A.ic .neq (A.ofN x0.length) 32))))), (6, (.v (.cell (.int .i64 (A.ofN x0.length))))), (5, (.v (.cell (.str x0)))), (0, (.v (.cell (.str x0))))], []⟩ := by kernel_rfl
theorem g19R2 {R : Type} (A : Ar) (n : Nat) (K : Ex → St → Option R)  : g19D A n [true, false, true, false, false] K ⟨[], []⟩ = K .normal ⟨[(3, (.v (.cell (.bool false)))), (2, (.v (.cell (.str []))))], []⟩ := by kernel_rfl
def g19J3 {R : Type} (A : Ar) (n : Nat) (kk : AV → Heap → Option R)  (x0 : List Nat) : Option R :=
  match (generalizing := false) A.le x0.length 9223372036854775807 with
  | true => match (generalizing := false) Nat.blt 0 x0.length with
    | true => match (generalizing := false) Nat.blt 0 x0.length with
      | true => match (generalizing := false) Nat.blt 31 x0.length with
        | true => match (generalizing := false) Nat.blt 31 x0.length with
          | true => kk (.tup [(.cell (.str (((x0.set 0 (A.nb .mul .u8 (A.nb .quo .u8 (x0.getD 0 0) 8) 8)).set 31 (A.nb .add .u8 (A.nb .rem .u8 ((x0.set 0 (A.nb .mul .u8 (A.nb .quo .u8 (x0.getD 0 0) 8) 8)).getD 31 0) 64) 64)).take x0.length))), (.cell (.bool true))]) [(4001, ⟨[.nums .u8 x0.length ((x0.set 0 (A.nb .mul .u8 (A.nb .quo .u8 (x0.getD 0 0) 8) 8)).set 31 (A.nb .add .u8 (A.nb .rem .u8 ((x0.set 0 (A.nb .mul .u8 (A.nb .quo .u8 (x0.getD 0 0) 8) 8)).getD 31 0) 64) 64))], 5, 1⟩)]
          | false => none
        | false => none
      | false => none
    | false => none
  | false => none
set_option maxRecDepth 100000 in
theorem g19J3_eq {R : Type} (A : Ar) (n : Nat) (kk : AV → Heap → Option R)    (s : St) (x0 : List Nat) (h : keep g19an 3 s = ⟨[(0, (.v (.cell (.str x0))))], []⟩) :
    g19D A n [true, true] (g19T kk) s = g19J3 A n kk  x0 := by
  have h1 : (g19T kk) .ret ⟨[(3, (.v (.cell (.bool true)))), (2, (.v (.cell (.str (((x0.set 0 (A.nb .mul .u8 (A.nb .quo .u8 (x0.getD 0 0) 8) 8)).set 31 (A.nb .add .u8 (A.nb .rem .u8 ((x0.set 0 (A.nb .mul .u8 (A.nb .quo .u8 (x0.getD 0 0) 8) 8)).getD 31 0) 64) 64)).take x0.length))))), (25, (.v (.cell (.str (((x0.set 0 (A.nb .mul .u8 (A.nb .quo .u8 (x0.getD 0 0) 8) 8)).set 31 (A.nb .add .u8 (A.nb .rem .u8 ((x0.set 0 (A.nb .mul .u8 (A.nb .quo .u8 (x0.getD 0 0) 8) 8)).getD 31 0) 64) 64)).take x0.length))))), (24, (.v (.cell (.sl 4001 none x0.length 1)))), (4, (.v (.cell (.sl 4001 none x0.length 1))))], [(4001, ⟨[.nums .u8 x0.length ((x0.set 0 (A.nb .mul .u8 (A.nb .quo .u8 (x0.getD 0 0) 8) 8)).set 31 (A.nb .add .u8 (A.nb .rem .u8 ((x0.set 0 (A.nb .mul .u8 (A.nb .quo .u8 (x0.getD 0 0) 8) 8)).getD 31 0) 64) 64))], 5, 1⟩)]⟩ = kk (.tup [(.cell (.str (((x0.set 0 (A.nb .mul .u8 (A.nb .quo .u8 (x0.getD 0 0) 8) 8)).set 31 (A.nb .add .u8 (A.nb .rem .u8 ((x0.set 0 (A.nb .mul .u8 (A.nb .quo .u8 (x0.getD 0 0) 8) 8)).getD 31 0) 64) 64)).take x0.length))), (.cell (.bool true))]) [(4001, ⟨[.nums .u8 x0.length ((x0.set 0 (A.nb .mul .u8 (A.nb .quo .u8 (x0.getD 0 0) 8) 8)).set 31 (A.nb .add .u8 (A.nb .rem .u8 ((x0.set 0 (A.nb .mul .u8 (A.nb .quo .u8 (x0.getD 0 0) 8) 8)).getD 31 0) 64) 64))], 5, 1⟩)] := by kernel_rfl
  have h2 := (g19p111111 A n _ _).trans h1
  have h3 := (g19Qn A n _ _ _).trans h2
  have h4 := (g19p111110 A n (g19Q A n [true, true, true, true, true, true] (g19T kk)) ⟨[(23, (.v (.cell (.ptr 4001 0 (some ⟨31, 1, x0.length, 31, 0, 1⟩))))), (22, (.v (.cell (.nat .u8 (A.nb .add .u8 (A.nb .rem .u8 ((x0.set 0 (A.nb .mul .u8 (A.nb .quo .u8 (x0.getD 0 0) 8) 8)).getD 31 0) 64) 64))))), (21, (.v (.cell (.nat .u8 (A.nb .rem .u8 ((x0.set 0 (A.nb .mul .u8 (A.nb .quo .u8 (x0.getD 0 0) 8) 8)).getD 31 0) 64))))), (20, (.v (.cell (.nat .u8 ((x0.set 0 (A.nb .mul .u8 (A.nb .quo .u8 (x0.getD 0 0) 8) 8)).getD 31 0))))), (19, (.v (.cell (.ptr 4001 0 (some ⟨31, 1, x0.length, 31, 0, 1⟩))))), (18, (.v (.cell (.sl 4001 none x0.length 1)))), (17, (.v (.cell (.sl 4001 none x0.length 1)))), (4, (.v (.cell (.sl 4001 none x0.length 1))))], [(4001, ⟨[.nums .u8 x0.length ((x0.set 0 (A.nb .mul .u8 (A.nb .quo .u8 (x0.getD 0 0) 8) 8)).set 31 (A.nb .add .u8 (A.nb .rem .u8 ((x0.set 0 (A.nb .mul .u8 (A.nb .quo .u8 (x0.getD 0 0) 8) 8)).getD 31 0) 64) 64))], 5, 1⟩)]⟩ ⟨[(4, (.v (.cell (.sl 4001 none x0.length 1))))], [(4001, ⟨[.nums .u8 x0.length ((x0.set 0 (A.nb .mul .u8 (A.nb .quo .u8 (x0.getD 0 0) 8) 8)).set 31 (A.nb .add .u8 (A.nb .rem .u8 ((x0.set 0 (A.nb .mul .u8 (A.nb .quo .u8 (x0.getD 0 0) 8) 8)).getD 31 0) 64) 64))], 5, 1⟩)]⟩ (by kernel_rfl)).trans (g19R6 A n (g19Q A n [true, true, true, true, true, true] (g19T kk)) x0.length x0.length ((x0.set 0 (A.nb .mul .u8 (A.nb .quo .u8 (x0.getD 0 0) 8) 8)).set 31 (A.nb .add .u8 (A.nb .rem .u8 ((x0.set 0 (A.nb .mul .u8 (A.nb .quo .u8 (x0.getD 0 0) 8) 8)).getD 31 0) 64) 64)))
  rw [h3] at h4
  have h5 := (g19p11111 A n _ _).trans h4
  have h6 := (g19Qn A n _ _ _).trans h5
  have h7 := (g19p11110 A n (g19Q A n [true, true, true, true, true] (g19T kk)) ⟨[(16, (.v (.cell (.ptr 4001 0 (some ⟨0, 1, x0.length, 0, 0, 1⟩))))), (15, (.v (.cell (.nat .u8 (A.nb .mul .u8 (A.nb .quo .u8 (x0.getD 0 0) 8) 8))))), (14, (.v (.cell (.nat .u8 (A.nb .quo .u8 (x0.getD 0 0) 8))))), (13, (.v (.cell (.nat .u8 (x0.getD 0 0))))), (12, (.v (.cell (.ptr 4001 0 (some ⟨0, 1, x0.length, 0, 0, 1⟩))))), (11, (.v (.cell (.sl 4001 none x0.length 1)))), (10, (.v (.cell (.sl 4001 none x0.length 1)))), (4, (.v (.cell (.sl 4001 none x0.length 1))))], [(4001, ⟨[.nums .u8 x0.length (x0.set 0 (A.nb .mul .u8 (A.nb .quo .u8 (x0.getD 0 0) 8) 8))], 5, 1⟩)]⟩ ⟨[(4, (.v (.cell (.sl 4001 none x0.length 1))))], [(4001, ⟨[.nums .u8 x0.length (x0.set 0 (A.nb .mul .u8 (A.nb .quo .u8 (x0.getD 0 0) 8) 8))], 5, 1⟩)]⟩ (by kernel_rfl)).trans (g19R5 A n (g19Q A n [true, true, true, true, true] (g19T kk)) x0.length x0.length (x0.set 0 (A.nb .mul .u8 (A.nb .quo .u8 (x0.getD 0 0) 8) 8)))
  rw [h6] at h7
  have h8 := (g19p1111 A n _ _).trans h7
  have h9 := (g19Qn A n _ _ _).trans h8
  have h10 := (g19p1110 A n (g19Q A n [true, true, true, true] (g19T kk)) ⟨[(4, (.v (.cell (.sl 4001 none x0.length 1)))), (9, (.v (.cell (.sl 4001 none x0.length 1)))), (8, (.v (.cell (.str x0)))), (0, (.v (.cell (.str x0))))], [(4001, ⟨[.nums .u8 x0.length x0], 5, 1⟩)]⟩ ⟨[(4, (.v (.cell (.sl 4001 none x0.length 1))))], [(4001, ⟨[.nums .u8 x0.length x0], 5, 1⟩)]⟩ (by kernel_rfl)).trans (g19R4 A n (g19Q A n [true, true, true, true] (g19T kk)) x0.length x0.length x0)
  rw [h9] at h10
  have h11 := (g19p111 A n _ _).trans h10
  have h12 := (g19Qn A n _ _ _).trans h11
  have h13 := (g19p110 A n (g19Q A n [true, true, true] (g19T kk)) ⟨[(0, (.v (.cell (.str x0))))], []⟩ ⟨[(0, (.v (.cell (.str x0))))], []⟩ (by kernel_rfl)).trans (g19R3 A n (g19Q A n [true, true, true] (g19T kk)) x0)
  rw [h12] at h13
  have h14 := (g19p11 A n _ _).trans h13
  exact (codeD_first (s' := ⟨[(0, (.v (.cell (.str x0))))], []⟩) (id := 3) (by kernel_rfl) (h.trans (by kernel_rfl)) _).trans (h14.trans (by kernel_rfl))
def g19 {R : Type} (A : Ar) (n : Nat) (kk : AV → Heap → Option R) (a : List Nat) : Option R :=
  match (generalizing := false) A.ic .neq (A.ofN a.length) 32 with
  | true => kk (.tup [(.cell (.str [])), (.cell (.bool false))]) []
  | false => g19J3 A n kk  a
set_option maxRecDepth 100000 in
theorem g19_eq {R : Type} (A : Ar) (n : Nat) (kk : AV → Heap → Option R) (a : List Nat) :
    funD A gtys (orcOf []) g19an n (bodyOf Try.f19) g19res [(.v (.cell (.str a)))] [] kk = g19 A n kk a := by
  have h1 : (g19T kk) .ret ⟨[(3, (.v (.cell (.bool false)))), (2, (.v (.cell (.str []))))], []⟩ = kk (.tup [(.cell (.str [])), (.cell (.bool false))]) [] := by kernel_rfl
  have h2 := (g19Qr A n [true, true] _ _).trans h1
  have h3 := (g19p10101 A n _ _).trans h2
  have h4 := (g19Qn A n _ _ _).trans h3
  have h5 := (g19p10100 A n (g19Q A n [true, false, true, false, true] (g19Q A n [true, true] (g19T kk))) ⟨[(7, (.v (.cell (.bool (A.ic .neq (A.ofN a.length) 32))))), (6, (.v (.cell (.int .i64 (A.ofN a.length))))), (5, (.v (.cell (.str a)))), (0, (.v (.cell (.str a))))], []⟩ ⟨[], []⟩ (by kernel_rfl)).trans (g19R2 A n (g19Q A n [true, false, true, false, true] (g19Q A n [true, true] (g19T kk))) )
  rw [h4] at h5
  have h6 := (g19p1010 A n _ _).trans h5
  have h7 := (g19Qn A n _ _ _).trans (g19J3_eq A n kk     ⟨[(7, (.v (.cell (.bool (A.ic .neq (A.ofN a.length) 32))))), (6, (.v (.cell (.int .i64 (A.ofN a.length))))), (5, (.v (.cell (.str a)))), (0, (.v (.cell (.str a))))], []⟩ a (by kernel_rfl))
  have h8 := (g19p1011 A n _ _).trans h7
  have h9 := g19p101 A n (g19Q A n [true, true] (g19T kk)) ⟨[(7, (.v (.cell (.bool (A.ic .neq (A.ofN a.length) 32))))), (6, (.v (.cell (.int .i64 (A.ofN a.length))))), (5, (.v (.cell (.str a)))), (0, (.v (.cell (.str a))))], []⟩ (A.ic .neq (A.ofN a.length) 32) (by kernel_rfl)
  rw [h6, h8] at h9
  have h10 := (g19Qn A n _ _ _).trans h9
  have h11 := (g19p100 A n (g19Q A n [true, false, true] (g19Q A n [true, true] (g19T kk))) ⟨[(3, (.v (.cell (.bool false)))), (2, (.v (.cell (.str [])))), (0, (.v (.cell (.str a))))], []⟩ ⟨[(0, (.v (.cell (.str a))))], []⟩ (by kernel_rfl)).trans (g19R1 A n (g19Q A n [true, false, true] (g19Q A n [true, true] (g19T kk))) a)
  rw [h10] at h11
  have h12 := (g19p10 A n _ _).trans h11
  have h13 := (g19p1 A n _ _).trans h12
  have h14 := (g19Qn A n _ _ _).trans h13
  have h15 := (g19p0 A n (g19Q A n [true] (g19T kk)) ⟨[(0, (.v (.cell (.str a))))], []⟩ ⟨[(0, (.v (.cell (.str a))))], []⟩ (by kernel_rfl)).trans (g19R0 A n (g19Q A n [true] (g19T kk)) a)
  rw [h14] at h15
  have h16 := (g19p A n _ _).trans h15
  exact (show funD A gtys (orcOf []) g19an n (bodyOf Try.f19) g19res [(.v (.cell (.str a)))] [] kk = g19D A n [] (g19T kk) ⟨[(0, (.v (.cell (.str a))))], []⟩ from by kernel_rfl).trans (h16.trans (by kernel_rfl))
def g19is (o : Option AV) : Bool := match o with
  | some (.tup [.cell (.str _), .cell (.bool _)]) => true
  | _ => false
def g19g0 (o : Option AV) : List Nat := match o with
  | some (.tup [.cell (.str x), .cell (.bool _)]) => x
  | _ => []
def g19g1 (o : Option AV) : Bool := match o with
  | some (.tup [.cell (.str _), .cell (.bool x)]) => x
  | _ => false
theorem g19is_spec {o : Option AV} (h : g19is o = true) : o = some (.tup [.cell (.str (g19g0 o)), .cell (.bool (g19g1 o))]) := by
  unfold g19is at h
  split at h
  · rfl
  · cases h
def g19v (a : List Nat) : Option AV := g19 realA (100000) (fun v _ => some v) a
def g19ok (a : List Nat) : Bool := g19is (g19v a)
def g19r0 (a : List Nat) : List Nat := g19g0 (g19v a)
def g19r1 (a : List Nat) : Bool := g19g1 (g19v a)
theorem g19ok_spec {a} (h : g19ok a = true) : g19v a = some (.tup [.cell (.str (g19r0 a)), .cell (.bool (g19r1 a))]) := g19is_spec h
def g19o (args : List AV) : Option (Bool × AV) := match args with
  | [.v (.cell (.str a))] => some (g19ok a, .tup [.cell (.str (g19r0 a)), .cell (.bool (g19r1 a))])
  | _ => none
theorem g19O_sound : OSound Try.prog (orcOf []) := orc_sound fun f g hm args v hv => by
  cases hm
theorem g19o_sound : ∀ args v, g19o args = some (true, v) → Fn1 Try.prog 19 args v := by
  intro args v h
  unfold g19o at h
  split at h
  · rename_i a
    simp only [Option.some.injEq, Prod.mk.injEq] at h
    obtain ⟨hc, h⟩ := h
    subst h
    · skip
      exact fn1_of mixed gtysOK g19O_sound (orc_det _) (an := g19an) (n := 100000) Try.func19 (c := bodyOf Try.f19) rfl (by kernel_rfl) Try.call19 (Nat.le_of_ble_eq_true rfl) (fun b => rfl) (fun _ => (g19_eq realA (100000) (fun v _ => some v) a).trans (show g19v a = _ from g19ok_spec hc))
  · cases h
end Go.Sx
