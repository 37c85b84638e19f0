/- printed by sxgen -/
import Derived.Test.YtcgjapkajaflpaaSxP04b
namespace Go.Sx
open Go.Proofs
/- engrosser/engrosserlaw04.examples -/
def g9an : Ann := [(0, ([], [])), (1, ([], [])), (2, ([1], []))]
def g9res : List ResultVar := [.tmp 0]
noncomputable def g9D {R : Type} (A : Ar) (n : Nat) (p : List Bool) (K : Ex → St → Option R) (s : St) : Option R := codeD A gtys (orcOf [(16, g16o), (10, g10o), (12, g12o), (14, g14o)]) g9an n (sub (bodyOf Try.f9) p) K s
noncomputable def g9V {R : Type} (A : Ar) (n : Nat) (p : List Bool) (m : Nat) (K : Ex → St → Option R) (s : St) : Option R := loopD (fun K' s'' => codeD A gtys (orcOf [(16, g16o), (10, g10o), (12, g12o), (14, g14o)]) g9an n (sub (bodyOf Try.f9) p) K' s'') m K s
noncomputable def g9Q {R : Type} (A : Ar) (n : Nat) (p : List Bool) (K : Ex → St → Option R) : Ex → St → Option R := seqC (g9D A n p K) K
noncomputable def g9W {R : Type} (A : Ar) (n : Nat) (p : List Bool) (m : Nat) (K : Ex → St → Option R) : Ex → St → Option R := seqC (g9V A n p m K) K
noncomputable def g9T {R : Type} (kk : AV → Heap → Option R) : Ex → St → Option R := finD gtys g9res kk
theorem g9Qn {R : Type} (A : Ar) (n : Nat) (p : List Bool) (K : Ex → St → Option R) (s : St) : g9Q A n p K .normal s = g9D A n p K s := rfl
theorem g9Qe {R : Type} (A : Ar) (n : Nat) (p : List Bool) (K : Ex → St → Option R) (i : Nat) (s : St) : g9Q A n p K (.exit i) s = K (.exit i) s := rfl
theorem g9Qr {R : Type} (A : Ar) (n : Nat) (p : List Bool) (K : Ex → St → Option R) (s : St) : g9Q A n p K .ret s = K .ret s := rfl
theorem g9Wn {R : Type} (A : Ar) (n : Nat) (p : List Bool) (m : Nat) (K : Ex → St → Option R) (s : St) : g9W A n p m K .normal s = g9V A n p m K s := rfl
theorem g9We {R : Type} (A : Ar) (n : Nat) (p : List Bool) (m : Nat) (K : Ex → St → Option R) (i : Nat) (s : St) : g9W A n p m K (.exit i) s = K (.exit i) s := rfl
theorem g9Wr {R : Type} (A : Ar) (n : Nat) (p : List Bool) (m : Nat) (K : Ex → St → Option R) (s : St) : g9W A n p m K .ret s = K .ret s := rfl
theorem g9Vs {R : Type} (A : Ar) (n : Nat) (p : List Bool) (m : Nat) (K : Ex → St → Option R) (s : St) : g9V A n p (m + 1) K s = g9D A n p (g9W A n p m K) s := rfl
theorem g9p {R : Type} (A : Ar) (n : Nat) (K : Ex → St → Option R) (s : St) : g9D A n [] K s = g9D A n [false] (g9Q A n [true] K) s := by kernel_rfl
theorem g9p0 {R : Type} (A : Ar) (n : Nat) (K : Ex → St → Option R) (s s' : St) (h : keep g9an 0 s = keep g9an 0 s') : g9D A n [false] K s = g9D A n [false] K s' := codeD_first (id := 0) (by kernel_rfl) h K
theorem g9p1 {R : Type} (A : Ar) (n : Nat) (K : Ex → St → Option R) (s : St) : g9D A n [true] K s = g9D A n [true, false] (g9Q A n [true, true] K) s := by kernel_rfl
theorem g9p10 {R : Type} (A : Ar) (n : Nat) (K : Ex → St → Option R) (s s' : St) (h : keep g9an 1 s = keep g9an 1 s') : g9D A n [true, false] K s = g9D A n [true, false] K s' := codeD_first (id := 1) (by kernel_rfl) h K
theorem g9p11 {R : Type} (A : Ar) (n : Nat) (K : Ex → St → Option R) (s : St) : g9D A n [true, true] K s = g9D A n [true, true, false] (g9Q A n [true, true, true] K) s := by kernel_rfl
theorem g9p110 {R : Type} (A : Ar) (n : Nat) (K : Ex → St → Option R) (s s' : St) (h : keep g9an 2 s = keep g9an 2 s') : g9D A n [true, true, false] K s = g9D A n [true, true, false] K s' := codeD_first (id := 2) (by kernel_rfl) h K
theorem g9p111 {R : Type} (A : Ar) (n : Nat) (K : Ex → St → Option R) (s : St) : g9D A n [true, true, true] K s = K .ret s := by kernel_rfl
theorem g9R0 {R : Type} (A : Ar) (n : Nat) (K : Ex → St → Option R)  : g9D A n [false] K ⟨[], []⟩ = K .normal ⟨[(0, (.v (.cell (.bool false))))], []⟩ := by kernel_rfl
theorem g9R1 {R : Type} (A : Ar) (n : Nat) (K : Ex → St → Option R)  : g9D A n [true, false] K ⟨[], []⟩ = match (generalizing := false) A.le 32 32 with
    | true => match (generalizing := false) A.le 32 140737488355328 with
      | true => K .normal ⟨[(1, (.v (.cell (.str ((List.replicate 32 0).take 32))))), (3, (.v (.cell (.str ((List.replicate 32 0).take 32))))), (2, (.v (.cell (.sl 2000 none 32 1))))], [(2000, ⟨[.nums .u8 32 (List.replicate 32 0)], 5, 2⟩)]⟩
      | false => none
    | false => none := by kernel_rfl
theorem g9R2 {R : Type} (A : Ar) (n : Nat) (K : Ex → St → Option R) (x0 : List Nat) : g9D A n [true, true, false] K ⟨[(1, (.v (.cell (.str x0))))], []⟩ = match (generalizing := false) g16ok with
    | true => match (generalizing := false) g10ok g16r0 with
      | true => match (generalizing := false) A.sc .eql (g10r0 g16r0) x0 with
        | true => match (generalizing := false) g16ok with
          | true => match (generalizing := false) g12ok g16r0 with
            | true => match (generalizing := false) g12r0 g16r0 with
              | true => match (generalizing := false) !true with
                | true => match (generalizing := false) g12ok x0 with
                  | true => match (generalizing := false) g12r0 x0 with
                    | true => match (generalizing := false) g14ok [3] [4] [5] with
                      | true => match (generalizing := false) A.le 1 x0.length with
                        | true => match (generalizing := false) A.le ([17].length + ((x0.take x0.length).drop 1).length) 9223372036854775807 with
                          | true => match (generalizing := false) A.sc .eql (g14r0 [3] [4] [5]) ([17] ++ ((x0.take x0.length).drop 1)) with
                            | true => K .normal ⟨[(0, (.v (.cell (.bool true)))), (23, (.v (.cell (.bool true)))), (22, (.v (.cell (.bool true)))), (21, (.v (.cell (.str ([17] ++ ((x0.take x0.length).drop 1)))))), (20, (.v (.cell (.str ((x0.take x0.length).drop 1))))), (19, (.v (.cell (.str x0)))), (18, (.v (.cell (.str (g14r0 [3] [4] [5]))))), (17, (.v (.cell (.bool true)))), (16, (.v (.cell (.bool true)))), (15, (.v (.cell (.bool true)))), (14, (.v (.cell (.str x0)))), (13, (.v (.cell (.bool true)))), (12, (.v (.cell (.bool true)))), (11, (.v (.cell (.bool true)))), (10, (.v (.cell (.bool true)))), (9, (.v (.cell (.str g16r0)))), (8, (.v (.cell (.bool true)))), (7, (.v (.cell (.bool true)))), (6, (.v (.cell (.str x0)))), (5, (.v (.cell (.str (g10r0 g16r0))))), (4, (.v (.cell (.str g16r0)))), (1, (.v (.cell (.str x0))))], []⟩
                            | false => K .normal ⟨[(0, (.v (.cell (.bool false)))), (23, (.v (.cell (.bool false)))), (22, (.v (.cell (.bool false)))), (21, (.v (.cell (.str ([17] ++ ((x0.take x0.length).drop 1)))))), (20, (.v (.cell (.str ((x0.take x0.length).drop 1))))), (19, (.v (.cell (.str x0)))), (18, (.v (.cell (.str (g14r0 [3] [4] [5]))))), (17, (.v (.cell (.bool true)))), (16, (.v (.cell (.bool true)))), (15, (.v (.cell (.bool true)))), (14, (.v (.cell (.str x0)))), (13, (.v (.cell (.bool true)))), (12, (.v (.cell (.bool true)))), (11, (.v (.cell (.bool true)))), (10, (.v (.cell (.bool true)))), (9, (.v (.cell (.str g16r0)))), (8, (.v (.cell (.bool true)))), (7, (.v (.cell (.bool true)))), (6, (.v (.cell (.str x0)))), (5, (.v (.cell (.str (g10r0 g16r0))))), (4, (.v (.cell (.str g16r0)))), (1, (.v (.cell (.str x0))))], []⟩
                          | false => none
                        | false => none
                      | false => none
                    | false => K .normal ⟨[(0, (.v (.cell (.bool false)))), (23, (.v (.cell (.bool false)))), (22, (.v (.cell .un))), (21, (.v (.cell .un))), (20, (.v (.cell .un))), (19, (.v (.cell .un))), (18, (.v (.cell .un))), (17, (.v (.cell (.bool false)))), (16, (.v (.cell (.bool false)))), (15, (.v (.cell (.bool false)))), (14, (.v (.cell (.str x0)))), (13, (.v (.cell (.bool true)))), (12, (.v (.cell (.bool true)))), (11, (.v (.cell (.bool true)))), (10, (.v (.cell (.bool true)))), (9, (.v (.cell (.str g16r0)))), (8, (.v (.cell (.bool true)))), (7, (.v (.cell (.bool true)))), (6, (.v (.cell (.str x0)))), (5, (.v (.cell (.str (g10r0 g16r0))))), (4, (.v (.cell (.str g16r0)))), (1, (.v (.cell (.str x0))))], []⟩
                  | false => none
                | false => K .normal ⟨[(0, (.v (.cell (.bool false)))), (23, (.v (.cell (.bool false)))), (22, (.v (.cell .un))), (21, (.v (.cell .un))), (20, (.v (.cell .un))), (19, (.v (.cell .un))), (18, (.v (.cell .un))), (17, (.v (.cell (.bool false)))), (16, (.v (.cell (.bool false)))), (15, (.v (.cell .un))), (14, (.v (.cell .un))), (13, (.v (.cell (.bool false)))), (12, (.v (.cell (.bool false)))), (11, (.v (.cell (.bool false)))), (10, (.v (.cell (.bool true)))), (9, (.v (.cell (.str g16r0)))), (8, (.v (.cell (.bool true)))), (7, (.v (.cell (.bool true)))), (6, (.v (.cell (.str x0)))), (5, (.v (.cell (.str (g10r0 g16r0))))), (4, (.v (.cell (.str g16r0)))), (1, (.v (.cell (.str x0))))], []⟩
              | false => match (generalizing := false) !false with
                | true => match (generalizing := false) g12ok x0 with
                  | true => match (generalizing := false) g12r0 x0 with
                    | true => match (generalizing := false) g14ok [3] [4] [5] with
                      | true => match (generalizing := false) A.le 1 x0.length with
                        | true => match (generalizing := false) A.le ([17].length + ((x0.take x0.length).drop 1).length) 9223372036854775807 with
                          | true => match (generalizing := false) A.sc .eql (g14r0 [3] [4] [5]) ([17] ++ ((x0.take x0.length).drop 1)) with
                            | true => K .normal ⟨[(0, (.v (.cell (.bool true)))), (23, (.v (.cell (.bool true)))), (22, (.v (.cell (.bool true)))), (21, (.v (.cell (.str ([17] ++ ((x0.take x0.length).drop 1)))))), (20, (.v (.cell (.str ((x0.take x0.length).drop 1))))), (19, (.v (.cell (.str x0)))), (18, (.v (.cell (.str (g14r0 [3] [4] [5]))))), (17, (.v (.cell (.bool true)))), (16, (.v (.cell (.bool true)))), (15, (.v (.cell (.bool true)))), (14, (.v (.cell (.str x0)))), (13, (.v (.cell (.bool true)))), (12, (.v (.cell (.bool true)))), (11, (.v (.cell (.bool true)))), (10, (.v (.cell (.bool false)))), (9, (.v (.cell (.str g16r0)))), (8, (.v (.cell (.bool true)))), (7, (.v (.cell (.bool true)))), (6, (.v (.cell (.str x0)))), (5, (.v (.cell (.str (g10r0 g16r0))))), (4, (.v (.cell (.str g16r0)))), (1, (.v (.cell (.str x0))))], []⟩
                            | false => K .normal ⟨[(0, (.v (.cell (.bool false)))), (23, (.v (.cell (.bool false)))), (22, (.v (.cell (.bool false)))), (21, (.v (.cell (.str ([17] ++ ((x0.take x0.length).drop 1)))))), (20, (.v (.cell (.str ((x0.take x0.length).drop 1))))), (19, (.v (.cell (.str x0)))), (18, (.v (.cell (.str (g14r0 [3] [4] [5]))))), (17, (.v (.cell (.bool true)))), (16, (.v (.cell (.bool true)))), (15, (.v (.cell (.bool true)))), (14, (.v (.cell (.str x0)))), (13, (.v (.cell (.bool true)))), (12, (.v (.cell (.bool true)))), (11, (.v (.cell (.bool true)))), (10, (.v (.cell (.bool false)))), (9, (.v (.cell (.str g16r0)))), (8, (.v (.cell (.bool true)))), (7, (.v (.cell (.bool true)))), (6, (.v (.cell (.str x0)))), (5, (.v (.cell (.str (g10r0 g16r0))))), (4, (.v (.cell (.str g16r0)))), (1, (.v (.cell (.str x0))))], []⟩
                          | false => none
                        | false => none
                      | false => none
                    | false => K .normal ⟨[(0, (.v (.cell (.bool false)))), (23, (.v (.cell (.bool false)))), (22, (.v (.cell .un))), (21, (.v (.cell .un))), (20, (.v (.cell .un))), (19, (.v (.cell .un))), (18, (.v (.cell .un))), (17, (.v (.cell (.bool false)))), (16, (.v (.cell (.bool false)))), (15, (.v (.cell (.bool false)))), (14, (.v (.cell (.str x0)))), (13, (.v (.cell (.bool true)))), (12, (.v (.cell (.bool true)))), (11, (.v (.cell (.bool true)))), (10, (.v (.cell (.bool false)))), (9, (.v (.cell (.str g16r0)))), (8, (.v (.cell (.bool true)))), (7, (.v (.cell (.bool true)))), (6, (.v (.cell (.str x0)))), (5, (.v (.cell (.str (g10r0 g16r0))))), (4, (.v (.cell (.str g16r0)))), (1, (.v (.cell (.str x0))))], []⟩
                  | false => none
                | false => K .normal ⟨[(0, (.v (.cell (.bool false)))), (23, (.v (.cell (.bool false)))), (22, (.v (.cell .un))), (21, (.v (.cell .un))), (20, (.v (.cell .un))), (19, (.v (.cell .un))), (18, (.v (.cell .un))), (17, (.v (.cell (.bool false)))), (16, (.v (.cell (.bool false)))), (15, (.v (.cell .un))), (14, (.v (.cell .un))), (13, (.v (.cell (.bool false)))), (12, (.v (.cell (.bool false)))), (11, (.v (.cell (.bool false)))), (10, (.v (.cell (.bool false)))), (9, (.v (.cell (.str g16r0)))), (8, (.v (.cell (.bool true)))), (7, (.v (.cell (.bool true)))), (6, (.v (.cell (.str x0)))), (5, (.v (.cell (.str (g10r0 g16r0))))), (4, (.v (.cell (.str g16r0)))), (1, (.v (.cell (.str x0))))], []⟩
            | false => none
          | false => none
        | false => K .normal ⟨[(0, (.v (.cell (.bool false)))), (23, (.v (.cell (.bool false)))), (22, (.v (.cell .un))), (21, (.v (.cell .un))), (20, (.v (.cell .un))), (19, (.v (.cell .un))), (18, (.v (.cell .un))), (17, (.v (.cell (.bool false)))), (16, (.v (.cell (.bool false)))), (15, (.v (.cell .un))), (14, (.v (.cell .un))), (13, (.v (.cell (.bool false)))), (12, (.v (.cell (.bool false)))), (11, (.v (.cell .un))), (10, (.v (.cell .un))), (9, (.v (.cell .un))), (8, (.v (.cell (.bool false)))), (7, (.v (.cell (.bool false)))), (6, (.v (.cell (.str x0)))), (5, (.v (.cell (.str (g10r0 g16r0))))), (4, (.v (.cell (.str g16r0)))), (1, (.v (.cell (.str x0))))], []⟩
      | false => none
    | false => none := by kernel_rfl
def g9 {R : Type} (A : Ar) (n : Nat) (kk : AV → Heap → Option R)  : Option R :=
  match (generalizing := false) A.le 32 32 with
  | true => match (generalizing := false) A.le 32 140737488355328 with
    | true => match (generalizing := false) g16ok with
      | true => match (generalizing := false) g10ok g16r0 with
        | true => match (generalizing := false) A.sc .eql (g10r0 g16r0) ((List.replicate 32 0).take 32) with
          | true => match (generalizing := false) g16ok with
            | true => match (generalizing := false) g12ok g16r0 with
              | true => match (generalizing := false) g12r0 g16r0 with
                | true => match (generalizing := false) !true with
                  | true => match (generalizing := false) g12ok ((List.replicate 32 0).take 32) with
                    | true => match (generalizing := false) g12r0 ((List.replicate 32 0).take 32) with
                      | true => match (generalizing := false) g14ok [3] [4] [5] with
                        | true => match (generalizing := false) A.le 1 (((List.replicate 32 0).take 32).length) with
                          | true => match (generalizing := false) A.le ([17].length + ((((List.replicate 32 0).take 32).take (((List.replicate 32 0).take 32).length)).drop 1).length) 9223372036854775807 with
                            | true => match (generalizing := false) A.sc .eql (g14r0 [3] [4] [5]) ([17] ++ ((((List.replicate 32 0).take 32).take (((List.replicate 32 0).take 32).length)).drop 1)) with
                              | true => kk (.v (.cell (.bool true))) []
                              | false => kk (.v (.cell (.bool false))) []
                            | false => none
                          | false => none
                        | false => none
                      | false => kk (.v (.cell (.bool false))) []
                    | false => none
                  | false => kk (.v (.cell (.bool false))) []
                | false => match (generalizing := false) !false with
                  | true => match (generalizing := false) g12ok ((List.replicate 32 0).take 32) with
                    | true => match (generalizing := false) g12r0 ((List.replicate 32 0).take 32) with
                      | true => match (generalizing := false) g14ok [3] [4] [5] with
                        | true => match (generalizing := false) A.le 1 (((List.replicate 32 0).take 32).length) with
                          | true => match (generalizing := false) A.le ([17].length + ((((List.replicate 32 0).take 32).take (((List.replicate 32 0).take 32).length)).drop 1).length) 9223372036854775807 with
                            | true => match (generalizing := false) A.sc .eql (g14r0 [3] [4] [5]) ([17] ++ ((((List.replicate 32 0).take 32).take (((List.replicate 32 0).take 32).length)).drop 1)) with
                              | true => kk (.v (.cell (.bool true))) []
                              | false => kk (.v (.cell (.bool false))) []
                            | false => none
                          | false => none
                        | false => none
                      | false => kk (.v (.cell (.bool false))) []
                    | false => none
                  | false => kk (.v (.cell (.bool false))) []
              | false => none
            | false => none
          | false => kk (.v (.cell (.bool false))) []
        | false => none
      | false => none
    | false => none
  | false => none
set_option maxRecDepth 100000 in
theorem g9_eq {R : Type} (A : Ar) (n : Nat) (kk : AV → Heap → Option R)  :
    funD A gtys (orcOf [(16, g16o), (10, g10o), (12, g12o), (14, g14o)]) g9an n (bodyOf Try.f9) g9res [] [] kk = g9 A n kk  := by
  have h1 : (g9T kk) .ret ⟨[(0, (.v (.cell (.bool true)))), (23, (.v (.cell (.bool true)))), (22, (.v (.cell (.bool true)))), (21, (.v (.cell (.str ([17] ++ ((((List.replicate 32 0).take 32).take (((List.replicate 32 0).take 32).length)).drop 1)))))), (20, (.v (.cell (.str ((((List.replicate 32 0).take 32).take (((List.replicate 32 0).take 32).length)).drop 1))))), (19, (.v (.cell (.str ((List.replicate 32 0).take 32))))), (18, (.v (.cell (.str (g14r0 [3] [4] [5]))))), (17, (.v (.cell (.bool true)))), (16, (.v (.cell (.bool true)))), (15, (.v (.cell (.bool true)))), (14, (.v (.cell (.str ((List.replicate 32 0).take 32))))), (13, (.v (.cell (.bool true)))), (12, (.v (.cell (.bool true)))), (11, (.v (.cell (.bool true)))), (10, (.v (.cell (.bool true)))), (9, (.v (.cell (.str g16r0)))), (8, (.v (.cell (.bool true)))), (7, (.v (.cell (.bool true)))), (6, (.v (.cell (.str ((List.replicate 32 0).take 32))))), (5, (.v (.cell (.str (g10r0 g16r0))))), (4, (.v (.cell (.str g16r0)))), (1, (.v (.cell (.str ((List.replicate 32 0).take 32)))))], []⟩ = kk (.v (.cell (.bool true))) [] := by kernel_rfl
  have h2 := (g9p111 A n _ _).trans h1
  have h3 := (g9Qn A n _ _ _).trans h2
  have h4 : (g9T kk) .ret ⟨[(0, (.v (.cell (.bool false)))), (23, (.v (.cell (.bool false)))), (22, (.v (.cell (.bool false)))), (21, (.v (.cell (.str ([17] ++ ((((List.replicate 32 0).take 32).take (((List.replicate 32 0).take 32).length)).drop 1)))))), (20, (.v (.cell (.str ((((List.replicate 32 0).take 32).take (((List.replicate 32 0).take 32).length)).drop 1))))), (19, (.v (.cell (.str ((List.replicate 32 0).take 32))))), (18, (.v (.cell (.str (g14r0 [3] [4] [5]))))), (17, (.v (.cell (.bool true)))), (16, (.v (.cell (.bool true)))), (15, (.v (.cell (.bool true)))), (14, (.v (.cell (.str ((List.replicate 32 0).take 32))))), (13, (.v (.cell (.bool true)))), (12, (.v (.cell (.bool true)))), (11, (.v (.cell (.bool true)))), (10, (.v (.cell (.bool true)))), (9, (.v (.cell (.str g16r0)))), (8, (.v (.cell (.bool true)))), (7, (.v (.cell (.bool true)))), (6, (.v (.cell (.str ((List.replicate 32 0).take 32))))), (5, (.v (.cell (.str (g10r0 g16r0))))), (4, (.v (.cell (.str g16r0)))), (1, (.v (.cell (.str ((List.replicate 32 0).take 32)))))], []⟩ = kk (.v (.cell (.bool false))) [] := by kernel_rfl
  have h5 := (g9p111 A n _ _).trans h4
  have h6 := (g9Qn A n _ _ _).trans h5
  have h7 : (g9T kk) .ret ⟨[(0, (.v (.cell (.bool false)))), (23, (.v (.cell (.bool false)))), (22, (.v (.cell .un))), (21, (.v (.cell .un))), (20, (.v (.cell .un))), (19, (.v (.cell .un))), (18, (.v (.cell .un))), (17, (.v (.cell (.bool false)))), (16, (.v (.cell (.bool false)))), (15, (.v (.cell (.bool false)))), (14, (.v (.cell (.str ((List.replicate 32 0).take 32))))), (13, (.v (.cell (.bool true)))), (12, (.v (.cell (.bool true)))), (11, (.v (.cell (.bool true)))), (10, (.v (.cell (.bool true)))), (9, (.v (.cell (.str g16r0)))), (8, (.v (.cell (.bool true)))), (7, (.v (.cell (.bool true)))), (6, (.v (.cell (.str ((List.replicate 32 0).take 32))))), (5, (.v (.cell (.str (g10r0 g16r0))))), (4, (.v (.cell (.str g16r0)))), (1, (.v (.cell (.str ((List.replicate 32 0).take 32)))))], []⟩ = kk (.v (.cell (.bool false))) [] := by kernel_rfl
  have h8 := (g9p111 A n _ _).trans h7
  have h9 := (g9Qn A n _ _ _).trans h8
  have h10 : (g9T kk) .ret ⟨[(0, (.v (.cell (.bool false)))), (23, (.v (.cell (.bool false)))), (22, (.v (.cell .un))), (21, (.v (.cell .un))), (20, (.v (.cell .un))), (19, (.v (.cell .un))), (18, (.v (.cell .un))), (17, (.v (.cell (.bool false)))), (16, (.v (.cell (.bool false)))), (15, (.v (.cell .un))), (14, (.v (.cell .un))), (13, (.v (.cell (.bool false)))), (12, (.v (.cell (.bool false)))), (11, (.v (.cell (.bool false)))), (10, (.v (.cell (.bool true)))), (9, (.v (.cell (.str g16r0)))), (8, (.v (.cell (.bool true)))), (7, (.v (.cell (.bool true)))), (6, (.v (.cell (.str ((List.replicate 32 0).take 32))))), (5, (.v (.cell (.str (g10r0 g16r0))))), (4, (.v (.cell (.str g16r0)))), (1, (.v (.cell (.str ((List.replicate 32 0).take 32)))))], []⟩ = kk (.v (.cell (.bool false))) [] := by kernel_rfl
  have h11 := (g9p111 A n _ _).trans h10
  have h12 := (g9Qn A n _ _ _).trans h11
  have h13 : (g9T kk) .ret ⟨[(0, (.v (.cell (.bool true)))), (23, (.v (.cell (.bool true)))), (22, (.v (.cell (.bool true)))), (21, (.v (.cell (.str ([17] ++ ((((List.replicate 32 0).take 32).take (((List.replicate 32 0).take 32).length)).drop 1)))))), (20, (.v (.cell (.str ((((List.replicate 32 0).take 32).take (((List.replicate 32 0).take 32).length)).drop 1))))), (19, (.v (.cell (.str ((List.replicate 32 0).take 32))))), (18, (.v (.cell (.str (g14r0 [3] [4] [5]))))), (17, (.v (.cell (.bool true)))), (16, (.v (.cell (.bool true)))), (15, (.v (.cell (.bool true)))), (14, (.v (.cell (.str ((List.replicate 32 0).take 32))))), (13, (.v (.cell (.bool true)))), (12, (.v (.cell (.bool true)))), (11, (.v (.cell (.bool true)))), (10, (.v (.cell (.bool false)))), (9, (.v (.cell (.str g16r0)))), (8, (.v (.cell (.bool true)))), (7, (.v (.cell (.bool true)))), (6, (.v (.cell (.str ((List.replicate 32 0).take 32))))), (5, (.v (.cell (.str (g10r0 g16r0))))), (4, (.v (.cell (.str g16r0)))), (1, (.v (.cell (.str ((List.replicate 32 0).take 32)))))], []⟩ = kk (.v (.cell (.bool true))) [] := by kernel_rfl
  have h14 := (g9p111 A n _ _).trans h13
  have h15 := (g9Qn A n _ _ _).trans h14
  have h16 : (g9T kk) .ret ⟨[(0, (.v (.cell (.bool false)))), (23, (.v (.cell (.bool false)))), (22, (.v (.cell (.bool false)))), (21, (.v (.cell (.str ([17] ++ ((((List.replicate 32 0).take 32).take (((List.replicate 32 0).take 32).length)).drop 1)))))), (20, (.v (.cell (.str ((((List.replicate 32 0).take 32).take (((List.replicate 32 0).take 32).length)).drop 1))))), (19, (.v (.cell (.str ((List.replicate 32 0).take 32))))), (18, (.v (.cell (.str (g14r0 [3] [4] [5]))))), (17, (.v (.cell (.bool true)))), (16, (.v (.cell (.bool true)))), (15, (.v (.cell (.bool true)))), (14, (.v (.cell (.str ((List.replicate 32 0).take 32))))), (13, (.v (.cell (.bool true)))), (12, (.v (.cell (.bool true)))), (11, (.v (.cell (.bool true)))), (10, (.v (.cell (.bool false)))), (9, (.v (.cell (.str g16r0)))), (8, (.v (.cell (.bool true)))), (7, (.v (.cell (.bool true)))), (6, (.v (.cell (.str ((List.replicate 32 0).take 32))))), (5, (.v (.cell (.str (g10r0 g16r0))))), (4, (.v (.cell (.str g16r0)))), (1, (.v (.cell (.str ((List.replicate 32 0).take 32)))))], []⟩ = kk (.v (.cell (.bool false))) [] := by kernel_rfl
  have h17 := (g9p111 A n _ _).trans h16
  have h18 := (g9Qn A n _ _ _).trans h17
  have h19 : (g9T kk) .ret ⟨[(0, (.v (.cell (.bool false)))), (23, (.v (.cell (.bool false)))), (22, (.v (.cell .un))), (21, (.v (.cell .un))), (20, (.v (.cell .un))), (19, (.v (.cell .un))), (18, (.v (.cell .un))), (17, (.v (.cell (.bool false)))), (16, (.v (.cell (.bool false)))), (15, (.v (.cell (.bool false)))), (14, (.v (.cell (.str ((List.replicate 32 0).take 32))))), (13, (.v (.cell (.bool true)))), (12, (.v (.cell (.bool true)))), (11, (.v (.cell (.bool true)))), (10, (.v (.cell (.bool false)))), (9, (.v (.cell (.str g16r0)))), (8, (.v (.cell (.bool true)))), (7, (.v (.cell (.bool true)))), (6, (.v (.cell (.str ((List.replicate 32 0).take 32))))), (5, (.v (.cell (.str (g10r0 g16r0))))), (4, (.v (.cell (.str g16r0)))), (1, (.v (.cell (.str ((List.replicate 32 0).take 32)))))], []⟩ = kk (.v (.cell (.bool false))) [] := by kernel_rfl
  have h20 := (g9p111 A n _ _).trans h19
  have h21 := (g9Qn A n _ _ _).trans h20
  have h22 : (g9T kk) .ret ⟨[(0, (.v (.cell (.bool false)))), (23, (.v (.cell (.bool false)))), (22, (.v (.cell .un))), (21, (.v (.cell .un))), (20, (.v (.cell .un))), (19, (.v (.cell .un))), (18, (.v (.cell .un))), (17, (.v (.cell (.bool false)))), (16, (.v (.cell (.bool false)))), (15, (.v (.cell .un))), (14, (.v (.cell .un))), (13, (.v (.cell (.bool false)))), (12, (.v (.cell (.bool false)))), (11, (.v (.cell (.bool false)))), (10, (.v (.cell (.bool false)))), (9, (.v (.cell (.str g16r0)))), (8, (.v (.cell (.bool true)))), (7, (.v (.cell (.bool true)))), (6, (.v (.cell (.str ((List.replicate 32 0).take 32))))), (5, (.v (.cell (.str (g10r0 g16r0))))), (4, (.v (.cell (.str g16r0)))), (1, (.v (.cell (.str ((List.replicate 32 0).take 32)))))], []⟩ = kk (.v (.cell (.bool false))) [] := by kernel_rfl
  have h23 := (g9p111 A n _ _).trans h22
  have h24 := (g9Qn A n _ _ _).trans h23
  have h25 : (g9T kk) .ret ⟨[(0, (.v (.cell (.bool false)))), (23, (.v (.cell (.bool false)))), (22, (.v (.cell .un))), (21, (.v (.cell .un))), (20, (.v (.cell .un))), (19, (.v (.cell .un))), (18, (.v (.cell .un))), (17, (.v (.cell (.bool false)))), (16, (.v (.cell (.bool false)))), (15, (.v (.cell .un))), (14, (.v (.cell .un))), (13, (.v (.cell (.bool false)))), (12, (.v (.cell (.bool false)))), (11, (.v (.cell .un))), (10, (.v (.cell .un))), (9, (.v (.cell .un))), (8, (.v (.cell (.bool false)))), (7, (.v (.cell (.bool false)))), (6, (.v (.cell (.str ((List.replicate 32 0).take 32))))), (5, (.v (.cell (.str (g10r0 g16r0))))), (4, (.v (.cell (.str g16r0)))), (1, (.v (.cell (.str ((List.replicate 32 0).take 32)))))], []⟩ = kk (.v (.cell (.bool false))) [] := by kernel_rfl
  have h26 := (g9p111 A n _ _).trans h25
  have h27 := (g9Qn A n _ _ _).trans h26
  have h28 := (g9p110 A n (g9Q A n [true, true, true] (g9T kk)) ⟨[(1, (.v (.cell (.str ((List.replicate 32 0).take 32))))), (3, (.v (.cell (.str ((List.replicate 32 0).take 32))))), (2, (.v (.cell (.sl 2000 none 32 1))))], [(2000, ⟨[.nums .u8 32 (List.replicate 32 0)], 5, 2⟩)]⟩ ⟨[(1, (.v (.cell (.str ((List.replicate 32 0).take 32)))))], []⟩ (by kernel_rfl)).trans (g9R2 A n (g9Q A n [true, true, true] (g9T kk)) ((List.replicate 32 0).take 32))
  rw [h3, h6, h9, h12, h15, h18, h21, h24, h27] at h28
  have h29 := (g9p11 A n _ _).trans h28
  have h30 := (g9Qn A n _ _ _).trans h29
  have h31 := (g9p10 A n (g9Q A n [true, true] (g9T kk)) ⟨[(0, (.v (.cell (.bool false))))], []⟩ ⟨[], []⟩ (by kernel_rfl)).trans (g9R1 A n (g9Q A n [true, true] (g9T kk)) )
  rw [h30] at h31
  have h32 := (g9p1 A n _ _).trans h31
  have h33 := (g9Qn A n _ _ _).trans h32
  have h34 := (g9p0 A n (g9Q A n [true] (g9T kk)) ⟨[], []⟩ ⟨[], []⟩ (by kernel_rfl)).trans (g9R0 A n (g9Q A n [true] (g9T kk)) )
  rw [h33] at h34
  have h35 := (g9p A n _ _).trans h34
  exact (show funD A gtys (orcOf [(16, g16o), (10, g10o), (12, g12o), (14, g14o)]) g9an n (bodyOf Try.f9) g9res [] [] kk = g9D A n [] (g9T kk) ⟨[], []⟩ from by kernel_rfl).trans (h35.trans (by kernel_rfl))
def g9is (o : Option AV) : Bool := match o with
  | some (.v (.cell (.bool _))) => true
  | _ => false
def g9g0 (o : Option AV) : Bool := match o with
  | some (.v (.cell (.bool x))) => x
  | _ => false
theorem g9is_spec {o : Option AV} (h : g9is o = true) : o = some (.v (.cell (.bool (g9g0 o)))) := by
  unfold g9is at h
  split at h
  · rfl
  · cases h
def g9v  : Option AV := g9 realA (100000) (fun v _ => some v) 
def g9ok  : Bool := g9is (g9v )
def g9r0  : Bool := g9g0 (g9v )
theorem g9ok_spec (h : g9ok = true) : g9v = some (.v (.cell (.bool g9r0))) := g9is_spec h
def g9o (args : List AV) : Option (Bool × AV) := match args with
  | [] => some (g9ok , .v (.cell (.bool g9r0)))
  | _ => none
theorem g9O_sound : OSound Try.prog (orcOf [(16, g16o), (10, g10o), (12, g12o), (14, g14o)]) := orc_sound fun f g hm args v hv => by
  simp only [List.mem_cons, List.not_mem_nil, or_false, Prod.mk.injEq] at hm
  rcases hm with ⟨rfl, rfl⟩ | ⟨rfl, rfl⟩ | ⟨rfl, rfl⟩ | ⟨rfl, rfl⟩
  · exact g16o_sound _ _ hv
  · exact g10o_sound _ _ hv
  · exact g12o_sound _ _ hv
  · exact g14o_sound _ _ hv
theorem g9o_sound : ∀ args v, g9o args = some (true, v) → Fn1 Try.prog 9 args v := by
  intro args v h
  unfold g9o at h
  split at h
  · simp only [Option.some.injEq, Prod.mk.injEq] at h
    obtain ⟨hc, h⟩ := h
    subst h
    · skip
      exact fn1_of mixed gtysOK g9O_sound (orc_det _) (an := g9an) (n := 100000) Try.func9 (c := bodyOf Try.f9) rfl (by kernel_rfl) Try.call9 (Nat.le_of_ble_eq_true rfl) (fun b => rfl) (fun _ => (g9_eq realA (100000) (fun v _ => some v) ).trans (show g9v  = _ from g9ok_spec hc))
  · cases h
/- engrosser/scalar.Clamp -/
def g18an : Ann := [(0, ([0], [])), (1, ([0], [])), (2, ([], [])), (3, ([0], [])), (4, ([4], [4001])), (5, ([4], [4001])), (6, ([4], [4001]))]
def g18res : List ResultVar := [.tmp 2, .tmp 3]
noncomputable def g18D {R : Type} (A : Ar) (n : Nat) (p : List Bool) (K : Ex → St → Option R) (s : St) : Option R := codeD A gtys (orcOf []) g18an n (sub (bodyOf Try.f18) p) K s
noncomputable def g18V {R : Type} (A : Ar) (n : Nat) (p : List Bool) (m : Nat) (K : Ex → St → Option R) (s : St) : Option R := loopD (fun K' s'' => codeD A gtys (orcOf []) g18an n (sub (bodyOf Try.f18) p) K' s'') m K s
noncomputable def g18Q {R : Type} (A : Ar) (n : Nat) (p : List Bool) (K : Ex → St → Option R) : Ex → St → Option R := seqC (g18D A n p K) K
noncomputable def g18W {R : Type} (A : Ar) (n : Nat) (p : List Bool) (m : Nat) (K : Ex → St → Option R) : Ex → St → Option R := seqC (g18V A n p m K) K
noncomputable def g18T {R : Type} (kk : AV → Heap → Option R) : Ex → St → Option R := finD gtys g18res kk
theorem g18Qn {R : Type} (A : Ar) (n : Nat) (p : List Bool) (K : Ex → St → Option R) (s : St) : g18Q A n p K .normal s = g18D A n p K s := rfl
theorem g18Qe {R : Type} (A : Ar) (n : Nat) (p : List Bool) (K : Ex → St → Option R) (i : Nat) (s : St) : g18Q A n p K (.exit i) s = K (.exit i) s := rfl
theorem g18Qr {R : Type} (A : Ar) (n : Nat) (p : List Bool) (K : Ex → St → Option R) (s : St) : g18Q A n p K .ret s = K .ret s := rfl
theorem g18Wn {R : Type} (A : Ar) (n : Nat) (p : List Bool) (m : Nat) (K : Ex → St → Option R) (s : St) : g18W A n p m K .normal s = g18V A n p m K s := rfl
theorem g18We {R : Type} (A : Ar) (n : Nat) (p : List Bool) (m : Nat) (K : Ex → St → Option R) (i : Nat) (s : St) : g18W A n p m K (.exit i) s = K (.exit i) s := rfl
theorem g18Wr {R : Type} (A : Ar) (n : Nat) (p : List Bool) (m : Nat) (K : Ex → St → Option R) (s : St) : g18W A n p m K .ret s = K .ret s := rfl
theorem g18Vs {R : Type} (A : Ar) (n : Nat) (p : List Bool) (m : Nat) (K : Ex → St → Option R) (s : St) : g18V A n p (m + 1) K s = g18D A n p (g18W A n p m K) s := rfl
theorem g18p {R : Type} (A : Ar) (n : Nat) (K : Ex → St → Option R) (s : St) : g18D A n [] K s = g18D A n [false] (g18Q A n [true] K) s := by kernel_rfl
theorem g18p0 {R : Type} (A : Ar) (n : Nat) (K : Ex → St → Option R) (s s' : St) (h : keep g18an 0 s = keep g18an 0 s') : g18D A n [false] K s = g18D A n [false] K s' := codeD_first (id := 0) (by kernel_rfl) h K
theorem g18p1 {R : Type} (A : Ar) (n : Nat) (K : Ex → St → Option R) (s : St) : g18D A n [true] K s = g18D A n [true, false] (g18Q A n [true, true] K) s := by kernel_rfl
theorem g18p10 {R : Type} (A : Ar) (n : Nat) (K : Ex → St → Option R) (s : St) : g18D A n [true, false] K s = g18D A n [true, false, false] (g18Q A n [true, false, true] K) s := by kernel_rfl
theorem g18p100 {R : Type} (A : Ar) (n : Nat) (K : Ex → St → Option R) (s s' : St) (h : keep g18an 1 s = keep g18an 1 s') : g18D A n [true, false, false] K s = g18D A n [true, false, false] K s' := codeD_first (id := 1) (by kernel_rfl) h K
theorem g18p101 {R : Type} (A : Ar) (n : Nat) (K : Ex → St → Option R) (s : St) (t : Bool) : ev s (.tmp 7) = some (.v (.cell (.bool t))) → g18D A n [true, false, true] K s = (match t with
    | true => g18D A n [true, false, true, false] K s
    | false => g18D A n [true, false, true, true] K s) := codeD_cond t
theorem g18p1010 {R : Type} (A : Ar) (n : Nat) (K : Ex → St → Option R) (s : St) : g18D A n [true, false, true, false] K s = g18D A n [true, false, true, false, false] (g18Q A n [true, false, true, false, true] K) s := by kernel_rfl
theorem g18p10100 {R : Type} (A : Ar) (n : Nat) (K : Ex → St → Option R) (s s' : St) (h : keep g18an 2 s = keep g18an 2 s') : g18D A n [true, false, true, false, false] K s = g18D A n [true, false, true, false, false] K s' := codeD_first (id := 2) (by kernel_rfl) h K
theorem g18p10101 {R : Type} (A : Ar) (n : Nat) (K : Ex → St → Option R) (s : St) : g18D A n [true, false, true, false, true] K s = K .ret s := by kernel_rfl
theorem g18p1011 {R : Type} (A : Ar) (n : Nat) (K : Ex → St → Option R) (s : St) : g18D A n [true, false, true, true] K s = K .normal s := by kernel_rfl
theorem g18p11 {R : Type} (A : Ar) (n : Nat) (K : Ex → St → Option R) (s : St) : g18D A n [true, true] K s = g18D A n [true, true, false] (g18Q A n [true, true, true] K) s := by kernel_rfl
theorem g18p110 {R : Type} (A : Ar) (n : Nat) (K : Ex → St → Option R) (s s' : St) (h : keep g18an 3 s = keep g18an 3 s') : g18D A n [true, true, false] K s = g18D A n [true, true, false] K s' := codeD_first (id := 3) (by kernel_rfl) h K
theorem g18p111 {R : Type} (A : Ar) (n : Nat) (K : Ex → St → Option R) (s : St) : g18D A n [true, true, true] K s = g18D A n [true, true, true, false] (g18Q A n [true, true, true, true] K) s := by kernel_rfl
theorem g18p1110 {R : Type} (A : Ar) (n : Nat) (K : Ex → St → Option R) (s s' : St) (h : keep g18an 4 s = keep g18an 4 s') : g18D A n [true, true, true, false] K s = g18D A n [true, true, true, false] K s' := codeD_first (id := 4) (by kernel_rfl) h K
theorem g18p1111 {R : Type} (A : Ar) (n : Nat) (K : Ex → St → Option R) (s : St) : g18D A n [true, true, true, true] K s = g18D A n [true, true, true, true, false] (g18Q A n [true, true, true, true, true] K) s := by kernel_rfl
theorem g18p11110 {R : Type} (A : Ar) (n : Nat) (K : Ex → St → Option R) (s s' : St) (h : keep g18an 5 s = keep g18an 5 s') : g18D A n [true, true, true, true, false] K s = g18D A n [true, true, true, true, false] K s' := codeD_first (id := 5) (by kernel_rfl) h K
theorem g18p11111 {R : Type} (A : Ar) (n : Nat) (K : Ex → St → Option R) (s : St) : g18D A n [true, true, true, true, true] K s = g18D A n [true, true, true, true, true, false] (g18Q A n [true, true, true, true, true, true] K) s := by kernel_rfl
theorem g18p111110 {R : Type} (A : Ar) (n : Nat) (K : Ex → St → Option R) (s s' : St) (h : keep g18an 6 s = keep g18an 6 s') : g18D A n [true, true, true, true, true, false] K s = g18D A n [true, true, true, true, true, false] K s' := codeD_first (id := 6) (by kernel_rfl) h K
theorem g18p111111 {R : Type} (A : Ar) (n : Nat) (K : Ex → St → Option R) (s : St) : g18D A n [true, true, true, true, true, true] K s = K .ret s := by kernel_rfl
theorem g18R3 {R : Type} (A : Ar) (n : Nat) (K : Ex → St → Option R) (x0 : List Nat) : g18D A n [true, true, false] K ⟨[(0, (.v (.cell (.str x0))))], []⟩ = match (generalizing := false) A.le x0.length 9223372036854775807 with
    | true => K .normal ⟨[(4, (.v (.cell (.sl 4001 none x0.length 1)))), (9, (.v (.cell (.sl 4001 none x0.length 1)))), (8, (.v (.cell (.str x0)))), (0, (.v (.cell (.str x0))))], [(4001, ⟨[.nums .u8 x0.length x0], 5, 1⟩)]⟩
    | false => none := by kernel_rfl
theorem g18R4 {R : Type} (A : Ar) (n : Nat) (K : Ex → St → Option R) (x0 : Nat) (x1 : Nat) (x2 : List Nat) : g18D A n [true, true, true, false] K ⟨[(4, (.v (.cell (.sl 4001 none x0 1))))], [(4001, ⟨[.nums .u8 x1 x2], 5, 1⟩)]⟩ = match (generalizing := false) Nat.blt 0 x0 with
    | true => match (generalizing := false) Nat.blt 0 x0 with
      | true => K .normal ⟨[(14, (.v (.cell (.ptr 4001 0 (some ⟨0, 1, x0, 0, 0, 1⟩))))), (13, (.v (.cell (.nat .u8 (A.nb .and .u8 (x2.getD 0 0) 248))))), (12, (.v (.cell (.nat .u8 (x2.getD 0 0))))), (11, (.v (.cell (.ptr 4001 0 (some ⟨0, 1, x0, 0, 0, 1⟩))))), (10, (.v (.cell (.sl 4001 none x0 1)))), (4, (.v (.cell (.sl 4001 none x0 1))))], [(4001, ⟨[.nums .u8 x1 (x2.set 0 (A.nb .and .u8 (x2.getD 0 0) 248))], 5, 1⟩)]⟩
      | false => none
    | false => none := by kernel_rfl
theorem g18R5 {R : Type} (A : Ar) (n : Nat) (K : Ex → St → Option R) (x0 : Nat) (x1 : Nat) (x2 : List Nat) : g18D A n [true, true, true, true, false] K ⟨[(4, (.v (.cell (.sl 4001 none x0 1))))], [(4001, ⟨[.nums .u8 x1 x2], 5, 1⟩)]⟩ = match (generalizing := false) Nat.blt 31 x0 with
    | true => match (generalizing := false) Nat.blt 31 x0 with
      | true => K .normal ⟨[(21, (.v (.cell (.ptr 4001 0 (some ⟨31, 1, x0, 31, 0, 1⟩))))), (20, (.v (.cell (.nat .u8 (A.nb .or .u8 (A.nb .and .u8 (x2.getD 31 0) 63) 64))))), (19, (.v (.cell (.nat .u8 (A.nb .and .u8 (x2.getD 31 0) 63))))), (18, (.v (.cell (.nat .u8 (x2.getD 31 0))))), (17, (.v (.cell (.ptr 4001 0 (some ⟨31, 1, x0, 31, 0, 1⟩))))), (16, (.v (.cell (.sl 4001 none x0 1)))), (15, (.v (.cell (.sl 4001 none x0 1)))), (4, (.v (.cell (.sl 4001 none x0 1))))], [(4001, ⟨[.nums .u8 x1 (x2.set 31 (A.nb .or .u8 (A.nb .and .u8 (x2.getD 31 0) 63) 64))], 5, 1⟩)]⟩
      | false => none
    | false => none := by kernel_rfl
theorem g18R6 {R : Type} (A : Ar) (n : Nat) (K : Ex → St → Option R) (x0 : Nat) (x1 : Nat) (x2 : List Nat) : g18D A n [true, true, true, true, true, false] K ⟨[(4, (.v (.cell (.sl 4001 none x0 1))))], [(4001, ⟨[.nums .u8 x1 x2], 5, 1⟩)]⟩ = K .normal ⟨[(3, (.v (.cell (.bool true)))), (2, (.v (.cell (.str (x2.take x0))))), (23, (.v (.cell (.str (x2.take x0))))), (22, (.v (.cell (.sl 4001 none x0 1)))), (4, (.v (.cell (.sl 4001 none x0 1))))], [(4001, ⟨[.nums .u8 x1 x2], 5, 1⟩)]⟩ := by kernel_rfl
theorem g18R0 {R : Type} (A : Ar) (n : Nat) (K : Ex → St → Option R) (x0 : List Nat) : g18D A n [false] K ⟨[(0, (.v (.cell (.str x0))))], []⟩ = K .normal ⟨[(3, (.v (.cell (.bool false)))), (2, (.v (.cell (.str [])))), (0, (.v (.cell (.str x0))))], []⟩ := by kernel_rfl
theorem g18R1 {R : Type} (A : Ar) (n : Nat) (K : Ex → St → Option R) (x0 : List Nat) : g18D A n [true, false, false] K ⟨[(0, (.v (.cell (.str x0))))], []⟩ = K .normal ⟨[(7, (.v (.cell (.bool (A.ic .neq (A.ofN x0.length) 32))))), (6, (.v (.cell (.int .i64 (A.ofN x0.length))))), (5, (.v (.cell (.str x0)))), (0, (.v (.cell (.str x0))))], []⟩ := by kernel_rfl
theorem g18R2 {R : Type} (A : Ar) (n : Nat) (K : Ex → St → Option R)  : g18D A n [true, false, true, false, false] K ⟨[], []⟩ = K .normal ⟨[(3, (.v (.cell (.bool false)))), (2, (.v (.cell (.str []))))], []⟩ := by kernel_rfl
def g18J3 {R : Type} (A : Ar) (n : Nat) (kk : AV → Heap → Option R)  (x0 : List Nat) : Option R :=
  match (generalizing := false) A.le x0.length 9223372036854775807 with
  | true => match (generalizing := false) Nat.blt 0 x0.length with
    | true => match (generalizing := false) Nat.blt 0 x0.length with
      | true => match (generalizing := false) Nat.blt 31 x0.length with
        | true => match (generalizing := false) Nat.blt 31 x0.length with
          | true => kk (.tup [(.cell (.str (((x0.set 0 (A.nb .and .u8 (x0.getD 0 0) 248)).set 31 (A.nb .or .u8 (A.nb .and .u8 ((x0.set 0 (A.nb .and .u8 (x0.getD 0 0) 248)).getD 31 0) 63) 64)).take x0.length))), (.cell (.bool true))]) [(4001, ⟨[.nums .u8 x0.length ((x0.set 0 (A.nb .and .u8 (x0.getD 0 0) 248)).set 31 (A.nb .or .u8 (A.nb .and .u8 ((x0.set 0 (A.nb .and .u8 (x0.getD 0 0) 248)).getD 31 0) 63) 64))], 5, 1⟩)]
          | false => none
        | false => none
      | false => none
    | false => none
  | false => none
set_option maxRecDepth 100000 in
theorem g18J3_eq {R : Type} (A : Ar) (n : Nat) (kk : AV → Heap → Option R)    (s : St) (x0 : List Nat) (h : keep g18an 3 s = ⟨[(0, (.v (.cell (.str x0))))], []⟩) :
    g18D A n [true, true] (g18T kk) s = g18J3 A n kk  x0 := by
  have h1 : (g18T kk) .ret ⟨[(3, (.v (.cell (.bool true)))), (2, (.v (.cell (.str (((x0.set 0 (A.nb .and .u8 (x0.getD 0 0) 248)).set 31 (A.nb .or .u8 (A.nb .and .u8 ((x0.set 0 (A.nb .and .u8 (x0.getD 0 0) 248)).getD 31 0) 63) 64)).take x0.length))))), (23, (.v (.cell (.str (((x0.set 0 (A.nb .and .u8 (x0.getD 0 0) 248)).set 31 (A.nb .or .u8 (A.nb .and .u8 ((x0.set 0 (A.nb .and .u8 (x0.getD 0 0) 248)).getD 31 0) 63) 64)).take x0.length))))), (22, (.v (.cell (.sl 4001 none x0.length 1)))), (4, (.v (.cell (.sl 4001 none x0.length 1))))], [(4001, ⟨[.nums .u8 x0.length ((x0.set 0 (A.nb .and .u8 (x0.getD 0 0) 248)).set 31 (A.nb .or .u8 (A.nb .and .u8 ((x0.set 0 (A.nb .and .u8 (x0.getD 0 0) 248)).getD 31 0) 63) 64))], 5, 1⟩)]⟩ = kk (.tup [(.cell (.str (((x0.set 0 (A.nb .and .u8 (x0.getD 0 0) 248)).set 31 (A.nb .or .u8 (A.nb .and .u8 ((x0.set 0 (A.nb .and .u8 (x0.getD 0 0) 248)).getD 31 0) 63) 64)).take x0.length))), (.cell (.bool true))]) [(4001, ⟨[.nums .u8 x0.length ((x0.set 0 (A.nb .and .u8 (x0.getD 0 0) 248)).set 31 (A.nb .or .u8 (A.nb .and .u8 ((x0.set 0 (A.nb .and .u8 (x0.getD 0 0) 248)).getD 31 0) 63) 64))], 5, 1⟩)] := by kernel_rfl
  have h2 := (g18p111111 A n _ _).trans h1
  have h3 := (g18Qn A n _ _ _).trans h2
  have h4 := (g18p111110 A n (g18Q A n [true, true, true, true, true, true] (g18T kk)) ⟨[(21, (.v (.cell (.ptr 4001 0 (some ⟨31, 1, x0.length, 31, 0, 1⟩))))), (20, (.v (.cell (.nat .u8 (A.nb .or .u8 (A.nb .and .u8 ((x0.set 0 (A.nb .and .u8 (x0.getD 0 0) 248)).getD 31 0) 63) 64))))), (19, (.v (.cell (.nat .u8 (A.nb .and .u8 ((x0.set 0 (A.nb .and .u8 (x0.getD 0 0) 248)).getD 31 0) 63))))), (18, (.v (.cell (.nat .u8 ((x0.set 0 (A.nb .and .u8 (x0.getD 0 0) 248)).getD 31 0))))), (17, (.v (.cell (.ptr 4001 0 (some ⟨31, 1, x0.length, 31, 0, 1⟩))))), (16, (.v (.cell (.sl 4001 none x0.length 1)))), (15, (.v (.cell (.sl 4001 none x0.length 1)))), (4, (.v (.cell (.sl 4001 none x0.length 1))))], [(4001, ⟨[.nums .u8 x0.length ((x0.set 0 (A.nb .and .u8 (x0.getD 0 0) 248)).set 31 (A.nb .or .u8 (A.nb .and .u8 ((x0.set 0 (A.nb .and .u8 (x0.getD 0 0) 248)).getD 31 0) 63) 64))], 5, 1⟩)]⟩ ⟨[(4, (.v (.cell (.sl 4001 none x0.length 1))))], [(4001, ⟨[.nums .u8 x0.length ((x0.set 0 (A.nb .and .u8 (x0.getD 0 0) 248)).set 31 (A.nb .or .u8 (A.nb .and .u8 ((x0.set 0 (A.nb .and .u8 (x0.getD 0 0) 248)).getD 31 0) 63) 64))], 5, 1⟩)]⟩ (by kernel_rfl)).trans (g18R6 A n (g18Q A n [true, true, true, true, true, true] (g18T kk)) x0.length x0.length ((x0.set 0 (A.nb .and .u8 (x0.getD 0 0) 248)).set 31 (A.nb .or .u8 (A.nb .and .u8 ((x0.set 0 (A.nb .and .u8 (x0.getD 0 0) 248)).getD 31 0) 63) 64)))
  rw [h3] at h4
  have h5 := (g18p11111 A n _ _).trans h4
  have h6 := (g18Qn A n _ _ _).trans h5
  have h7 := (g18p11110 A n (g18Q A n [true, true, true, true, true] (g18T kk)) ⟨[(14, (.v (.cell (.ptr 4001 0 (some ⟨0, 1, x0.length, 0, 0, 1⟩))))), (13, (.v (.cell (.nat .u8 (A.nb .and .u8 (x0.getD 0 0) 248))))), (12, (.v (.cell (.nat .u8 (x0.getD 0 0))))), (11, (.v (.cell (.ptr 4001 0 (some ⟨0, 1, x0.length, 0, 0, 1⟩))))), (10, (.v (.cell (.sl 4001 none x0.length 1)))), (4, (.v (.cell (.sl 4001 none x0.length 1))))], [(4001, ⟨[.nums .u8 x0.length (x0.set 0 (A.nb .and .u8 (x0.getD 0 0) 248))], 5, 1⟩)]⟩ ⟨[(4, (.v (.cell (.sl 4001 none x0.length 1))))], [(4001, ⟨[.nums .u8 x0.length (x0.set 0 (A.nb .and .u8 (x0.getD 0 0) 248))], 5, 1⟩)]⟩ (by kernel_rfl)).trans (g18R5 A n (g18Q A n [true, true, true, true, true] (g18T kk)) x0.length x0.length (x0.set 0 (A.nb .and .u8 (x0.getD 0 0) 248)))
  rw [h6] at h7
  have h8 := (g18p1111 A n _ _).trans h7
  have h9 := (g18Qn A n _ _ _).trans h8
  have h10 := (g18p1110 A n (g18Q A n [true, true, true, true] (g18T kk)) ⟨[(4, (.v (.cell (.sl 4001 none x0.length 1)))), (9, (.v (.cell (.sl 4001 none x0.length 1)))), (8, (.v (.cell (.str x0)))), (0, (.v (.cell (.str x0))))], [(4001, ⟨[.nums .u8 x0.length x0], 5, 1⟩)]⟩ ⟨[(4, (.v (.cell (.sl 4001 none x0.length 1))))], [(4001, ⟨[.nums .u8 x0.length x0], 5, 1⟩)]⟩ (by kernel_rfl)).trans (g18R4 A n (g18Q A n [true, true, true, true] (g18T kk)) x0.length x0.length x0)
  rw [h9] at h10
  have h11 := (g18p111 A n _ _).trans h10
  have h12 := (g18Qn A n _ _ _).trans h11
  have h13 := (g18p110 A n (g18Q A n [true, true, true] (g18T kk)) ⟨[(0, (.v (.cell (.str x0))))], []⟩ ⟨[(0, (.v (.cell (.str x0))))], []⟩ (by kernel_rfl)).trans (g18R3 A n (g18Q A n [true, true, true] (g18T kk)) x0)
  rw [h12] at h13
  have h14 := (g18p11 A n _ _).trans h13
  exact (codeD_first (s' := ⟨[(0, (.v (.cell (.str x0))))], []⟩) (id := 3) (by kernel_rfl) (h.trans (by kernel_rfl)) _).trans (h14.trans (by kernel_rfl))
def g18 {R : Type} (A : Ar) (n : Nat) (kk : AV → Heap → Option R) (a : List Nat) : Option R :=
  match (generalizing := false) A.ic .neq (A.ofN a.length) 32 with
  | true => kk (.tup [(.cell (.str [])), (.cell (.bool false))]) []
  | false => g18J3 A n kk  a
set_option maxRecDepth 100000 in
theorem g18_eq {R : Type} (A : Ar) (n : Nat) (kk : AV → Heap → Option R) (a : List Nat) :
    funD A gtys (orcOf []) g18an n (bodyOf Try.f18) g18res [(.v (.cell (.str a)))] [] kk = g18 A n kk a := by
  have h1 : (g18T kk) .ret ⟨[(3, (.v (.cell (.bool false)))), (2, (.v (.cell (.str []))))], []⟩ = kk (.tup [(.cell (.str [])), (.cell (.bool false))]) [] := by kernel_rfl
  have h2 := (g18Qr A n [true, true] _ _).trans h1
  have h3 := (g18p10101 A n _ _).trans h2
  have h4 := (g18Qn A n _ _ _).trans h3
  have h5 := (g18p10100 A n (g18Q A n [true, false, true, false, true] (g18Q A n [true, true] (g18T kk))) ⟨[(7, (.v (.cell (.bool (A.ic .neq (A.ofN a.length) 32))))), (6, (.v (.cell (.int .i64 (A.ofN a.length))))), (5, (.v (.cell (.str a)))), (0, (.v (.cell (.str a))))], []⟩ ⟨[], []⟩ (by kernel_rfl)).trans (g18R2 A n (g18Q A n [true, false, true, false, true] (g18Q A n [true, true] (g18T kk))) )
  rw [h4] at h5
  have h6 := (g18p1010 A n _ _).trans h5
  have h7 := (g18Qn A n _ _ _).trans (g18J3_eq A n kk     ⟨[(7, (.v (.cell (.bool (A.ic .neq (A.ofN a.length) 32))))), (6, (.v (.cell (.int .i64 (A.ofN a.length))))), (5, (.v (.cell (.str a)))), (0, (.v (.cell (.str a))))], []⟩ a (by kernel_rfl))
  have h8 := (g18p1011 A n _ _).trans h7
  have h9 := g18p101 A n (g18Q A n [true, true] (g18T kk)) ⟨[(7, (.v (.cell (.bool (A.ic .neq (A.ofN a.length) 32))))), (6, (.v (.cell (.int .i64 (A.ofN a.length))))), (5, (.v (.cell (.str a)))), (0, (.v (.cell (.str a))))], []⟩ (A.ic .neq (A.ofN a.length) 32) (by kernel_rfl)
  rw [h6, h8] at h9
  have h10 := (g18Qn A n _ _ _).trans h9
  have h11 := (g18p100 A n (g18Q A n [true, false, true] (g18Q A n [true, true] (g18T kk))) ⟨[(3, (.v (.cell (.bool false)))), (2, (.v (.cell (.str [])))), (0, (.v (.cell (.str a))))], []⟩ ⟨[(0, (.v (.cell (.str a))))], []⟩ (by kernel_rfl)).trans (g18R1 A n (g18Q A n [true, false, true] (g18Q A n [true, true] (g18T kk))) a)
  rw [h10] at h11
  have h12 := (g18p10 A n _ _).trans h11
  have h13 := (g18p1 A n _ _).trans h12
  have h14 := (g18Qn A n _ _ _).trans h13
  have h15 := (g18p0 A n (g18Q A n [true] (g18T kk)) ⟨[(0, (.v (.cell (.str a))))], []⟩ ⟨[(0, (.v (.cell (.str a))))], []⟩ (by kernel_rfl)).trans (g18R0 A n (g18Q A n [true] (g18T kk)) a)
  rw [h14] at h15
  have h16 := (g18p A n _ _).trans h15
  exact (show funD A gtys (orcOf []) g18an n (bodyOf Try.f18) g18res [(.v (.cell (.str a)))] [] kk = g18D A n [] (g18T kk) ⟨[(0, (.v (.cell (.str a))))], []⟩ from by kernel_rfl).trans (h16.trans (by kernel_rfl))
def g18is (o : Option AV) : Bool := match o with
  | some (.tup [.cell (.str _), .cell (.bool _)]) => true
  | _ => false
def g18g0 (o : Option AV) : List Nat := match o with
  | some (.tup [.cell (.str x), .cell (.bool _)]) => x
  | _ => []
def g18g1 (o : Option AV) : Bool := match o with
  | some (.tup [.cell (.str _), .cell (.bool x)]) => x
  | _ => false
theorem g18is_spec {o : Option AV} (h : g18is o = true) : o = some (.tup [.cell (.str (g18g0 o)), .cell (.bool (g18g1 o))]) := by
  unfold g18is at h
  split at h
  · rfl
  · cases h
def g18v (a : List Nat) : Option AV := g18 realA (100000) (fun v _ => some v) a
def g18ok (a : List Nat) : Bool := g18is (g18v a)
def g18r0 (a : List Nat) : List Nat := g18g0 (g18v a)
def g18r1 (a : List Nat) : Bool := g18g1 (g18v a)
theorem g18ok_spec {a} (h : g18ok a = true) : g18v a = some (.tup [.cell (.str (g18r0 a)), .cell (.bool (g18r1 a))]) := g18is_spec h
def g18o (args : List AV) : Option (Bool × AV) := match args with
  | [.v (.cell (.str a))] => some (g18ok a, .tup [.cell (.str (g18r0 a)), .cell (.bool (g18r1 a))])
  | _ => none
theorem g18O_sound : OSound Try.prog (orcOf []) := orc_sound fun f g hm args v hv => by
  cases hm
theorem g18o_sound : ∀ args v, g18o args = some (true, v) → Fn1 Try.prog 18 args v := by
  intro args v h
  unfold g18o at h
  split at h
  · rename_i a
    simp only [Option.some.injEq, Prod.mk.injEq] at h
    obtain ⟨hc, h⟩ := h
    subst h
    · skip
      exact fn1_of mixed gtysOK g18O_sound (orc_det _) (an := g18an) (n := 100000) Try.func18 (c := bodyOf Try.f18) rfl (by kernel_rfl) Try.call18 (Nat.le_of_ble_eq_true rfl) (fun b => rfl) (fun _ => (g18_eq realA (100000) (fun v _ => some v) a).trans (show g18v a = _ from g18ok_spec hc))
  · cases h
/- engrosser/engrosserref04.Clamp -/
def g19an : Ann := [(0, ([0], [])), (1, ([0], [])), (2, ([], [])), (3, ([0], [])), (4, ([4], [4001])), (5, ([4], [4001])), (6, ([4], [4001]))]
def g19res : List ResultVar := [.tmp 2, .tmp 3]
noncomputable def g19D {R : Type} (A : Ar) (n : Nat) (p : List Bool) (K : Ex → St → Option R) (s : St) : Option R := codeD A gtys (orcOf []) g19an n (sub (bodyOf Try.f19) p) K s
noncomputable def g19V {R : Type} (A : Ar) (n : Nat) (p : List Bool) (m : Nat) (K : Ex → St → Option R) (s : St) : Option R := loopD (fun K' s'' => codeD A gtys (orcOf []) g19an n (sub (bodyOf Try.f19) p) K' s'') m K s
noncomputable def g19Q {R : Type} (A : Ar) (n : Nat) (p : List Bool) (K : Ex → St → Option R) : Ex → St → Option R := seqC (g19D A n p K) K
noncomputable def g19W {R : Type} (A : Ar) (n : Nat) (p : List Bool) (m : Nat) (K : Ex → St → Option R) : Ex → St → Option R := seqC (g19V A n p m K) K
noncomputable def g19T {R : Type} (kk : AV → Heap → Option R) : Ex → St → Option R := finD gtys g19res kk
theorem g19Qn {R : Type} (A : Ar) (n : Nat) (p : List Bool) (K : Ex → St → Option R) (s : St) : g19Q A n p K .normal s = g19D A n p K s := rfl
theorem g19Qe {R : Type} (A : Ar) (n : Nat) (p : List Bool) (K : Ex → St → Option R) (i : Nat) (s : St) : g19Q A n p K (.exit i) s = K (.exit i) s := rfl
theorem g19Qr {R : Type} (A : Ar) (n : Nat) (p : List Bool) (K : Ex → St → Option R) (s : St) : g19Q A n p K .ret s = K .ret s := rfl
theorem g19Wn {R : Type} (A : Ar) (n : Nat) (p : List Bool) (m : Nat) (K : Ex → St → Option R) (s : St) : g19W A n p m K .normal s = g19V A n p m K s := rfl
theorem g19We {R : Type} (A : Ar) (n : Nat) (p : List Bool) (m : Nat) (K : Ex → St → Option R) (i : Nat) (s : St) : g19W A n p m K (.exit i) s = K (.exit i) s := rfl
theorem g19Wr {R : Type} (A : Ar) (n : Nat) (p : List Bool) (m : Nat) (K : Ex → St → Option R) (s : St) : g19W A n p m K .ret s = K .ret s := rfl
theorem g19Vs {R : Type} (A : Ar) (n : Nat) (p : List Bool) (m : Nat) (K : Ex → St → Option R) (s : St) : g19V A n p (m + 1) K s = g19D A n p (g19W A n p m K) s := rfl
theorem g19p {R : Type} (A : Ar) (n : Nat) (K : Ex → St → Option R) (s : St) : g19D A n [] K s = g19D A n [false] (g19Q A n [true] K) s := by kernel_rfl
theorem g19p0 {R : Type} (A : Ar) (n : Nat) (K : Ex → St → Option R) (s s' : St) (h : keep g19an 0 s = keep g19an 0 s') : g19D A n [false] K s = g19D A n [false] K s' := codeD_first (id := 0) (by kernel_rfl) h K
theorem g19p1 {R : Type} (A : Ar) (n : Nat) (K : Ex → St → Option R) (s : St) : g19D A n [true] K s = g19D A n [true, false] (g19Q A n [true, true] K) s := by kernel_rfl
theorem g19p10 {R : Type} (A : Ar) (n : Nat) (K : Ex → St → Option R) (s : St) : g19D A n [true, false] K s = g19D A n [true, false, false] (g19Q A n [true, false, true] K) s := by kernel_rfl
theorem g19p100 {R : Type} (A : Ar) (n : Nat) (K : Ex → St → Option R) (s s' : St) (h : keep g19an 1 s = keep g19an 1 s') : g19D A n [true, false, false] K s = g19D A n [true, false, false] K s' := codeD_first (id := 1) (by kernel_rfl) h K
theorem g19p101 {R : Type} (A : Ar) (n : Nat) (K : Ex → St → Option R) (s : St) (t : Bool) : ev s (.tmp 7) = some (.v (.cell (.bool t))) → g19D A n [true, false, true] K s = (match t with
    | true => g19D A n [true, false, true, false] K s
    | false => g19D A n [true, false, true, true] K s) := codeD_cond t
theorem g19p1010 {R : Type} (A : Ar) (n : Nat) (K : Ex → St → Option R) (s : St) : g19D A n [true, false, true, false] K s = g19D A n [true, false, true, false, false] (g19Q A n [true, false, true, false, true] K) s := by kernel_rfl
theorem g19p10100 {R : Type} (A : Ar) (n : Nat) (K : Ex → St → Option R) (s s' : St) (h : keep g19an 2 s = keep g19an 2 s') : g19D A n [true, false, true, false, false] K s = g19D A n [true, false, true, false, false] K s' := codeD_first (id := 2) (by kernel_rfl) h K
theorem g19p10101 {R : Type} (A : Ar) (n : Nat) (K : Ex → St → Option R) (s : St) : g19D A n [true, false, true, false, true] K s = K .ret s := by kernel_rfl
theorem g19p1011 {R : Type} (A : Ar) (n : Nat) (K : Ex → St → Option R) (s : St) : g19D A n [true, false, true, true] K s = K .normal s := by kernel_rfl
theorem g19p11 {R : Type} (A : Ar) (n : Nat) (K : Ex → St → Option R) (s : St) : g19D A n [true, true] K s = g19D A n [true, true, false] (g19Q A n [true, true, true] K) s := by kernel_rfl
theorem g19p110 {R : Type} (A : Ar) (n : Nat) (K : Ex → St → Option R) (s s' : St) (h : keep g19an 3 s = keep g19an 3 s') : g19D A n [true, true, false] K s = g19D A n [true, true, false] K s' := codeD_first (id := 3) (by kernel_rfl) h K
theorem g19p111 {R : Type} (A : Ar) (n : Nat) (K : Ex → St → Option R) (s : St) : g19D A n [true, true, true] K s = g19D A n [true, true, true, false] (g19Q A n [true, true, true, true] K) s := by kernel_rfl
theorem g19p1110 {R : Type} (A : Ar) (n : Nat) (K : Ex → St → Option R) (s s' : St) (h : keep g19an 4 s = keep g19an 4 s') : g19D A n [true, true, true, false] K s = g19D A n [true, true, true, false] K s' := codeD_first (id := 4) (by kernel_rfl) h K
theorem g19p1111 {R : Type} (A : Ar) (n : Nat) (K : Ex → St → Option R) (s : St) : g19D A n [true, true, true, true] K s = g19D A n [true, true, true, true, false] (g19Q A n [true, true, true, true, true] K) s := by kernel_rfl
theorem g19p11110 {R : Type} (A : Ar) (n : Nat) (K : Ex → St → Option R) (s s' : St) (h : keep g19an 5 s = keep g19an 5 s') : g19D A n [true, true, true, true, false] K s = g19D A n [true, true, true, true, false] K s' := codeD_first (id := 5) (by kernel_rfl) h K
theorem g19p11111 {R : Type} (A : Ar) (n : Nat) (K : Ex → St → Option R) (s : St) : g19D A n [true, true, true, true, true] K s = g19D A n [true, true, true, true, true, false] (g19Q A n [true, true, true, true, true, true] K) s := by kernel_rfl
theorem g19p111110 {R : Type} (A : Ar) (n : Nat) (K : Ex → St → Option R) (s s' : St) (h : keep g19an 6 s = keep g19an 6 s') : g19D A n [true, true, true, true, true, false] K s = g19D A n [true, true, true, true, true, false] K s' := codeD_first (id := 6) (by kernel_rfl) h K
theorem g19p111111 {R : Type} (A : Ar) (n : Nat) (K : Ex → St → Option R) (s : St) : g19D A n [true, true, true, true, true, true] K s = K .ret s := by kernel_rfl
theorem g19R3 {R : Type} (A : Ar) (n : Nat) (K : Ex → St → Option R) (x0 : List Nat) : g19D A n [true, true, false] K ⟨[(0, (.v (.cell (.str x0))))], []⟩ = match (generalizing := false) A.le x0.length 9223372036854775807 with
    | true => K .normal ⟨[(4, (.v (.cell (.sl 4001 none x0.length 1)))), (9, (.v (.cell (.sl 4001 none x0.length 1)))), (8, (.v (.cell (.str x0)))), (0, (.v (.cell (.str x0))))], [(4001, ⟨[.nums .u8 x0.length x0], 5, 1⟩)]⟩
    | false => none := by kernel_rfl
theorem g19R4 {R : Type} (A : Ar) (n : Nat) (K : Ex → St → Option R) (x0 : Nat) (x1 : Nat) (x2 : List Nat) : g19D A n [true, true, true, false] K ⟨[(4, (.v (.cell (.sl 4001 none x0 1))))], [(4001, ⟨[.nums .u8 x1 x2], 5, 1⟩)]⟩ = match (generalizing := false) Nat.blt 0 x0 with
    | true => match (generalizing := false) Nat.blt 0 x0 with
      | true => K .normal ⟨[(16, (.v (.cell (.ptr 4001 0 (some ⟨0, 1, x0, 0, 0, 1⟩))))), (15, (.v (.cell (.nat .u8 (A.nb .mul .u8 (A.nb .quo .u8 (x2.getD 0 0) 8) 8))))), (14, (.v (.cell (.nat .u8 (A.nb .quo .u8 (x2.getD 0 0) 8))))), (13, (.v (.cell (.nat .u8 (x2.getD 0 0))))), (12, (.v (.cell (.ptr 4001 0 (some ⟨0, 1, x0, 0, 0, 1⟩))))), (11, (.v (.cell (.sl 4001 none x0 1)))), (10, (.v (.cell (.sl 4001 none x0 1)))), (4, (.v (.cell (.sl 4001 none x0 1))))], [(4001, ⟨[.nums .u8 x1 (x2.set 0 (A.nb .mul .u8 (A.nb .quo .u8 (x2.getD 0 0) 8) 8))], 5, 1⟩)]⟩
      | false => none
    | false => none := by kernel_rfl
theorem g19R5 {R : Type} (A : Ar) (n : Nat) (K : Ex → St → Option R) (x0 : Nat) (x1 : Nat) (x2 : List Nat) : g19D A n [true, true, true, true, false] K ⟨[(4, (.v (.cell (.sl 4001 none x0 1))))], [(4001, ⟨[.nums .u8 x1 x2], 5, 1⟩)]⟩ = match (generalizing := false) Nat.blt 31 x0 with
    | true => match (generalizing := false) Nat.blt 31 x0 with
      | true => K .normal ⟨[(23, (.v (.cell (.ptr 4001 0 (some ⟨31, 1, x0, 31, 0, 1⟩))))), (22, (.v (.cell (.nat .u8 (A.nb .add .u8 (A.nb .rem .u8 (x2.getD 31 0) 64) 64))))), (21, (.v (.cell (.nat .u8 (A.nb .rem .u8 (x2.getD 31 0) 64))))), (20, (.v (.cell (.nat .u8 (x2.getD 31 0))))), (19, (.v (.cell (.ptr 4001 0 (some ⟨31, 1, x0, 31, 0, 1⟩))))), (18, (.v (.cell (.sl 4001 none x0 1)))), (17, (.v (.cell (.sl 4001 none x0 1)))), (4, (.v (.cell (.sl 4001 none x0 1))))], [(4001, ⟨[.nums .u8 x1 (x2.set 31 (A.nb .add .u8 (A.nb .rem .u8 (x2.getD 31 0) 64) 64))], 5, 1⟩)]⟩
      | false => none
    | false => none := by kernel_rfl
theorem g19R6 {R : Type} (A : Ar) (n : Nat) (K : Ex → St → Option R) (x0 : Nat) (x1 : Nat) (x2 : List Nat) : g19D A n [true, true, true, true, true, false] K ⟨[(4, (.v (.cell (.sl 4001 none x0 1))))], [(4001, ⟨[.nums .u8 x1 x2], 5, 1⟩)]⟩ = K .normal ⟨[(3, (.v (.cell (.bool true)))), (2, (.v (.cell (.str (x2.take x0))))), (25, (.v (.cell (.str (x2.take x0))))), (24, (.v (.cell (.sl 4001 none x0 1)))), (4, (.v (.cell (.sl 4001 none x0 1))))], [(4001, ⟨[.nums .u8 x1 x2], 5, 1⟩)]⟩ := by kernel_rfl
theorem g19R0 {R : Type} (A : Ar) (n : Nat) (K : Ex → St → Option R) (x0 : List Nat) : g19D A n [false] K ⟨[(0, (.v (.cell (.str x0))))], []⟩ = K .normal ⟨[(3, (.v (.cell (.bool false)))), (2, (.v (.cell (.str [])))), (0, (.v (.cell (.str x0))))], []⟩ := by kernel_rfl
theorem g19R1 {R : Type} (A : Ar) (n : Nat) (K : Ex → St → Option R) (x0 : List Nat) : g19D A n [true, false, false] K ⟨[(0, (.v (.cell (.str x0))))], []⟩ = K .normal ⟨[(7, (.v (.cell (.bool (A.ic .neq (A.ofN x0.length) 32))))), (6, (.v (.cell (.int .i64 (A.ofN x0.length))))), (5, (.v (.cell (.str x0)))), (0, (.v (.cell (.str x0))))], []⟩ := by kernel_rfl
theorem g19R2 {R : Type} (A : Ar) (n : Nat) (K : Ex → St → Option R)  : g19D A n [true, false, true, false, false] K ⟨[], []⟩ = K .normal ⟨[(3, (.v (.cell (.bool false)))), (2, (.v (.cell (.str []))))], []⟩ := by kernel_rfl
def g19J3 {R : Type} (A : Ar) (n : Nat) (kk : AV → Heap → Option R)  (x0 : List Nat) : Option R :=
  match (generalizing := false) A.le x0.length 9223372036854775807 with
  | true => match (generalizing := false) Nat.blt 0 x0.length with
    | true => match (generalizing := false) Nat.blt 0 x0.length with
      | true => match (generalizing := false) Nat.blt 31 x0.length with
        | true => match (generalizing := false) Nat.blt 31 x0.length with
          | true => kk (.tup [(.cell (.str (((x0.set 0 (A.nb .mul .u8 (A.nb .quo .u8 (x0.getD 0 0) 8) 8)).set 31 (A.nb .add .u8 (A.nb .rem .u8 ((x0.set 0 (A.nb .mul .u8 (A.nb .quo .u8 (x0.getD 0 0) 8) 8)).getD 31 0) 64) 64)).take x0.length))), (.cell (.bool true))]) [(4001, ⟨[.nums .u8 x0.length ((x0.set 0 (A.nb .mul .u8 (A.nb .quo .u8 (x0.getD 0 0) 8) 8)).set 31 (A.nb .add .u8 (A.nb .rem .u8 ((x0.set 0 (A.nb .mul .u8 (A.nb .quo .u8 (x0.getD 0 0) 8) 8)).getD 31 0) 64) 64))], 5, 1⟩)]
          | false => none
        | false => none
      | false => none
    | false => none
  | false => none
set_option maxRecDepth 100000 in
theorem g19J3_eq {R : Type} (A : Ar) (n : Nat) (kk : AV → Heap → Option R)    (s : St) (x0 : List Nat) (h : keep g19an 3 s = ⟨[(0, (.v (.cell (.str x0))))], []⟩) :
    g19D A n [true, true] (g19T kk) s = g19J3 A n kk  x0 := by
  have h1 : (g19T kk) .ret ⟨[(3, (.v (.cell (.bool true)))), (2, (.v (.cell (.str (((x0.set 0 (A.nb .mul .u8 (A.nb .quo .u8 (x0.getD 0 0) 8) 8)).set 31 (A.nb .add .u8 (A.nb .rem .u8 ((x0.set 0 (A.nb .mul .u8 (A.nb .quo .u8 (x0.getD 0 0) 8) 8)).getD 31 0) 64) 64)).take x0.length))))), (25, (.v (.cell (.str (((x0.set 0 (A.nb .mul .u8 (A.nb .quo .u8 (x0.getD 0 0) 8) 8)).set 31 (A.nb .add .u8 (A.nb .rem .u8 ((x0.set 0 (A.nb .mul .u8 (A.nb .quo .u8 (x0.getD 0 0) 8) 8)).getD 31 0) 64) 64)).take x0.length))))), (24, (.v (.cell (.sl 4001 none x0.length 1)))), (4, (.v (.cell (.sl 4001 none x0.length 1))))], [(4001, ⟨[.nums .u8 x0.length ((x0.set 0 (A.nb .mul .u8 (A.nb .quo .u8 (x0.getD 0 0) 8) 8)).set 31 (A.nb .add .u8 (A.nb .rem .u8 ((x0.set 0 (A.nb .mul .u8 (A.nb .quo .u8 (x0.getD 0 0) 8) 8)).getD 31 0) 64) 64))], 5, 1⟩)]⟩ = kk (.tup [(.cell (.str (((x0.set 0 (A.nb .mul .u8 (A.nb .quo .u8 (x0.getD 0 0) 8) 8)).set 31 (A.nb .add .u8 (A.nb .rem .u8 ((x0.set 0 (A.nb .mul .u8 (A.nb .quo .u8 (x0.getD 0 0) 8) 8)).getD 31 0) 64) 64)).take x0.length))), (.cell (.bool true))]) [(4001, ⟨[.nums .u8 x0.length ((x0.set 0 (A.nb .mul .u8 (A.nb .quo .u8 (x0.getD 0 0) 8) 8)).set 31 (A.nb .add .u8 (A.nb .rem .u8 ((x0.set 0 (A.nb .mul .u8 (A.nb .quo .u8 (x0.getD 0 0) 8) 8)).getD 31 0) 64) 64))], 5, 1⟩)] := by kernel_rfl
  have h2 := (g19p111111 A n _ _).trans h1
  have h3 := (g19Qn A n _ _ _).trans h2
  have h4 := (g19p111110 A n (g19Q A n [true, true, true, true, true, true] (g19T kk)) ⟨[(23, (.v (.cell (.ptr 4001 0 (some ⟨31, 1, x0.length, 31, 0, 1⟩))))), (22, (.v (.cell (.nat .u8 (A.nb .add .u8 (A.nb .rem .u8 ((x0.set 0 (A.nb .mul .u8 (A.nb .quo .u8 (x0.getD 0 0) 8) 8)).getD 31 0) 64) 64))))), (21, (.v (.cell (.nat .u8 (A.nb .rem .u8 ((x0.set 0 (A.nb .mul .u8 (A.nb .quo .u8 (x0.getD 0 0) 8) 8)).getD 31 0) 64))))), (20, (.v (.cell (.nat .u8 ((x0.set 0 (A.nb .mul .u8 (A.nb .quo .u8 (x0.getD 0 0) 8) 8)).getD 31 0))))), (19, (.v (.cell (.ptr 4001 0 (some ⟨31, 1, x0.length, 31, 0, 1⟩))))), (18, (.v (.cell (.sl 4001 none x0.length 1)))), (17, (.v (.cell (.sl 4001 none x0.length 1)))), (4, (.v (.cell (.sl 4001 none x0.length 1))))], [(4001, ⟨[.nums .u8 x0.length ((x0.set 0 (A.nb .mul .u8 (A.nb .quo .u8 (x0.getD 0 0) 8) 8)).set 31 (A.nb .add .u8 (A.nb .rem .u8 ((x0.set 0 (A.nb .mul .u8 (A.nb .quo .u8 (x0.getD 0 0) 8) 8)).getD 31 0) 64) 64))], 5, 1⟩)]⟩ ⟨[(4, (.v (.cell (.sl 4001 none x0.length 1))))], [(4001, ⟨[.nums .u8 x0.length ((x0.set 0 (A.nb .mul .u8 (A.nb .quo .u8 (x0.getD 0 0) 8) 8)).set 31 (A.nb .add .u8 (A.nb .rem .u8 ((x0.set 0 (A.nb .mul .u8 (A.nb .quo .u8 (x0.getD 0 0) 8) 8)).getD 31 0) 64) 64))], 5, 1⟩)]⟩ (by kernel_rfl)).trans (g19R6 A n (g19Q A n [true, true, true, true, true, true] (g19T kk)) x0.length x0.length ((x0.set 0 (A.nb .mul .u8 (A.nb .quo .u8 (x0.getD 0 0) 8) 8)).set 31 (A.nb .add .u8 (A.nb .rem .u8 ((x0.set 0 (A.nb .mul .u8 (A.nb .quo .u8 (x0.getD 0 0) 8) 8)).getD 31 0) 64) 64)))
  rw [h3] at h4
  have h5 := (g19p11111 A n _ _).trans h4
  have h6 := (g19Qn A n _ _ _).trans h5
  have h7 := (g19p11110 A n (g19Q A n [true, true, true, true, true] (g19T kk)) ⟨[(16, (.v (.cell (.ptr 4001 0 (some ⟨0, 1, x0.length, 0, 0, 1⟩))))), (15, (.v (.cell (.nat .u8 (A.nb .mul .u8 (A.nb .quo .u8 (x0.getD 0 0) 8) 8))))), (14, (.v (.cell (.nat .u8 (A.nb .quo .u8 (x0.getD 0 0) 8))))), (13, (.v (.cell (.nat .u8 (x0.getD 0 0))))), (12, (.v (.cell (.ptr 4001 0 (some ⟨0, 1, x0.length, 0, 0, 1⟩))))), (11, (.v (.cell (.sl 4001 none x0.length 1)))), (10, (.v (.cell (.sl 4001 none x0.length 1)))), (4, (.v (.cell (.sl 4001 none x0.length 1))))], [(4001, ⟨[.nums .u8 x0.length (x0.set 0 (A.nb .mul .u8 (A.nb .quo .u8 (x0.getD 0 0) 8) 8))], 5, 1⟩)]⟩ ⟨[(4, (.v (.cell (.sl 4001 none x0.length 1))))], [(4001, ⟨[.nums .u8 x0.length (x0.set 0 (A.nb .mul .u8 (A.nb .quo .u8 (x0.getD 0 0) 8) 8))], 5, 1⟩)]⟩ (by kernel_rfl)).trans (g19R5 A n (g19Q A n [true, true, true, true, true] (g19T kk)) x0.length x0.length (x0.set 0 (A.nb .mul .u8 (A.nb .quo .u8 (x0.getD 0 0) 8) 8)))
  rw [h6] at h7
  have h8 := (g19p1111 A n _ _).trans h7
  have h9 := (g19Qn A n _ _ _).trans h8
  have h10 := (g19p1110 A n (g19Q A n [true, true, true, true] (g19T kk)) ⟨[(4, (.v (.cell (.sl 4001 none x0.length 1)))), (9, (.v (.cell (.sl 4001 none x0.length 1)))), (8, (.v (.cell (.str x0)))), (0, (.v (.cell (.str x0))))], [(4001, ⟨[.nums .u8 x0.length x0], 5, 1⟩)]⟩ ⟨[(4, (.v (.cell (.sl 4001 none x0.length 1))))], [(4001, ⟨[.nums .u8 x0.length x0], 5, 1⟩)]⟩ (by kernel_rfl)).trans (g19R4 A n (g19Q A n [true, true, true, true] (g19T kk)) x0.length x0.length x0)
  rw [h9] at h10
  have h11 := (g19p111 A n _ _).trans h10
  have h12 := (g19Qn A n _ _ _).trans h11
  have h13 := (g19p110 A n (g19Q A n [true, true, true] (g19T kk)) ⟨[(0, (.v (.cell (.str x0))))], []⟩ ⟨[(0, (.v (.cell (.str x0))))], []⟩ (by kernel_rfl)).trans (g19R3 A n (g19Q A n [true, true, true] (g19T kk)) x0)
  rw [h12] at h13
  have h14 := (g19p11 A n _ _).trans h13
  exact (codeD_first (s' := ⟨[(0, (.v (.cell (.str x0))))], []⟩) (id := 3) (by kernel_rfl) (h.trans (by kernel_rfl)) _).trans (h14.trans (by kernel_rfl))
def g19 {R : Type} (A : Ar) (n : Nat) (kk : AV → Heap → Option R) (a : List Nat) : Option R :=
  match (generalizing := false) A.ic .neq (A.ofN a.length) 32 with
  | true => kk (.tup [(.cell (.str [])), (.cell (.bool false))]) []
  | false => g19J3 A n kk  a
set_option maxRecDepth 100000 in
theorem g19_eq {R : Type} (A : Ar) (n : Nat) (kk : AV → Heap → Option R) (a : List Nat) :
    funD A gtys (orcOf []) g19an n (bodyOf Try.f19) g19res [(.v (.cell (.str a)))] [] kk = g19 A n kk a := by
  have h1 : (g19T kk) .ret ⟨[(3, (.v (.cell (.bool false)))), (2, (.v (.cell (.str []))))], []⟩ = kk (.tup [(.cell (.str [])), (.cell (.bool false))]) [] := by kernel_rfl
  have h2 := (g19Qr A n [true, true] _ _).trans h1
  have h3 := (g19p10101 A n _ _).trans h2
  have h4 := (g19Qn A n _ _ _).trans h3
  have h5 := (g19p10100 A n (g19Q A n [true, false, true, false, true] (g19Q A n [true, true] (g19T kk))) ⟨[(7, (.v (.cell (.bool (A.ic .neq (A.ofN a.length) 32))))), (6, (.v (.cell (.int .i64 (A.ofN a.length))))), (5, (.v (.cell (.str a)))), (0, (.v (.cell (.str a))))], []⟩ ⟨[], []⟩ (by kernel_rfl)).trans (g19R2 A n (g19Q A n [true, false, true, false, true] (g19Q A n [true, true] (g19T kk))) )
  rw [h4] at h5
  have h6 := (g19p1010 A n _ _).trans h5
  have h7 := (g19Qn A n _ _ _).trans (g19J3_eq A n kk     ⟨[(7, (.v (.cell (.bool (A.ic .neq (A.ofN a.length) 32))))), (6, (.v (.cell (.int .i64 (A.ofN a.length))))), (5, (.v (.cell (.str a)))), (0, (.v (.cell (.str a))))], []⟩ a (by kernel_rfl))
  have h8 := (g19p1011 A n _ _).trans h7
  have h9 := g19p101 A n (g19Q A n [true, true] (g19T kk)) ⟨[(7, (.v (.cell (.bool (A.ic .neq (A.ofN a.length) 32))))), (6, (.v (.cell (.int .i64 (A.ofN a.length))))), (5, (.v (.cell (.str a)))), (0, (.v (.cell (.str a))))], []⟩ (A.ic .neq (A.ofN a.length) 32) (by kernel_rfl)
  rw [h6, h8] at h9
  have h10 := (g19Qn A n _ _ _).trans h9
  have h11 := (g19p100 A n (g19Q A n [true, false, true] (g19Q A n [true, true] (g19T kk))) ⟨[(3, (.v (.cell (.bool false)))), (2, (.v (.cell (.str [])))), (0, (.v (.cell (.str a))))], []⟩ ⟨[(0, (.v (.cell (.str a))))], []⟩ (by kernel_rfl)).trans (g19R1 A n (g19Q A n [true, false, true] (g19Q A n [true, true] (g19T kk))) a)
  rw [h10] at h11
  have h12 := (g19p10 A n _ _).trans h11
  have h13 := (g19p1 A n _ _).trans h12
  have h14 := (g19Qn A n _ _ _).trans h13
  have h15 := (g19p0 A n (g19Q A n [true] (g19T kk)) ⟨[(0, (.v (.cell (.str a))))], []⟩ ⟨[(0, (.v (.cell (.str a))))], []⟩ (by kernel_rfl)).trans (g19R0 A n (g19Q A n [true] (g19T kk)) a)
  rw [h14] at h15
  have h16 := (g19p A n _ _).trans h15
  exact (show funD A gtys (orcOf []) g19an n (bodyOf Try.f19) g19res [(.v (.cell (.str a)))] [] kk = g19D A n [] (g19T kk) ⟨[(0, (.v (.cell (.str a))))], []⟩ from by kernel_rfl).trans (h16.trans (by kernel_rfl))
def g19is (o : Option AV) : Bool := match o with
  | some (.tup [.cell (.str _), .cell (.bool _)]) => true
  | _ => false
def g19g0 (o : Option AV) : List Nat := match o with
  | some (.tup [.cell (.str x), .cell (.bool _)]) => x
  | _ => []
def g19g1 (o : Option AV) : Bool := match o with
  | some (.tup [.cell (.str _), .cell (.bool x)]) => x
  | _ => false
theorem g19is_spec {o : Option AV} (h : g19is o = true) : o = some (.tup [.cell (.str (g19g0 o)), .cell (.bool (g19g1 o))]) := by
  unfold g19is at h
  split at h
  · rfl
  · cases h
def g19v (a : List Nat) : Option AV := g19 realA (100000) (fun v _ => some v) a
def g19ok (a : List Nat) : Bool := g19is (g19v a)
def g19r0 (a : List Nat) : List Nat := g19g0 (g19v a)
def g19r1 (a : List Nat) : Bool := g19g1 (g19v a)
theorem g19ok_spec {a} (h : g19ok a = true) : g19v a = some (.tup [.cell (.str (g19r0 a)), .cell (.bool (g19r1 a))]) := g19is_spec h
def g19o (args : List AV) : Option (Bool × AV) := match args with
  | [.v (.cell (.str a))] => some (g19ok a, .tup [.cell (.str (g19r0 a)), .cell (.bool (g19r1 a))])
  | _ => none
theorem g19O_sound : OSound Try.prog (orcOf []) := orc_sound fun f g hm args v hv => by
  cases hm
theorem g19o_sound : ∀ args v, g19o args = some (true, v) → Fn1 Try.prog 19 args v := by
  intro args v h
  unfold g19o at h
  split at h
  · rename_i a
    simp only [Option.some.injEq, Prod.mk.injEq] at h
    obtain ⟨hc, h⟩ := h
    subst h
    · skip
      exact fn1_of mixed gtysOK g19O_sound (orc_det _) (an := g19an) (n := 100000) Try.func19 (c := bodyOf Try.f19) rfl (by kernel_rfl) Try.call19 (Nat.le_of_ble_eq_true rfl) (fun b => rfl) (fun _ => (g19_eq realA (100000) (fun v _ => some v) a).trans (show g19v a = _ from g19ok_spec hc))
  · cases h
/- engrosser/scalar.Bit -/
def g20an : Ann := [(0, ([0, 1], [])), (1, ([0, 1], [])), (2, ([], [])), (3, ([0, 1], []))]
def g20res : List ResultVar := [.tmp 4]
noncomputable def g20D {R : Type} (A : Ar) (n : Nat) (p : List Bool) (K : Ex → St → Option R) (s : St) : Option R := codeD A gtys (orcOf []) g20an n (sub (bodyOf Try.f20) p) K s
noncomputable def g20V {R : Type} (A : Ar) (n : Nat) (p : List Bool) (m : Nat) (K : Ex → St → Option R) (s : St) : Option R := loopD (fun K' s'' => codeD A gtys (orcOf []) g20an n (sub (bodyOf Try.f20) p) K' s'') m K s
noncomputable def g20Q {R : Type} (A : Ar) (n : Nat) (p : List Bool) (K : Ex → St → Option R) : Ex → St → Option R := seqC (g20D A n p K) K
noncomputable def g20W {R : Type} (A : Ar) (n : Nat) (p : List Bool) (m : Nat) (K : Ex → St → Option R) : Ex → St → Option R := seqC (g20V A n p m K) K
noncomputable def g20T {R : Type} (kk : AV → Heap → Option R) : Ex → St → Option R := finD gtys g20res kk
theorem g20Qn {R : Type} (A : Ar) (n : Nat) (p : List Bool) (K : Ex → St → Option R) (s : St) : g20Q A n p K .normal s = g20D A n p K s := rfl
theorem g20Qe {R : Type} (A : Ar) (n : Nat) (p : List Bool) (K : Ex → St → Option R) (i : Nat) (s : St) : g20Q A n p K (.exit i) s = K (.exit i) s := rfl
theorem g20Qr {R : Type} (A : Ar) (n : Nat) (p : List Bool) (K : Ex → St → Option R) (s : St) : g20Q A n p K .ret s = K .ret s := rfl
theorem g20Wn {R : Type} (A : Ar) (n : Nat) (p : List Bool) (m : Nat) (K : Ex → St → Option R) (s : St) : g20W A n p m K .normal s = g20V A n p m K s := rfl
theorem g20We {R : Type} (A : Ar) (n : Nat) (p : List Bool) (m : Nat) (K : Ex → St → Option R) (i : Nat) (s : St) : g20W A n p m K (.exit i) s = K (.exit i) s := rfl
theorem g20Wr {R : Type} (A : Ar) (n : Nat) (p : List Bool) (m : Nat) (K : Ex → St → Option R) (s : St) : g20W A n p m K .ret s = K .ret s := rfl
theorem g20Vs {R : Type} (A : Ar) (n : Nat) (p : List Bool) (m : Nat) (K : Ex → St → Option R) (s : St) : g20V A n p (m + 1) K s = g20D A n p (g20W A n p m K) s := rfl
theorem g20p {R : Type} (A : Ar) (n : Nat) (K : Ex → St → Option R) (s : St) : g20D A n [] K s = g20D A n [false] (g20Q A n [true] K) s := by kernel_rfl
theorem g20p0 {R : Type} (A : Ar) (n : Nat) (K : Ex → St → Option R) (s s' : St) (h : keep g20an 0 s = keep g20an 0 s') : g20D A n [false] K s = g20D A n [false] K s' := codeD_first (id := 0) (by kernel_rfl) h K
theorem g20p1 {R : Type} (A : Ar) (n : Nat) (K : Ex → St → Option R) (s : St) : g20D A n [true] K s = g20D A n [true, false] (g20Q A n [true, true] K) s := by kernel_rfl
theorem g20p10 {R : Type} (A : Ar) (n : Nat) (K : Ex → St → Option R) (s : St) : g20D A n [true, false] K s = g20D A n [true, false, false] (g20Q A n [true, false, true] K) s := by kernel_rfl
theorem g20p100 {R : Type} (A : Ar) (n : Nat) (K : Ex → St → Option R) (s s' : St) (h : keep g20an 1 s = keep g20an 1 s') : g20D A n [true, false, false] K s = g20D A n [true, false, false] K s' := codeD_first (id := 1) (by kernel_rfl) h K
theorem g20p101 {R : Type} (A : Ar) (n : Nat) (K : Ex → St → Option R) (s : St) (t : Bool) : ev s (.tmp 13) = some (.v (.cell (.bool t))) → g20D A n [true, false, true] K s = (match t with
    | true => g20D A n [true, false, true, false] K s
    | false => g20D A n [true, false, true, true] K s) := codeD_cond t
theorem g20p1010 {R : Type} (A : Ar) (n : Nat) (K : Ex → St → Option R) (s : St) : g20D A n [true, false, true, false] K s = g20D A n [true, false, true, false, false] (g20Q A n [true, false, true, false, true] K) s := by kernel_rfl
theorem g20p10100 {R : Type} (A : Ar) (n : Nat) (K : Ex → St → Option R) (s s' : St) (h : keep g20an 2 s = keep g20an 2 s') : g20D A n [true, false, true, false, false] K s = g20D A n [true, false, true, false, false] K s' := codeD_first (id := 2) (by kernel_rfl) h K
theorem g20p10101 {R : Type} (A : Ar) (n : Nat) (K : Ex → St → Option R) (s : St) : g20D A n [true, false, true, false, true] K s = K .ret s := by kernel_rfl
theorem g20p1011 {R : Type} (A : Ar) (n : Nat) (K : Ex → St → Option R) (s : St) : g20D A n [true, false, true, true] K s = K .normal s := by kernel_rfl
theorem g20p11 {R : Type} (A : Ar) (n : Nat) (K : Ex → St → Option R) (s : St) : g20D A n [true, true] K s = g20D A n [true, true, false] (g20Q A n [true, true, true] K) s := by kernel_rfl
theorem g20p110 {R : Type} (A : Ar) (n : Nat) (K : Ex → St → Option R) (s s' : St) (h : keep g20an 3 s = keep g20an 3 s') : g20D A n [true, true, false] K s = g20D A n [true, true, false] K s' := codeD_first (id := 3) (by kernel_rfl) h K
theorem g20p111 {R : Type} (A : Ar) (n : Nat) (K : Ex → St → Option R) (s : St) : g20D A n [true, true, true] K s = K .ret s := by kernel_rfl
theorem g20R3 {R : Type} (A : Ar) (n : Nat) (K : Ex → St → Option R) (x0 : List Nat) (x1 : Int) : g20D A n [true, true, false] K ⟨[(0, (.v (.cell (.str x0)))), (1, (.v (.cell (.int .i64 x1))))], []⟩ = match (generalizing := false) A.neg (A.ib .quo .i64 x1 8) with
    | true => none
    | false => match (generalizing := false) A.lt (A.toN (A.ib .quo .i64 x1 8)) x0.length with
      | true => match (generalizing := false) A.neg (A.ib .rem .i64 x1 8) with
        | true => none
        | false => K .normal ⟨[(4, (.v (.cell (.int .i64 (A.ib .and .i64 (A.ofN (A.nsh .shr .u8 (x0.getD (A.toN (A.ib .quo .i64 x1 8)) 0) (A.toN (A.ib .rem .i64 x1 8)))) 1))))), (22, (.v (.cell (.int .i64 (A.ib .and .i64 (A.ofN (A.nsh .shr .u8 (x0.getD (A.toN (A.ib .quo .i64 x1 8)) 0) (A.toN (A.ib .rem .i64 x1 8)))) 1))))), (21, (.v (.cell (.int .i64 (A.ofN (A.nsh .shr .u8 (x0.getD (A.toN (A.ib .quo .i64 x1 8)) 0) (A.toN (A.ib .rem .i64 x1 8)))))))), (20, (.v (.cell (.nat .u8 (A.nsh .shr .u8 (x0.getD (A.toN (A.ib .quo .i64 x1 8)) 0) (A.toN (A.ib .rem .i64 x1 8))))))), (19, (.v (.cell (.int .i64 (A.ib .rem .i64 x1 8))))), (18, (.v (.cell (.int .i64 x1)))), (17, (.v (.cell (.nat .u8 (x0.getD (A.toN (A.ib .quo .i64 x1 8)) 0))))), (16, (.v (.cell (.int .i64 (A.ib .quo .i64 x1 8))))), (15, (.v (.cell (.int .i64 x1)))), (14, (.v (.cell (.str x0)))), (0, (.v (.cell (.str x0)))), (1, (.v (.cell (.int .i64 x1))))], []⟩
      | false => none := by kernel_rfl
theorem g20R0 {R : Type} (A : Ar) (n : Nat) (K : Ex → St → Option R) (x0 : List Nat) (x1 : Int) : g20D A n [false] K ⟨[(0, (.v (.cell (.str x0)))), (1, (.v (.cell (.int .i64 x1))))], []⟩ = K .normal ⟨[(4, (.v (.cell (.int .i64 0)))), (0, (.v (.cell (.str x0)))), (1, (.v (.cell (.int .i64 x1))))], []⟩ := by kernel_rfl
theorem g20R1 {R : Type} (A : Ar) (n : Nat) (K : Ex → St → Option R) (x0 : List Nat) (x1 : Int) : g20D A n [true, false, false] K ⟨[(0, (.v (.cell (.str x0)))), (1, (.v (.cell (.int .i64 x1))))], []⟩ = match (generalizing := false) A.ic .lss x1 0 with
    | true => K .normal ⟨[(13, (.v (.cell (.bool true)))), (12, (.v (.cell .un))), (11, (.v (.cell .un))), (10, (.v (.cell .un))), (9, (.v (.cell .un))), (8, (.v (.cell .un))), (7, (.v (.cell (.bool true)))), (6, (.v (.cell (.bool true)))), (5, (.v (.cell (.int .i64 x1)))), (0, (.v (.cell (.str x0)))), (1, (.v (.cell (.int .i64 x1))))], []⟩
    | false => match (generalizing := false) A.ic .geq (A.ib .quo .i64 x1 8) (A.ofN x0.length) with
      | true => K .normal ⟨[(13, (.v (.cell (.bool true)))), (12, (.v (.cell (.bool true)))), (11, (.v (.cell (.int .i64 (A.ofN x0.length))))), (10, (.v (.cell (.str x0)))), (9, (.v (.cell (.int .i64 (A.ib .quo .i64 x1 8))))), (8, (.v (.cell (.int .i64 x1)))), (7, (.v (.cell (.bool false)))), (6, (.v (.cell (.bool false)))), (5, (.v (.cell (.int .i64 x1)))), (0, (.v (.cell (.str x0)))), (1, (.v (.cell (.int .i64 x1))))], []⟩
      | false => K .normal ⟨[(13, (.v (.cell (.bool false)))), (12, (.v (.cell (.bool false)))), (11, (.v (.cell (.int .i64 (A.ofN x0.length))))), (10, (.v (.cell (.str x0)))), (9, (.v (.cell (.int .i64 (A.ib .quo .i64 x1 8))))), (8, (.v (.cell (.int .i64 x1)))), (7, (.v (.cell (.bool false)))), (6, (.v (.cell (.bool false)))), (5, (.v (.cell (.int .i64 x1)))), (0, (.v (.cell (.str x0)))), (1, (.v (.cell (.int .i64 x1))))], []⟩ := by kernel_rfl
theorem g20R2 {R : Type} (A : Ar) (n : Nat) (K : Ex → St → Option R)  : g20D A n [true, false, true, false, false] K ⟨[], []⟩ = K .normal ⟨[(4, (.v (.cell (.int .i64 0))))], []⟩ := by kernel_rfl
def g20J3 {R : Type} (A : Ar) (n : Nat) (kk : AV → Heap → Option R)  (x0 : List Nat) (x1 : Int) : Option R :=
  match (generalizing := false) A.neg (A.ib .quo .i64 x1 8) with
  | true => none
  | false => match (generalizing := false) A.lt (A.toN (A.ib .quo .i64 x1 8)) x0.length with
    | true => match (generalizing := false) A.neg (A.ib .rem .i64 x1 8) with
      | true => none
      | false => kk (.v (.cell (.int .i64 (A.ib .and .i64 (A.ofN (A.nsh .shr .u8 (x0.getD (A.toN (A.ib .quo .i64 x1 8)) 0) (A.toN (A.ib .rem .i64 x1 8)))) 1)))) []
    | false => none
set_option maxRecDepth 100000 in
theorem g20J3_eq {R : Type} (A : Ar) (n : Nat) (kk : AV → Heap → Option R)    (s : St) (x0 : List Nat) (x1 : Int) (h : keep g20an 3 s = ⟨[(0, (.v (.cell (.str x0)))), (1, (.v (.cell (.int .i64 x1))))], []⟩) :
    g20D A n [true, true] (g20T kk) s = g20J3 A n kk  x0 x1 := by
  have h1 : (g20T kk) .ret ⟨[(4, (.v (.cell (.int .i64 (A.ib .and .i64 (A.ofN (A.nsh .shr .u8 (x0.getD (A.toN (A.ib .quo .i64 x1 8)) 0) (A.toN (A.ib .rem .i64 x1 8)))) 1))))), (22, (.v (.cell (.int .i64 (A.ib .and .i64 (A.ofN (A.nsh .shr .u8 (x0.getD (A.toN (A.ib .quo .i64 x1 8)) 0) (A.toN (A.ib .rem .i64 x1 8)))) 1))))), (21, (.v (.cell (.int .i64 (A.ofN (A.nsh .shr .u8 (x0.getD (A.toN (A.ib .quo .i64 x1 8)) 0) (A.toN (A.ib .rem .i64 x1 8)))))))), (20, (.v (.cell (.nat .u8 (A.nsh .shr .u8 (x0.getD (A.toN (A.ib .quo .i64 x1 8)) 0) (A.toN (A.ib .rem .i64 x1 8))))))), (19, (.v (.cell (.int .i64 (A.ib .rem .i64 x1 8))))), (18, (.v (.cell (.int .i64 x1)))), (17, (.v (.cell (.nat .u8 (x0.getD (A.toN (A.ib .quo .i64 x1 8)) 0))))), (16, (.v (.cell (.int .i64 (A.ib .quo .i64 x1 8))))), (15, (.v (.cell (.int .i64 x1)))), (14, (.v (.cell (.str x0)))), (0, (.v (.cell (.str x0)))), (1, (.v (.cell (.int .i64 x1))))], []⟩ = kk (.v (.cell (.int .i64 (A.ib .and .i64 (A.ofN (A.nsh .shr .u8 (x0.getD (A.toN (A.ib .quo .i64 x1 8)) 0) (A.toN (A.ib .rem .i64 x1 8)))) 1)))) [] := by kernel_rfl
  have h2 := (g20p111 A n _ _).trans h1
  have h3 := (g20Qn A n _ _ _).trans h2
  have h4 := (g20p110 A n (g20Q A n [true, true, true] (g20T kk)) ⟨[(0, (.v (.cell (.str x0)))), (1, (.v (.cell (.int .i64 x1))))], []⟩ ⟨[(0, (.v (.cell (.str x0)))), (1, (.v (.cell (.int .i64 x1))))], []⟩ (by kernel_rfl)).trans (g20R3 A n (g20Q A n [true, true, true] (g20T kk)) x0 x1)
  rw [h3] at h4
  have h5 := (g20p11 A n _ _).trans h4
  exact (codeD_first (s' := ⟨[(0, (.v (.cell (.str x0)))), (1, (.v (.cell (.int .i64 x1))))], []⟩) (id := 3) (by kernel_rfl) (h.trans (by kernel_rfl)) _).trans (h5.trans (by kernel_rfl))
def g20 {R : Type} (A : Ar) (n : Nat) (kk : AV → Heap → Option R) (a : List Nat) (b : Int) : Option R :=
  match (generalizing := false) A.ic .lss b 0 with
  | true => kk (.v (.cell (.int .i64 0))) []
  | false => match (generalizing := false) A.ic .geq (A.ib .quo .i64 b 8) (A.ofN a.length) with
    | true => kk (.v (.cell (.int .i64 0))) []
    | false => g20J3 A n kk  a b
set_option maxRecDepth 100000 in
theorem g20_eq {R : Type} (A : Ar) (n : Nat) (kk : AV → Heap → Option R) (a : List Nat) (b : Int) :
    funD A gtys (orcOf []) g20an n (bodyOf Try.f20) g20res [(.v (.cell (.str a))), (.v (.cell (.int .i64 b)))] [] kk = g20 A n kk a b := by
  have h1 : (g20T kk) .ret ⟨[(4, (.v (.cell (.int .i64 0))))], []⟩ = kk (.v (.cell (.int .i64 0))) [] := by kernel_rfl
  have h2 := (g20Qr A n [true, true] _ _).trans h1
  have h3 := (g20p10101 A n _ _).trans h2
  have h4 := (g20Qn A n _ _ _).trans h3
  have h5 := (g20p10100 A n (g20Q A n [true, false, true, false, true] (g20Q A n [true, true] (g20T kk))) ⟨[(13, (.v (.cell (.bool true)))), (12, (.v (.cell .un))), (11, (.v (.cell .un))), (10, (.v (.cell .un))), (9, (.v (.cell .un))), (8, (.v (.cell .un))), (7, (.v (.cell (.bool true)))), (6, (.v (.cell (.bool true)))), (5, (.v (.cell (.int .i64 b)))), (0, (.v (.cell (.str a)))), (1, (.v (.cell (.int .i64 b))))], []⟩ ⟨[], []⟩ (by kernel_rfl)).trans (g20R2 A n (g20Q A n [true, false, true, false, true] (g20Q A n [true, true] (g20T kk))) )
  rw [h4] at h5
  have h6 := (g20p1010 A n _ _).trans h5
  have h7 := (g20p101 A n (g20Q A n [true, true] (g20T kk)) ⟨[(13, (.v (.cell (.bool true)))), (12, (.v (.cell .un))), (11, (.v (.cell .un))), (10, (.v (.cell .un))), (9, (.v (.cell .un))), (8, (.v (.cell .un))), (7, (.v (.cell (.bool true)))), (6, (.v (.cell (.bool true)))), (5, (.v (.cell (.int .i64 b)))), (0, (.v (.cell (.str a)))), (1, (.v (.cell (.int .i64 b))))], []⟩ true (by kernel_rfl)).trans h6
  have h8 := (g20Qn A n _ _ _).trans h7
  have h9 : (g20T kk) .ret ⟨[(4, (.v (.cell (.int .i64 0))))], []⟩ = kk (.v (.cell (.int .i64 0))) [] := by kernel_rfl
  have h10 := (g20Qr A n [true, true] _ _).trans h9
  have h11 := (g20p10101 A n _ _).trans h10
  have h12 := (g20Qn A n _ _ _).trans h11
  have h13 := (g20p10100 A n (g20Q A n [true, false, true, false, true] (g20Q A n [true, true] (g20T kk))) ⟨[(13, (.v (.cell (.bool true)))), (12, (.v (.cell (.bool true)))), (11, (.v (.cell (.int .i64 (A.ofN a.length))))), (10, (.v (.cell (.str a)))), (9, (.v (.cell (.int .i64 (A.ib .quo .i64 b 8))))), (8, (.v (.cell (.int .i64 b)))), (7, (.v (.cell (.bool false)))), (6, (.v (.cell (.bool false)))), (5, (.v (.cell (.int .i64 b)))), (0, (.v (.cell (.str a)))), (1, (.v (.cell (.int .i64 b))))], []⟩ ⟨[], []⟩ (by kernel_rfl)).trans (g20R2 A n (g20Q A n [true, false, true, false, true] (g20Q A n [true, true] (g20T kk))) )
  rw [h12] at h13
  have h14 := (g20p1010 A n _ _).trans h13
  have h15 := (g20p101 A n (g20Q A n [true, true] (g20T kk)) ⟨[(13, (.v (.cell (.bool true)))), (12, (.v (.cell (.bool true)))), (11, (.v (.cell (.int .i64 (A.ofN a.length))))), (10, (.v (.cell (.str a)))), (9, (.v (.cell (.int .i64 (A.ib .quo .i64 b 8))))), (8, (.v (.cell (.int .i64 b)))), (7, (.v (.cell (.bool false)))), (6, (.v (.cell (.bool false)))), (5, (.v (.cell (.int .i64 b)))), (0, (.v (.cell (.str a)))), (1, (.v (.cell (.int .i64 b))))], []⟩ true (by kernel_rfl)).trans h14
  have h16 := (g20Qn A n _ _ _).trans h15
  have h17 := (g20Qn A n _ _ _).trans (g20J3_eq A n kk     ⟨[(13, (.v (.cell (.bool false)))), (12, (.v (.cell (.bool false)))), (11, (.v (.cell (.int .i64 (A.ofN a.length))))), (10, (.v (.cell (.str a)))), (9, (.v (.cell (.int .i64 (A.ib .quo .i64 b 8))))), (8, (.v (.cell (.int .i64 b)))), (7, (.v (.cell (.bool false)))), (6, (.v (.cell (.bool false)))), (5, (.v (.cell (.int .i64 b)))), (0, (.v (.cell (.str a)))), (1, (.v (.cell (.int .i64 b))))], []⟩ a b (by kernel_rfl))
  have h18 := (g20p1011 A n _ _).trans h17
  have h19 := (g20p101 A n (g20Q A n [true, true] (g20T kk)) ⟨[(13, (.v (.cell (.bool false)))), (12, (.v (.cell (.bool false)))), (11, (.v (.cell (.int .i64 (A.ofN a.length))))), (10, (.v (.cell (.str a)))), (9, (.v (.cell (.int .i64 (A.ib .quo .i64 b 8))))), (8, (.v (.cell (.int .i64 b)))), (7, (.v (.cell (.bool false)))), (6, (.v (.cell (.bool false)))), (5, (.v (.cell (.int .i64 b)))), (0, (.v (.cell (.str a)))), (1, (.v (.cell (.int .i64 b))))], []⟩ false (by kernel_rfl)).trans h18
  have h20 := (g20Qn A n _ _ _).trans h19
  have h21 := (g20p100 A n (g20Q A n [true, false, true] (g20Q A n [true, true] (g20T kk))) ⟨[(4, (.v (.cell (.int .i64 0)))), (0, (.v (.cell (.str a)))), (1, (.v (.cell (.int .i64 b))))], []⟩ ⟨[(0, (.v (.cell (.str a)))), (1, (.v (.cell (.int .i64 b))))], []⟩ (by kernel_rfl)).trans (g20R1 A n (g20Q A n [true, false, true] (g20Q A n [true, true] (g20T kk))) a b)
  rw [h8, h16, h20] at h21
  have h22 := (g20p10 A n _ _).trans h21
  have h23 := (g20p1 A n _ _).trans h22
  have h24 := (g20Qn A n _ _ _).trans h23
  have h25 := (g20p0 A n (g20Q A n [true] (g20T kk)) ⟨[(0, (.v (.cell (.str a)))), (1, (.v (.cell (.int .i64 b))))], []⟩ ⟨[(0, (.v (.cell (.str a)))), (1, (.v (.cell (.int .i64 b))))], []⟩ (by kernel_rfl)).trans (g20R0 A n (g20Q A n [true] (g20T kk)) a b)
  rw [h24] at h25
  have h26 := (g20p A n _ _).trans h25
  exact (show funD A gtys (orcOf []) g20an n (bodyOf Try.f20) g20res [(.v (.cell (.str a))), (.v (.cell (.int .i64 b)))] [] kk = g20D A n [] (g20T kk) ⟨[(0, (.v (.cell (.str a)))), (1, (.v (.cell (.int .i64 b))))], []⟩ from by kernel_rfl).trans (h26.trans (by kernel_rfl))
def g20is (o : Option AV) : Bool := match o with
  | some (.v (.cell (.int .i64 _))) => true
  | _ => false
def g20g0 (o : Option AV) : Int := match o with
  | some (.v (.cell (.int .i64 x))) => x
  | _ => 0
theorem g20is_spec {o : Option AV} (h : g20is o = true) : o = some (.v (.cell (.int .i64 (g20g0 o)))) := by
  unfold g20is at h
  split at h
  · rfl
  · cases h
def g20v (a : List Nat) (b : Int) : Option AV := g20 realA (100000) (fun v _ => some v) a b
def g20ok (a : List Nat) (b : Int) : Bool := g20is (g20v a b)
def g20r0 (a : List Nat) (b : Int) : Int := g20g0 (g20v a b)
theorem g20ok_spec {a b} (h : g20ok a b = true) : g20v a b = some (.v (.cell (.int .i64 (g20r0 a b)))) := g20is_spec h
def g20o (args : List AV) : Option (Bool × AV) := match args with
  | [.v (.cell (.str a)), .v (.cell (.int .i64 b))] => some (g20ok a b, .v (.cell (.int .i64 (g20r0 a b))))
  | _ => none
theorem g20O_sound : OSound Try.prog (orcOf []) := orc_sound fun f g hm args v hv => by
  cases hm
theorem g20o_sound : ∀ args v, g20o args = some (true, v) → Fn1 Try.prog 20 args v := by
  intro args v h
  unfold g20o at h
  split at h
  · rename_i a b
    simp only [Option.some.injEq, Prod.mk.injEq] at h
    obtain ⟨hc, h⟩ := h
    subst h
    · skip
      exact fn1_of mixed gtysOK g20O_sound (orc_det _) (an := g20an) (n := 100000) Try.func20 (c := bodyOf Try.f20) rfl (by kernel_rfl) Try.call20 (Nat.le_of_ble_eq_true rfl) (fun b => rfl) (fun _ => (g20_eq realA (100000) (fun v _ => some v) a b).trans (show g20v a b = _ from g20ok_spec hc))
  · cases h
/- engrosser/engrosserref04.Bit -/
def g21an : Ann := [(0, ([0, 1], [])), (1, ([0, 1], [])), (2, ([], [])), (3, ([0, 1], []))]
def g21res : List ResultVar := [.tmp 4]
noncomputable def g21D {R : Type} (A : Ar) (n : Nat) (p : List Bool) (K : Ex → St → Option R) (s : St) : Option R := codeD A gtys (orcOf []) g21an n (sub (bodyOf Try.f21) p) K s
noncomputable def g21V {R : Type} (A : Ar) (n : Nat) (p : List Bool) (m : Nat) (K : Ex → St → Option R) (s : St) : Option R := loopD (fun K' s'' => codeD A gtys (orcOf []) g21an n (sub (bodyOf Try.f21) p) K' s'') m K s
noncomputable def g21Q {R : Type} (A : Ar) (n : Nat) (p : List Bool) (K : Ex → St → Option R) : Ex → St → Option R := seqC (g21D A n p K) K
noncomputable def g21W {R : Type} (A : Ar) (n : Nat) (p : List Bool) (m : Nat) (K : Ex → St → Option R) : Ex → St → Option R := seqC (g21V A n p m K) K
noncomputable def g21T {R : Type} (kk : AV → Heap → Option R) : Ex → St → Option R := finD gtys g21res kk
theorem g21Qn {R : Type} (A : Ar) (n : Nat) (p : List Bool) (K : Ex → St → Option R) (s : St) : g21Q A n p K .normal s = g21D A n p K s := rfl
theorem g21Qe {R : Type} (A : Ar) (n : Nat) (p : List Bool) (K : Ex → St → Option R) (i : Nat) (s : St) : g21Q A n p K (.exit i) s = K (.exit i) s := rfl
theorem g21Qr {R : Type} (A : Ar) (n : Nat) (p : List Bool) (K : Ex → St → Option R) (s : St) : g21Q A n p K .ret s = K .ret s := rfl
theorem g21Wn {R : Type} (A : Ar) (n : Nat) (p : List Bool) (m : Nat) (K : Ex → St → Option R) (s : St) : g21W A n p m K .normal s = g21V A n p m K s := rfl
theorem g21We {R : Type} (A : Ar) (n : Nat) (p : List Bool) (m : Nat) (K : Ex → St → Option R) (i : Nat) (s : St) : g21W A n p m K (.exit i) s = K (.exit i) s := rfl
theorem g21Wr {R : Type} (A : Ar) (n : Nat) (p : List Bool) (m : Nat) (K : Ex → St → Option R) (s : St) : g21W A n p m K .ret s = K .ret s := rfl
theorem g21Vs {R : Type} (A : Ar) (n : Nat) (p : List Bool) (m : Nat) (K : Ex → St → Option R) (s : St) : g21V A n p (m + 1) K s = g21D A n p (g21W A n p m K) s := rfl
theorem g21p {R : Type} (A : Ar) (n : Nat) (K : Ex → St → Option R) (s : St) : g21D A n [] K s = g21D A n [false] (g21Q A n [true] K) s := by kernel_rfl
theorem g21p0 {R : Type} (A : Ar) (n : Nat) (K : Ex → St → Option R) (s s' : St) (h : keep g21an 0 s = keep g21an 0 s') : g21D A n [false] K s = g21D A n [false] K s' := codeD_first (id := 0) (by kernel_rfl) h K
theorem g21p1 {R : Type} (A : Ar) (n : Nat) (K : Ex → St → Option R) (s : St) : g21D A n [true] K s = g21D A n [true, false] (g21Q A n [true, true] K) s := by kernel_rfl
theorem g21p10 {R : Type} (A : Ar) (n : Nat) (K : Ex → St → Option R) (s : St) : g21D A n [true, false] K s = g21D A n [true, false, false] (g21Q A n [true, false, true] K) s := by kernel_rfl
theorem g21p100 {R : Type} (A : Ar) (n : Nat) (K : Ex → St → Option R) (s s' : St) (h : keep g21an 1 s = keep g21an 1 s') : g21D A n [true, false, false] K s = g21D A n [true, false, false] K s' := codeD_first (id := 1) (by kernel_rfl) h K
theorem g21p101 {R : Type} (A : Ar) (n : Nat) (K : Ex → St → Option R) (s : St) (t : Bool) : ev s (.tmp 13) = some (.v (.cell (.bool t))) → g21D A n [true, false, true] K s = (match t with
    | true => g21D A n [true, false, true, false] K s
    | false => g21D A n [true, false, true, true] K s) := codeD_cond t
theorem g21p1010 {R : Type} (A : Ar) (n : Nat) (K : Ex → St → Option R) (s : St) : g21D A n [true, false, true, false] K s = g21D A n [true, false, true, false, false] (g21Q A n [true, false, true, false, true] K) s := by kernel_rfl
theorem g21p10100 {R : Type} (A : Ar) (n : Nat) (K : Ex → St → Option R) (s s' : St) (h : keep g21an 2 s = keep g21an 2 s') : g21D A n [true, false, true, false, false] K s = g21D A n [true, false, true, false, false] K s' := codeD_first (id := 2) (by kernel_rfl) h K
theorem g21p10101 {R : Type} (A : Ar) (n : Nat) (K : Ex → St → Option R) (s : St) : g21D A n [true, false, true, false, true] K s = K .ret s := by kernel_rfl
theorem g21p1011 {R : Type} (A : Ar) (n : Nat) (K : Ex → St → Option R) (s : St) : g21D A n [true, false, true, true] K s = K .normal s := by kernel_rfl
theorem g21p11 {R : Type} (A : Ar) (n : Nat) (K : Ex → St → Option R) (s : St) : g21D A n [true, true] K s = g21D A n [true, true, false] (g21Q A n [true, true, true] K) s := by kernel_rfl
theorem g21p110 {R : Type} (A : Ar) (n : Nat) (K : Ex → St → Option R) (s s' : St) (h : keep g21an 3 s = keep g21an 3 s') : g21D A n [true, true, false] K s = g21D A n [true, true, false] K s' := codeD_first (id := 3) (by kernel_rfl) h K
theorem g21p111 {R : Type} (A : Ar) (n : Nat) (K : Ex → St → Option R) (s : St) : g21D A n [true, true, true] K s = K .ret s := by kernel_rfl
theorem g21R3 {R : Type} (A : Ar) (n : Nat) (K : Ex → St → Option R) (x0 : List Nat) (x1 : Int) : g21D A n [true, true, false] K ⟨[(0, (.v (.cell (.str x0)))), (1, (.v (.cell (.int .i64 x1))))], []⟩ = match (generalizing := false) A.neg (A.ib .quo .i64 x1 8) with
    | true => none
    | false => match (generalizing := false) A.lt (A.toN (A.ib .quo .i64 x1 8)) x0.length with
      | true => match (generalizing := false) A.neg (A.ib .rem .i64 x1 8) with
        | true => none
        | false => K .normal ⟨[(4, (.v (.cell (.int .i64 (A.ib .and .i64 (A.ofN (A.nsh .shr .u8 (x0.getD (A.toN (A.ib .quo .i64 x1 8)) 0) (A.toN (A.ib .rem .i64 x1 8)))) 1))))), (22, (.v (.cell (.int .i64 (A.ib .and .i64 (A.ofN (A.nsh .shr .u8 (x0.getD (A.toN (A.ib .quo .i64 x1 8)) 0) (A.toN (A.ib .rem .i64 x1 8)))) 1))))), (21, (.v (.cell (.int .i64 (A.ofN (A.nsh .shr .u8 (x0.getD (A.toN (A.ib .quo .i64 x1 8)) 0) (A.toN (A.ib .rem .i64 x1 8)))))))), (20, (.v (.cell (.nat .u8 (A.nsh .shr .u8 (x0.getD (A.toN (A.ib .quo .i64 x1 8)) 0) (A.toN (A.ib .rem .i64 x1 8))))))), (19, (.v (.cell (.int .i64 (A.ib .rem .i64 x1 8))))), (18, (.v (.cell (.int .i64 x1)))), (17, (.v (.cell (.nat .u8 (x0.getD (A.toN (A.ib .quo .i64 x1 8)) 0))))), (16, (.v (.cell (.int .i64 (A.ib .quo .i64 x1 8))))), (15, (.v (.cell (.int .i64 x1)))), (14, (.v (.cell (.str x0)))), (0, (.v (.cell (.str x0)))), (1, (.v (.cell (.int .i64 x1))))], []⟩
      | false => none := by kernel_rfl
theorem g21R0 {R : Type} (A : Ar) (n : Nat) (K : Ex → St → Option R) (x0 : List Nat) (x1 : Int) : g21D A n [false] K ⟨[(0, (.v (.cell (.str x0)))), (1, (.v (.cell (.int .i64 x1))))], []⟩ = K .normal ⟨[(4, (.v (.cell (.int .i64 0)))), (0, (.v (.cell (.str x0)))), (1, (.v (.cell (.int .i64 x1))))], []⟩ := by kernel_rfl
theorem g21R1 {R : Type} (A : Ar) (n : Nat) (K : Ex → St → Option R) (x0 : List Nat) (x1 : Int) : g21D A n [true, false, false] K ⟨[(0, (.v (.cell (.str x0)))), (1, (.v (.cell (.int .i64 x1))))], []⟩ = match (generalizing := false) A.ic .lss x1 0 with
    | true => K .normal ⟨[(13, (.v (.cell (.bool true)))), (12, (.v (.cell .un))), (11, (.v (.cell .un))), (10, (.v (.cell .un))), (9, (.v (.cell .un))), (8, (.v (.cell .un))), (7, (.v (.cell (.bool true)))), (6, (.v (.cell (.bool true)))), (5, (.v (.cell (.int .i64 x1)))), (0, (.v (.cell (.str x0)))), (1, (.v (.cell (.int .i64 x1))))], []⟩
    | false => match (generalizing := false) A.ic .geq (A.ib .quo .i64 x1 8) (A.ofN x0.length) with
      | true => K .normal ⟨[(13, (.v (.cell (.bool true)))), (12, (.v (.cell (.bool true)))), (11, (.v (.cell (.int .i64 (A.ofN x0.length))))), (10, (.v (.cell (.str x0)))), (9, (.v (.cell (.int .i64 (A.ib .quo .i64 x1 8))))), (8, (.v (.cell (.int .i64 x1)))), (7, (.v (.cell (.bool false)))), (6, (.v (.cell (.bool false)))), (5, (.v (.cell (.int .i64 x1)))), (0, (.v (.cell (.str x0)))), (1, (.v (.cell (.int .i64 x1))))], []⟩
      | false => K .normal ⟨[(13, (.v (.cell (.bool false)))), (12, (.v (.cell (.bool false)))), (11, (.v (.cell (.int .i64 (A.ofN x0.length))))), (10, (.v (.cell (.str x0)))), (9, (.v (.cell (.int .i64 (A.ib .quo .i64 x1 8))))), (8, (.v (.cell (.int .i64 x1)))), (7, (.v (.cell (.bool false)))), (6, (.v (.cell (.bool false)))), (5, (.v (.cell (.int .i64 x1)))), (0, (.v (.cell (.str x0)))), (1, (.v (.cell (.int .i64 x1))))], []⟩ := by kernel_rfl
theorem g21R2 {R : Type} (A : Ar) (n : Nat) (K : Ex → St → Option R)  : g21D A n [true, false, true, false, false] K ⟨[], []⟩ = K .normal ⟨[(4, (.v (.cell (.int .i64 0))))], []⟩ := by kernel_rfl
def g21J3 {R : Type} (A : Ar) (n : Nat) (kk : AV → Heap → Option R)  (x0 : List Nat) (x1 : Int) : Option R :=
  match (generalizing := false) A.neg (A.ib .quo .i64 x1 8) with
  | true => none
  | false => match (generalizing := false) A.lt (A.toN (A.ib .quo .i64 x1 8)) x0.length with
    | true => match (generalizing := false) A.neg (A.ib .rem .i64 x1 8) with
      | true => none
      | false => kk (.v (.cell (.int .i64 (A.ib .and .i64 (A.ofN (A.nsh .shr .u8 (x0.getD (A.toN (A.ib .quo .i64 x1 8)) 0) (A.toN (A.ib .rem .i64 x1 8)))) 1)))) []
    | false => none
set_option maxRecDepth 100000 in
theorem g21J3_eq {R : Type} (A : Ar) (n : Nat) (kk : AV → Heap → Option R)    (s : St) (x0 : List Nat) (x1 : Int) (h : keep g21an 3 s = ⟨[(0, (.v (.cell (.str x0)))), (1, (.v (.cell (.int .i64 x1))))], []⟩) :
    g21D A n [true, true] (g21T kk) s = g21J3 A n kk  x0 x1 := by
  have h1 : (g21T kk) .ret ⟨[(4, (.v (.cell (.int .i64 (A.ib .and .i64 (A.ofN (A.nsh .shr .u8 (x0.getD (A.toN (A.ib .quo .i64 x1 8)) 0) (A.toN (A.ib .rem .i64 x1 8)))) 1))))), (22, (.v (.cell (.int .i64 (A.ib .and .i64 (A.ofN (A.nsh .shr .u8 (x0.getD (A.toN (A.ib .quo .i64 x1 8)) 0) (A.toN (A.ib .rem .i64 x1 8)))) 1))))), (21, (.v (.cell (.int .i64 (A.ofN (A.nsh .shr .u8 (x0.getD (A.toN (A.ib .quo .i64 x1 8)) 0) (A.toN (A.ib .rem .i64 x1 8)))))))), (20, (.v (.cell (.nat .u8 (A.nsh .shr .u8 (x0.getD (A.toN (A.ib .quo .i64 x1 8)) 0) (A.toN (A.ib .rem .i64 x1 8))))))), (19, (.v (.cell (.int .i64 (A.ib .rem .i64 x1 8))))), (18, (.v (.cell (.int .i64 x1)))), (17, (.v (.cell (.nat .u8 (x0.getD (A.toN (A.ib .quo .i64 x1 8)) 0))))), (16, (.v (.cell (.int .i64 (A.ib .quo .i64 x1 8))))), (15, (.v (.cell (.int .i64 x1)))), (14, (.v (.cell (.str x0)))), (0, (.v (.cell (.str x0)))), (1, (.v (.cell (.int .i64 x1))))], []⟩ = kk (.v (.cell (.int .i64 (A.ib .and .i64 (A.ofN (A.nsh .shr .u8 (x0.getD (A.toN (A.ib .quo .i64 x1 8)) 0) (A.toN (A.ib .rem .i64 x1 8)))) 1)))) [] := by kernel_rfl
  have h2 := (g21p111 A n _ _).trans h1
  have h3 := (g21Qn A n _ _ _).trans h2
  have h4 := (g21p110 A n (g21Q A n [true, true, true] (g21T kk)) ⟨[(0, (.v (.cell (.str x0)))), (1, (.v (.cell (.int .i64 x1))))], []⟩ ⟨[(0, (.v (.cell (.str x0)))), (1, (.v (.cell (.int .i64 x1))))], []⟩ (by kernel_rfl)).trans (g21R3 A n (g21Q A n [true, true, true] (g21T kk)) x0 x1)
  rw [h3] at h4
  have h5 := (g21p11 A n _ _).trans h4
  exact (codeD_first (s' := ⟨[(0, (.v (.cell (.str x0)))), (1, (.v (.cell (.int .i64 x1))))], []⟩) (id := 3) (by kernel_rfl) (h.trans (by kernel_rfl)) _).trans (h5.trans (by kernel_rfl))
def g21 {R : Type} (A : Ar) (n : Nat) (kk : AV → Heap → Option R) (a : List Nat) (b : Int) : Option R :=
  match (generalizing := false) A.ic .lss b 0 with
  | true => kk (.v (.cell (.int .i64 0))) []
  | false => match (generalizing := false) A.ic .geq (A.ib .quo .i64 b 8) (A.ofN a.length) with
    | true => kk (.v (.cell (.int .i64 0))) []
    | false => g21J3 A n kk  a b
set_option maxRecDepth 100000 in
theorem g21_eq {R : Type} (A : Ar) (n : Nat) (kk : AV → Heap → Option R) (a : List Nat) (b : Int) :
    funD A gtys (orcOf []) g21an n (bodyOf Try.f21) g21res [(.v (.cell (.str a))), (.v (.cell (.int .i64 b)))] [] kk = g21 A n kk a b := by
  have h1 : (g21T kk) .ret ⟨[(4, (.v (.cell (.int .i64 0))))], []⟩ = kk (.v (.cell (.int .i64 0))) [] := by kernel_rfl
  have h2 := (g21Qr A n [true, true] _ _).trans h1
  have h3 := (g21p10101 A n _ _).trans h2
  have h4 := (g21Qn A n _ _ _).trans h3
  have h5 := (g21p10100 A n (g21Q A n [true, false, true, false, true] (g21Q A n [true, true] (g21T kk))) ⟨[(13, (.v (.cell (.bool true)))), (12, (.v (.cell .un))), (11, (.v (.cell .un))), (10, (.v (.cell .un))), (9, (.v (.cell .un))), (8, (.v (.cell .un))), (7, (.v (.cell (.bool true)))), (6, (.v (.cell (.bool true)))), (5, (.v (.cell (.int .i64 b)))), (0, (.v (.cell (.str a)))), (1, (.v (.cell (.int .i64 b))))], []⟩ ⟨[], []⟩ (by kernel_rfl)).trans (g21R2 A n (g21Q A n [true, false, true, false, true] (g21Q A n [true, true] (g21T kk))) )
  rw [h4] at h5
  have h6 := (g21p1010 A n _ _).trans h5
  have h7 := (g21p101 A n (g21Q A n [true, true] (g21T kk)) ⟨[(13, (.v (.cell (.bool true)))), (12, (.v (.cell .un))), (11, (.v (.cell .un))), (10, (.v (.cell .un))), (9, (.v (.cell .un))), (8, (.v (.cell .un))), (7, (.v (.cell (.bool true)))), (6, (.v (.cell (.bool true)))), (5, (.v (.cell (.int .i64 b)))), (0, (.v (.cell (.str a)))), (1, (.v (.cell (.int .i64 b))))], []⟩ true (by kernel_rfl)).trans h6
  have h8 := (g21Qn A n _ _ _).trans h7
  have h9 : (g21T kk) .ret ⟨[(4, (.v (.cell (.int .i64 0))))], []⟩ = kk (.v (.cell (.int .i64 0))) [] := by kernel_rfl
  have h10 := (g21Qr A n [true, true] _ _).trans h9
  have h11 := (g21p10101 A n _ _).trans h10
  have h12 := (g21Qn A n _ _ _).trans h11
  have h13 := (g21p10100 A n (g21Q A n [true, false, true, false, true] (g21Q A n [true, true] (g21T kk))) ⟨[(13, (.v (.cell (.bool true)))), (12, (.v (.cell (.bool true)))), (11, (.v (.cell (.int .i64 (A.ofN a.length))))), (10, (.v (.cell (.str a)))), (9, (.v (.cell (.int .i64 (A.ib .quo .i64 b 8))))), (8, (.v (.cell (.int .i64 b)))), (7, (.v (.cell (.bool false)))), (6, (.v (.cell (.bool false)))), (5, (.v (.cell (.int .i64 b)))), (0, (.v (.cell (.str a)))), (1, (.v (.cell (.int .i64 b))))], []⟩ ⟨[], []⟩ (by kernel_rfl)).trans (g21R2 A n (g21Q A n [true, false, true, false, true] (g21Q A n [true, true] (g21T kk))) )
  rw [h12] at h13
  have h14 := (g21p1010 A n _ _).trans h13
  have h15 := (g21p101 A n (g21Q A n [true, true] (g21T kk)) ⟨[(13, (.v (.cell (.bool true)))), (12, (.v (.cell (.bool true)))), (11, (.v (.cell (.int .i64 (A.ofN a.length))))), (10, (.v (.cell (.str a)))), (9, (.v (.cell (.int .i64 (A.ib .quo .i64 b 8))))), (8, (.v (.cell (.int .i64 b)))), (7, (.v (.cell (.bool false)))), (6, (.v (.cell (.bool false)))), (5, (.v (.cell (.int .i64 b)))), (0, (.v (.cell (.str a)))), (1, (.v (.cell (.int .i64 b))))], []⟩ true (by kernel_rfl)).trans h14
  have h16 := (g21Qn A n _ _ _).trans h15
  have h17 := (g21Qn A n _ _ _).trans (g21J3_eq A n kk     ⟨[(13, (.v (.cell (.bool false)))), (12, (.v (.cell (.bool false)))), (11, (.v (.cell (.int .i64 (A.ofN a.length))))), (10, (.v (.cell (.str a)))), (9, (.v (.cell (.int .i64 (A.ib .quo .i64 b 8))))), (8, (.v (.cell (.int .i64 b)))), (7, (.v (.cell (.bool false)))), (6, (.v (.cell (.bool false)))), (5, (.v (.cell (.int .i64 b)))), (0, (.v (.cell (.str a)))), (1, (.v (.cell (.int .i64 b))))], []⟩ a b (by kernel_rfl))
  have h18 := (g21p1011 A n _ _).trans h17
  have h19 := (g21p101 A n (g21Q A n [true, true] (g21T kk)) ⟨[(13, (.v (.cell (.bool false)))), (12, (.v (.cell (.bool false)))), (11, (.v (.cell (.int .i64 (A.ofN a.length))))), (10, (.v (.cell (.str a)))), (9, (.v (.cell (.int .i64 (A.ib .quo .i64 b 8))))), (8, (.v (.cell (.int .i64 b)))), (7, (.v (.cell (.bool false)))), (6, (.v (.cell (.bool false)))), (5, (.v (.cell (.int .i64 b)))), (0, (.v (.cell (.str a)))), (1, (.v (.cell (.int .i64 b))))], []⟩ false (by kernel_rfl)).trans h18
  have h20 := (g21Qn A n _ _ _).trans h19
  have h21 := (g21p100 A n (g21Q A n [true, false, true] (g21Q A n [true, true] (g21T kk))) ⟨[(4, (.v (.cell (.int .i64 0)))), (0, (.v (.cell (.str a)))), (1, (.v (.cell (.int .i64 b))))], []⟩ ⟨[(0, (.v (.cell (.str a)))), (1, (.v (.cell (.int .i64 b))))], []⟩ (by kernel_rfl)).trans (g21R1 A n (g21Q A n [true, false, true] (g21Q A n [true, true] (g21T kk))) a b)
  rw [h8, h16, h20] at h21
  have h22 := (g21p10 A n _ _).trans h21
  have h23 := (g21p1 A n _ _).trans h22
  have h24 := (g21Qn A n _ _ _).trans h23
  have h25 := (g21p0 A n (g21Q A n [true] (g21T kk)) ⟨[(0, (.v (.cell (.str a)))), (1, (.v (.cell (.int .i64 b))))], []⟩ ⟨[(0, (.v (.cell (.str a)))), (1, (.v (.cell (.int .i64 b))))], []⟩ (by kernel_rfl)).trans (g21R0 A n (g21Q A n [true] (g21T kk)) a b)
  rw [h24] at h25
  have h26 := (g21p A n _ _).trans h25
  exact (show funD A gtys (orcOf []) g21an n (bodyOf Try.f21) g21res [(.v (.cell (.str a))), (.v (.cell (.int .i64 b)))] [] kk = g21D A n [] (g21T kk) ⟨[(0, (.v (.cell (.str a)))), (1, (.v (.cell (.int .i64 b))))], []⟩ from by kernel_rfl).trans (h26.trans (by kernel_rfl))
def g21is (o : Option AV) : Bool := match o with
  | some (.v (.cell (.int .i64 _))) => true
  | _ => false
def g21g0 (o : Option AV) : Int := match o with
  | some (.v (.cell (.int .i64 x))) => x
  | _ => 0
theorem g21is_spec {o : Option AV} (h : g21is o = true) : o = some (.v (.cell (.int .i64 (g21g0 o)))) := by
  unfold g21is at h
  split at h
  · rfl
  · cases h
def g21v (a : List Nat) (b : Int) : Option AV := g21 realA (100000) (fun v _ => some v) a b
def g21ok (a : List Nat) (b : Int) : Bool := g21is (g21v a b)
def g21r0 (a : List Nat) (b : Int) : Int := g21g0 (g21v a b)
theorem g21ok_spec {a b} (h : g21ok a b = true) : g21v a b = some (.v (.cell (.int .i64 (g21r0 a b)))) := g21is_spec h
def g21o (args : List AV) : Option (Bool × AV) := match args with
  | [.v (.cell (.str a)), .v (.cell (.int .i64 b))] => some (g21ok a b, .v (.cell (.int .i64 (g21r0 a b))))
  | _ => none
theorem g21O_sound : OSound Try.prog (orcOf []) := orc_sound fun f g hm args v hv => by
  cases hm
theorem g21o_sound : ∀ args v, g21o args = some (true, v) → Fn1 Try.prog 21 args v := by
  intro args v h
  unfold g21o at h
  split at h
  · rename_i a b
    simp only [Option.some.injEq, Prod.mk.injEq] at h
    obtain ⟨hc, h⟩ := h
    subst h
    · skip
      exact fn1_of mixed gtysOK g21O_sound (orc_det _) (an := g21an) (n := 100000) Try.func21 (c := bodyOf Try.f21) rfl (by kernel_rfl) Try.call21 (Nat.le_of_ble_eq_true rfl) (fun b => rfl) (fun _ => (g21_eq realA (100000) (fun v _ => some v) a b).trans (show g21v a b = _ from g21ok_spec hc))
  · cases h
/- engrosser/engrosserlaw04.ScalarBits -/
def g7an : Ann := [(0, ([0, 1], [])), (1, ([0, 1], [])), (2, ([0, 1, 5], [])), (3, ([], [])), (4, ([0, 1, 5], [])), (5, ([0, 1, 5, 6, 7], [])), (6, ([0, 1, 5, 6, 7, 8, 9], []))]
def g7res : List ResultVar := [.tmp 4]
noncomputable def g7D {R : Type} (A : Ar) (n : Nat) (p : List Bool) (K : Ex → St → Option R) (s : St) : Option R := codeD A gtys (orcOf [(9, g9o), (18, g18o), (19, g19o), (20, g20o), (21, g21o)]) g7an n (sub (bodyOf Try.f7) p) K s
noncomputable def g7V {R : Type} (A : Ar) (n : Nat) (p : List Bool) (m : Nat) (K : Ex → St → Option R) (s : St) : Option R := loopD (fun K' s'' => codeD A gtys (orcOf [(9, g9o), (18, g18o), (19, g19o), (20, g20o), (21, g21o)]) g7an n (sub (bodyOf Try.f7) p) K' s'') m K s
noncomputable def g7Q {R : Type} (A : Ar) (n : Nat) (p : List Bool) (K : Ex → St → Option R) : Ex → St → Option R := seqC (g7D A n p K) K
noncomputable def g7W {R : Type} (A : Ar) (n : Nat) (p : List Bool) (m : Nat) (K : Ex → St → Option R) : Ex → St → Option R := seqC (g7V A n p m K) K
noncomputable def g7T {R : Type} (kk : AV → Heap → Option R) : Ex → St → Option R := finD gtys g7res kk
theorem g7Qn {R : Type} (A : Ar) (n : Nat) (p : List Bool) (K : Ex → St → Option R) (s : St) : g7Q A n p K .normal s = g7D A n p K s := rfl
theorem g7Qe {R : Type} (A : Ar) (n : Nat) (p : List Bool) (K : Ex → St → Option R) (i : Nat) (s : St) : g7Q A n p K (.exit i) s = K (.exit i) s := rfl
theorem g7Qr {R : Type} (A : Ar) (n : Nat) (p : List Bool) (K : Ex → St → Option R) (s : St) : g7Q A n p K .ret s = K .ret s := rfl
theorem g7Wn {R : Type} (A : Ar) (n : Nat) (p : List Bool) (m : Nat) (K : Ex → St → Option R) (s : St) : g7W A n p m K .normal s = g7V A n p m K s := rfl
theorem g7We {R : Type} (A : Ar) (n : Nat) (p : List Bool) (m : Nat) (K : Ex → St → Option R) (i : Nat) (s : St) : g7W A n p m K (.exit i) s = K (.exit i) s := rfl
theorem g7Wr {R : Type} (A : Ar) (n : Nat) (p : List Bool) (m : Nat) (K : Ex → St → Option R) (s : St) : g7W A n p m K .ret s = K .ret s := rfl
theorem g7Vs {R : Type} (A : Ar) (n : Nat) (p : List Bool) (m : Nat) (K : Ex → St → Option R) (s : St) : g7V A n p (m + 1) K s = g7D A n p (g7W A n p m K) s := rfl
theorem g7p {R : Type} (A : Ar) (n : Nat) (K : Ex → St → Option R) (s : St) : g7D A n [] K s = g7D A n [false] (g7Q A n [true] K) s := by kernel_rfl
theorem g7p0 {R : Type} (A : Ar) (n : Nat) (K : Ex → St → Option R) (s s' : St) (h : keep g7an 0 s = keep g7an 0 s') : g7D A n [false] K s = g7D A n [false] K s' := codeD_first (id := 0) (by kernel_rfl) h K
theorem g7p1 {R : Type} (A : Ar) (n : Nat) (K : Ex → St → Option R) (s : St) : g7D A n [true] K s = g7D A n [true, false] (g7Q A n [true, true] K) s := by kernel_rfl
theorem g7p10 {R : Type} (A : Ar) (n : Nat) (K : Ex → St → Option R) (s s' : St) (h : keep g7an 1 s = keep g7an 1 s') : g7D A n [true, false] K s = g7D A n [true, false] K s' := codeD_first (id := 1) (by kernel_rfl) h K
theorem g7p11 {R : Type} (A : Ar) (n : Nat) (K : Ex → St → Option R) (s : St) : g7D A n [true, true] K s = g7D A n [true, true, false] (g7Q A n [true, true, true] K) s := by kernel_rfl
theorem g7p110 {R : Type} (A : Ar) (n : Nat) (K : Ex → St → Option R) (s : St) : g7D A n [true, true, false] K s = g7D A n [true, true, false, false] (g7Q A n [true, true, false, true] K) s := by kernel_rfl
theorem g7p1100 {R : Type} (A : Ar) (n : Nat) (K : Ex → St → Option R) (s s' : St) (h : keep g7an 2 s = keep g7an 2 s') : g7D A n [true, true, false, false] K s = g7D A n [true, true, false, false] K s' := codeD_first (id := 2) (by kernel_rfl) h K
theorem g7p1101 {R : Type} (A : Ar) (n : Nat) (K : Ex → St → Option R) (s : St) (t : Bool) : ev s (.tmp 12) = some (.v (.cell (.bool t))) → g7D A n [true, true, false, true] K s = (match t with
    | true => g7D A n [true, true, false, true, false] K s
    | false => g7D A n [true, true, false, true, true] K s) := codeD_cond t
theorem g7p11010 {R : Type} (A : Ar) (n : Nat) (K : Ex → St → Option R) (s : St) : g7D A n [true, true, false, true, false] K s = g7D A n [true, true, false, true, false, false] (g7Q A n [true, true, false, true, false, true] K) s := by kernel_rfl
theorem g7p110100 {R : Type} (A : Ar) (n : Nat) (K : Ex → St → Option R) (s s' : St) (h : keep g7an 3 s = keep g7an 3 s') : g7D A n [true, true, false, true, false, false] K s = g7D A n [true, true, false, true, false, false] K s' := codeD_first (id := 3) (by kernel_rfl) h K
theorem g7p110101 {R : Type} (A : Ar) (n : Nat) (K : Ex → St → Option R) (s : St) : g7D A n [true, true, false, true, false, true] K s = K .ret s := by kernel_rfl
theorem g7p11011 {R : Type} (A : Ar) (n : Nat) (K : Ex → St → Option R) (s : St) : g7D A n [true, true, false, true, true] K s = K .normal s := by kernel_rfl
theorem g7p111 {R : Type} (A : Ar) (n : Nat) (K : Ex → St → Option R) (s : St) : g7D A n [true, true, true] K s = g7D A n [true, true, true, false] (g7Q A n [true, true, true, true] K) s := by kernel_rfl
theorem g7p1110 {R : Type} (A : Ar) (n : Nat) (K : Ex → St → Option R) (s s' : St) (h : keep g7an 4 s = keep g7an 4 s') : g7D A n [true, true, true, false] K s = g7D A n [true, true, true, false] K s' := codeD_first (id := 4) (by kernel_rfl) h K
theorem g7p1111 {R : Type} (A : Ar) (n : Nat) (K : Ex → St → Option R) (s : St) : g7D A n [true, true, true, true] K s = g7D A n [true, true, true, true, false] (g7Q A n [true, true, true, true, true] K) s := by kernel_rfl
theorem g7p11110 {R : Type} (A : Ar) (n : Nat) (K : Ex → St → Option R) (s s' : St) (h : keep g7an 5 s = keep g7an 5 s') : g7D A n [true, true, true, true, false] K s = g7D A n [true, true, true, true, false] K s' := codeD_first (id := 5) (by kernel_rfl) h K
theorem g7p11111 {R : Type} (A : Ar) (n : Nat) (K : Ex → St → Option R) (s : St) : g7D A n [true, true, true, true, true] K s = g7D A n [true, true, true, true, true, false] (g7Q A n [true, true, true, true, true, true] K) s := by kernel_rfl
theorem g7p111110 {R : Type} (A : Ar) (n : Nat) (K : Ex → St → Option R) (s s' : St) (h : keep g7an 6 s = keep g7an 6 s') : g7D A n [true, true, true, true, true, false] K s = g7D A n [true, true, true, true, true, false] K s' := codeD_first (id := 6) (by kernel_rfl) h K
theorem g7p111111 {R : Type} (A : Ar) (n : Nat) (K : Ex → St → Option R) (s : St) : g7D A n [true, true, true, true, true, true] K s = K .ret s := by kernel_rfl
theorem g7R4 {R : Type} (A : Ar) (n : Nat) (K : Ex → St → Option R) (x0 : List Nat) (x1 : Int) (x2 : Bool) : g7D A n [true, true, true, false] K ⟨[(0, (.v (.cell (.str x0)))), (1, (.v (.cell (.int .i64 x1)))), (5, (.v (.cell (.bool x2))))], []⟩ = match (generalizing := false) g18ok x0 with
    | true => K .normal ⟨[(7, (.v (.cell (.bool (g18r1 x0))))), (6, (.v (.cell (.str (g18r0 x0))))), (17, (.v (.cell (.bool (g18r1 x0))))), (16, (.v (.cell (.str (g18r0 x0))))), (13, (.tup [(.cell (.str (g18r0 x0))), (.cell (.bool (g18r1 x0)))])), (15, (.tup [(.cell (.str (g18r0 x0))), (.cell (.bool (g18r1 x0)))])), (14, (.v (.cell (.str x0)))), (0, (.v (.cell (.str x0)))), (1, (.v (.cell (.int .i64 x1)))), (5, (.v (.cell (.bool x2))))], []⟩
    | false => none := by kernel_rfl
theorem g7R5 {R : Type} (A : Ar) (n : Nat) (K : Ex → St → Option R) (x0 : List Nat) (x1 : Int) (x2 : Bool) (x3 : List Nat) (x4 : Bool) : g7D A n [true, true, true, true, false] K ⟨[(0, (.v (.cell (.str x0)))), (1, (.v (.cell (.int .i64 x1)))), (5, (.v (.cell (.bool x2)))), (6, (.v (.cell (.str x3)))), (7, (.v (.cell (.bool x4))))], []⟩ = match (generalizing := false) g19ok x0 with
    | true => K .normal ⟨[(9, (.v (.cell (.bool (g19r1 x0))))), (8, (.v (.cell (.str (g19r0 x0))))), (22, (.v (.cell (.bool (g19r1 x0))))), (21, (.v (.cell (.str (g19r0 x0))))), (18, (.tup [(.cell (.str (g19r0 x0))), (.cell (.bool (g19r1 x0)))])), (20, (.tup [(.cell (.str (g19r0 x0))), (.cell (.bool (g19r1 x0)))])), (19, (.v (.cell (.str x0)))), (0, (.v (.cell (.str x0)))), (1, (.v (.cell (.int .i64 x1)))), (5, (.v (.cell (.bool x2)))), (6, (.v (.cell (.str x3)))), (7, (.v (.cell (.bool x4))))], []⟩
    | false => none := by kernel_rfl
theorem g7R6 {R : Type} (A : Ar) (n : Nat) (K : Ex → St → Option R) (x0 : List Nat) (x1 : Int) (x2 : Bool) (x3 : List Nat) (x4 : Bool) (x5 : List Nat) (x6 : Bool) : g7D A n [true, true, true, true, true, false] K ⟨[(0, (.v (.cell (.str x0)))), (1, (.v (.cell (.int .i64 x1)))), (5, (.v (.cell (.bool x2)))), (6, (.v (.cell (.str x3)))), (7, (.v (.cell (.bool x4)))), (8, (.v (.cell (.str x5)))), (9, (.v (.cell (.bool x6))))], []⟩ = match (generalizing := false) x2 with
    | true => match (generalizing := false) g20ok x0 x1 with
      | true => match (generalizing := false) g21ok x0 x1 with
        | true => match (generalizing := false) A.ic .eql (g20r0 x0 x1) (g21r0 x0 x1) with
          | true => match (generalizing := false) A.sc .eql x3 x5 with
            | true => match (generalizing := false) x4 with
              | true => match (generalizing := false) x6 with
                | true => match (generalizing := false) true == true with
                  | true => K .normal ⟨[(4, (.v (.cell (.bool true)))), (42, (.v (.cell (.bool true)))), (41, (.v (.cell (.bool true)))), (40, (.v (.cell (.bool true)))), (39, (.v (.cell (.bool true)))), (38, (.v (.cell (.bool true)))), (37, (.v (.cell (.bool true)))), (36, (.v (.cell (.bool true)))), (35, (.v (.cell (.str x5)))), (34, (.v (.cell (.str x3)))), (33, (.v (.cell (.bool true)))), (32, (.v (.cell (.bool true)))), (31, (.v (.cell (.bool true)))), (30, (.v (.cell (.int .i64 (g21r0 x0 x1))))), (29, (.v (.cell (.int .i64 x1)))), (28, (.v (.cell (.str x0)))), (27, (.v (.cell (.int .i64 (g20r0 x0 x1))))), (26, (.v (.cell (.int .i64 x1)))), (25, (.v (.cell (.str x0)))), (24, (.v (.cell (.bool true)))), (23, (.v (.cell (.bool true)))), (0, (.v (.cell (.str x0)))), (1, (.v (.cell (.int .i64 x1)))), (5, (.v (.cell (.bool x2)))), (6, (.v (.cell (.str x3)))), (7, (.v (.cell (.bool x4)))), (8, (.v (.cell (.str x5)))), (9, (.v (.cell (.bool x6))))], []⟩
                  | false => K .normal ⟨[(4, (.v (.cell (.bool false)))), (42, (.v (.cell (.bool false)))), (41, (.v (.cell (.bool false)))), (40, (.v (.cell (.bool true)))), (39, (.v (.cell (.bool true)))), (38, (.v (.cell (.bool true)))), (37, (.v (.cell (.bool true)))), (36, (.v (.cell (.bool true)))), (35, (.v (.cell (.str x5)))), (34, (.v (.cell (.str x3)))), (33, (.v (.cell (.bool true)))), (32, (.v (.cell (.bool true)))), (31, (.v (.cell (.bool true)))), (30, (.v (.cell (.int .i64 (g21r0 x0 x1))))), (29, (.v (.cell (.int .i64 x1)))), (28, (.v (.cell (.str x0)))), (27, (.v (.cell (.int .i64 (g20r0 x0 x1))))), (26, (.v (.cell (.int .i64 x1)))), (25, (.v (.cell (.str x0)))), (24, (.v (.cell (.bool true)))), (23, (.v (.cell (.bool true)))), (0, (.v (.cell (.str x0)))), (1, (.v (.cell (.int .i64 x1)))), (5, (.v (.cell (.bool x2)))), (6, (.v (.cell (.str x3)))), (7, (.v (.cell (.bool x4)))), (8, (.v (.cell (.str x5)))), (9, (.v (.cell (.bool x6))))], []⟩
                | false => match (generalizing := false) true == false with
                  | true => K .normal ⟨[(4, (.v (.cell (.bool true)))), (42, (.v (.cell (.bool true)))), (41, (.v (.cell (.bool true)))), (40, (.v (.cell (.bool false)))), (39, (.v (.cell (.bool true)))), (38, (.v (.cell (.bool true)))), (37, (.v (.cell (.bool true)))), (36, (.v (.cell (.bool true)))), (35, (.v (.cell (.str x5)))), (34, (.v (.cell (.str x3)))), (33, (.v (.cell (.bool true)))), (32, (.v (.cell (.bool true)))), (31, (.v (.cell (.bool true)))), (30, (.v (.cell (.int .i64 (g21r0 x0 x1))))), (29, (.v (.cell (.int .i64 x1)))), (28, (.v (.cell (.str x0)))), (27, (.v (.cell (.int .i64 (g20r0 x0 x1))))), (26, (.v (.cell (.int .i64 x1)))), (25, (.v (.cell (.str x0)))), (24, (.v (.cell (.bool true)))), (23, (.v (.cell (.bool true)))), (0, (.v (.cell (.str x0)))), (1, (.v (.cell (.int .i64 x1)))), (5, (.v (.cell (.bool x2)))), (6, (.v (.cell (.str x3)))), (7, (.v (.cell (.bool x4)))), (8, (.v (.cell (.str x5)))), (9, (.v (.cell (.bool x6))))], []⟩
                  | false => K .normal ⟨[(4, (.v (.cell (.bool false)))), (42, (.v (.cell (.bool false)))), (41, (.v (.cell (.bool false)))), (40, (.v (.cell (.bool false)))), (39, (.v (.cell (.bool true)))), (38, (.v (.cell (.bool true)))), (37, (.v (.cell (.bool true)))), (36, (.v (.cell (.bool true)))), (35, (.v (.cell (.str x5)))), (34, (.v (.cell (.str x3)))), (33, (.v (.cell (.bool true)))), (32, (.v (.cell (.bool true)))), (31, (.v (.cell (.bool true)))), (30, (.v (.cell (.int .i64 (g21r0 x0 x1))))), (29, (.v (.cell (.int .i64 x1)))), (28, (.v (.cell (.str x0)))), (27, (.v (.cell (.int .i64 (g20r0 x0 x1))))), (26, (.v (.cell (.int .i64 x1)))), (25, (.v (.cell (.str x0)))), (24, (.v (.cell (.bool true)))), (23, (.v (.cell (.bool true)))), (0, (.v (.cell (.str x0)))), (1, (.v (.cell (.int .i64 x1)))), (5, (.v (.cell (.bool x2)))), (6, (.v (.cell (.str x3)))), (7, (.v (.cell (.bool x4)))), (8, (.v (.cell (.str x5)))), (9, (.v (.cell (.bool x6))))], []⟩
              | false => match (generalizing := false) x6 with
                | true => match (generalizing := false) false == true with
                  | true => K .normal ⟨[(4, (.v (.cell (.bool true)))), (42, (.v (.cell (.bool true)))), (41, (.v (.cell (.bool true)))), (40, (.v (.cell (.bool true)))), (39, (.v (.cell (.bool false)))), (38, (.v (.cell (.bool true)))), (37, (.v (.cell (.bool true)))), (36, (.v (.cell (.bool true)))), (35, (.v (.cell (.str x5)))), (34, (.v (.cell (.str x3)))), (33, (.v (.cell (.bool true)))), (32, (.v (.cell (.bool true)))), (31, (.v (.cell (.bool true)))), (30, (.v (.cell (.int .i64 (g21r0 x0 x1))))), (29, (.v (.cell (.int .i64 x1)))), (28, (.v (.cell (.str x0)))), (27, (.v (.cell (.int .i64 (g20r0 x0 x1))))), (26, (.v (.cell (.int .i64 x1)))), (25, (.v (.cell (.str x0)))), (24, (.v (.cell (.bool true)))), (23, (.v (.cell (.bool true)))), (0, (.v (.cell (.str x0)))), (1, (.v (.cell (.int .i64 x1)))), (5, (.v (.cell (.bool x2)))), (6, (.v (.cell (.str x3)))), (7, (.v (.cell (.bool x4)))), (8, (.v (.cell (.str x5)))), (9, (.v (.cell (.bool x6))))], []⟩
                  | false => K .normal ⟨[(4, (.v (.cell (.bool false)))), (42, (.v (.cell (.bool false)))), (41, (.v (.cell (.bool false)))), (40, (.v (.cell (.bool true)))), (39, (.v (.cell (.bool false)))), (38, (.v (.cell (.bool true)))), (37, (.v (.cell (.bool true)))), (36, (.v (.cell (.bool true)))), (35, (.v (.cell (.str x5)))), (34, (.v (.cell (.str x3)))), (33, (.v (.cell (.bool true)))), (32, (.v (.cell (.bool true)))), (31, (.v (.cell (.bool true)))), (30, (.v (.cell (.int .i64 (g21r0 x0 x1))))), (29, (.v (.cell (.int .i64 x1)))), (28, (.v (.cell (.str x0)))), (27, (.v (.cell (.int .i64 (g20r0 x0 x1))))), (26, (.v (.cell (.int .i64 x1)))), (25, (.v (.cell (.str x0)))), (24, (.v (.cell (.bool true)))), (23, (.v (.cell (.bool true)))), (0, (.v (.cell (.str x0)))), (1, (.v (.cell (.int .i64 x1)))), (5, (.v (.cell (.bool x2)))), (6, (.v (.cell (.str x3)))), (7, (.v (.cell (.bool x4)))), (8, (.v (.cell (.str x5)))), (9, (.v (.cell (.bool x6))))], []⟩
                | false => match (generalizing := false) false == false with
                  | true => K .normal ⟨[(4, (.v (.cell (.bool true)))), (42, (.v (.cell (.bool true)))), (41, (.v (.cell (.bool true)))), (40, (.v (.cell (.bool false)))), (39, (.v (.cell (.bool false)))), (38, (.v (.cell (.bool true)))), (37, (.v (.cell (.bool true)))), (36, (.v (.cell (.bool true)))), (35, (.v (.cell (.str x5)))), (34, (.v (.cell (.str x3)))), (33, (.v (.cell (.bool true)))), (32, (.v (.cell (.bool true)))), (31, (.v (.cell (.bool true)))), (30, (.v (.cell (.int .i64 (g21r0 x0 x1))))), (29, (.v (.cell (.int .i64 x1)))), (28, (.v (.cell (.str x0)))), (27, (.v (.cell (.int .i64 (g20r0 x0 x1))))), (26, (.v (.cell (.int .i64 x1)))), (25, (.v (.cell (.str x0)))), (24, (.v (.cell (.bool true)))), (23, (.v (.cell (.bool true)))), (0, (.v (.cell (.str x0)))), (1, (.v (.cell (.int .i64 x1)))), (5, (.v (.cell (.bool x2)))), (6, (.v (.cell (.str x3)))), (7, (.v (.cell (.bool x4)))), (8, (.v (.cell (.str x5)))), (9, (.v (.cell (.bool x6))))], []⟩
                  | false => K .normal ⟨[(4, (.v (.cell (.bool false)))), (42, (.v (.cell (.bool false)))), (41, (.v (.cell (.bool false)))), (40, (.v (.cell (.bool false)))), (39, (.v (.cell (.bool false)))), (38, (.v (.cell (.bool true)))), (37, (.v (.cell (.bool true)))), (36, (.v (.cell (.bool true)))), (35, (.v (.cell (.str x5)))), (34, (.v (.cell (.str x3)))), (33, (.v (.cell (.bool true)))), (32, (.v (.cell (.bool true)))), (31, (.v (.cell (.bool true)))), (30, (.v (.cell (.int .i64 (g21r0 x0 x1))))), (29, (.v (.cell (.int .i64 x1)))), (28, (.v (.cell (.str x0)))), (27, (.v (.cell (.int .i64 (g20r0 x0 x1))))), (26, (.v (.cell (.int .i64 x1)))), (25, (.v (.cell (.str x0)))), (24, (.v (.cell (.bool true)))), (23, (.v (.cell (.bool true)))), (0, (.v (.cell (.str x0)))), (1, (.v (.cell (.int .i64 x1)))), (5, (.v (.cell (.bool x2)))), (6, (.v (.cell (.str x3)))), (7, (.v (.cell (.bool x4)))), (8, (.v (.cell (.str x5)))), (9, (.v (.cell (.bool x6))))], []⟩
            | false => K .normal ⟨[(4, (.v (.cell (.bool false)))), (42, (.v (.cell (.bool false)))), (41, (.v (.cell .un))), (40, (.v (.cell .un))), (39, (.v (.cell .un))), (38, (.v (.cell (.bool false)))), (37, (.v (.cell (.bool false)))), (36, (.v (.cell (.bool false)))), (35, (.v (.cell (.str x5)))), (34, (.v (.cell (.str x3)))), (33, (.v (.cell (.bool true)))), (32, (.v (.cell (.bool true)))), (31, (.v (.cell (.bool true)))), (30, (.v (.cell (.int .i64 (g21r0 x0 x1))))), (29, (.v (.cell (.int .i64 x1)))), (28, (.v (.cell (.str x0)))), (27, (.v (.cell (.int .i64 (g20r0 x0 x1))))), (26, (.v (.cell (.int .i64 x1)))), (25, (.v (.cell (.str x0)))), (24, (.v (.cell (.bool true)))), (23, (.v (.cell (.bool true)))), (0, (.v (.cell (.str x0)))), (1, (.v (.cell (.int .i64 x1)))), (5, (.v (.cell (.bool x2)))), (6, (.v (.cell (.str x3)))), (7, (.v (.cell (.bool x4)))), (8, (.v (.cell (.str x5)))), (9, (.v (.cell (.bool x6))))], []⟩
          | false => K .normal ⟨[(4, (.v (.cell (.bool false)))), (42, (.v (.cell (.bool false)))), (41, (.v (.cell .un))), (40, (.v (.cell .un))), (39, (.v (.cell .un))), (38, (.v (.cell (.bool false)))), (37, (.v (.cell (.bool false)))), (36, (.v (.cell .un))), (35, (.v (.cell .un))), (34, (.v (.cell .un))), (33, (.v (.cell (.bool false)))), (32, (.v (.cell (.bool false)))), (31, (.v (.cell (.bool false)))), (30, (.v (.cell (.int .i64 (g21r0 x0 x1))))), (29, (.v (.cell (.int .i64 x1)))), (28, (.v (.cell (.str x0)))), (27, (.v (.cell (.int .i64 (g20r0 x0 x1))))), (26, (.v (.cell (.int .i64 x1)))), (25, (.v (.cell (.str x0)))), (24, (.v (.cell (.bool true)))), (23, (.v (.cell (.bool true)))), (0, (.v (.cell (.str x0)))), (1, (.v (.cell (.int .i64 x1)))), (5, (.v (.cell (.bool x2)))), (6, (.v (.cell (.str x3)))), (7, (.v (.cell (.bool x4)))), (8, (.v (.cell (.str x5)))), (9, (.v (.cell (.bool x6))))], []⟩
        | false => none
      | false => none
    | false => K .normal ⟨[(4, (.v (.cell (.bool false)))), (42, (.v (.cell (.bool false)))), (41, (.v (.cell .un))), (40, (.v (.cell .un))), (39, (.v (.cell .un))), (38, (.v (.cell (.bool false)))), (37, (.v (.cell (.bool false)))), (36, (.v (.cell .un))), (35, (.v (.cell .un))), (34, (.v (.cell .un))), (33, (.v (.cell (.bool false)))), (32, (.v (.cell (.bool false)))), (31, (.v (.cell .un))), (30, (.v (.cell .un))), (29, (.v (.cell .un))), (28, (.v (.cell .un))), (27, (.v (.cell .un))), (26, (.v (.cell .un))), (25, (.v (.cell .un))), (24, (.v (.cell (.bool false)))), (23, (.v (.cell (.bool false)))), (0, (.v (.cell (.str x0)))), (1, (.v (.cell (.int .i64 x1)))), (5, (.v (.cell (.bool x2)))), (6, (.v (.cell (.str x3)))), (7, (.v (.cell (.bool x4)))), (8, (.v (.cell (.str x5)))), (9, (.v (.cell (.bool x6))))], []⟩ := by kernel_rfl
theorem g7R0 {R : Type} (A : Ar) (n : Nat) (K : Ex → St → Option R) (x0 : List Nat) (x1 : Int) : g7D A n [false] K ⟨[(0, (.v (.cell (.str x0)))), (1, (.v (.cell (.int .i64 x1))))], []⟩ = K .normal ⟨[(4, (.v (.cell (.bool false)))), (0, (.v (.cell (.str x0)))), (1, (.v (.cell (.int .i64 x1))))], []⟩ := by kernel_rfl
theorem g7R1 {R : Type} (A : Ar) (n : Nat) (K : Ex → St → Option R) (x0 : List Nat) (x1 : Int) : g7D A n [true, false] K ⟨[(0, (.v (.cell (.str x0)))), (1, (.v (.cell (.int .i64 x1))))], []⟩ = match (generalizing := false) g9ok with
    | true => K .normal ⟨[(5, (.v (.cell (.bool g9r0)))), (10, (.v (.cell (.bool g9r0)))), (0, (.v (.cell (.str x0)))), (1, (.v (.cell (.int .i64 x1))))], []⟩
    | false => none := by kernel_rfl
theorem g7R2 {R : Type} (A : Ar) (n : Nat) (K : Ex → St → Option R) (x0 : List Nat) (x1 : Int) (x2 : Bool) : g7D A n [true, true, false, false] K ⟨[(0, (.v (.cell (.str x0)))), (1, (.v (.cell (.int .i64 x1)))), (5, (.v (.cell (.bool x2))))], []⟩ = K .normal ⟨[(12, (.v (.cell (.bool (!x2))))), (11, (.v (.cell (.bool x2)))), (0, (.v (.cell (.str x0)))), (1, (.v (.cell (.int .i64 x1)))), (5, (.v (.cell (.bool x2))))], []⟩ := by kernel_rfl
theorem g7R3 {R : Type} (A : Ar) (n : Nat) (K : Ex → St → Option R)  : g7D A n [true, true, false, true, false, false] K ⟨[], []⟩ = K .normal ⟨[(4, (.v (.cell (.bool false))))], []⟩ := by kernel_rfl
def g7J4 {R : Type} (A : Ar) (n : Nat) (kk : AV → Heap → Option R)  (x0 : List Nat) (x1 : Int) (x2 : Bool) : Option R :=
  match (generalizing := false) g18ok x0 with
  | true => match (generalizing := false) g19ok x0 with
    | true => match (generalizing := false) x2 with
      | true => match (generalizing := false) g20ok x0 x1 with
        | true => match (generalizing := false) g21ok x0 x1 with
          | true => match (generalizing := false) A.ic .eql (g20r0 x0 x1) (g21r0 x0 x1) with
            | true => match (generalizing := false) A.sc .eql (g18r0 x0) (g19r0 x0) with
              | true => match (generalizing := false) g18r1 x0 with
                | true => match (generalizing := false) g19r1 x0 with
                  | true => match (generalizing := false) true == true with
                    | true => kk (.v (.cell (.bool true))) []
                    | false => kk (.v (.cell (.bool false))) []
                  | false => match (generalizing := false) true == false with
                    | true => kk (.v (.cell (.bool true))) []
                    | false => kk (.v (.cell (.bool false))) []
                | false => match (generalizing := false) g19r1 x0 with
                  | true => match (generalizing := false) false == true with
                    | true => kk (.v (.cell (.bool true))) []
                    | false => kk (.v (.cell (.bool false))) []
                  | false => match (generalizing := false) false == false with
                    | true => kk (.v (.cell (.bool true))) []
                    | false => kk (.v (.cell (.bool false))) []
              | false => kk (.v (.cell (.bool false))) []
            | false => kk (.v (.cell (.bool false))) []
          | false => none
        | false => none
      | false => kk (.v (.cell (.bool false))) []
    | false => none
  | false => none
set_option maxRecDepth 100000 in
theorem g7J4_eq {R : Type} (A : Ar) (n : Nat) (kk : AV → Heap → Option R)    (s : St) (x0 : List Nat) (x1 : Int) (x2 : Bool) (h : keep g7an 4 s = ⟨[(0, (.v (.cell (.str x0)))), (1, (.v (.cell (.int .i64 x1)))), (5, (.v (.cell (.bool x2))))], []⟩) :
    g7D A n [true, true, true] (g7T kk) s = g7J4 A n kk  x0 x1 x2 := by
  have h1 : (g7T kk) .ret ⟨[(4, (.v (.cell (.bool true)))), (42, (.v (.cell (.bool true)))), (41, (.v (.cell (.bool true)))), (40, (.v (.cell (.bool true)))), (39, (.v (.cell (.bool true)))), (38, (.v (.cell (.bool true)))), (37, (.v (.cell (.bool true)))), (36, (.v (.cell (.bool true)))), (35, (.v (.cell (.str (g19r0 x0))))), (34, (.v (.cell (.str (g18r0 x0))))), (33, (.v (.cell (.bool true)))), (32, (.v (.cell (.bool true)))), (31, (.v (.cell (.bool true)))), (30, (.v (.cell (.int .i64 (g21r0 x0 x1))))), (29, (.v (.cell (.int .i64 x1)))), (28, (.v (.cell (.str x0)))), (27, (.v (.cell (.int .i64 (g20r0 x0 x1))))), (26, (.v (.cell (.int .i64 x1)))), (25, (.v (.cell (.str x0)))), (24, (.v (.cell (.bool true)))), (23, (.v (.cell (.bool true)))), (0, (.v (.cell (.str x0)))), (1, (.v (.cell (.int .i64 x1)))), (5, (.v (.cell (.bool x2)))), (6, (.v (.cell (.str (g18r0 x0))))), (7, (.v (.cell (.bool (g18r1 x0))))), (8, (.v (.cell (.str (g19r0 x0))))), (9, (.v (.cell (.bool (g19r1 x0)))))], []⟩ = kk (.v (.cell (.bool true))) [] := by kernel_rfl
  have h2 := (g7p111111 A n _ _).trans h1
  have h3 := (g7Qn A n _ _ _).trans h2
  have h4 : (g7T kk) .ret ⟨[(4, (.v (.cell (.bool false)))), (42, (.v (.cell (.bool false)))), (41, (.v (.cell (.bool false)))), (40, (.v (.cell (.bool true)))), (39, (.v (.cell (.bool true)))), (38, (.v (.cell (.bool true)))), (37, (.v (.cell (.bool true)))), (36, (.v (.cell (.bool true)))), (35, (.v (.cell (.str (g19r0 x0))))), (34, (.v (.cell (.str (g18r0 x0))))), (33, (.v (.cell (.bool true)))), (32, (.v (.cell (.bool true)))), (31, (.v (.cell (.bool true)))), (30, (.v (.cell (.int .i64 (g21r0 x0 x1))))), (29, (.v (.cell (.int .i64 x1)))), (28, (.v (.cell (.str x0)))), (27, (.v (.cell (.int .i64 (g20r0 x0 x1))))), (26, (.v (.cell (.int .i64 x1)))), (25, (.v (.cell (.str x0)))), (24, (.v (.cell (.bool true)))), (23, (.v (.cell (.bool true)))), (0, (.v (.cell (.str x0)))), (1, (.v (.cell (.int .i64 x1)))), (5, (.v (.cell (.bool x2)))), (6, (.v (.cell (.str (g18r0 x0))))), (7, (.v (.cell (.bool (g18r1 x0))))), (8, (.v (.cell (.str (g19r0 x0))))), (9, (.v (.cell (.bool (g19r1 x0)))))], []⟩ = kk (.v (.cell (.bool false))) [] := by kernel_rfl
  have h5 := (g7p111111 A n _ _).trans h4
  have h6 := (g7Qn A n _ _ _).trans h5
  have h7 : (g7T kk) .ret ⟨[(4, (.v (.cell (.bool true)))), (42, (.v (.cell (.bool true)))), (41, (.v (.cell (.bool true)))), (40, (.v (.cell (.bool false)))), (39, (.v (.cell (.bool true)))), (38, (.v (.cell (.bool true)))), (37, (.v (.cell (.bool true)))), (36, (.v (.cell (.bool true)))), (35, (.v (.cell (.str (g19r0 x0))))), (34, (.v (.cell (.str (g18r0 x0))))), (33, (.v (.cell (.bool true)))), (32, (.v (.cell (.bool true)))), (31, (.v (.cell (.bool true)))), (30, (.v (.cell (.int .i64 (g21r0 x0 x1))))), (29, (.v (.cell (.int .i64 x1)))), (28, (.v (.cell (.str x0)))), (27, (.v (.cell (.int .i64 (g20r0 x0 x1))))), (26, (.v (.cell (.int .i64 x1)))), (25, (.v (.cell (.str x0)))), (24, (.v (.cell (.bool true)))), (23, (.v (.cell (.bool true)))), (0, (.v (.cell (.str x0)))), (1, (.v (.cell (.int .i64 x1)))), (5, (.v (.cell (.bool x2)))), (6, (.v (.cell (.str (g18r0 x0))))), (7, (.v (.cell (.bool (g18r1 x0))))), (8, (.v (.cell (.str (g19r0 x0))))), (9, (.v (.cell (.bool (g19r1 x0)))))], []⟩ = kk (.v (.cell (.bool true))) [] := by kernel_rfl
  have h8 := (g7p111111 A n _ _).trans h7
  have h9 := (g7Qn A n _ _ _).trans h8
  have h10 : (g7T kk) .ret ⟨[(4, (.v (.cell (.bool false)))), (42, (.v (.cell (.bool false)))), (41, (.v (.cell (.bool false)))), (40, (.v (.cell (.bool false)))), (39, (.v (.cell (.bool true)))), (38, (.v (.cell (.bool true)))), (37, (.v (.cell (.bool true)))), (36, (.v (.cell (.bool true)))), (35, (.v (.cell (.str (g19r0 x0))))), (34, (.v (.cell (.str (g18r0 x0))))), (33, (.v (.cell (.bool true)))), (32, (.v (.cell (.bool true)))), (31, (.v (.cell (.bool true)))), (30, (.v (.cell (.int .i64 (g21r0 x0 x1))))), (29, (.v (.cell (.int .i64 x1)))), (28, (.v (.cell (.str x0)))), (27, (.v (.cell (.int .i64 (g20r0 x0 x1))))), (26, (.v (.cell (.int .i64 x1)))), (25, (.v (.cell (.str x0)))), (24, (.v (.cell (.bool true)))), (23, (.v (.cell (.bool true)))), (0, (.v (.cell (.str x0)))), (1, (.v (.cell (.int .i64 x1)))), (5, (.v (.cell (.bool x2)))), (6, (.v (.cell (.str (g18r0 x0))))), (7, (.v (.cell (.bool (g18r1 x0))))), (8, (.v (.cell (.str (g19r0 x0))))), (9, (.v (.cell (.bool (g19r1 x0)))))], []⟩ = kk (.v (.cell (.bool false))) [] := by kernel_rfl
  have h11 := (g7p111111 A n _ _).trans h10
  have h12 := (g7Qn A n _ _ _).trans h11
  have h13 : (g7T kk) .ret ⟨[(4, (.v (.cell (.bool true)))), (42, (.v (.cell (.bool true)))), (41, (.v (.cell (.bool true)))), (40, (.v (.cell (.bool true)))), (39, (.v (.cell (.bool false)))), (38, (.v (.cell (.bool true)))), (37, (.v (.cell (.bool true)))), (36, (.v (.cell (.bool true)))), (35, (.v (.cell (.str (g19r0 x0))))), (34, (.v (.cell (.str (g18r0 x0))))), (33, (.v (.cell (.bool true)))), (32, (.v (.cell (.bool true)))), (31, (.v (.cell (.bool true)))), (30, (.v (.cell (.int .i64 (g21r0 x0 x1))))), (29, (.v (.cell (.int .i64 x1)))), (28, (.v (.cell (.str x0)))), (27, (.v (.cell (.int .i64 (g20r0 x0 x1))))), (26, (.v (.cell (.int .i64 x1)))), (25, (.v (.cell (.str x0)))), (24, (.v (.cell (.bool true)))), (23, (.v (.cell (.bool true)))), (0, (.v (.cell (.str x0)))), (1, (.v (.cell (.int .i64 x1)))), (5, (.v (.cell (.bool x2)))), (6, (.v (.cell (.str (g18r0 x0))))), (7, (.v (.cell (.bool (g18r1 x0))))), (8, (.v (.cell (.str (g19r0 x0))))), (9, (.v (.cell (.bool (g19r1 x0)))))], []⟩ = kk (.v (.cell (.bool true))) [] := by kernel_rfl
  have h14 := (g7p111111 A n _ _).trans h13
  have h15 := (g7Qn A n _ _ _).trans h14
  have h16 : (g7T kk) .ret ⟨[(4, (.v (.cell (.bool false)))), (42, (.v (.cell (.bool false)))), (41, (.v (.cell (.bool false)))), (40, (.v (.cell (.bool true)))), (39, (.v (.cell (.bool false)))), (38, (.v (.cell (.bool true)))), (37, (.v (.cell (.bool true)))), (36, (.v (.cell (.bool true)))), (35, (.v (.cell (.str (g19r0 x0))))), (34, (.v (.cell (.str (g18r0 x0))))), (33, (.v (.cell (.bool true)))), (32, (.v (.cell (.bool true)))), (31, (.v (.cell (.bool true)))), (30, (.v (.cell (.int .i64 (g21r0 x0 x1))))), (29, (.v (.cell (.int .i64 x1)))), (28, (.v (.cell (.str x0)))), (27, (.v (.cell (.int .i64 (g20r0 x0 x1))))), (26, (.v (.cell (.int .i64 x1)))), (25, (.v (.cell (.str x0)))), (24, (.v (.cell (.bool true)))), (23, (.v (.cell (.bool true)))), (0, (.v (.cell (.str x0)))), (1, (.v (.cell (.int .i64 x1)))), (5, (.v (.cell (.bool x2)))), (6, (.v (.cell (.str (g18r0 x0))))), (7, (.v (.cell (.bool (g18r1 x0))))), (8, (.v (.cell (.str (g19r0 x0))))), (9, (.v (.cell (.bool (g19r1 x0)))))], []⟩ = kk (.v (.cell (.bool false))) [] := by kernel_rfl
  have h17 := (g7p111111 A n _ _).trans h16
  have h18 := (g7Qn A n _ _ _).trans h17
  have h19 : (g7T kk) .ret ⟨[(4, (.v (.cell (.bool true)))), (42, (.v (.cell (.bool true)))), (41, (.v (.cell (.bool true)))), (40, (.v (.cell (.bool false)))), (39, (.v (.cell (.bool false)))), (38, (.v (.cell (.bool true)))), (37, (.v (.cell (.bool true)))), (36, (.v (.cell (.bool true)))), (35, (.v (.cell (.str (g19r0 x0))))), (34, (.v (.cell (.str (g18r0 x0))))), (33, (.v (.cell (.bool true)))), (32, (.v (.cell (.bool true)))), (31, (.v (.cell (.bool true)))), (30, (.v (.cell (.int .i64 (g21r0 x0 x1))))), (29, (.v (.cell (.int .i64 x1)))), (28, (.v (.cell (.str x0)))), (27, (.v (.cell (.int .i64 (g20r0 x0 x1))))), (26, (.v (.cell (.int .i64 x1)))), (25, (.v (.cell (.str x0)))), (24, (.v (.cell (.bool true)))), (23, (.v (.cell (.bool true)))), (0, (.v (.cell (.str x0)))), (1, (.v (.cell (.int .i64 x1)))), (5, (.v (.cell (.bool x2)))), (6, (.v (.cell (.str (g18r0 x0))))), (7, (.v (.cell (.bool (g18r1 x0))))), (8, (.v (.cell (.str (g19r0 x0))))), (9, (.v (.cell (.bool (g19r1 x0)))))], []⟩ = kk (.v (.cell (.bool true))) [] := by kernel_rfl
  have h20 := (g7p111111 A n _ _).trans h19
  have h21 := (g7Qn A n _ _ _).trans h20
  have h22 : (g7T kk) .ret ⟨[(4, (.v (.cell (.bool false)))), (42, (.v (.cell (.bool false)))), (41, (.v (.cell (.bool false)))), (40, (.v (.cell (.bool false)))), (39, (.v (.cell (.bool false)))), (38, (.v (.cell (.bool true)))), (37, (.v (.cell (.bool true)))), (36, (.v (.cell (.bool true)))), (35, (.v (.cell (.str (g19r0 x0))))), (34, (.v (.cell (.str (g18r0 x0))))), (33, (.v (.cell (.bool true)))), (32, (.v (.cell (.bool true)))), (31, (.v (.cell (.bool true)))), (30, (.v (.cell (.int .i64 (g21r0 x0 x1))))), (29, (.v (.cell (.int .i64 x1)))), (28, (.v (.cell (.str x0)))), (27, (.v (.cell (.int .i64 (g20r0 x0 x1))))), (26, (.v (.cell (.int .i64 x1)))), (25, (.v (.cell (.str x0)))), (24, (.v (.cell (.bool true)))), (23, (.v (.cell (.bool true)))), (0, (.v (.cell (.str x0)))), (1, (.v (.cell (.int .i64 x1)))), (5, (.v (.cell (.bool x2)))), (6, (.v (.cell (.str (g18r0 x0))))), (7, (.v (.cell (.bool (g18r1 x0))))), (8, (.v (.cell (.str (g19r0 x0))))), (9, (.v (.cell (.bool (g19r1 x0)))))], []⟩ = kk (.v (.cell (.bool false))) [] := by kernel_rfl
  have h23 := (g7p111111 A n _ _).trans h22
  have h24 := (g7Qn A n _ _ _).trans h23
  have h25 : (g7T kk) .ret ⟨[(4, (.v (.cell (.bool false)))), (42, (.v (.cell (.bool false)))), (41, (.v (.cell .un))), (40, (.v (.cell .un))), (39, (.v (.cell .un))), (38, (.v (.cell (.bool false)))), (37, (.v (.cell (.bool false)))), (36, (.v (.cell (.bool false)))), (35, (.v (.cell (.str (g19r0 x0))))), (34, (.v (.cell (.str (g18r0 x0))))), (33, (.v (.cell (.bool true)))), (32, (.v (.cell (.bool true)))), (31, (.v (.cell (.bool true)))), (30, (.v (.cell (.int .i64 (g21r0 x0 x1))))), (29, (.v (.cell (.int .i64 x1)))), (28, (.v (.cell (.str x0)))), (27, (.v (.cell (.int .i64 (g20r0 x0 x1))))), (26, (.v (.cell (.int .i64 x1)))), (25, (.v (.cell (.str x0)))), (24, (.v (.cell (.bool true)))), (23, (.v (.cell (.bool true)))), (0, (.v (.cell (.str x0)))), (1, (.v (.cell (.int .i64 x1)))), (5, (.v (.cell (.bool x2)))), (6, (.v (.cell (.str (g18r0 x0))))), (7, (.v (.cell (.bool (g18r1 x0))))), (8, (.v (.cell (.str (g19r0 x0))))), (9, (.v (.cell (.bool (g19r1 x0)))))], []⟩ = kk (.v (.cell (.bool false))) [] := by kernel_rfl
  have h26 := (g7p111111 A n _ _).trans h25
  have h27 := (g7Qn A n _ _ _).trans h26
  have h28 : (g7T kk) .ret ⟨[(4, (.v (.cell (.bool false)))), (42, (.v (.cell (.bool false)))), (41, (.v (.cell .un))), (40, (.v (.cell .un))), (39, (.v (.cell .un))), (38, (.v (.cell (.bool false)))), (37, (.v (.cell (.bool false)))), (36, (.v (.cell .un))), (35, (.v (.cell .un))), (34, (.v (.cell .un))), (33, (.v (.cell (.bool false)))), (32, (.v (.cell (.bool false)))), (31, (.v (.cell (.bool false)))), (30, (.v (.cell (.int .i64 (g21r0 x0 x1))))), (29, (.v (.cell (.int .i64 x1)))), (28, (.v (.cell (.str x0)))), (27, (.v (.cell (.int .i64 (g20r0 x0 x1))))), (26, (.v (.cell (.int .i64 x1)))), (25, (.v (.cell (.str x0)))), (24, (.v (.cell (.bool true)))), (23, (.v (.cell (.bool true)))), (0, (.v (.cell (.str x0)))), (1, (.v (.cell (.int .i64 x1)))), (5, (.v (.cell (.bool x2)))), (6, (.v (.cell (.str (g18r0 x0))))), (7, (.v (.cell (.bool (g18r1 x0))))), (8, (.v (.cell (.str (g19r0 x0))))), (9, (.v (.cell (.bool (g19r1 x0)))))], []⟩ = kk (.v (.cell (.bool false))) [] := by kernel_rfl
  have h29 := (g7p111111 A n _ _).trans h28
  have h30 := (g7Qn A n _ _ _).trans h29
  have h31 : (g7T kk) .ret ⟨[(4, (.v (.cell (.bool false)))), (42, (.v (.cell (.bool false)))), (41, (.v (.cell .un))), (40, (.v (.cell .un))), (39, (.v (.cell .un))), (38, (.v (.cell (.bool false)))), (37, (.v (.cell (.bool false)))), (36, (.v (.cell .un))), (35, (.v (.cell .un))), (34, (.v (.cell .un))), (33, (.v (.cell (.bool false)))), (32, (.v (.cell (.bool false)))), (31, (.v (.cell .un))), (30, (.v (.cell .un))), (29, (.v (.cell .un))), (28, (.v (.cell .un))), (27, (.v (.cell .un))), (26, (.v (.cell .un))), (25, (.v (.cell .un))), (24, (.v (.cell (.bool false)))), (23, (.v (.cell (.bool false)))), (0, (.v (.cell (.str x0)))), (1, (.v (.cell (.int .i64 x1)))), (5, (.v (.cell (.bool x2)))), (6, (.v (.cell (.str (g18r0 x0))))), (7, (.v (.cell (.bool (g18r1 x0))))), (8, (.v (.cell (.str (g19r0 x0))))), (9, (.v (.cell (.bool (g19r1 x0)))))], []⟩ = kk (.v (.cell (.bool false))) [] := by kernel_rfl
  have h32 := (g7p111111 A n _ _).trans h31
  have h33 := (g7Qn A n _ _ _).trans h32
  have h34 := (g7p111110 A n (g7Q A n [true, true, true, true, true, true] (g7T kk)) ⟨[(9, (.v (.cell (.bool (g19r1 x0))))), (8, (.v (.cell (.str (g19r0 x0))))), (22, (.v (.cell (.bool (g19r1 x0))))), (21, (.v (.cell (.str (g19r0 x0))))), (18, (.tup [(.cell (.str (g19r0 x0))), (.cell (.bool (g19r1 x0)))])), (20, (.tup [(.cell (.str (g19r0 x0))), (.cell (.bool (g19r1 x0)))])), (19, (.v (.cell (.str x0)))), (0, (.v (.cell (.str x0)))), (1, (.v (.cell (.int .i64 x1)))), (5, (.v (.cell (.bool x2)))), (6, (.v (.cell (.str (g18r0 x0))))), (7, (.v (.cell (.bool (g18r1 x0)))))], []⟩ ⟨[(0, (.v (.cell (.str x0)))), (1, (.v (.cell (.int .i64 x1)))), (5, (.v (.cell (.bool x2)))), (6, (.v (.cell (.str (g18r0 x0))))), (7, (.v (.cell (.bool (g18r1 x0))))), (8, (.v (.cell (.str (g19r0 x0))))), (9, (.v (.cell (.bool (g19r1 x0)))))], []⟩ (by kernel_rfl)).trans (g7R6 A n (g7Q A n [true, true, true, true, true, true] (g7T kk)) x0 x1 x2 (g18r0 x0) (g18r1 x0) (g19r0 x0) (g19r1 x0))
  rw [h3, h6, h9, h12, h15, h18, h21, h24, h27, h30, h33] at h34
  have h35 := (g7p11111 A n _ _).trans h34
  have h36 := (g7Qn A n _ _ _).trans h35
  have h37 := (g7p11110 A n (g7Q A n [true, true, true, true, true] (g7T kk)) ⟨[(7, (.v (.cell (.bool (g18r1 x0))))), (6, (.v (.cell (.str (g18r0 x0))))), (17, (.v (.cell (.bool (g18r1 x0))))), (16, (.v (.cell (.str (g18r0 x0))))), (13, (.tup [(.cell (.str (g18r0 x0))), (.cell (.bool (g18r1 x0)))])), (15, (.tup [(.cell (.str (g18r0 x0))), (.cell (.bool (g18r1 x0)))])), (14, (.v (.cell (.str x0)))), (0, (.v (.cell (.str x0)))), (1, (.v (.cell (.int .i64 x1)))), (5, (.v (.cell (.bool x2))))], []⟩ ⟨[(0, (.v (.cell (.str x0)))), (1, (.v (.cell (.int .i64 x1)))), (5, (.v (.cell (.bool x2)))), (6, (.v (.cell (.str (g18r0 x0))))), (7, (.v (.cell (.bool (g18r1 x0)))))], []⟩ (by kernel_rfl)).trans (g7R5 A n (g7Q A n [true, true, true, true, true] (g7T kk)) x0 x1 x2 (g18r0 x0) (g18r1 x0))
  rw [h36] at h37
  have h38 := (g7p1111 A n _ _).trans h37
  have h39 := (g7Qn A n _ _ _).trans h38
  have h40 := (g7p1110 A n (g7Q A n [true, true, true, true] (g7T kk)) ⟨[(0, (.v (.cell (.str x0)))), (1, (.v (.cell (.int .i64 x1)))), (5, (.v (.cell (.bool x2))))], []⟩ ⟨[(0, (.v (.cell (.str x0)))), (1, (.v (.cell (.int .i64 x1)))), (5, (.v (.cell (.bool x2))))], []⟩ (by kernel_rfl)).trans (g7R4 A n (g7Q A n [true, true, true, true] (g7T kk)) x0 x1 x2)
  rw [h39] at h40
  have h41 := (g7p111 A n _ _).trans h40
  exact (codeD_first (s' := ⟨[(0, (.v (.cell (.str x0)))), (1, (.v (.cell (.int .i64 x1)))), (5, (.v (.cell (.bool x2))))], []⟩) (id := 4) (by kernel_rfl) (h.trans (by kernel_rfl)) _).trans (h41.trans (by kernel_rfl))
def g7 {R : Type} (A : Ar) (n : Nat) (kk : AV → Heap → Option R) (a : List Nat) (b : Int) : Option R :=
  match (generalizing := false) g9ok with
  | true => match (generalizing := false) !g9r0 with
    | true => kk (.v (.cell (.bool false))) []
    | false => g7J4 A n kk  a b g9r0
  | false => none
set_option maxRecDepth 100000 in
theorem g7_eq {R : Type} (A : Ar) (n : Nat) (kk : AV → Heap → Option R) (a : List Nat) (b : Int) :
    funD A gtys (orcOf [(9, g9o), (18, g18o), (19, g19o), (20, g20o), (21, g21o)]) g7an n (bodyOf Try.f7) g7res [(.v (.cell (.str a))), (.v (.cell (.int .i64 b)))] [] kk = g7 A n kk a b := by
  have h1 : (g7T kk) .ret ⟨[(4, (.v (.cell (.bool false))))], []⟩ = kk (.v (.cell (.bool false))) [] := by kernel_rfl
  have h2 := (g7Qr A n [true, true, true] _ _).trans h1
  have h3 := (g7p110101 A n _ _).trans h2
  have h4 := (g7Qn A n _ _ _).trans h3
  have h5 := (g7p110100 A n (g7Q A n [true, true, false, true, false, true] (g7Q A n [true, true, true] (g7T kk))) ⟨[(12, (.v (.cell (.bool (!g9r0))))), (11, (.v (.cell (.bool g9r0)))), (0, (.v (.cell (.str a)))), (1, (.v (.cell (.int .i64 b)))), (5, (.v (.cell (.bool g9r0))))], []⟩ ⟨[], []⟩ (by kernel_rfl)).trans (g7R3 A n (g7Q A n [true, true, false, true, false, true] (g7Q A n [true, true, true] (g7T kk))) )
  rw [h4] at h5
  have h6 := (g7p11010 A n _ _).trans h5
  have h7 := (g7Qn A n _ _ _).trans (g7J4_eq A n kk     ⟨[(12, (.v (.cell (.bool (!g9r0))))), (11, (.v (.cell (.bool g9r0)))), (0, (.v (.cell (.str a)))), (1, (.v (.cell (.int .i64 b)))), (5, (.v (.cell (.bool g9r0))))], []⟩ a b g9r0 (by kernel_rfl))
  have h8 := (g7p11011 A n _ _).trans h7
  have h9 := g7p1101 A n (g7Q A n [true, true, true] (g7T kk)) ⟨[(12, (.v (.cell (.bool (!g9r0))))), (11, (.v (.cell (.bool g9r0)))), (0, (.v (.cell (.str a)))), (1, (.v (.cell (.int .i64 b)))), (5, (.v (.cell (.bool g9r0))))], []⟩ (!g9r0) (by kernel_rfl)
  rw [h6, h8] at h9
  have h10 := (g7Qn A n _ _ _).trans h9
  have h11 := (g7p1100 A n (g7Q A n [true, true, false, true] (g7Q A n [true, true, true] (g7T kk))) ⟨[(5, (.v (.cell (.bool g9r0)))), (10, (.v (.cell (.bool g9r0)))), (0, (.v (.cell (.str a)))), (1, (.v (.cell (.int .i64 b))))], []⟩ ⟨[(0, (.v (.cell (.str a)))), (1, (.v (.cell (.int .i64 b)))), (5, (.v (.cell (.bool g9r0))))], []⟩ (by kernel_rfl)).trans (g7R2 A n (g7Q A n [true, true, false, true] (g7Q A n [true, true, true] (g7T kk))) a b g9r0)
  rw [h10] at h11
  have h12 := (g7p110 A n _ _).trans h11
  have h13 := (g7p11 A n _ _).trans h12
  have h14 := (g7Qn A n _ _ _).trans h13
  have h15 := (g7p10 A n (g7Q A n [true, true] (g7T kk)) ⟨[(4, (.v (.cell (.bool false)))), (0, (.v (.cell (.str a)))), (1, (.v (.cell (.int .i64 b))))], []⟩ ⟨[(0, (.v (.cell (.str a)))), (1, (.v (.cell (.int .i64 b))))], []⟩ (by kernel_rfl)).trans (g7R1 A n (g7Q A n [true, true] (g7T kk)) a b)
  rw [h14] at h15
  have h16 := (g7p1 A n _ _).trans h15
  have h17 := (g7Qn A n _ _ _).trans h16
  have h18 := (g7p0 A n (g7Q A n [true] (g7T kk)) ⟨[(0, (.v (.cell (.str a)))), (1, (.v (.cell (.int .i64 b))))], []⟩ ⟨[(0, (.v (.cell (.str a)))), (1, (.v (.cell (.int .i64 b))))], []⟩ (by kernel_rfl)).trans (g7R0 A n (g7Q A n [true] (g7T kk)) a b)
  rw [h17] at h18
  have h19 := (g7p A n _ _).trans h18
  exact (show funD A gtys (orcOf [(9, g9o), (18, g18o), (19, g19o), (20, g20o), (21, g21o)]) g7an n (bodyOf Try.f7) g7res [(.v (.cell (.str a))), (.v (.cell (.int .i64 b)))] [] kk = g7D A n [] (g7T kk) ⟨[(0, (.v (.cell (.str a)))), (1, (.v (.cell (.int .i64 b))))], []⟩ from by kernel_rfl).trans (h19.trans (by kernel_rfl))
def g7is (o : Option AV) : Bool := match o with
  | some (.v (.cell (.bool _))) => true
  | _ => false
def g7g0 (o : Option AV) : Bool := match o with
  | some (.v (.cell (.bool x))) => x
  | _ => false
theorem g7is_spec {o : Option AV} (h : g7is o = true) : o = some (.v (.cell (.bool (g7g0 o)))) := by
  unfold g7is at h
  split at h
  · rfl
  · cases h
def g7v (a : List Nat) (b : Int) : Option AV := g7 realA (100000) (fun v _ => some v) a b
def g7ok (a : List Nat) (b : Int) : Bool := g7is (g7v a b)
def g7r0 (a : List Nat) (b : Int) : Bool := g7g0 (g7v a b)
theorem g7ok_spec {a b} (h : g7ok a b = true) : g7v a b = some (.v (.cell (.bool (g7r0 a b)))) := g7is_spec h
def g7o (args : List AV) : Option (Bool × AV) := match args with
  | [.v (.cell (.str a)), .v (.cell (.int .i64 b))] => some (g7ok a b, .v (.cell (.bool (g7r0 a b))))
  | _ => none
theorem g7O_sound : OSound Try.prog (orcOf [(9, g9o), (18, g18o), (19, g19o), (20, g20o), (21, g21o)]) := orc_sound fun f g hm args v hv => by
  simp only [List.mem_cons, List.not_mem_nil, or_false, Prod.mk.injEq] at hm
  rcases hm with ⟨rfl, rfl⟩ | ⟨rfl, rfl⟩ | ⟨rfl, rfl⟩ | ⟨rfl, rfl⟩ | ⟨rfl, rfl⟩
  · exact g9o_sound _ _ hv
  · exact g18o_sound _ _ hv
  · exact g19o_sound _ _ hv
  · exact g20o_sound _ _ hv
  · exact g21o_sound _ _ hv
theorem g7o_sound : ∀ args v, g7o args = some (true, v) → Fn1 Try.prog 7 args v := by
  intro args v h
  unfold g7o at h
  split at h
  · rename_i a b
    simp only [Option.some.injEq, Prod.mk.injEq] at h
    obtain ⟨hc, h⟩ := h
    subst h
    · skip
      exact fn1_of mixed gtysOK g7O_sound (orc_det _) (an := g7an) (n := 100000) Try.func7 (c := bodyOf Try.f7) rfl (by kernel_rfl) Try.call7 (Nat.le_of_ble_eq_true rfl) (fun b => rfl) (fun _ => (g7_eq realA (100000) (fun v _ => some v) a b).trans (show g7v a b = _ from g7ok_spec hc))
  · cases h
end Go.Sx
