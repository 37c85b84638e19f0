import Derived.Test.YtkomlijabeedpaaDoorSxP07c
import Derived.Test.YtkomlijabeedpaaDoorSxDr07
namespace Go.Sx
set_option linter.unusedSectionVars false
open Go.Proofs
set_option linter.unusedVariables false
set_option maxRecDepth 100000
theorem SxP07kpi {R : Type} (c : Bool) {f1 f2 : Nat → Option R} {a1 a2 : Option R} (h1 : Prs f1 a1) (h2 : Prs f2 a2) : Prs (fun k => match c with | true => f1 k | false => f2 k) (match c with | true => a1 | false => a2) := by cases c <;> assumption
attribute [local irreducible] runeN stepN g24ok g24r0 g24r1 g24r2 g24r3 g27ok g27r0 g23ok g23r0 g23r1 g23r2 g23a_ok g23a_r0 g23a_r1 g23a_r2 g26ok g26r0 g26r1 g26r2 g26r3 g24b_ok g24b_r0 g26a_ok g26a_r0 g10ok g10r0
def g12BO (A : Ar) : Orc := orc3 22 32 9 3 3 (orcH [(27, g27o A), (28, g28xo A)] [(23, ⟨[0, 1], none, (ho2 (g23o A) (g23a_o A))⟩), (26, ⟨[], none, (ho2 (g26o A) (g26a_o A))⟩), (24, ⟨[], none, (ho2 (g24o A) (ho2 (g24a_o A) (g24b_o A)))⟩), (10, ⟨[], none, (g10o A)⟩)])
theorem g12BO_sound : OSound Tryd.prog (g12BO realA) := orc3_sound Bd07.box3 <| orcH_sound (fun f g hm args v hv => by
    simp only [List.mem_cons, List.not_mem_nil, or_false, Prod.mk.injEq] at hm
    rcases hm with ⟨rfl, rfl⟩ | ⟨rfl, rfl⟩
    · exact g27o_sound _ _ hv
    · exact g28xo_sound _ _ hv) (fun f e hm args h v h' hv => by
    simp only [List.mem_cons, List.not_mem_nil, or_false, Prod.mk.injEq] at hm
    rcases hm with ⟨rfl, rfl⟩ | ⟨rfl, rfl⟩ | ⟨rfl, rfl⟩ | ⟨rfl, rfl⟩
    · exact (ho2_sound g23o_sound g23a_o_sound) _ _ _ _ hv
    · exact (ho2_sound g26o_sound g26a_o_sound) _ _ _ _ hv
    · exact (ho2_sound g24o_sound (ho2_sound g24a_o_sound g24b_o_sound)) _ _ _ _ hv
    · exact g10o_sound _ _ _ _ hv)
theorem g12BO_det : ODet (g12BO realA) := orc3_det <| orcH_det _ _
def g12O (A : Ar) : Orc := { g12BO A with pb := 410 }
noncomputable abbrev g12q : Code := ((spineC 2 (bodyOf Tryd.f12)).getD .skip)
noncomputable abbrev g12C : Code := .seq (tailC (headC g12q)) (tailC g12q)
noncomputable abbrev g12p : Array Oper := opsOf (headC (headC g12q))
noncomputable abbrev g12SC11 : Code := .seq (rfAs (rfOf 0 (bodyOf Tryd.f12))) (rfBd (rfOf 0 (bodyOf Tryd.f12)))
def g12Sb11O (A : Ar) : Orc := orcOf []
theorem g12Sb11O_sound : OSound Tryd.prog (g12Sb11O realA) := orc_sound fun f g hm args v hv => by
  cases hm
theorem g12Sb11O_det : ODet (g12Sb11O realA) := orc_det _
def g12Sb11an : Ann := [(11, ([8, 26], [410, 411, 415])), (12, ([8, 9], [410, 411, 415])), (1000003, ([9002], [500])), (1000009, ([9002], [500])), (3000011, ([2000, 10000, 11001, 11501, 11502, 500], [410, 411, 412, 413, 414, 415]))]
def g12Sb11cut : List Nat := []
noncomputable def g12Sb11N {R : Type} (A : Ar) (kk : Ex → Heap → Option R) (t : List Bool → St → Option R) (p : List Bool) (s : St) : Option R := nodeN A gtys (g12Sb11O A) g12Sb11an g12Sb11cut t g12SC11 (bdP [410, 411, 415, 13004] kk) p s
def g12Sb11 {R : Type} (A : Ar) (n : Nat) (kk : Ex → Heap → Option R) (x0 : Int) (x1 x2 : Nat) (x3 : List Nat) : Option R :=
  match A.eq 0 0 with
  | true => match A.le (([] ++ ([A.i2n .u8 x0].take 1)).length) 140737488355328 with
    | true => kk .normal [(410, ⟨[.one (.ptr 410 0 none), .one (.sl 415 none x1 1)], 36, 1⟩), (411, ⟨[.one (.sl 13004 none (([] ++ ([A.i2n .u8 x0].take 1)).length) 1)], 34, 1⟩), (415, ⟨[.nums .u8 x2 x3], 5, 0⟩), (13004, ⟨[.nums .u8 (([] ++ ([A.i2n .u8 x0].take 1)).length) ([] ++ ([A.i2n .u8 x0].take 1))], 5, 2⟩)]
    | false => none
  | false => none
section
variable {R : Type} {A : Ar} {n : Nat} {kk : Ex → Heap → Option R} {tb : Nat → List Bool → St → Option R} (st : Stp (g12Sb11N A kk) tb)
include st
theorem g12Sb11_go {x0 : Int} {x1 : Nat} {x2 : Nat} {x3 : List Nat} : Prs (fun k => codeN A gtys (g12Sb11O A) g12Sb11an g12Sb11cut (tb k) [] g12SC11 (bdP [410, 411, 415, 13004] kk) ⟨zipS [26] [(i6 x0)] ++ [(4, (pT 410 0)), (8, (pT 411 0)), (25, (.fn 32 [] [(.cell (.ptr 412 0 none)), (.cell (.ptr 413 0 none)), (.cell (.ptr 414 0 none))]))], [(410, ⟨[.one (.ptr 410 0 none), .one (.sl 415 none x1 1)], 36, 1⟩), (411, ⟨[.one .nils], 34, 1⟩), (415, ⟨[.nums .u8 x2 x3], 5, 0⟩)]⟩ ) (g12Sb11 A n kk x0 x1 x2 x3) := by
  unfold g12Sb11
  exact pc (SxP07kpi _ (SxP07kpi _ (pf _) pn) pn) (by kernel_rfl)
end
def g12Sb11v (A : Ar) (x0 : Int) (x1 x2 : Nat) (x3 : List Nat) : Option (Ex × Heap) := g12Sb11 A (10000000) (fun ex h => some (ex, h)) x0 x1 x2 x3
def g12Sb11is0 (o : Option (Ex × Heap)) : Bool := match o with
  | some (.normal, [(n0, ⟨[.one (.ptr n1 n2 none), .one (.sl n3 none _ n4)], n5, n6⟩), (n7, ⟨[.one (.sl n8 none _ n9)], n10, n11⟩), (n12, ⟨[.nums .u8 _ _], n13, n14⟩), (n15, ⟨[.nums .u8 _ _], n16, n17⟩)]) => Nat.beq n0 410 && (Nat.beq n1 410 && (Nat.beq n2 0 && (Nat.beq n3 415 && (Nat.beq n4 1 && (Nat.beq n5 36 && (Nat.beq n6 1 && (Nat.beq n7 411 && (Nat.beq n8 13004 && (Nat.beq n9 1 && (Nat.beq n10 34 && (Nat.beq n11 1 && (Nat.beq n12 415 && (Nat.beq n13 5 && (Nat.beq n14 0 && (Nat.beq n15 13004 && (Nat.beq n16 5 && (Nat.beq n17 2)))))))))))))))))
  | _ => false
def g12Sb11g0_0 (o : Option (Ex × Heap)) : Nat := match o with
  | some (.normal, [(_, ⟨[.one (.ptr _ _ none), .one (.sl _ none x _)], _, _⟩), (_, ⟨[.one (.sl _ none _ _)], _, _⟩), (_, ⟨[.nums .u8 _ _], _, _⟩), (_, ⟨[.nums .u8 _ _], _, _⟩)]) => x
  | _ => 0
def g12Sb11g0_1 (o : Option (Ex × Heap)) : Nat := match o with
  | some (.normal, [(_, ⟨[.one (.ptr _ _ none), .one (.sl _ none _ _)], _, _⟩), (_, ⟨[.one (.sl _ none x _)], _, _⟩), (_, ⟨[.nums .u8 _ _], _, _⟩), (_, ⟨[.nums .u8 _ _], _, _⟩)]) => x
  | _ => 0
def g12Sb11g0_2 (o : Option (Ex × Heap)) : Nat := match o with
  | some (.normal, [(_, ⟨[.one (.ptr _ _ none), .one (.sl _ none _ _)], _, _⟩), (_, ⟨[.one (.sl _ none _ _)], _, _⟩), (_, ⟨[.nums .u8 x _], _, _⟩), (_, ⟨[.nums .u8 _ _], _, _⟩)]) => x
  | _ => 0
def g12Sb11g0_3 (o : Option (Ex × Heap)) : List Nat := match o with
  | some (.normal, [(_, ⟨[.one (.ptr _ _ none), .one (.sl _ none _ _)], _, _⟩), (_, ⟨[.one (.sl _ none _ _)], _, _⟩), (_, ⟨[.nums .u8 _ x], _, _⟩), (_, ⟨[.nums .u8 _ _], _, _⟩)]) => x
  | _ => []
def g12Sb11g0_4 (o : Option (Ex × Heap)) : Nat := match o with
  | some (.normal, [(_, ⟨[.one (.ptr _ _ none), .one (.sl _ none _ _)], _, _⟩), (_, ⟨[.one (.sl _ none _ _)], _, _⟩), (_, ⟨[.nums .u8 _ _], _, _⟩), (_, ⟨[.nums .u8 x _], _, _⟩)]) => x
  | _ => 0
def g12Sb11g0_5 (o : Option (Ex × Heap)) : List Nat := match o with
  | some (.normal, [(_, ⟨[.one (.ptr _ _ none), .one (.sl _ none _ _)], _, _⟩), (_, ⟨[.one (.sl _ none _ _)], _, _⟩), (_, ⟨[.nums .u8 _ _], _, _⟩), (_, ⟨[.nums .u8 _ x], _, _⟩)]) => x
  | _ => []
theorem g12Sb11is0_spec {o : Option (Ex × Heap)} (h : g12Sb11is0 o = true) : o = some (.normal, [(410, ⟨[.one (.ptr 410 0 none), .one (.sl 415 none (g12Sb11g0_0 o) 1)], 36, 1⟩), (411, ⟨[.one (.sl 13004 none (g12Sb11g0_1 o) 1)], 34, 1⟩), (415, ⟨[.nums .u8 (g12Sb11g0_2 o) (g12Sb11g0_3 o)], 5, 0⟩), (13004, ⟨[.nums .u8 (g12Sb11g0_4 o) (g12Sb11g0_5 o)], 5, 2⟩)]) := by
  unfold g12Sb11is0 at h
  split at h
  · rename_i n0 n1 n2 n3 z4 n4 n5 n6 n7 n8 z10 n9 n10 n11 n12 z15 z16 n13 n14 n15 z20 z21 n16 n17
    simp only [Bool.and_eq_true] at h
    have en0 := beq_true h.1
    subst en0
    replace h := h.2
    have en1 := beq_true h.1
    subst en1
    replace h := h.2
    have en2 := beq_true h.1
    subst en2
    replace h := h.2
    have en3 := beq_true h.1
    subst en3
    replace h := h.2
    have en4 := beq_true h.1
    subst en4
    replace h := h.2
    have en5 := beq_true h.1
    subst en5
    replace h := h.2
    have en6 := beq_true h.1
    subst en6
    replace h := h.2
    have en7 := beq_true h.1
    subst en7
    replace h := h.2
    have en8 := beq_true h.1
    subst en8
    replace h := h.2
    have en9 := beq_true h.1
    subst en9
    replace h := h.2
    have en10 := beq_true h.1
    subst en10
    replace h := h.2
    have en11 := beq_true h.1
    subst en11
    replace h := h.2
    have en12 := beq_true h.1
    subst en12
    replace h := h.2
    have en13 := beq_true h.1
    subst en13
    replace h := h.2
    have en14 := beq_true h.1
    subst en14
    replace h := h.2
    have en15 := beq_true h.1
    subst en15
    replace h := h.2
    have en16 := beq_true h.1
    subst en16
    replace h := h.2
    have en17 := beq_true h
    subst en17
    rfl
  · cases h
def g12Sb11c0 (A : Ar) (x0 : Int) (x1 x2 : Nat) (x3 : List Nat) : Bool := g12Sb11is0 (g12Sb11v A x0 x1 x2 x3)
def g12Sb11r0_0 (A : Ar) (x0 : Int) (x1 x2 : Nat) (x3 : List Nat) : Nat := g12Sb11g0_0 (g12Sb11v A x0 x1 x2 x3)
def g12Sb11r0_1 (A : Ar) (x0 : Int) (x1 x2 : Nat) (x3 : List Nat) : Nat := g12Sb11g0_1 (g12Sb11v A x0 x1 x2 x3)
def g12Sb11r0_2 (A : Ar) (x0 : Int) (x1 x2 : Nat) (x3 : List Nat) : Nat := g12Sb11g0_2 (g12Sb11v A x0 x1 x2 x3)
def g12Sb11r0_3 (A : Ar) (x0 : Int) (x1 x2 : Nat) (x3 : List Nat) : List Nat := g12Sb11g0_3 (g12Sb11v A x0 x1 x2 x3)
def g12Sb11r0_4 (A : Ar) (x0 : Int) (x1 x2 : Nat) (x3 : List Nat) : Nat := g12Sb11g0_4 (g12Sb11v A x0 x1 x2 x3)
def g12Sb11r0_5 (A : Ar) (x0 : Int) (x1 x2 : Nat) (x3 : List Nat) : List Nat := g12Sb11g0_5 (g12Sb11v A x0 x1 x2 x3)
def g12Sb11G (A : Ar) (sl : Slots) (vs : List AV) (h : Heap) : Option (GL (Ex × Heap)) := match sl, vs, h with
  | [(n0, .v (.cell (.ptr n1 n2 none))), (n3, .v (.cell (.ptr n4 n5 none))), (n6, .fn n7 [] [(.cell (.ptr n8 n9 none)), (.cell (.ptr n10 n11 none)), (.cell (.ptr n12 n13 none))])], [.v (.cell (.int .i64 x0))], [(n14, ⟨[.one (.ptr n15 n16 none), .one (.sl n17 none x1 n18)], n19, n20⟩), (n21, ⟨[.one .nils], n22, n23⟩), (n24, ⟨[.nums .u8 x2 x3], n25, n26⟩)] => match Nat.beq n0 4 && (Nat.beq n1 410 && (Nat.beq n2 0 && (Nat.beq n3 8 && (Nat.beq n4 411 && (Nat.beq n5 0 && (Nat.beq n6 25 && (Nat.beq n7 32 && (Nat.beq n8 412 && (Nat.beq n9 0 && (Nat.beq n10 413 && (Nat.beq n11 0 && (Nat.beq n12 414 && (Nat.beq n13 0 && (Nat.beq n14 410 && (Nat.beq n15 410 && (Nat.beq n16 0 && (Nat.beq n17 415 && (Nat.beq n18 1 && (Nat.beq n19 36 && (Nat.beq n20 1 && (Nat.beq n21 411 && (Nat.beq n22 34 && (Nat.beq n23 1 && (Nat.beq n24 415 && (Nat.beq n25 5 && (Nat.beq n26 0)))))))))))))))))))))))))) with
    | true => some [(g12Sb11c0 A x0 x1 x2 x3, some (.normal, [(410, ⟨[.one (.ptr 410 0 none), .one (.sl 415 none (g12Sb11r0_0 A x0 x1 x2 x3) 1)], 36, 1⟩), (411, ⟨[.one (.sl 13004 none (g12Sb11r0_1 A x0 x1 x2 x3) 1)], 34, 1⟩), (415, ⟨[.nums .u8 (g12Sb11r0_2 A x0 x1 x2 x3) (g12Sb11r0_3 A x0 x1 x2 x3)], 5, 0⟩), (13004, ⟨[.nums .u8 (g12Sb11r0_4 A x0 x1 x2 x3) (g12Sb11r0_5 A x0 x1 x2 x3)], 5, 2⟩)]))]
    | false => none
  | _, _, _ => none
theorem g12Sb11G_sound {sl : Slots} {vs : List AV} {h : Heap} {l : GL (Ex × Heap)} (hg : g12Sb11G realA sl vs h = some l) {ex : Ex} {g' : Heap} (hl : pickG l = some (ex, g')) : BodyH Tryd.prog Tryd.f12.ntmps (rfAs (rfOf 0 (bodyOf Tryd.f12))) (rfBd (rfOf 0 (bodyOf Tryd.f12))) (rfPs (rfOf 0 (bodyOf Tryd.f12))).toList sl vs h ex g' := by
  unfold g12Sb11G at hg
  split at hg
  · rename_i n0 n1 n2 n3 n4 n5 n6 n7 n8 n9 n10 n11 n12 n13 x0 n14 n15 n16 n17 x1 n18 n19 n20 n21 n22 n23 n24 x2 x3 n25 n26
    split at hg
    case h_2 => cases hg
    rename_i hc0
    simp only [Bool.and_eq_true] at hc0
    have en0 := beq_true hc0.1
    subst en0
    replace hc0 := hc0.2
    have en1 := beq_true hc0.1
    subst en1
    replace hc0 := hc0.2
    have en2 := beq_true hc0.1
    subst en2
    replace hc0 := hc0.2
    have en3 := beq_true hc0.1
    subst en3
    replace hc0 := hc0.2
    have en4 := beq_true hc0.1
    subst en4
    replace hc0 := hc0.2
    have en5 := beq_true hc0.1
    subst en5
    replace hc0 := hc0.2
    have en6 := beq_true hc0.1
    subst en6
    replace hc0 := hc0.2
    have en7 := beq_true hc0.1
    subst en7
    replace hc0 := hc0.2
    have en8 := beq_true hc0.1
    subst en8
    replace hc0 := hc0.2
    have en9 := beq_true hc0.1
    subst en9
    replace hc0 := hc0.2
    have en10 := beq_true hc0.1
    subst en10
    replace hc0 := hc0.2
    have en11 := beq_true hc0.1
    subst en11
    replace hc0 := hc0.2
    have en12 := beq_true hc0.1
    subst en12
    replace hc0 := hc0.2
    have en13 := beq_true hc0.1
    subst en13
    replace hc0 := hc0.2
    have en14 := beq_true hc0.1
    subst en14
    replace hc0 := hc0.2
    have en15 := beq_true hc0.1
    subst en15
    replace hc0 := hc0.2
    have en16 := beq_true hc0.1
    subst en16
    replace hc0 := hc0.2
    have en17 := beq_true hc0.1
    subst en17
    replace hc0 := hc0.2
    have en18 := beq_true hc0.1
    subst en18
    replace hc0 := hc0.2
    have en19 := beq_true hc0.1
    subst en19
    replace hc0 := hc0.2
    have en20 := beq_true hc0.1
    subst en20
    replace hc0 := hc0.2
    have en21 := beq_true hc0.1
    subst en21
    replace hc0 := hc0.2
    have en22 := beq_true hc0.1
    subst en22
    replace hc0 := hc0.2
    have en23 := beq_true hc0.1
    subst en23
    replace hc0 := hc0.2
    have en24 := beq_true hc0.1
    subst en24
    replace hc0 := hc0.2
    have en25 := beq_true hc0.1
    subst en25
    replace hc0 := hc0.2
    have en26 := beq_true hc0
    subst en26
    simp only [Option.some.injEq] at hg
    subst hg
    rcases pickG_cons hl with ⟨hc, hl⟩ | hl
    · simp only [Option.some.injEq, Prod.mk.injEq] at hl
      obtain ⟨rfl, rfl⟩ := hl
      exact bodyH_of2 mixed gtysOK g12Sb11O_sound g12Sb11O_det (an := g12Sb11an) (cut := g12Sb11cut) (bs := [410, 411, 415, 13004]) (by kernel_rfl) (by kernel_rfl) (by kernel_rfl) (by kernel_rfl) (by kernel_rfl) (by kernel_rfl) (show g12Sb11v realA x0 x1 x2 x3 = _ from g12Sb11is0_spec hc) fun _ st => g12Sb11_go st
    cases hl
  · cases hg
def g12Sb11a_O (A : Ar) : Orc := orcOf []
theorem g12Sb11a_O_sound : OSound Tryd.prog (g12Sb11a_O realA) := orc_sound fun f g hm args v hv => by
  cases hm
theorem g12Sb11a_O_det : ODet (g12Sb11a_O realA) := orc_det _
def g12Sb11a_an : Ann := [(11, ([8, 26], [410, 411, 415, 500])), (12, ([8, 9], [410, 411, 415, 500])), (1000003, ([9002], [500])), (1000009, ([9002], [500])), (3000011, ([2000, 10000, 11001, 11501, 11502, 500], [410, 411, 412, 413, 414, 415]))]
def g12Sb11a_cut : List Nat := []
noncomputable def g12Sb11a_N {R : Type} (A : Ar) (kk : Ex → Heap → Option R) (t : List Bool → St → Option R) (p : List Bool) (s : St) : Option R := nodeN A gtys (g12Sb11a_O A) g12Sb11a_an g12Sb11a_cut t g12SC11 (bdP [410, 411, 415, 500] kk) p s
def g12Sb11a_ {R : Type} (A : Ar) (n : Nat) (kk : Ex → Heap → Option R) (x0 : Int) (x1 x2 x3 : Nat) (x4 : List Nat) (x5 : Nat) (x6 : List Nat) : Option R :=
  match A.eq x2 (x5 + 0) with
  | true => match A.le ((x6 ++ ([A.i2n .u8 x0].take 1)).length) 140737488355328 with
    | true => kk .normal [(410, ⟨[.one (.ptr 410 0 none), .one (.sl 415 none x1 1)], 36, 1⟩), (411, ⟨[.one (.sl 500 none ((x6 ++ ([A.i2n .u8 x0].take 1)).length) 1)], 34, 1⟩), (415, ⟨[.nums .u8 x3 x4], 5, 0⟩), (500, ⟨[.nums .u8 ((x6 ++ ([A.i2n .u8 x0].take 1)).length) (x6 ++ ([A.i2n .u8 x0].take 1))], 5, 2⟩)]
    | false => none
  | false => none
section
variable {R : Type} {A : Ar} {n : Nat} {kk : Ex → Heap → Option R} {tb : Nat → List Bool → St → Option R} (st : Stp (g12Sb11a_N A kk) tb)
include st
theorem g12Sb11a__go {x0 : Int} {x1 : Nat} {x2 : Nat} {x3 : Nat} {x4 : List Nat} {x5 : Nat} {x6 : List Nat} : Prs (fun k => codeN A gtys (g12Sb11a_O A) g12Sb11a_an g12Sb11a_cut (tb k) [] g12SC11 (bdP [410, 411, 415, 500] kk) ⟨zipS [26] [(i6 x0)] ++ [(4, (pT 410 0)), (8, (pT 411 0)), (25, (.fn 32 [] [(.cell (.ptr 412 0 none)), (.cell (.ptr 413 0 none)), (.cell (.ptr 414 0 none))]))], [(410, ⟨[.one (.ptr 410 0 none), .one (.sl 415 none x1 1)], 36, 1⟩), (411, ⟨[.one (.sl 500 none x2 1)], 34, 1⟩), (415, ⟨[.nums .u8 x3 x4], 5, 0⟩), (500, ⟨[.nums .u8 x5 x6], 5, 2⟩)]⟩ ) (g12Sb11a_ A n kk x0 x1 x2 x3 x4 x5 x6) := by
  unfold g12Sb11a_
  exact pc (SxP07kpi _ (SxP07kpi _ (pf _) pn) pn) (by kernel_rfl)
end
def g12Sb11a_v (A : Ar) (x0 : Int) (x1 x2 x3 : Nat) (x4 : List Nat) (x5 : Nat) (x6 : List Nat) : Option (Ex × Heap) := g12Sb11a_ A (10000000) (fun ex h => some (ex, h)) x0 x1 x2 x3 x4 x5 x6
def g12Sb11a_is0 (o : Option (Ex × Heap)) : Bool := match o with
  | some (.normal, [(n0, ⟨[.one (.ptr n1 n2 none), .one (.sl n3 none _ n4)], n5, n6⟩), (n7, ⟨[.one (.sl n8 none _ n9)], n10, n11⟩), (n12, ⟨[.nums .u8 _ _], n13, n14⟩), (n15, ⟨[.nums .u8 _ _], n16, n17⟩)]) => Nat.beq n0 410 && (Nat.beq n1 410 && (Nat.beq n2 0 && (Nat.beq n3 415 && (Nat.beq n4 1 && (Nat.beq n5 36 && (Nat.beq n6 1 && (Nat.beq n7 411 && (Nat.beq n8 500 && (Nat.beq n9 1 && (Nat.beq n10 34 && (Nat.beq n11 1 && (Nat.beq n12 415 && (Nat.beq n13 5 && (Nat.beq n14 0 && (Nat.beq n15 500 && (Nat.beq n16 5 && (Nat.beq n17 2)))))))))))))))))
  | _ => false
def g12Sb11a_g0_0 (o : Option (Ex × Heap)) : Nat := match o with
  | some (.normal, [(_, ⟨[.one (.ptr _ _ none), .one (.sl _ none x _)], _, _⟩), (_, ⟨[.one (.sl _ none _ _)], _, _⟩), (_, ⟨[.nums .u8 _ _], _, _⟩), (_, ⟨[.nums .u8 _ _], _, _⟩)]) => x
  | _ => 0
def g12Sb11a_g0_1 (o : Option (Ex × Heap)) : Nat := match o with
  | some (.normal, [(_, ⟨[.one (.ptr _ _ none), .one (.sl _ none _ _)], _, _⟩), (_, ⟨[.one (.sl _ none x _)], _, _⟩), (_, ⟨[.nums .u8 _ _], _, _⟩), (_, ⟨[.nums .u8 _ _], _, _⟩)]) => x
  | _ => 0
def g12Sb11a_g0_2 (o : Option (Ex × Heap)) : Nat := match o with
  | some (.normal, [(_, ⟨[.one (.ptr _ _ none), .one (.sl _ none _ _)], _, _⟩), (_, ⟨[.one (.sl _ none _ _)], _, _⟩), (_, ⟨[.nums .u8 x _], _, _⟩), (_, ⟨[.nums .u8 _ _], _, _⟩)]) => x
  | _ => 0
def g12Sb11a_g0_3 (o : Option (Ex × Heap)) : List Nat := match o with
  | some (.normal, [(_, ⟨[.one (.ptr _ _ none), .one (.sl _ none _ _)], _, _⟩), (_, ⟨[.one (.sl _ none _ _)], _, _⟩), (_, ⟨[.nums .u8 _ x], _, _⟩), (_, ⟨[.nums .u8 _ _], _, _⟩)]) => x
  | _ => []
def g12Sb11a_g0_4 (o : Option (Ex × Heap)) : Nat := match o with
  | some (.normal, [(_, ⟨[.one (.ptr _ _ none), .one (.sl _ none _ _)], _, _⟩), (_, ⟨[.one (.sl _ none _ _)], _, _⟩), (_, ⟨[.nums .u8 _ _], _, _⟩), (_, ⟨[.nums .u8 x _], _, _⟩)]) => x
  | _ => 0
def g12Sb11a_g0_5 (o : Option (Ex × Heap)) : List Nat := match o with
  | some (.normal, [(_, ⟨[.one (.ptr _ _ none), .one (.sl _ none _ _)], _, _⟩), (_, ⟨[.one (.sl _ none _ _)], _, _⟩), (_, ⟨[.nums .u8 _ _], _, _⟩), (_, ⟨[.nums .u8 _ x], _, _⟩)]) => x
  | _ => []
theorem g12Sb11a_is0_spec {o : Option (Ex × Heap)} (h : g12Sb11a_is0 o = true) : o = some (.normal, [(410, ⟨[.one (.ptr 410 0 none), .one (.sl 415 none (g12Sb11a_g0_0 o) 1)], 36, 1⟩), (411, ⟨[.one (.sl 500 none (g12Sb11a_g0_1 o) 1)], 34, 1⟩), (415, ⟨[.nums .u8 (g12Sb11a_g0_2 o) (g12Sb11a_g0_3 o)], 5, 0⟩), (500, ⟨[.nums .u8 (g12Sb11a_g0_4 o) (g12Sb11a_g0_5 o)], 5, 2⟩)]) := by
  unfold g12Sb11a_is0 at h
  split at h
  · rename_i n0 n1 n2 n3 z4 n4 n5 n6 n7 n8 z10 n9 n10 n11 n12 z15 z16 n13 n14 n15 z20 z21 n16 n17
    simp only [Bool.and_eq_true] at h
    have en0 := beq_true h.1
    subst en0
    replace h := h.2
    have en1 := beq_true h.1
    subst en1
    replace h := h.2
    have en2 := beq_true h.1
    subst en2
    replace h := h.2
    have en3 := beq_true h.1
    subst en3
    replace h := h.2
    have en4 := beq_true h.1
    subst en4
    replace h := h.2
    have en5 := beq_true h.1
    subst en5
    replace h := h.2
    have en6 := beq_true h.1
    subst en6
    replace h := h.2
    have en7 := beq_true h.1
    subst en7
    replace h := h.2
    have en8 := beq_true h.1
    subst en8
    replace h := h.2
    have en9 := beq_true h.1
    subst en9
    replace h := h.2
    have en10 := beq_true h.1
    subst en10
    replace h := h.2
    have en11 := beq_true h.1
    subst en11
    replace h := h.2
    have en12 := beq_true h.1
    subst en12
    replace h := h.2
    have en13 := beq_true h.1
    subst en13
    replace h := h.2
    have en14 := beq_true h.1
    subst en14
    replace h := h.2
    have en15 := beq_true h.1
    subst en15
    replace h := h.2
    have en16 := beq_true h.1
    subst en16
    replace h := h.2
    have en17 := beq_true h
    subst en17
    rfl
  · cases h
def g12Sb11a_c0 (A : Ar) (x0 : Int) (x1 x2 x3 : Nat) (x4 : List Nat) (x5 : Nat) (x6 : List Nat) : Bool := g12Sb11a_is0 (g12Sb11a_v A x0 x1 x2 x3 x4 x5 x6)
def g12Sb11a_r0_0 (A : Ar) (x0 : Int) (x1 x2 x3 : Nat) (x4 : List Nat) (x5 : Nat) (x6 : List Nat) : Nat := g12Sb11a_g0_0 (g12Sb11a_v A x0 x1 x2 x3 x4 x5 x6)
def g12Sb11a_r0_1 (A : Ar) (x0 : Int) (x1 x2 x3 : Nat) (x4 : List Nat) (x5 : Nat) (x6 : List Nat) : Nat := g12Sb11a_g0_1 (g12Sb11a_v A x0 x1 x2 x3 x4 x5 x6)
def g12Sb11a_r0_2 (A : Ar) (x0 : Int) (x1 x2 x3 : Nat) (x4 : List Nat) (x5 : Nat) (x6 : List Nat) : Nat := g12Sb11a_g0_2 (g12Sb11a_v A x0 x1 x2 x3 x4 x5 x6)
def g12Sb11a_r0_3 (A : Ar) (x0 : Int) (x1 x2 x3 : Nat) (x4 : List Nat) (x5 : Nat) (x6 : List Nat) : List Nat := g12Sb11a_g0_3 (g12Sb11a_v A x0 x1 x2 x3 x4 x5 x6)
def g12Sb11a_r0_4 (A : Ar) (x0 : Int) (x1 x2 x3 : Nat) (x4 : List Nat) (x5 : Nat) (x6 : List Nat) : Nat := g12Sb11a_g0_4 (g12Sb11a_v A x0 x1 x2 x3 x4 x5 x6)
def g12Sb11a_r0_5 (A : Ar) (x0 : Int) (x1 x2 x3 : Nat) (x4 : List Nat) (x5 : Nat) (x6 : List Nat) : List Nat := g12Sb11a_g0_5 (g12Sb11a_v A x0 x1 x2 x3 x4 x5 x6)
def g12Sb11a_G (A : Ar) (sl : Slots) (vs : List AV) (h : Heap) : Option (GL (Ex × Heap)) := match sl, vs, h with
  | [(n0, .v (.cell (.ptr n1 n2 none))), (n3, .v (.cell (.ptr n4 n5 none))), (n6, .fn n7 [] [(.cell (.ptr n8 n9 none)), (.cell (.ptr n10 n11 none)), (.cell (.ptr n12 n13 none))])], [.v (.cell (.int .i64 x0))], [(n14, ⟨[.one (.ptr n15 n16 none), .one (.sl n17 none x1 n18)], n19, n20⟩), (n21, ⟨[.one (.sl n22 none x2 n23)], n24, n25⟩), (n26, ⟨[.nums .u8 x3 x4], n27, n28⟩), (n29, ⟨[.nums .u8 x5 x6], n30, n31⟩)] => match Nat.beq n0 4 && (Nat.beq n1 410 && (Nat.beq n2 0 && (Nat.beq n3 8 && (Nat.beq n4 411 && (Nat.beq n5 0 && (Nat.beq n6 25 && (Nat.beq n7 32 && (Nat.beq n8 412 && (Nat.beq n9 0 && (Nat.beq n10 413 && (Nat.beq n11 0 && (Nat.beq n12 414 && (Nat.beq n13 0 && (Nat.beq n14 410 && (Nat.beq n15 410 && (Nat.beq n16 0 && (Nat.beq n17 415 && (Nat.beq n18 1 && (Nat.beq n19 36 && (Nat.beq n20 1 && (Nat.beq n21 411 && (Nat.beq n22 500 && (Nat.beq n23 1 && (Nat.beq n24 34 && (Nat.beq n25 1 && (Nat.beq n26 415 && (Nat.beq n27 5 && (Nat.beq n28 0 && (Nat.beq n29 500 && (Nat.beq n30 5 && (Nat.beq n31 2))))))))))))))))))))))))))))))) with
    | true => some [(g12Sb11a_c0 A x0 x1 x2 x3 x4 x5 x6, some (.normal, [(410, ⟨[.one (.ptr 410 0 none), .one (.sl 415 none (g12Sb11a_r0_0 A x0 x1 x2 x3 x4 x5 x6) 1)], 36, 1⟩), (411, ⟨[.one (.sl 500 none (g12Sb11a_r0_1 A x0 x1 x2 x3 x4 x5 x6) 1)], 34, 1⟩), (415, ⟨[.nums .u8 (g12Sb11a_r0_2 A x0 x1 x2 x3 x4 x5 x6) (g12Sb11a_r0_3 A x0 x1 x2 x3 x4 x5 x6)], 5, 0⟩), (500, ⟨[.nums .u8 (g12Sb11a_r0_4 A x0 x1 x2 x3 x4 x5 x6) (g12Sb11a_r0_5 A x0 x1 x2 x3 x4 x5 x6)], 5, 2⟩)]))]
    | false => none
  | _, _, _ => none
theorem g12Sb11a_G_sound {sl : Slots} {vs : List AV} {h : Heap} {l : GL (Ex × Heap)} (hg : g12Sb11a_G realA sl vs h = some l) {ex : Ex} {g' : Heap} (hl : pickG l = some (ex, g')) : BodyH Tryd.prog Tryd.f12.ntmps (rfAs (rfOf 0 (bodyOf Tryd.f12))) (rfBd (rfOf 0 (bodyOf Tryd.f12))) (rfPs (rfOf 0 (bodyOf Tryd.f12))).toList sl vs h ex g' := by
  unfold g12Sb11a_G at hg
  split at hg
  · rename_i n0 n1 n2 n3 n4 n5 n6 n7 n8 n9 n10 n11 n12 n13 x0 n14 n15 n16 n17 x1 n18 n19 n20 n21 n22 x2 n23 n24 n25 n26 x3 x4 n27 n28 n29 x5 x6 n30 n31
    split at hg
    case h_2 => cases hg
    rename_i hc0
    simp only [Bool.and_eq_true] at hc0
    have en0 := beq_true hc0.1
    subst en0
    replace hc0 := hc0.2
    have en1 := beq_true hc0.1
    subst en1
    replace hc0 := hc0.2
    have en2 := beq_true hc0.1
    subst en2
    replace hc0 := hc0.2
    have en3 := beq_true hc0.1
    subst en3
    replace hc0 := hc0.2
    have en4 := beq_true hc0.1
    subst en4
    replace hc0 := hc0.2
    have en5 := beq_true hc0.1
    subst en5
    replace hc0 := hc0.2
    have en6 := beq_true hc0.1
    subst en6
    replace hc0 := hc0.2
    have en7 := beq_true hc0.1
    subst en7
    replace hc0 := hc0.2
    have en8 := beq_true hc0.1
    subst en8
    replace hc0 := hc0.2
    have en9 := beq_true hc0.1
    subst en9
    replace hc0 := hc0.2
    have en10 := beq_true hc0.1
    subst en10
    replace hc0 := hc0.2
    have en11 := beq_true hc0.1
    subst en11
    replace hc0 := hc0.2
    have en12 := beq_true hc0.1
    subst en12
    replace hc0 := hc0.2
    have en13 := beq_true hc0.1
    subst en13
    replace hc0 := hc0.2
    have en14 := beq_true hc0.1
    subst en14
    replace hc0 := hc0.2
    have en15 := beq_true hc0.1
    subst en15
    replace hc0 := hc0.2
    have en16 := beq_true hc0.1
    subst en16
    replace hc0 := hc0.2
    have en17 := beq_true hc0.1
    subst en17
    replace hc0 := hc0.2
    have en18 := beq_true hc0.1
    subst en18
    replace hc0 := hc0.2
    have en19 := beq_true hc0.1
    subst en19
    replace hc0 := hc0.2
    have en20 := beq_true hc0.1
    subst en20
    replace hc0 := hc0.2
    have en21 := beq_true hc0.1
    subst en21
    replace hc0 := hc0.2
    have en22 := beq_true hc0.1
    subst en22
    replace hc0 := hc0.2
    have en23 := beq_true hc0.1
    subst en23
    replace hc0 := hc0.2
    have en24 := beq_true hc0.1
    subst en24
    replace hc0 := hc0.2
    have en25 := beq_true hc0.1
    subst en25
    replace hc0 := hc0.2
    have en26 := beq_true hc0.1
    subst en26
    replace hc0 := hc0.2
    have en27 := beq_true hc0.1
    subst en27
    replace hc0 := hc0.2
    have en28 := beq_true hc0.1
    subst en28
    replace hc0 := hc0.2
    have en29 := beq_true hc0.1
    subst en29
    replace hc0 := hc0.2
    have en30 := beq_true hc0.1
    subst en30
    replace hc0 := hc0.2
    have en31 := beq_true hc0
    subst en31
    simp only [Option.some.injEq] at hg
    subst hg
    rcases pickG_cons hl with ⟨hc, hl⟩ | hl
    · simp only [Option.some.injEq, Prod.mk.injEq] at hl
      obtain ⟨rfl, rfl⟩ := hl
      exact bodyH_of2 mixed gtysOK g12Sb11a_O_sound g12Sb11a_O_det (an := g12Sb11a_an) (cut := g12Sb11a_cut) (bs := [410, 411, 415, 500]) (by kernel_rfl) (by kernel_rfl) (by kernel_rfl) (by kernel_rfl) (by kernel_rfl) (by kernel_rfl) (show g12Sb11a_v realA x0 x1 x2 x3 x4 x5 x6 = _ from g12Sb11a_is0_spec hc) fun _ st => g12Sb11a__go st
    cases hl
  · cases hg
def g12Sb11b_O (A : Ar) : Orc := orcOf []
theorem g12Sb11b_O_sound : OSound Tryd.prog (g12Sb11b_O realA) := orc_sound fun f g hm args v hv => by
  cases hm
theorem g12Sb11b_O_det : ODet (g12Sb11b_O realA) := orc_det _
def g12Sb11b_an : Ann := [(11, ([8, 26], [410, 411])), (12, ([8, 9], [410, 411])), (1000003, ([9002], [500])), (1000009, ([9002], [500])), (3000011, ([2000, 10000, 11001, 11501, 11502, 500], [410, 411, 412, 413, 414, 415]))]
def g12Sb11b_cut : List Nat := []
noncomputable def g12Sb11b_N {R : Type} (A : Ar) (kk : Ex → Heap → Option R) (t : List Bool → St → Option R) (p : List Bool) (s : St) : Option R := nodeN A gtys (g12Sb11b_O A) g12Sb11b_an g12Sb11b_cut t g12SC11 (bdP [410, 411, 13004] kk) p s
def g12Sb11b_ {R : Type} (A : Ar) (n : Nat) (kk : Ex → Heap → Option R) (x0 : Int) : Option R :=
  match A.eq 0 0 with
  | true => match A.le (([] ++ ([A.i2n .u8 x0].take 1)).length) 140737488355328 with
    | true => kk .normal [(410, ⟨[.one .nilp, .one .nils], 36, 1⟩), (411, ⟨[.one (.sl 13004 none (([] ++ ([A.i2n .u8 x0].take 1)).length) 1)], 34, 1⟩), (13004, ⟨[.nums .u8 (([] ++ ([A.i2n .u8 x0].take 1)).length) ([] ++ ([A.i2n .u8 x0].take 1))], 5, 2⟩)]
    | false => none
  | false => none
section
variable {R : Type} {A : Ar} {n : Nat} {kk : Ex → Heap → Option R} {tb : Nat → List Bool → St → Option R} (st : Stp (g12Sb11b_N A kk) tb)
include st
theorem g12Sb11b__go {x0 : Int} : Prs (fun k => codeN A gtys (g12Sb11b_O A) g12Sb11b_an g12Sb11b_cut (tb k) [] g12SC11 (bdP [410, 411, 13004] kk) ⟨zipS [26] [(i6 x0)] ++ [(4, (pT 410 0)), (8, (pT 411 0)), (25, (.fn 32 [] [(.cell (.ptr 412 0 none)), (.cell (.ptr 413 0 none)), (.cell (.ptr 414 0 none))]))], [(410, ⟨[.one .nilp, .one .nils], 36, 1⟩), (411, ⟨[.one .nils], 34, 1⟩)]⟩ ) (g12Sb11b_ A n kk x0) := by
  unfold g12Sb11b_
  exact pc (SxP07kpi _ (SxP07kpi _ (pf _) pn) pn) (by kernel_rfl)
end
def g12Sb11b_v (A : Ar) (x0 : Int) : Option (Ex × Heap) := g12Sb11b_ A (10000000) (fun ex h => some (ex, h)) x0
def g12Sb11b_is0 (o : Option (Ex × Heap)) : Bool := match o with
  | some (.normal, [(n0, ⟨[.one .nilp, .one .nils], n1, n2⟩), (n3, ⟨[.one (.sl n4 none _ n5)], n6, n7⟩), (n8, ⟨[.nums .u8 _ _], n9, n10⟩)]) => Nat.beq n0 410 && (Nat.beq n1 36 && (Nat.beq n2 1 && (Nat.beq n3 411 && (Nat.beq n4 13004 && (Nat.beq n5 1 && (Nat.beq n6 34 && (Nat.beq n7 1 && (Nat.beq n8 13004 && (Nat.beq n9 5 && (Nat.beq n10 2))))))))))
  | _ => false
def g12Sb11b_g0_0 (o : Option (Ex × Heap)) : Nat := match o with
  | some (.normal, [(_, ⟨[.one .nilp, .one .nils], _, _⟩), (_, ⟨[.one (.sl _ none x _)], _, _⟩), (_, ⟨[.nums .u8 _ _], _, _⟩)]) => x
  | _ => 0
def g12Sb11b_g0_1 (o : Option (Ex × Heap)) : Nat := match o with
  | some (.normal, [(_, ⟨[.one .nilp, .one .nils], _, _⟩), (_, ⟨[.one (.sl _ none _ _)], _, _⟩), (_, ⟨[.nums .u8 x _], _, _⟩)]) => x
  | _ => 0
def g12Sb11b_g0_2 (o : Option (Ex × Heap)) : List Nat := match o with
  | some (.normal, [(_, ⟨[.one .nilp, .one .nils], _, _⟩), (_, ⟨[.one (.sl _ none _ _)], _, _⟩), (_, ⟨[.nums .u8 _ x], _, _⟩)]) => x
  | _ => []
theorem g12Sb11b_is0_spec {o : Option (Ex × Heap)} (h : g12Sb11b_is0 o = true) : o = some (.normal, [(410, ⟨[.one .nilp, .one .nils], 36, 1⟩), (411, ⟨[.one (.sl 13004 none (g12Sb11b_g0_0 o) 1)], 34, 1⟩), (13004, ⟨[.nums .u8 (g12Sb11b_g0_1 o) (g12Sb11b_g0_2 o)], 5, 2⟩)]) := by
  unfold g12Sb11b_is0 at h
  split at h
  · rename_i n0 n1 n2 n3 n4 z5 n5 n6 n7 n8 z10 z11 n9 n10
    simp only [Bool.and_eq_true] at h
    have en0 := beq_true h.1
    subst en0
    replace h := h.2
    have en1 := beq_true h.1
    subst en1
    replace h := h.2
    have en2 := beq_true h.1
    subst en2
    replace h := h.2
    have en3 := beq_true h.1
    subst en3
    replace h := h.2
    have en4 := beq_true h.1
    subst en4
    replace h := h.2
    have en5 := beq_true h.1
    subst en5
    replace h := h.2
    have en6 := beq_true h.1
    subst en6
    replace h := h.2
    have en7 := beq_true h.1
    subst en7
    replace h := h.2
    have en8 := beq_true h.1
    subst en8
    replace h := h.2
    have en9 := beq_true h.1
    subst en9
    replace h := h.2
    have en10 := beq_true h
    subst en10
    rfl
  · cases h
def g12Sb11b_c0 (A : Ar) (x0 : Int) : Bool := g12Sb11b_is0 (g12Sb11b_v A x0)
def g12Sb11b_r0_0 (A : Ar) (x0 : Int) : Nat := g12Sb11b_g0_0 (g12Sb11b_v A x0)
def g12Sb11b_r0_1 (A : Ar) (x0 : Int) : Nat := g12Sb11b_g0_1 (g12Sb11b_v A x0)
def g12Sb11b_r0_2 (A : Ar) (x0 : Int) : List Nat := g12Sb11b_g0_2 (g12Sb11b_v A x0)
def g12Sb11b_G (A : Ar) (sl : Slots) (vs : List AV) (h : Heap) : Option (GL (Ex × Heap)) := match sl, vs, h with
  | [(n0, .v (.cell (.ptr n1 n2 none))), (n3, .v (.cell (.ptr n4 n5 none))), (n6, .fn n7 [] [(.cell (.ptr n8 n9 none)), (.cell (.ptr n10 n11 none)), (.cell (.ptr n12 n13 none))])], [.v (.cell (.int .i64 x0))], [(n14, ⟨[.one .nilp, .one .nils], n15, n16⟩), (n17, ⟨[.one .nils], n18, n19⟩)] => match Nat.beq n0 4 && (Nat.beq n1 410 && (Nat.beq n2 0 && (Nat.beq n3 8 && (Nat.beq n4 411 && (Nat.beq n5 0 && (Nat.beq n6 25 && (Nat.beq n7 32 && (Nat.beq n8 412 && (Nat.beq n9 0 && (Nat.beq n10 413 && (Nat.beq n11 0 && (Nat.beq n12 414 && (Nat.beq n13 0 && (Nat.beq n14 410 && (Nat.beq n15 36 && (Nat.beq n16 1 && (Nat.beq n17 411 && (Nat.beq n18 34 && (Nat.beq n19 1))))))))))))))))))) with
    | true => some [(g12Sb11b_c0 A x0, some (.normal, [(410, ⟨[.one .nilp, .one .nils], 36, 1⟩), (411, ⟨[.one (.sl 13004 none (g12Sb11b_r0_0 A x0) 1)], 34, 1⟩), (13004, ⟨[.nums .u8 (g12Sb11b_r0_1 A x0) (g12Sb11b_r0_2 A x0)], 5, 2⟩)]))]
    | false => none
  | _, _, _ => none
theorem g12Sb11b_G_sound {sl : Slots} {vs : List AV} {h : Heap} {l : GL (Ex × Heap)} (hg : g12Sb11b_G realA sl vs h = some l) {ex : Ex} {g' : Heap} (hl : pickG l = some (ex, g')) : BodyH Tryd.prog Tryd.f12.ntmps (rfAs (rfOf 0 (bodyOf Tryd.f12))) (rfBd (rfOf 0 (bodyOf Tryd.f12))) (rfPs (rfOf 0 (bodyOf Tryd.f12))).toList sl vs h ex g' := by
  unfold g12Sb11b_G at hg
  split at hg
  · rename_i n0 n1 n2 n3 n4 n5 n6 n7 n8 n9 n10 n11 n12 n13 x0 n14 n15 n16 n17 n18 n19
    split at hg
    case h_2 => cases hg
    rename_i hc0
    simp only [Bool.and_eq_true] at hc0
    have en0 := beq_true hc0.1
    subst en0
    replace hc0 := hc0.2
    have en1 := beq_true hc0.1
    subst en1
    replace hc0 := hc0.2
    have en2 := beq_true hc0.1
    subst en2
    replace hc0 := hc0.2
    have en3 := beq_true hc0.1
    subst en3
    replace hc0 := hc0.2
    have en4 := beq_true hc0.1
    subst en4
    replace hc0 := hc0.2
    have en5 := beq_true hc0.1
    subst en5
    replace hc0 := hc0.2
    have en6 := beq_true hc0.1
    subst en6
    replace hc0 := hc0.2
    have en7 := beq_true hc0.1
    subst en7
    replace hc0 := hc0.2
    have en8 := beq_true hc0.1
    subst en8
    replace hc0 := hc0.2
    have en9 := beq_true hc0.1
    subst en9
    replace hc0 := hc0.2
    have en10 := beq_true hc0.1
    subst en10
    replace hc0 := hc0.2
    have en11 := beq_true hc0.1
    subst en11
    replace hc0 := hc0.2
    have en12 := beq_true hc0.1
    subst en12
    replace hc0 := hc0.2
    have en13 := beq_true hc0.1
    subst en13
    replace hc0 := hc0.2
    have en14 := beq_true hc0.1
    subst en14
    replace hc0 := hc0.2
    have en15 := beq_true hc0.1
    subst en15
    replace hc0 := hc0.2
    have en16 := beq_true hc0.1
    subst en16
    replace hc0 := hc0.2
    have en17 := beq_true hc0.1
    subst en17
    replace hc0 := hc0.2
    have en18 := beq_true hc0.1
    subst en18
    replace hc0 := hc0.2
    have en19 := beq_true hc0
    subst en19
    simp only [Option.some.injEq] at hg
    subst hg
    rcases pickG_cons hl with ⟨hc, hl⟩ | hl
    · simp only [Option.some.injEq, Prod.mk.injEq] at hl
      obtain ⟨rfl, rfl⟩ := hl
      exact bodyH_of2 mixed gtysOK g12Sb11b_O_sound g12Sb11b_O_det (an := g12Sb11b_an) (cut := g12Sb11b_cut) (bs := [410, 411, 13004]) (by kernel_rfl) (by kernel_rfl) (by kernel_rfl) (by kernel_rfl) (by kernel_rfl) (by kernel_rfl) (show g12Sb11b_v realA x0 = _ from g12Sb11b_is0_spec hc) fun _ st => g12Sb11b__go st
    cases hl
  · cases hg
def g12Sb11c_O (A : Ar) : Orc := orcOf []
theorem g12Sb11c_O_sound : OSound Tryd.prog (g12Sb11c_O realA) := orc_sound fun f g hm args v hv => by
  cases hm
theorem g12Sb11c_O_det : ODet (g12Sb11c_O realA) := orc_det _
def g12Sb11c_an : Ann := [(11, ([8, 26], [410, 411, 500])), (12, ([8, 9], [410, 411, 500])), (1000003, ([9002], [500])), (1000009, ([9002], [500])), (3000011, ([2000, 10000, 11001, 11501, 11502, 500], [410, 411, 412, 413, 414, 415]))]
def g12Sb11c_cut : List Nat := []
noncomputable def g12Sb11c_N {R : Type} (A : Ar) (kk : Ex → Heap → Option R) (t : List Bool → St → Option R) (p : List Bool) (s : St) : Option R := nodeN A gtys (g12Sb11c_O A) g12Sb11c_an g12Sb11c_cut t g12SC11 (bdP [410, 411, 500] kk) p s
def g12Sb11c_ {R : Type} (A : Ar) (n : Nat) (kk : Ex → Heap → Option R) (x0 : Int) (x1 x2 : Nat) (x3 : List Nat) : Option R :=
  match A.eq x1 (x2 + 0) with
  | true => match A.le ((x3 ++ ([A.i2n .u8 x0].take 1)).length) 140737488355328 with
    | true => kk .normal [(410, ⟨[.one .nilp, .one .nils], 36, 1⟩), (411, ⟨[.one (.sl 500 none ((x3 ++ ([A.i2n .u8 x0].take 1)).length) 1)], 34, 1⟩), (500, ⟨[.nums .u8 ((x3 ++ ([A.i2n .u8 x0].take 1)).length) (x3 ++ ([A.i2n .u8 x0].take 1))], 5, 2⟩)]
    | false => none
  | false => none
section
variable {R : Type} {A : Ar} {n : Nat} {kk : Ex → Heap → Option R} {tb : Nat → List Bool → St → Option R} (st : Stp (g12Sb11c_N A kk) tb)
include st
theorem g12Sb11c__go {x0 : Int} {x1 : Nat} {x2 : Nat} {x3 : List Nat} : Prs (fun k => codeN A gtys (g12Sb11c_O A) g12Sb11c_an g12Sb11c_cut (tb k) [] g12SC11 (bdP [410, 411, 500] kk) ⟨zipS [26] [(i6 x0)] ++ [(4, (pT 410 0)), (8, (pT 411 0)), (25, (.fn 32 [] [(.cell (.ptr 412 0 none)), (.cell (.ptr 413 0 none)), (.cell (.ptr 414 0 none))]))], [(410, ⟨[.one .nilp, .one .nils], 36, 1⟩), (411, ⟨[.one (.sl 500 none x1 1)], 34, 1⟩), (500, ⟨[.nums .u8 x2 x3], 5, 2⟩)]⟩ ) (g12Sb11c_ A n kk x0 x1 x2 x3) := by
  unfold g12Sb11c_
  exact pc (SxP07kpi _ (SxP07kpi _ (pf _) pn) pn) (by kernel_rfl)
end
def g12Sb11c_v (A : Ar) (x0 : Int) (x1 x2 : Nat) (x3 : List Nat) : Option (Ex × Heap) := g12Sb11c_ A (10000000) (fun ex h => some (ex, h)) x0 x1 x2 x3
def g12Sb11c_is0 (o : Option (Ex × Heap)) : Bool := match o with
  | some (.normal, [(n0, ⟨[.one .nilp, .one .nils], n1, n2⟩), (n3, ⟨[.one (.sl n4 none _ n5)], n6, n7⟩), (n8, ⟨[.nums .u8 _ _], n9, n10⟩)]) => Nat.beq n0 410 && (Nat.beq n1 36 && (Nat.beq n2 1 && (Nat.beq n3 411 && (Nat.beq n4 500 && (Nat.beq n5 1 && (Nat.beq n6 34 && (Nat.beq n7 1 && (Nat.beq n8 500 && (Nat.beq n9 5 && (Nat.beq n10 2))))))))))
  | _ => false
def g12Sb11c_g0_0 (o : Option (Ex × Heap)) : Nat := match o with
  | some (.normal, [(_, ⟨[.one .nilp, .one .nils], _, _⟩), (_, ⟨[.one (.sl _ none x _)], _, _⟩), (_, ⟨[.nums .u8 _ _], _, _⟩)]) => x
  | _ => 0
def g12Sb11c_g0_1 (o : Option (Ex × Heap)) : Nat := match o with
  | some (.normal, [(_, ⟨[.one .nilp, .one .nils], _, _⟩), (_, ⟨[.one (.sl _ none _ _)], _, _⟩), (_, ⟨[.nums .u8 x _], _, _⟩)]) => x
  | _ => 0
def g12Sb11c_g0_2 (o : Option (Ex × Heap)) : List Nat := match o with
  | some (.normal, [(_, ⟨[.one .nilp, .one .nils], _, _⟩), (_, ⟨[.one (.sl _ none _ _)], _, _⟩), (_, ⟨[.nums .u8 _ x], _, _⟩)]) => x
  | _ => []
theorem g12Sb11c_is0_spec {o : Option (Ex × Heap)} (h : g12Sb11c_is0 o = true) : o = some (.normal, [(410, ⟨[.one .nilp, .one .nils], 36, 1⟩), (411, ⟨[.one (.sl 500 none (g12Sb11c_g0_0 o) 1)], 34, 1⟩), (500, ⟨[.nums .u8 (g12Sb11c_g0_1 o) (g12Sb11c_g0_2 o)], 5, 2⟩)]) := by
  unfold g12Sb11c_is0 at h
  split at h
  · rename_i n0 n1 n2 n3 n4 z5 n5 n6 n7 n8 z10 z11 n9 n10
    simp only [Bool.and_eq_true] at h
    have en0 := beq_true h.1
    subst en0
    replace h := h.2
    have en1 := beq_true h.1
    subst en1
    replace h := h.2
    have en2 := beq_true h.1
    subst en2
    replace h := h.2
    have en3 := beq_true h.1
    subst en3
    replace h := h.2
    have en4 := beq_true h.1
    subst en4
    replace h := h.2
    have en5 := beq_true h.1
    subst en5
    replace h := h.2
    have en6 := beq_true h.1
    subst en6
    replace h := h.2
    have en7 := beq_true h.1
    subst en7
    replace h := h.2
    have en8 := beq_true h.1
    subst en8
    replace h := h.2
    have en9 := beq_true h.1
    subst en9
    replace h := h.2
    have en10 := beq_true h
    subst en10
    rfl
  · cases h
def g12Sb11c_c0 (A : Ar) (x0 : Int) (x1 x2 : Nat) (x3 : List Nat) : Bool := g12Sb11c_is0 (g12Sb11c_v A x0 x1 x2 x3)
def g12Sb11c_r0_0 (A : Ar) (x0 : Int) (x1 x2 : Nat) (x3 : List Nat) : Nat := g12Sb11c_g0_0 (g12Sb11c_v A x0 x1 x2 x3)
def g12Sb11c_r0_1 (A : Ar) (x0 : Int) (x1 x2 : Nat) (x3 : List Nat) : Nat := g12Sb11c_g0_1 (g12Sb11c_v A x0 x1 x2 x3)
def g12Sb11c_r0_2 (A : Ar) (x0 : Int) (x1 x2 : Nat) (x3 : List Nat) : List Nat := g12Sb11c_g0_2 (g12Sb11c_v A x0 x1 x2 x3)
def g12Sb11c_G (A : Ar) (sl : Slots) (vs : List AV) (h : Heap) : Option (GL (Ex × Heap)) := match sl, vs, h with
  | [(n0, .v (.cell (.ptr n1 n2 none))), (n3, .v (.cell (.ptr n4 n5 none))), (n6, .fn n7 [] [(.cell (.ptr n8 n9 none)), (.cell (.ptr n10 n11 none)), (.cell (.ptr n12 n13 none))])], [.v (.cell (.int .i64 x0))], [(n14, ⟨[.one .nilp, .one .nils], n15, n16⟩), (n17, ⟨[.one (.sl n18 none x1 n19)], n20, n21⟩), (n22, ⟨[.nums .u8 x2 x3], n23, n24⟩)] => match Nat.beq n0 4 && (Nat.beq n1 410 && (Nat.beq n2 0 && (Nat.beq n3 8 && (Nat.beq n4 411 && (Nat.beq n5 0 && (Nat.beq n6 25 && (Nat.beq n7 32 && (Nat.beq n8 412 && (Nat.beq n9 0 && (Nat.beq n10 413 && (Nat.beq n11 0 && (Nat.beq n12 414 && (Nat.beq n13 0 && (Nat.beq n14 410 && (Nat.beq n15 36 && (Nat.beq n16 1 && (Nat.beq n17 411 && (Nat.beq n18 500 && (Nat.beq n19 1 && (Nat.beq n20 34 && (Nat.beq n21 1 && (Nat.beq n22 500 && (Nat.beq n23 5 && (Nat.beq n24 2)))))))))))))))))))))))) with
    | true => some [(g12Sb11c_c0 A x0 x1 x2 x3, some (.normal, [(410, ⟨[.one .nilp, .one .nils], 36, 1⟩), (411, ⟨[.one (.sl 500 none (g12Sb11c_r0_0 A x0 x1 x2 x3) 1)], 34, 1⟩), (500, ⟨[.nums .u8 (g12Sb11c_r0_1 A x0 x1 x2 x3) (g12Sb11c_r0_2 A x0 x1 x2 x3)], 5, 2⟩)]))]
    | false => none
  | _, _, _ => none
theorem g12Sb11c_G_sound {sl : Slots} {vs : List AV} {h : Heap} {l : GL (Ex × Heap)} (hg : g12Sb11c_G realA sl vs h = some l) {ex : Ex} {g' : Heap} (hl : pickG l = some (ex, g')) : BodyH Tryd.prog Tryd.f12.ntmps (rfAs (rfOf 0 (bodyOf Tryd.f12))) (rfBd (rfOf 0 (bodyOf Tryd.f12))) (rfPs (rfOf 0 (bodyOf Tryd.f12))).toList sl vs h ex g' := by
  unfold g12Sb11c_G at hg
  split at hg
  · rename_i n0 n1 n2 n3 n4 n5 n6 n7 n8 n9 n10 n11 n12 n13 x0 n14 n15 n16 n17 n18 x1 n19 n20 n21 n22 x2 x3 n23 n24
    split at hg
    case h_2 => cases hg
    rename_i hc0
    simp only [Bool.and_eq_true] at hc0
    have en0 := beq_true hc0.1
    subst en0
    replace hc0 := hc0.2
    have en1 := beq_true hc0.1
    subst en1
    replace hc0 := hc0.2
    have en2 := beq_true hc0.1
    subst en2
    replace hc0 := hc0.2
    have en3 := beq_true hc0.1
    subst en3
    replace hc0 := hc0.2
    have en4 := beq_true hc0.1
    subst en4
    replace hc0 := hc0.2
    have en5 := beq_true hc0.1
    subst en5
    replace hc0 := hc0.2
    have en6 := beq_true hc0.1
    subst en6
    replace hc0 := hc0.2
    have en7 := beq_true hc0.1
    subst en7
    replace hc0 := hc0.2
    have en8 := beq_true hc0.1
    subst en8
    replace hc0 := hc0.2
    have en9 := beq_true hc0.1
    subst en9
    replace hc0 := hc0.2
    have en10 := beq_true hc0.1
    subst en10
    replace hc0 := hc0.2
    have en11 := beq_true hc0.1
    subst en11
    replace hc0 := hc0.2
    have en12 := beq_true hc0.1
    subst en12
    replace hc0 := hc0.2
    have en13 := beq_true hc0.1
    subst en13
    replace hc0 := hc0.2
    have en14 := beq_true hc0.1
    subst en14
    replace hc0 := hc0.2
    have en15 := beq_true hc0.1
    subst en15
    replace hc0 := hc0.2
    have en16 := beq_true hc0.1
    subst en16
    replace hc0 := hc0.2
    have en17 := beq_true hc0.1
    subst en17
    replace hc0 := hc0.2
    have en18 := beq_true hc0.1
    subst en18
    replace hc0 := hc0.2
    have en19 := beq_true hc0.1
    subst en19
    replace hc0 := hc0.2
    have en20 := beq_true hc0.1
    subst en20
    replace hc0 := hc0.2
    have en21 := beq_true hc0.1
    subst en21
    replace hc0 := hc0.2
    have en22 := beq_true hc0.1
    subst en22
    replace hc0 := hc0.2
    have en23 := beq_true hc0.1
    subst en23
    replace hc0 := hc0.2
    have en24 := beq_true hc0
    subst en24
    simp only [Option.some.injEq] at hg
    subst hg
    rcases pickG_cons hl with ⟨hc, hl⟩ | hl
    · simp only [Option.some.injEq, Prod.mk.injEq] at hl
      obtain ⟨rfl, rfl⟩ := hl
      exact bodyH_of2 mixed gtysOK g12Sb11c_O_sound g12Sb11c_O_det (an := g12Sb11c_an) (cut := g12Sb11c_cut) (bs := [410, 411, 500]) (by kernel_rfl) (by kernel_rfl) (by kernel_rfl) (by kernel_rfl) (by kernel_rfl) (by kernel_rfl) (show g12Sb11c_v realA x0 x1 x2 x3 = _ from g12Sb11c_is0_spec hc) fun _ st => g12Sb11c__go st
    cases hl
  · cases hg
def g12SB11 (A : Ar) (sl : Slots) (vs : List AV) (h : Heap) : GL (Ex × Heap) := match g12Sb11G A sl vs h with
    | some l => l
    | none => match g12Sb11a_G A sl vs h with
    | some l => l
    | none => match g12Sb11b_G A sl vs h with
    | some l => l
    | none => match g12Sb11c_G A sl vs h with
    | some l => l
    | none => []
theorem g12SB11_sound {sl : Slots} {vs : List AV} {h : Heap} {ex : Ex} {g' : Heap} (hl : pickG (g12SB11 realA sl vs h) = some (ex, g')) : BodyH Tryd.prog Tryd.f12.ntmps (rfAs (rfOf 0 (bodyOf Tryd.f12))) (rfBd (rfOf 0 (bodyOf Tryd.f12))) (rfPs (rfOf 0 (bodyOf Tryd.f12))).toList sl vs h ex g' := by
  unfold g12SB11 at hl
  split at hl
  · rename_i l hg
    exact g12Sb11G_sound hg hl
  split at hl
  · rename_i l hg
    exact g12Sb11a_G_sound hg hl
  split at hl
  · rename_i l hg
    exact g12Sb11b_G_sound hg hl
  split at hl
  · rename_i l hg
    exact g12Sb11c_G_sound hg hl
  cases hl
def g12Si11BO (A : Ar) : Orc := orcOf []
theorem g12Si11BO_sound : OSound Tryd.prog (g12Si11BO realA) := orc_sound fun f g hm args v hv => by
  cases hm
theorem g12Si11BO_det : ODet (g12Si11BO realA) := orc_det _
def g12Si11U (A : Ar) (sl : Slots) : Orc := { g12Si11BO A with ylg := yRoundG [412, 413, 414, 448] 1 (g12SB11 A sl), tk := true, pb := 450 }
def g12Si11O (A : Ar) : Orc := g12Si11U A [(4, (pT 410 0)), (8, (pT 411 0)), (25, (.fn 32 [] [(.cell (.ptr 412 0 none)), (.cell (.ptr 413 0 none)), (.cell (.ptr 414 0 none))]))]
def g12Si11an : Ann := [(0, ([0, 1, 2, 3], [410, 411, 412, 413, 414, 415, 448])), (1, ([0, 1, 2, 3, 5, 6], [410, 411, 412, 413, 414, 415, 448])), (2, ([0, 1, 2, 3, 5, 6, 9, 10], [410, 411, 412, 413, 414, 415, 448, 500])), (3, ([0, 1, 2, 3, 5, 6, 9, 10], [410, 411, 412, 413, 414, 415, 448, 500])), (4, ([0, 1, 2, 3, 5, 6, 7, 9, 10], [410, 411, 412, 413, 414, 415, 448, 500])), (5, ([0, 1, 2, 3, 5, 6, 9, 10], [410, 411, 412, 413, 414, 415, 448, 500, 13004])), (6, ([0, 1, 2, 3, 5, 6, 9, 10], [410, 411, 412, 413, 414, 415, 448, 500])), (7, ([0, 1, 2, 3, 5, 6, 9, 10], [410, 411, 412, 413, 414, 415, 448, 500])), (8, ([0, 1, 2, 3, 5, 6, 9, 10], [410, 411, 412, 413, 414, 415, 448, 500])), (9, ([0, 1, 2, 3, 5, 6, 9, 10], [410, 411, 412, 413, 414, 415, 448, 500])), (10, ([0, 3, 5, 6], [410, 411, 412, 413, 414, 415, 448, 500])), (11, ([0, 3, 5, 6], [410, 411, 412, 413, 414, 415, 448, 500])), (1000002, ([5002, 13004], [500, 500])), (1000005, ([5002, 13004], [500, 500]))]
def g12Si11res : List ResultVar := []
def g12Si11cut : List Nat := [3, 6, 8, 10]
abbrev g12Si11t0 (A : Ar) (x0 x1 : Int) (x4 x5 : Nat) (x8 : Int) (x9 : Nat) (x10 : List Nat) (x11 : Nat) (x12 : List Nat) : Nat := g12Sb11a_r0_0 A (A.ib .and .i64 (A.ish .shr .i64 x1 (A.toN (A.ib .sub .i64 x0 x8))) (A.ib .sub .i64 (A.ish .shl .i64 1 (A.toN x8)) 1)) x4 x5 x9 x10 x11 x12
abbrev g12Si11t1 (A : Ar) (x0 x1 : Int) (x4 x5 : Nat) (x8 : Int) (x9 : Nat) (x10 : List Nat) (x11 : Nat) (x12 : List Nat) : Nat := g12Sb11a_r0_1 A (A.ib .and .i64 (A.ish .shr .i64 x1 (A.toN (A.ib .sub .i64 x0 x8))) (A.ib .sub .i64 (A.ish .shl .i64 1 (A.toN x8)) 1)) x4 x5 x9 x10 x11 x12
abbrev g12Si11t2 (A : Ar) (x0 x1 : Int) (x4 x5 : Nat) (x8 : Int) (x9 : Nat) (x10 : List Nat) (x11 : Nat) (x12 : List Nat) : Nat := g12Sb11a_r0_2 A (A.ib .and .i64 (A.ish .shr .i64 x1 (A.toN (A.ib .sub .i64 x0 x8))) (A.ib .sub .i64 (A.ish .shl .i64 1 (A.toN x8)) 1)) x4 x5 x9 x10 x11 x12
abbrev g12Si11t3 (A : Ar) (x0 x1 : Int) (x4 x5 : Nat) (x8 : Int) (x9 : Nat) (x10 : List Nat) (x11 : Nat) (x12 : List Nat) : List Nat := g12Sb11a_r0_3 A (A.ib .and .i64 (A.ish .shr .i64 x1 (A.toN (A.ib .sub .i64 x0 x8))) (A.ib .sub .i64 (A.ish .shl .i64 1 (A.toN x8)) 1)) x4 x5 x9 x10 x11 x12
abbrev g12Si11t4 (A : Ar) (x0 x1 : Int) (x4 x5 : Nat) (x8 : Int) (x9 : Nat) (x10 : List Nat) (x11 : Nat) (x12 : List Nat) : Nat := g12Sb11a_r0_4 A (A.ib .and .i64 (A.ish .shr .i64 x1 (A.toN (A.ib .sub .i64 x0 x8))) (A.ib .sub .i64 (A.ish .shl .i64 1 (A.toN x8)) 1)) x4 x5 x9 x10 x11 x12
abbrev g12Si11t5 (A : Ar) (x0 x1 : Int) (x4 x5 : Nat) (x8 : Int) (x9 : Nat) (x10 : List Nat) (x11 : Nat) (x12 : List Nat) : List Nat := g12Sb11a_r0_5 A (A.ib .and .i64 (A.ish .shr .i64 x1 (A.toN (A.ib .sub .i64 x0 x8))) (A.ib .sub .i64 (A.ish .shl .i64 1 (A.toN x8)) 1)) x4 x5 x9 x10 x11 x12
abbrev g12Si11t6 (A : Ar) (x0 x1 : Int) (x2 x3 : Nat) (x6 : Int) (x7 : Nat) (x8 : List Nat) (x9 : Nat) (x10 : List Nat) : Nat := g12Sb11a_r0_0 A (A.ib .and .i64 (A.ish .shl .i64 x1 (A.toN (A.ib .sub .i64 x6 x0))) (A.ib .sub .i64 (A.ish .shl .i64 1 (A.toN x6)) 1)) x2 x3 x7 x8 x9 x10
abbrev g12Si11t7 (A : Ar) (x0 x1 : Int) (x2 x3 : Nat) (x6 : Int) (x7 : Nat) (x8 : List Nat) (x9 : Nat) (x10 : List Nat) : Nat := g12Sb11a_r0_1 A (A.ib .and .i64 (A.ish .shl .i64 x1 (A.toN (A.ib .sub .i64 x6 x0))) (A.ib .sub .i64 (A.ish .shl .i64 1 (A.toN x6)) 1)) x2 x3 x7 x8 x9 x10
abbrev g12Si11t8 (A : Ar) (x0 x1 : Int) (x2 x3 : Nat) (x6 : Int) (x7 : Nat) (x8 : List Nat) (x9 : Nat) (x10 : List Nat) : Nat := g12Sb11a_r0_2 A (A.ib .and .i64 (A.ish .shl .i64 x1 (A.toN (A.ib .sub .i64 x6 x0))) (A.ib .sub .i64 (A.ish .shl .i64 1 (A.toN x6)) 1)) x2 x3 x7 x8 x9 x10
abbrev g12Si11t9 (A : Ar) (x0 x1 : Int) (x2 x3 : Nat) (x6 : Int) (x7 : Nat) (x8 : List Nat) (x9 : Nat) (x10 : List Nat) : List Nat := g12Sb11a_r0_3 A (A.ib .and .i64 (A.ish .shl .i64 x1 (A.toN (A.ib .sub .i64 x6 x0))) (A.ib .sub .i64 (A.ish .shl .i64 1 (A.toN x6)) 1)) x2 x3 x7 x8 x9 x10
abbrev g12Si11t10 (A : Ar) (x0 x1 : Int) (x2 x3 : Nat) (x6 : Int) (x7 : Nat) (x8 : List Nat) (x9 : Nat) (x10 : List Nat) : Nat := g12Sb11a_r0_4 A (A.ib .and .i64 (A.ish .shl .i64 x1 (A.toN (A.ib .sub .i64 x6 x0))) (A.ib .sub .i64 (A.ish .shl .i64 1 (A.toN x6)) 1)) x2 x3 x7 x8 x9 x10
abbrev g12Si11t11 (A : Ar) (x0 x1 : Int) (x2 x3 : Nat) (x6 : Int) (x7 : Nat) (x8 : List Nat) (x9 : Nat) (x10 : List Nat) : List Nat := g12Sb11a_r0_5 A (A.ib .and .i64 (A.ish .shl .i64 x1 (A.toN (A.ib .sub .i64 x6 x0))) (A.ib .sub .i64 (A.ish .shl .i64 1 (A.toN x6)) 1)) x2 x3 x7 x8 x9 x10
noncomputable def g12Si11N {R : Type} (A : Ar) (kk : AV → Heap → Option R) (t : List Bool → St → Option R) (p : List Bool) (s : St) : Option R := nodeN A gtys (g12Si11O A) g12Si11an g12Si11cut t (bodyOf Tryd.f32) (finD gtys g12Si11res kk) p s
def g12Si11J6as (x0 x1 : Int) (x2 x3 : Int) (x4 x5 : Nat) (x6 : List Nat) (x7 x8 : Int) (x9 : Nat) (x10 : List Nat) (x11 : Nat) (x12 : List Nat) : St := ⟨[(0, (.yld 449)), (1, (pT 412 0)), (2, (pT 413 0)), (3, (pT 414 0)), (5, (i6 x0)), (6, (i6 x1)), (9, (i6 x2)), (10, (i6 x3))], [(410, ⟨[.one (.ptr 410 0 none), .one (.sl 415 none x4 1)], 36, 1⟩), (411, ⟨[.one (.sl 500 none x5 1)], 34, 1⟩), (412, ⟨[.one (.str x6)], 9, 1⟩), (413, ⟨[.one (.int .i64 x7)], 3, 1⟩), (414, ⟨[.one (.int .i64 x8)], 3, 1⟩), (415, ⟨[.nums .u8 x9 x10], 5, 0⟩), (448, ⟨[], 0, 0⟩), (500, ⟨[.nums .u8 x11 x12], 5, 2⟩)]⟩
def g12Si11J6a {R : Type} (A : Ar) (n : Nat) (kk : AV → Heap → Option R) (lg12Si11L5a : Int → Int → Int → Int → Nat → Nat → List Nat → Int → Int → Nat → List Nat → Nat → List Nat → Option R) (x0 x1 : Int) (x2 x3 : Int) (x4 x5 : Nat) (x6 : List Nat) (x7 x8 : Int) (x9 : Nat) (x10 : List Nat) (x11 : Nat) (x12 : List Nat) : Option R :=
  match A.neg (A.ib .sub .i64 x0 x8) with
  | true => none
  | false => match A.neg x8 with
    | true => none
    | false => match g12Sb11a_c0 A (A.ib .and .i64 (A.ish .shr .i64 x1 (A.toN (A.ib .sub .i64 x0 x8))) (A.ib .sub .i64 (A.ish .shl .i64 1 (A.toN x8)) 1)) x4 x5 x9 x10 x11 x12 with
      | true => lg12Si11L5a (A.ib .sub .i64 x0 x8) x1 x2 x3 (g12Si11t0 A x0 x1 x4 x5 x8 x9 x10 x11 x12) (g12Si11t1 A x0 x1 x4 x5 x8 x9 x10 x11 x12) x6 x7 x8 (g12Si11t2 A x0 x1 x4 x5 x8 x9 x10 x11 x12) (g12Si11t3 A x0 x1 x4 x5 x8 x9 x10 x11 x12) (g12Si11t4 A x0 x1 x4 x5 x8 x9 x10 x11 x12) (g12Si11t5 A x0 x1 x4 x5 x8 x9 x10 x11 x12)
      | false => none
def g12Si11J8s (x0 x1 : Int) (x2 x3 : Int) (x4 x5 : Nat) (x6 : List Nat) (x7 x8 : Int) (x9 : Nat) (x10 : List Nat) (x11 : Nat) (x12 : List Nat) : St := ⟨[(0, (.yld 449)), (1, (pT 412 0)), (2, (pT 413 0)), (3, (pT 414 0)), (5, (i6 x0)), (6, (i6 x1)), (9, (i6 x2)), (10, (i6 x3))], [(410, ⟨[.one (.ptr 410 0 none), .one (.sl 415 none x4 1)], 36, 1⟩), (411, ⟨[.one (.sl 500 none x5 1)], 34, 1⟩), (412, ⟨[.one (.str x6)], 9, 1⟩), (413, ⟨[.one (.int .i64 x7)], 3, 1⟩), (414, ⟨[.one (.int .i64 x8)], 3, 1⟩), (415, ⟨[.nums .u8 x9 x10], 5, 0⟩), (448, ⟨[], 0, 0⟩), (500, ⟨[.nums .u8 x11 x12], 5, 2⟩)]⟩
def g12Si11J8 {R : Type} (A : Ar) (n : Nat) (kk : AV → Heap → Option R) (lg12Si11L2a : Int → Int → Int → Int → Nat → Nat → List Nat → Int → Int → Nat → List Nat → Nat → List Nat → Option R) (x0 x1 : Int) (x2 x3 : Int) (x4 x5 : Nat) (x6 : List Nat) (x7 x8 : Int) (x9 : Nat) (x10 : List Nat) (x11 : Nat) (x12 : List Nat) : Option R :=
  match A.neg x0 with
  | true => none
  | false => lg12Si11L2a x0 (A.ib .and .i64 x1 (A.ib .sub .i64 (A.ish .shl .i64 1 (A.toN x0)) 1)) x2 (A.ib .add .i64 x3 1) x4 x5 x6 x7 x8 x9 x10 x11 x12
def g12Si11L5as (x0 x1 : Int) (x2 x3 : Int) (x4 x5 : Nat) (x6 : List Nat) (x7 x8 : Int) (x9 : Nat) (x10 : List Nat) (x11 : Nat) (x12 : List Nat) : St := ⟨[(0, (.yld 449)), (1, (pT 412 0)), (2, (pT 413 0)), (3, (pT 414 0)), (5, (i6 x0)), (6, (i6 x1)), (9, (i6 x2)), (10, (i6 x3))], [(410, ⟨[.one (.ptr 410 0 none), .one (.sl 415 none x4 1)], 36, 1⟩), (411, ⟨[.one (.sl 500 none x5 1)], 34, 1⟩), (412, ⟨[.one (.str x6)], 9, 1⟩), (413, ⟨[.one (.int .i64 x7)], 3, 1⟩), (414, ⟨[.one (.int .i64 x8)], 3, 1⟩), (415, ⟨[.nums .u8 x9 x10], 5, 0⟩), (448, ⟨[], 0, 0⟩), (500, ⟨[.nums .u8 x11 x12], 5, 2⟩)]⟩
def g12Si11L5a {R : Type} (A : Ar) (n : Nat) (kk : AV → Heap → Option R) (lg12Si11L2a : Int → Int → Int → Int → Nat → Nat → List Nat → Int → Int → Nat → List Nat → Nat → List Nat → Option R) : Nat → Int → Int → Int → Int → Nat → Nat → List Nat → Int → Int → Nat → List Nat → Nat → List Nat → Option R
  | 0, _, _, _, _, _, _, _, _, _, _, _, _, _ => none
  | m + 1, x0, x1, x2, x3, x4, x5, x6, x7, x8, x9, x10, x11, x12 => match A.ic .geq x0 x8 with
  | true => g12Si11J6a A n kk (g12Si11L5a A n kk lg12Si11L2a m) x0 x1 x2 x3 x4 x5 x6 x7 x8 x9 x10 x11 x12
  | false => g12Si11J8 A n kk lg12Si11L2a x0 x1 x2 x3 x4 x5 x6 x7 x8 x9 x10 x11 x12
def g12Si11J3as (x0 x1 : Int) (x2 x3 : Int) (x4 x5 : Nat) (x6 : List Nat) (x7 x8 : Int) (x9 : Nat) (x10 : List Nat) (x11 : Nat) (x12 : List Nat) : St := ⟨[(0, (.yld 449)), (1, (pT 412 0)), (2, (pT 413 0)), (3, (pT 414 0)), (5, (i6 x0)), (6, (i6 x1)), (9, (i6 x2)), (10, (i6 x3))], [(410, ⟨[.one (.ptr 410 0 none), .one (.sl 415 none x4 1)], 36, 1⟩), (411, ⟨[.one (.sl 500 none x5 1)], 34, 1⟩), (412, ⟨[.one (.str x6)], 9, 1⟩), (413, ⟨[.one (.int .i64 x7)], 3, 1⟩), (414, ⟨[.one (.int .i64 x8)], 3, 1⟩), (415, ⟨[.nums .u8 x9 x10], 5, 0⟩), (448, ⟨[], 0, 0⟩), (500, ⟨[.nums .u8 x11 x12], 5, 2⟩)]⟩
def g12Si11J3a {R : Type} (A : Ar) (n : Nat) (kk : AV → Heap → Option R) (lg12Si11L2a : Int → Int → Int → Int → Nat → Nat → List Nat → Int → Int → Nat → List Nat → Nat → List Nat → Option R) (x0 x1 : Int) (x2 x3 : Int) (x4 x5 : Nat) (x6 : List Nat) (x7 x8 : Int) (x9 : Nat) (x10 : List Nat) (x11 : Nat) (x12 : List Nat) : Option R :=
  match A.neg x7 with
  | true => none
  | false => match A.neg x3 with
    | true => none
    | false => match A.lt (A.toN x3) x6.length with
      | true => g12Si11L5a A n kk lg12Si11L2a n (A.ib .add .i64 x0 x7) (A.ib .or .i64 (A.ish .shl .i64 x1 (A.toN x7)) (A.ofN (x6.getD (A.toN x3) 0))) x2 x3 x4 x5 x6 x7 x8 x9 x10 x11 x12
      | false => none
def g12Si11J10s (x0 x1 : Int) (x2 x3 : Nat) (x4 : List Nat) (x5 x6 : Int) (x7 : Nat) (x8 : List Nat) (x9 : Nat) (x10 : List Nat) : St := ⟨[(0, (.yld 449)), (3, (pT 414 0)), (5, (i6 x0)), (6, (i6 x1))], [(410, ⟨[.one (.ptr 410 0 none), .one (.sl 415 none x2 1)], 36, 1⟩), (411, ⟨[.one (.sl 500 none x3 1)], 34, 1⟩), (412, ⟨[.one (.str x4)], 9, 1⟩), (413, ⟨[.one (.int .i64 x5)], 3, 1⟩), (414, ⟨[.one (.int .i64 x6)], 3, 1⟩), (415, ⟨[.nums .u8 x7 x8], 5, 0⟩), (448, ⟨[], 0, 0⟩), (500, ⟨[.nums .u8 x9 x10], 5, 2⟩)]⟩
def g12Si11J10 {R : Type} (A : Ar) (n : Nat) (kk : AV → Heap → Option R)  (x0 x1 : Int) (x2 x3 : Nat) (x4 : List Nat) (x5 x6 : Int) (x7 : Nat) (x8 : List Nat) (x9 : Nat) (x10 : List Nat) : Option R :=
  match A.ic .gtr x0 0 with
  | true => match A.neg (A.ib .sub .i64 x6 x0) with
    | true => none
    | false => match A.neg x6 with
      | true => none
      | false => match g12Sb11a_c0 A (A.ib .and .i64 (A.ish .shl .i64 x1 (A.toN (A.ib .sub .i64 x6 x0))) (A.ib .sub .i64 (A.ish .shl .i64 1 (A.toN x6)) 1)) x2 x3 x7 x8 x9 x10 with
        | true => kk (.tup []) [(412, ⟨[.one (.str x4)], 9, 1⟩), (413, ⟨[.one (.int .i64 x5)], 3, 1⟩), (414, ⟨[.one (.int .i64 x6)], 3, 1⟩), (448, ⟨[], 0, 0⟩), (410, ⟨[.one (.ptr 410 0 none), .one (.sl 415 none (g12Si11t6 A x0 x1 x2 x3 x6 x7 x8 x9 x10) 1)], 36, 1⟩), (411, ⟨[.one (.sl 500 none (g12Si11t7 A x0 x1 x2 x3 x6 x7 x8 x9 x10) 1)], 34, 1⟩), (415, ⟨[.nums .u8 (g12Si11t8 A x0 x1 x2 x3 x6 x7 x8 x9 x10) (g12Si11t9 A x0 x1 x2 x3 x6 x7 x8 x9 x10)], 5, 0⟩), (500, ⟨[.nums .u8 (g12Si11t10 A x0 x1 x2 x3 x6 x7 x8 x9 x10) (g12Si11t11 A x0 x1 x2 x3 x6 x7 x8 x9 x10)], 5, 2⟩)]
        | false => none
  | false => kk (.tup []) [(410, ⟨[.one (.ptr 410 0 none), .one (.sl 415 none x2 1)], 36, 1⟩), (411, ⟨[.one (.sl 500 none x3 1)], 34, 1⟩), (412, ⟨[.one (.str x4)], 9, 1⟩), (413, ⟨[.one (.int .i64 x5)], 3, 1⟩), (414, ⟨[.one (.int .i64 x6)], 3, 1⟩), (415, ⟨[.nums .u8 x7 x8], 5, 0⟩), (448, ⟨[], 0, 0⟩), (500, ⟨[.nums .u8 x9 x10], 5, 2⟩)]
def g12Si11L2as (x0 x1 : Int) (x2 x3 : Int) (x4 x5 : Nat) (x6 : List Nat) (x7 x8 : Int) (x9 : Nat) (x10 : List Nat) (x11 : Nat) (x12 : List Nat) : St := ⟨[(0, (.yld 449)), (1, (pT 412 0)), (2, (pT 413 0)), (3, (pT 414 0)), (5, (i6 x0)), (6, (i6 x1)), (9, (i6 x2)), (10, (i6 x3))], [(410, ⟨[.one (.ptr 410 0 none), .one (.sl 415 none x4 1)], 36, 1⟩), (411, ⟨[.one (.sl 500 none x5 1)], 34, 1⟩), (412, ⟨[.one (.str x6)], 9, 1⟩), (413, ⟨[.one (.int .i64 x7)], 3, 1⟩), (414, ⟨[.one (.int .i64 x8)], 3, 1⟩), (415, ⟨[.nums .u8 x9 x10], 5, 0⟩), (448, ⟨[], 0, 0⟩), (500, ⟨[.nums .u8 x11 x12], 5, 2⟩)]⟩
def g12Si11L2a {R : Type} (A : Ar) (n : Nat) (kk : AV → Heap → Option R)  : Nat → Int → Int → Int → Int → Nat → Nat → List Nat → Int → Int → Nat → List Nat → Nat → List Nat → Option R
  | 0, _, _, _, _, _, _, _, _, _, _, _, _, _ => none
  | m + 1, x0, x1, x2, x3, x4, x5, x6, x7, x8, x9, x10, x11, x12 => match A.ic .lss x3 x2 with
  | true => g12Si11J3a A n kk (g12Si11L2a A n kk  m) x0 x1 x2 x3 x4 x5 x6 x7 x8 x9 x10 x11 x12
  | false => g12Si11J10 A n kk  x0 x1 x4 x5 x6 x7 x8 x9 x10 x11 x12
def g12Si11J6s (x0 x1 : Int) (x2 x3 : Int) (x4 : Nat) (x5 : List Nat) (x6 x7 : Int) (x8 : Nat) (x9 : List Nat) : St := ⟨[(0, (.yld 449)), (1, (pT 412 0)), (2, (pT 413 0)), (3, (pT 414 0)), (5, (i6 x0)), (6, (i6 x1)), (9, (i6 x2)), (10, (i6 x3))], [(410, ⟨[.one (.ptr 410 0 none), .one (.sl 415 none x4 1)], 36, 1⟩), (411, ⟨[.one .nils], 34, 1⟩), (412, ⟨[.one (.str x5)], 9, 1⟩), (413, ⟨[.one (.int .i64 x6)], 3, 1⟩), (414, ⟨[.one (.int .i64 x7)], 3, 1⟩), (415, ⟨[.nums .u8 x8 x9], 5, 0⟩), (448, ⟨[], 0, 0⟩)]⟩
def g12Si11J6 {R : Type} (A : Ar) (n : Nat) (kk : AV → Heap → Option R) (lg12Si11L5a : Int → Int → Int → Int → Nat → Nat → List Nat → Int → Int → Nat → List Nat → Nat → List Nat → Option R) (x0 x1 : Int) (x2 x3 : Int) (x4 : Nat) (x5 : List Nat) (x6 x7 : Int) (x8 : Nat) (x9 : List Nat) : Option R :=
  match A.neg (A.ib .sub .i64 x0 x7) with
  | true => none
  | false => match A.neg x7 with
    | true => none
    | false => match g12Sb11c0 A (A.ib .and .i64 (A.ish .shr .i64 x1 (A.toN (A.ib .sub .i64 x0 x7))) (A.ib .sub .i64 (A.ish .shl .i64 1 (A.toN x7)) 1)) x4 x8 x9 with
      | true => lg12Si11L5a (A.ib .sub .i64 x0 x7) x1 x2 x3 (g12Sb11r0_0 A (A.ib .and .i64 (A.ish .shr .i64 x1 (A.toN (A.ib .sub .i64 x0 x7))) (A.ib .sub .i64 (A.ish .shl .i64 1 (A.toN x7)) 1)) x4 x8 x9) (g12Sb11r0_1 A (A.ib .and .i64 (A.ish .shr .i64 x1 (A.toN (A.ib .sub .i64 x0 x7))) (A.ib .sub .i64 (A.ish .shl .i64 1 (A.toN x7)) 1)) x4 x8 x9) x5 x6 x7 (g12Sb11r0_2 A (A.ib .and .i64 (A.ish .shr .i64 x1 (A.toN (A.ib .sub .i64 x0 x7))) (A.ib .sub .i64 (A.ish .shl .i64 1 (A.toN x7)) 1)) x4 x8 x9) (g12Sb11r0_3 A (A.ib .and .i64 (A.ish .shr .i64 x1 (A.toN (A.ib .sub .i64 x0 x7))) (A.ib .sub .i64 (A.ish .shl .i64 1 (A.toN x7)) 1)) x4 x8 x9) (g12Sb11r0_4 A (A.ib .and .i64 (A.ish .shr .i64 x1 (A.toN (A.ib .sub .i64 x0 x7))) (A.ib .sub .i64 (A.ish .shl .i64 1 (A.toN x7)) 1)) x4 x8 x9) (g12Sb11r0_5 A (A.ib .and .i64 (A.ish .shr .i64 x1 (A.toN (A.ib .sub .i64 x0 x7))) (A.ib .sub .i64 (A.ish .shl .i64 1 (A.toN x7)) 1)) x4 x8 x9)
      | false => none
def g12Si11J8as (x0 x1 : Int) (x2 x3 : Int) (x4 : Nat) (x5 : List Nat) (x6 x7 : Int) (x8 : Nat) (x9 : List Nat) : St := ⟨[(0, (.yld 449)), (1, (pT 412 0)), (2, (pT 413 0)), (3, (pT 414 0)), (5, (i6 x0)), (6, (i6 x1)), (9, (i6 x2)), (10, (i6 x3))], [(410, ⟨[.one (.ptr 410 0 none), .one (.sl 415 none x4 1)], 36, 1⟩), (411, ⟨[.one .nils], 34, 1⟩), (412, ⟨[.one (.str x5)], 9, 1⟩), (413, ⟨[.one (.int .i64 x6)], 3, 1⟩), (414, ⟨[.one (.int .i64 x7)], 3, 1⟩), (415, ⟨[.nums .u8 x8 x9], 5, 0⟩), (448, ⟨[], 0, 0⟩)]⟩
def g12Si11J8a {R : Type} (A : Ar) (n : Nat) (kk : AV → Heap → Option R) (lg12Si11L2 : Int → Int → Int → Int → Nat → List Nat → Int → Int → Nat → List Nat → Option R) (x0 x1 : Int) (x2 x3 : Int) (x4 : Nat) (x5 : List Nat) (x6 x7 : Int) (x8 : Nat) (x9 : List Nat) : Option R :=
  match A.neg x0 with
  | true => none
  | false => lg12Si11L2 x0 (A.ib .and .i64 x1 (A.ib .sub .i64 (A.ish .shl .i64 1 (A.toN x0)) 1)) x2 (A.ib .add .i64 x3 1) x4 x5 x6 x7 x8 x9
def g12Si11L5s (x0 x1 : Int) (x2 x3 : Int) (x4 : Nat) (x5 : List Nat) (x6 x7 : Int) (x8 : Nat) (x9 : List Nat) : St := ⟨[(0, (.yld 449)), (1, (pT 412 0)), (2, (pT 413 0)), (3, (pT 414 0)), (5, (i6 x0)), (6, (i6 x1)), (9, (i6 x2)), (10, (i6 x3))], [(410, ⟨[.one (.ptr 410 0 none), .one (.sl 415 none x4 1)], 36, 1⟩), (411, ⟨[.one .nils], 34, 1⟩), (412, ⟨[.one (.str x5)], 9, 1⟩), (413, ⟨[.one (.int .i64 x6)], 3, 1⟩), (414, ⟨[.one (.int .i64 x7)], 3, 1⟩), (415, ⟨[.nums .u8 x8 x9], 5, 0⟩), (448, ⟨[], 0, 0⟩)]⟩
def g12Si11L5 {R : Type} (A : Ar) (n : Nat) (kk : AV → Heap → Option R) (lg12Si11L2 : Int → Int → Int → Int → Nat → List Nat → Int → Int → Nat → List Nat → Option R) (lg12Si11L2a : Int → Int → Int → Int → Nat → Nat → List Nat → Int → Int → Nat → List Nat → Nat → List Nat → Option R) : Nat → Int → Int → Int → Int → Nat → List Nat → Int → Int → Nat → List Nat → Option R
  | 0, _, _, _, _, _, _, _, _, _, _ => none
  | m + 1, x0, x1, x2, x3, x4, x5, x6, x7, x8, x9 => match A.ic .geq x0 x7 with
  | true => g12Si11J6 A n kk (g12Si11L5a A n kk lg12Si11L2a m) x0 x1 x2 x3 x4 x5 x6 x7 x8 x9
  | false => g12Si11J8a A n kk lg12Si11L2 x0 x1 x2 x3 x4 x5 x6 x7 x8 x9
def g12Si11J3s (x0 x1 : Int) (x2 x3 : Int) (x4 : Nat) (x5 : List Nat) (x6 x7 : Int) (x8 : Nat) (x9 : List Nat) : St := ⟨[(0, (.yld 449)), (1, (pT 412 0)), (2, (pT 413 0)), (3, (pT 414 0)), (5, (i6 x0)), (6, (i6 x1)), (9, (i6 x2)), (10, (i6 x3))], [(410, ⟨[.one (.ptr 410 0 none), .one (.sl 415 none x4 1)], 36, 1⟩), (411, ⟨[.one .nils], 34, 1⟩), (412, ⟨[.one (.str x5)], 9, 1⟩), (413, ⟨[.one (.int .i64 x6)], 3, 1⟩), (414, ⟨[.one (.int .i64 x7)], 3, 1⟩), (415, ⟨[.nums .u8 x8 x9], 5, 0⟩), (448, ⟨[], 0, 0⟩)]⟩
def g12Si11J3 {R : Type} (A : Ar) (n : Nat) (kk : AV → Heap → Option R) (lg12Si11L2 : Int → Int → Int → Int → Nat → List Nat → Int → Int → Nat → List Nat → Option R) (lg12Si11L2a : Int → Int → Int → Int → Nat → Nat → List Nat → Int → Int → Nat → List Nat → Nat → List Nat → Option R) (x0 x1 : Int) (x2 x3 : Int) (x4 : Nat) (x5 : List Nat) (x6 x7 : Int) (x8 : Nat) (x9 : List Nat) : Option R :=
  match A.neg x6 with
  | true => none
  | false => match A.neg x3 with
    | true => none
    | false => match A.lt (A.toN x3) x5.length with
      | true => g12Si11L5 A n kk lg12Si11L2 lg12Si11L2a n (A.ib .add .i64 x0 x6) (A.ib .or .i64 (A.ish .shl .i64 x1 (A.toN x6)) (A.ofN (x5.getD (A.toN x3) 0))) x2 x3 x4 x5 x6 x7 x8 x9
      | false => none
def g12Si11J10as (x0 x1 : Int) (x2 : Nat) (x3 : List Nat) (x4 x5 : Int) (x6 : Nat) (x7 : List Nat) : St := ⟨[(0, (.yld 449)), (3, (pT 414 0)), (5, (i6 x0)), (6, (i6 x1))], [(410, ⟨[.one (.ptr 410 0 none), .one (.sl 415 none x2 1)], 36, 1⟩), (411, ⟨[.one .nils], 34, 1⟩), (412, ⟨[.one (.str x3)], 9, 1⟩), (413, ⟨[.one (.int .i64 x4)], 3, 1⟩), (414, ⟨[.one (.int .i64 x5)], 3, 1⟩), (415, ⟨[.nums .u8 x6 x7], 5, 0⟩), (448, ⟨[], 0, 0⟩)]⟩
def g12Si11J10a {R : Type} (A : Ar) (n : Nat) (kk : AV → Heap → Option R)  (x0 x1 : Int) (x2 : Nat) (x3 : List Nat) (x4 x5 : Int) (x6 : Nat) (x7 : List Nat) : Option R :=
  match A.ic .gtr x0 0 with
  | true => match A.neg (A.ib .sub .i64 x5 x0) with
    | true => none
    | false => match A.neg x5 with
      | true => none
      | false => match g12Sb11c0 A (A.ib .and .i64 (A.ish .shl .i64 x1 (A.toN (A.ib .sub .i64 x5 x0))) (A.ib .sub .i64 (A.ish .shl .i64 1 (A.toN x5)) 1)) x2 x6 x7 with
        | true => kk (.tup []) [(412, ⟨[.one (.str x3)], 9, 1⟩), (413, ⟨[.one (.int .i64 x4)], 3, 1⟩), (414, ⟨[.one (.int .i64 x5)], 3, 1⟩), (448, ⟨[], 0, 0⟩), (410, ⟨[.one (.ptr 410 0 none), .one (.sl 415 none (g12Sb11r0_0 A (A.ib .and .i64 (A.ish .shl .i64 x1 (A.toN (A.ib .sub .i64 x5 x0))) (A.ib .sub .i64 (A.ish .shl .i64 1 (A.toN x5)) 1)) x2 x6 x7) 1)], 36, 1⟩), (411, ⟨[.one (.sl 13004 none (g12Sb11r0_1 A (A.ib .and .i64 (A.ish .shl .i64 x1 (A.toN (A.ib .sub .i64 x5 x0))) (A.ib .sub .i64 (A.ish .shl .i64 1 (A.toN x5)) 1)) x2 x6 x7) 1)], 34, 1⟩), (415, ⟨[.nums .u8 (g12Sb11r0_2 A (A.ib .and .i64 (A.ish .shl .i64 x1 (A.toN (A.ib .sub .i64 x5 x0))) (A.ib .sub .i64 (A.ish .shl .i64 1 (A.toN x5)) 1)) x2 x6 x7) (g12Sb11r0_3 A (A.ib .and .i64 (A.ish .shl .i64 x1 (A.toN (A.ib .sub .i64 x5 x0))) (A.ib .sub .i64 (A.ish .shl .i64 1 (A.toN x5)) 1)) x2 x6 x7)], 5, 0⟩), (13004, ⟨[.nums .u8 (g12Sb11r0_4 A (A.ib .and .i64 (A.ish .shl .i64 x1 (A.toN (A.ib .sub .i64 x5 x0))) (A.ib .sub .i64 (A.ish .shl .i64 1 (A.toN x5)) 1)) x2 x6 x7) (g12Sb11r0_5 A (A.ib .and .i64 (A.ish .shl .i64 x1 (A.toN (A.ib .sub .i64 x5 x0))) (A.ib .sub .i64 (A.ish .shl .i64 1 (A.toN x5)) 1)) x2 x6 x7)], 5, 2⟩)]
        | false => none
  | false => kk (.tup []) [(410, ⟨[.one (.ptr 410 0 none), .one (.sl 415 none x2 1)], 36, 1⟩), (411, ⟨[.one .nils], 34, 1⟩), (412, ⟨[.one (.str x3)], 9, 1⟩), (413, ⟨[.one (.int .i64 x4)], 3, 1⟩), (414, ⟨[.one (.int .i64 x5)], 3, 1⟩), (415, ⟨[.nums .u8 x6 x7], 5, 0⟩), (448, ⟨[], 0, 0⟩)]
def g12Si11L2s (x0 x1 : Int) (x2 x3 : Int) (x4 : Nat) (x5 : List Nat) (x6 x7 : Int) (x8 : Nat) (x9 : List Nat) : St := ⟨[(0, (.yld 449)), (1, (pT 412 0)), (2, (pT 413 0)), (3, (pT 414 0)), (5, (i6 x0)), (6, (i6 x1)), (9, (i6 x2)), (10, (i6 x3))], [(410, ⟨[.one (.ptr 410 0 none), .one (.sl 415 none x4 1)], 36, 1⟩), (411, ⟨[.one .nils], 34, 1⟩), (412, ⟨[.one (.str x5)], 9, 1⟩), (413, ⟨[.one (.int .i64 x6)], 3, 1⟩), (414, ⟨[.one (.int .i64 x7)], 3, 1⟩), (415, ⟨[.nums .u8 x8 x9], 5, 0⟩), (448, ⟨[], 0, 0⟩)]⟩
def g12Si11L2 {R : Type} (A : Ar) (n : Nat) (kk : AV → Heap → Option R)  : Nat → Int → Int → Int → Int → Nat → List Nat → Int → Int → Nat → List Nat → Option R
  | 0, _, _, _, _, _, _, _, _, _, _ => none
  | m + 1, x0, x1, x2, x3, x4, x5, x6, x7, x8, x9 => match A.ic .lss x3 x2 with
  | true => g12Si11J3 A n kk (g12Si11L2 A n kk  m) (g12Si11L2a A n kk  m) x0 x1 x2 x3 x4 x5 x6 x7 x8 x9
  | false => g12Si11J10a A n kk  x0 x1 x4 x5 x6 x7 x8 x9
def g12Si11 {R : Type} (A : Ar) (n : Nat) (kk : AV → Heap → Option R) (x0 : Nat) (x1 : List Nat) (x2 : Nat) (x3 : List Nat) (x4 x5 : Int) : Option R :=
  g12Si11L2 A n kk  n 0 0 (A.ofN x3.length) 0 x2 x3 x4 x5 x0 x1
section
variable {R : Type} {A : Ar} {n : Nat} {kk : AV → Heap → Option R} {tb : Nat → List Bool → St → Option R} (st : Stp (g12Si11N A kk) tb)
include st
theorem g12Si11J6a_go {lg12Si11L5a : Int → Int → Int → Int → Nat → Nat → List Nat → Int → Int → Nat → List Nat → Nat → List Nat → Option R} (hg12Si11L5a : ∀ (x0 x1 : Int) (x2 x3 : Int) (x4 x5 : Nat) (x6 : List Nat) (x7 x8 : Int) (x9 : Nat) (x10 : List Nat) (x11 : Nat) (x12 : List Nat), Prs (fun k => tb k (pth 27032) (g12Si11L5as x0 x1 x2 x3 x4 x5 x6 x7 x8 x9 x10 x11 x12)) (lg12Si11L5a x0 x1 x2 x3 x4 x5 x6 x7 x8 x9 x10 x11 x12)) {x0 : Int} {x1 : Int} {x2 : Int} {x3 : Int} {x4 : Nat} {x5 : Nat} {x6 : List Nat} {x7 : Int} {x8 : Int} {x9 : Nat} {x10 : List Nat} {x11 : Nat} {x12 : List Nat} : Prs (fun k => tb k (pth 54065) (g12Si11J6as x0 x1 x2 x3 x4 x5 x6 x7 x8 x9 x10 x11 x12)) (g12Si11J6a A n kk lg12Si11L5a x0 x1 x2 x3 x4 x5 x6 x7 x8 x9 x10 x11 x12) := by
  unfold g12Si11J6a
  exact st.g (pc (SxP07kpi _ pn (SxP07kpi _ pn (SxP07kpi _ (hg12Si11L5a _ _ _ _ _ _ _ _ _ _ _ _ _) pn))) (by kernel_rfl))
theorem g12Si11J8_go {lg12Si11L2a : Int → Int → Int → Int → Nat → Nat → List Nat → Int → Int → Nat → List Nat → Nat → List Nat → Option R} (hg12Si11L2a : ∀ (x0 x1 : Int) (x2 x3 : Int) (x4 x5 : Nat) (x6 : List Nat) (x7 x8 : Int) (x9 : Nat) (x10 : List Nat) (x11 : Nat) (x12 : List Nat), Prs (fun k => tb k (pth 52) (g12Si11L2as x0 x1 x2 x3 x4 x5 x6 x7 x8 x9 x10 x11 x12)) (lg12Si11L2a x0 x1 x2 x3 x4 x5 x6 x7 x8 x9 x10 x11 x12)) {x0 : Int} {x1 : Int} {x2 : Int} {x3 : Int} {x4 : Nat} {x5 : Nat} {x6 : List Nat} {x7 : Int} {x8 : Int} {x9 : Nat} {x10 : List Nat} {x11 : Nat} {x12 : List Nat} : Prs (fun k => tb k (pth 6759) (g12Si11J8s x0 x1 x2 x3 x4 x5 x6 x7 x8 x9 x10 x11 x12)) (g12Si11J8 A n kk lg12Si11L2a x0 x1 x2 x3 x4 x5 x6 x7 x8 x9 x10 x11 x12) := by
  unfold g12Si11J8
  exact st.g (pc (SxP07kpi _ pn (hg12Si11L2a _ _ _ _ _ _ _ _ _ _ _ _ _)) (by kernel_rfl))
theorem g12Si11L5a_go {lg12Si11L2a : Int → Int → Int → Int → Nat → Nat → List Nat → Int → Int → Nat → List Nat → Nat → List Nat → Option R} (hg12Si11L2a : ∀ (x0 x1 : Int) (x2 x3 : Int) (x4 x5 : Nat) (x6 : List Nat) (x7 x8 : Int) (x9 : Nat) (x10 : List Nat) (x11 : Nat) (x12 : List Nat), Prs (fun k => tb k (pth 52) (g12Si11L2as x0 x1 x2 x3 x4 x5 x6 x7 x8 x9 x10 x11 x12)) (lg12Si11L2a x0 x1 x2 x3 x4 x5 x6 x7 x8 x9 x10 x11 x12)) (m : Nat) : ∀ (x0 x1 : Int) (x2 x3 : Int) (x4 x5 : Nat) (x6 : List Nat) (x7 x8 : Int) (x9 : Nat) (x10 : List Nat) (x11 : Nat) (x12 : List Nat), Prs (fun k => tb k (pth 27032) (g12Si11L5as x0 x1 x2 x3 x4 x5 x6 x7 x8 x9 x10 x11 x12)) (g12Si11L5a A n kk lg12Si11L2a m x0 x1 x2 x3 x4 x5 x6 x7 x8 x9 x10 x11 x12) := by
  induction m with
  | zero => intro x0 x1 x2 x3 x4 x5 x6 x7 x8 x9 x10 x11 x12; exact pn0
  | succ m ih =>
    intro x0 x1 x2 x3 x4 x5 x6 x7 x8 x9 x10 x11 x12; rw [g12Si11L5a]
    exact st.g (pc (SxP07kpi _ (g12Si11J6a_go st ih) (g12Si11J8_go st hg12Si11L2a)) (by kernel_rfl))
theorem g12Si11J3a_go {lg12Si11L2a : Int → Int → Int → Int → Nat → Nat → List Nat → Int → Int → Nat → List Nat → Nat → List Nat → Option R} (hg12Si11L2a : ∀ (x0 x1 : Int) (x2 x3 : Int) (x4 x5 : Nat) (x6 : List Nat) (x7 x8 : Int) (x9 : Nat) (x10 : List Nat) (x11 : Nat) (x12 : List Nat), Prs (fun k => tb k (pth 52) (g12Si11L2as x0 x1 x2 x3 x4 x5 x6 x7 x8 x9 x10 x11 x12)) (lg12Si11L2a x0 x1 x2 x3 x4 x5 x6 x7 x8 x9 x10 x11 x12)) {x0 : Int} {x1 : Int} {x2 : Int} {x3 : Int} {x4 : Nat} {x5 : Nat} {x6 : List Nat} {x7 : Int} {x8 : Int} {x9 : Nat} {x10 : List Nat} {x11 : Nat} {x12 : List Nat} : Prs (fun k => tb k (pth 211) (g12Si11J3as x0 x1 x2 x3 x4 x5 x6 x7 x8 x9 x10 x11 x12)) (g12Si11J3a A n kk lg12Si11L2a x0 x1 x2 x3 x4 x5 x6 x7 x8 x9 x10 x11 x12) := by
  unfold g12Si11J3a
  exact st.g (pc (SxP07kpi _ pn (SxP07kpi _ pn (SxP07kpi _ (g12Si11L5a_go st hg12Si11L2a n _ _ _ _ _ _ _ _ _ _ _ _ _) pn))) (by kernel_rfl))
theorem g12Si11J10_go {x0 : Int} {x1 : Int} {x2 : Nat} {x3 : Nat} {x4 : List Nat} {x5 : Int} {x6 : Int} {x7 : Nat} {x8 : List Nat} {x9 : Nat} {x10 : List Nat} : Prs (fun k => tb k (pth 7) (g12Si11J10s x0 x1 x2 x3 x4 x5 x6 x7 x8 x9 x10)) (g12Si11J10 A n kk x0 x1 x2 x3 x4 x5 x6 x7 x8 x9 x10) := by
  unfold g12Si11J10
  exact st.g (pc (SxP07kpi _ (SxP07kpi _ pn (SxP07kpi _ pn (SxP07kpi _ (pf _) pn))) (pf _)) (by kernel_rfl))
theorem g12Si11L2a_go (m : Nat) : ∀ (x0 x1 : Int) (x2 x3 : Int) (x4 x5 : Nat) (x6 : List Nat) (x7 x8 : Int) (x9 : Nat) (x10 : List Nat) (x11 : Nat) (x12 : List Nat), Prs (fun k => tb k (pth 52) (g12Si11L2as x0 x1 x2 x3 x4 x5 x6 x7 x8 x9 x10 x11 x12)) (g12Si11L2a A n kk m x0 x1 x2 x3 x4 x5 x6 x7 x8 x9 x10 x11 x12) := by
  induction m with
  | zero => intro x0 x1 x2 x3 x4 x5 x6 x7 x8 x9 x10 x11 x12; exact pn0
  | succ m ih =>
    intro x0 x1 x2 x3 x4 x5 x6 x7 x8 x9 x10 x11 x12; rw [g12Si11L2a]
    exact st.g (pc (SxP07kpi _ (g12Si11J3a_go st ih) (g12Si11J10_go st)) (by kernel_rfl))
theorem g12Si11J6_go {lg12Si11L5a : Int → Int → Int → Int → Nat → Nat → List Nat → Int → Int → Nat → List Nat → Nat → List Nat → Option R} (hg12Si11L5a : ∀ (x0 x1 : Int) (x2 x3 : Int) (x4 x5 : Nat) (x6 : List Nat) (x7 x8 : Int) (x9 : Nat) (x10 : List Nat) (x11 : Nat) (x12 : List Nat), Prs (fun k => tb k (pth 27032) (g12Si11L5as x0 x1 x2 x3 x4 x5 x6 x7 x8 x9 x10 x11 x12)) (lg12Si11L5a x0 x1 x2 x3 x4 x5 x6 x7 x8 x9 x10 x11 x12)) {x0 : Int} {x1 : Int} {x2 : Int} {x3 : Int} {x4 : Nat} {x5 : List Nat} {x6 : Int} {x7 : Int} {x8 : Nat} {x9 : List Nat} : Prs (fun k => tb k (pth 54065) (g12Si11J6s x0 x1 x2 x3 x4 x5 x6 x7 x8 x9)) (g12Si11J6 A n kk lg12Si11L5a x0 x1 x2 x3 x4 x5 x6 x7 x8 x9) := by
  unfold g12Si11J6
  exact st.g (pc (SxP07kpi _ pn (SxP07kpi _ pn (SxP07kpi _ (hg12Si11L5a _ _ _ _ _ _ _ _ _ _ _ _ _) pn))) (by kernel_rfl))
theorem g12Si11J8a_go {lg12Si11L2 : Int → Int → Int → Int → Nat → List Nat → Int → Int → Nat → List Nat → Option R} (hg12Si11L2 : ∀ (x0 x1 : Int) (x2 x3 : Int) (x4 : Nat) (x5 : List Nat) (x6 x7 : Int) (x8 : Nat) (x9 : List Nat), Prs (fun k => tb k (pth 52) (g12Si11L2s x0 x1 x2 x3 x4 x5 x6 x7 x8 x9)) (lg12Si11L2 x0 x1 x2 x3 x4 x5 x6 x7 x8 x9)) {x0 : Int} {x1 : Int} {x2 : Int} {x3 : Int} {x4 : Nat} {x5 : List Nat} {x6 : Int} {x7 : Int} {x8 : Nat} {x9 : List Nat} : Prs (fun k => tb k (pth 6759) (g12Si11J8as x0 x1 x2 x3 x4 x5 x6 x7 x8 x9)) (g12Si11J8a A n kk lg12Si11L2 x0 x1 x2 x3 x4 x5 x6 x7 x8 x9) := by
  unfold g12Si11J8a
  exact st.g (pc (SxP07kpi _ pn (hg12Si11L2 _ _ _ _ _ _ _ _ _ _)) (by kernel_rfl))
theorem g12Si11L5_go {lg12Si11L2 : Int → Int → Int → Int → Nat → List Nat → Int → Int → Nat → List Nat → Option R} {lg12Si11L2a : Int → Int → Int → Int → Nat → Nat → List Nat → Int → Int → Nat → List Nat → Nat → List Nat → Option R} (hg12Si11L2 : ∀ (x0 x1 : Int) (x2 x3 : Int) (x4 : Nat) (x5 : List Nat) (x6 x7 : Int) (x8 : Nat) (x9 : List Nat), Prs (fun k => tb k (pth 52) (g12Si11L2s x0 x1 x2 x3 x4 x5 x6 x7 x8 x9)) (lg12Si11L2 x0 x1 x2 x3 x4 x5 x6 x7 x8 x9)) (hg12Si11L2a : ∀ (x0 x1 : Int) (x2 x3 : Int) (x4 x5 : Nat) (x6 : List Nat) (x7 x8 : Int) (x9 : Nat) (x10 : List Nat) (x11 : Nat) (x12 : List Nat), Prs (fun k => tb k (pth 52) (g12Si11L2as x0 x1 x2 x3 x4 x5 x6 x7 x8 x9 x10 x11 x12)) (lg12Si11L2a x0 x1 x2 x3 x4 x5 x6 x7 x8 x9 x10 x11 x12)) (m : Nat) : ∀ (x0 x1 : Int) (x2 x3 : Int) (x4 : Nat) (x5 : List Nat) (x6 x7 : Int) (x8 : Nat) (x9 : List Nat), Prs (fun k => tb k (pth 27032) (g12Si11L5s x0 x1 x2 x3 x4 x5 x6 x7 x8 x9)) (g12Si11L5 A n kk lg12Si11L2 lg12Si11L2a m x0 x1 x2 x3 x4 x5 x6 x7 x8 x9) := by
  induction m with
  | zero => intro x0 x1 x2 x3 x4 x5 x6 x7 x8 x9; exact pn0
  | succ m ih =>
    intro x0 x1 x2 x3 x4 x5 x6 x7 x8 x9; rw [g12Si11L5]
    exact st.g (pc (SxP07kpi _ (g12Si11J6_go st (g12Si11L5a_go st hg12Si11L2a m)) (g12Si11J8a_go st hg12Si11L2)) (by kernel_rfl))
theorem g12Si11J3_go {lg12Si11L2 : Int → Int → Int → Int → Nat → List Nat → Int → Int → Nat → List Nat → Option R} {lg12Si11L2a : Int → Int → Int → Int → Nat → Nat → List Nat → Int → Int → Nat → List Nat → Nat → List Nat → Option R} (hg12Si11L2 : ∀ (x0 x1 : Int) (x2 x3 : Int) (x4 : Nat) (x5 : List Nat) (x6 x7 : Int) (x8 : Nat) (x9 : List Nat), Prs (fun k => tb k (pth 52) (g12Si11L2s x0 x1 x2 x3 x4 x5 x6 x7 x8 x9)) (lg12Si11L2 x0 x1 x2 x3 x4 x5 x6 x7 x8 x9)) (hg12Si11L2a : ∀ (x0 x1 : Int) (x2 x3 : Int) (x4 x5 : Nat) (x6 : List Nat) (x7 x8 : Int) (x9 : Nat) (x10 : List Nat) (x11 : Nat) (x12 : List Nat), Prs (fun k => tb k (pth 52) (g12Si11L2as x0 x1 x2 x3 x4 x5 x6 x7 x8 x9 x10 x11 x12)) (lg12Si11L2a x0 x1 x2 x3 x4 x5 x6 x7 x8 x9 x10 x11 x12)) {x0 : Int} {x1 : Int} {x2 : Int} {x3 : Int} {x4 : Nat} {x5 : List Nat} {x6 : Int} {x7 : Int} {x8 : Nat} {x9 : List Nat} : Prs (fun k => tb k (pth 211) (g12Si11J3s x0 x1 x2 x3 x4 x5 x6 x7 x8 x9)) (g12Si11J3 A n kk lg12Si11L2 lg12Si11L2a x0 x1 x2 x3 x4 x5 x6 x7 x8 x9) := by
  unfold g12Si11J3
  exact st.g (pc (SxP07kpi _ pn (SxP07kpi _ pn (SxP07kpi _ (g12Si11L5_go st hg12Si11L2 hg12Si11L2a n _ _ _ _ _ _ _ _ _ _) pn))) (by kernel_rfl))
theorem g12Si11J10a_go {x0 : Int} {x1 : Int} {x2 : Nat} {x3 : List Nat} {x4 : Int} {x5 : Int} {x6 : Nat} {x7 : List Nat} : Prs (fun k => tb k (pth 7) (g12Si11J10as x0 x1 x2 x3 x4 x5 x6 x7)) (g12Si11J10a A n kk x0 x1 x2 x3 x4 x5 x6 x7) := by
  unfold g12Si11J10a
  exact st.g (pc (SxP07kpi _ (SxP07kpi _ pn (SxP07kpi _ pn (SxP07kpi _ (pf _) pn))) (pf _)) (by kernel_rfl))
theorem g12Si11L2_go (m : Nat) : ∀ (x0 x1 : Int) (x2 x3 : Int) (x4 : Nat) (x5 : List Nat) (x6 x7 : Int) (x8 : Nat) (x9 : List Nat), Prs (fun k => tb k (pth 52) (g12Si11L2s x0 x1 x2 x3 x4 x5 x6 x7 x8 x9)) (g12Si11L2 A n kk m x0 x1 x2 x3 x4 x5 x6 x7 x8 x9) := by
  induction m with
  | zero => intro x0 x1 x2 x3 x4 x5 x6 x7 x8 x9; exact pn0
  | succ m ih =>
    intro x0 x1 x2 x3 x4 x5 x6 x7 x8 x9; rw [g12Si11L2]
    exact st.g (pc (SxP07kpi _ (g12Si11J3_go st ih (g12Si11L2a_go st m)) (g12Si11J10a_go st)) (by kernel_rfl))
theorem g12Si11_go {x0 : Nat} {x1 : List Nat} {x2 : Nat} {x3 : List Nat} {x4 : Int} {x5 : Int} : Prs (fun k => funN A gtys (g12Si11O A) g12Si11an g12Si11cut (bodyOf Tryd.f32) g12Si11res [(.yld 449), (pT 412 0), (pT 413 0), (pT 414 0)] [(448, ⟨[], 0, 0⟩), (415, ⟨[.nums .u8 x0 x1], 5, 0⟩), (410, ⟨[.one (.ptr 410 0 none), .one (.sl 415 none x2 1)], 36, 1⟩), (411, ⟨[.one .nils], 34, 1⟩), (412, ⟨[.one (.str x3)], 9, 1⟩), (413, ⟨[.one (.int .i64 x4)], 3, 1⟩), (414, ⟨[.one (.int .i64 x5)], 3, 1⟩)] kk (tb k)) (g12Si11 A n kk x0 x1 x2 x3 x4 x5) := by
  unfold g12Si11
  exact pc (g12Si11L2_go st n _ _ _ _ _ _ _ _ _ _) (by kernel_rfl)
end
def g12Si11v (A : Ar) (x0 : Nat) (x1 : List Nat) (x2 : Nat) (x3 : List Nat) (x4 x5 : Int) : Option Heap := g12Si11 A (10000000) (fun _ h => some (pick h [410, 411, 412, 413, 414, 415, 448, 500, 13004])) x0 x1 x2 x3 x4 x5
def g12Si11is0 (o : Option Heap) : Bool := match o with
  | some [(n0, ⟨[.one (.ptr n1 n2 none), .one (.sl n3 none _ n4)], n5, n6⟩), (n7, ⟨[.one (.sl n8 none _ n9)], n10, n11⟩), (n12, ⟨[.one (.str _)], n13, n14⟩), (n15, ⟨[.one (.int .i64 _)], n16, n17⟩), (n18, ⟨[.one (.int .i64 _)], n19, n20⟩), (n21, ⟨[.nums .u8 _ _], n22, n23⟩), (n24, ⟨[], n25, n26⟩), (n27, ⟨[.nums .u8 _ _], n28, n29⟩)] => Nat.beq n0 410 && (Nat.beq n1 410 && (Nat.beq n2 0 && (Nat.beq n3 415 && (Nat.beq n4 1 && (Nat.beq n5 36 && (Nat.beq n6 1 && (Nat.beq n7 411 && (Nat.beq n8 500 && (Nat.beq n9 1 && (Nat.beq n10 34 && (Nat.beq n11 1 && (Nat.beq n12 412 && (Nat.beq n13 9 && (Nat.beq n14 1 && (Nat.beq n15 413 && (Nat.beq n16 3 && (Nat.beq n17 1 && (Nat.beq n18 414 && (Nat.beq n19 3 && (Nat.beq n20 1 && (Nat.beq n21 415 && (Nat.beq n22 5 && (Nat.beq n23 0 && (Nat.beq n24 448 && (Nat.beq n25 0 && (Nat.beq n26 0 && (Nat.beq n27 500 && (Nat.beq n28 5 && (Nat.beq n29 2)))))))))))))))))))))))))))))
  | _ => false
def g12Si11g0_0 (o : Option Heap) : Nat := match o with
  | some [(_, ⟨[.one (.ptr _ _ none), .one (.sl _ none x _)], _, _⟩), (_, ⟨[.one (.sl _ none _ _)], _, _⟩), (_, ⟨[.one (.str _)], _, _⟩), (_, ⟨[.one (.int .i64 _)], _, _⟩), (_, ⟨[.one (.int .i64 _)], _, _⟩), (_, ⟨[.nums .u8 _ _], _, _⟩), (_, ⟨[], _, _⟩), (_, ⟨[.nums .u8 _ _], _, _⟩)] => x
  | _ => 0
def g12Si11g0_1 (o : Option Heap) : Nat := match o with
  | some [(_, ⟨[.one (.ptr _ _ none), .one (.sl _ none _ _)], _, _⟩), (_, ⟨[.one (.sl _ none x _)], _, _⟩), (_, ⟨[.one (.str _)], _, _⟩), (_, ⟨[.one (.int .i64 _)], _, _⟩), (_, ⟨[.one (.int .i64 _)], _, _⟩), (_, ⟨[.nums .u8 _ _], _, _⟩), (_, ⟨[], _, _⟩), (_, ⟨[.nums .u8 _ _], _, _⟩)] => x
  | _ => 0
def g12Si11g0_2 (o : Option Heap) : List Nat := match o with
  | some [(_, ⟨[.one (.ptr _ _ none), .one (.sl _ none _ _)], _, _⟩), (_, ⟨[.one (.sl _ none _ _)], _, _⟩), (_, ⟨[.one (.str x)], _, _⟩), (_, ⟨[.one (.int .i64 _)], _, _⟩), (_, ⟨[.one (.int .i64 _)], _, _⟩), (_, ⟨[.nums .u8 _ _], _, _⟩), (_, ⟨[], _, _⟩), (_, ⟨[.nums .u8 _ _], _, _⟩)] => x
  | _ => []
def g12Si11g0_3 (o : Option Heap) : Int := match o with
  | some [(_, ⟨[.one (.ptr _ _ none), .one (.sl _ none _ _)], _, _⟩), (_, ⟨[.one (.sl _ none _ _)], _, _⟩), (_, ⟨[.one (.str _)], _, _⟩), (_, ⟨[.one (.int .i64 x)], _, _⟩), (_, ⟨[.one (.int .i64 _)], _, _⟩), (_, ⟨[.nums .u8 _ _], _, _⟩), (_, ⟨[], _, _⟩), (_, ⟨[.nums .u8 _ _], _, _⟩)] => x
  | _ => 0
def g12Si11g0_4 (o : Option Heap) : Int := match o with
  | some [(_, ⟨[.one (.ptr _ _ none), .one (.sl _ none _ _)], _, _⟩), (_, ⟨[.one (.sl _ none _ _)], _, _⟩), (_, ⟨[.one (.str _)], _, _⟩), (_, ⟨[.one (.int .i64 _)], _, _⟩), (_, ⟨[.one (.int .i64 x)], _, _⟩), (_, ⟨[.nums .u8 _ _], _, _⟩), (_, ⟨[], _, _⟩), (_, ⟨[.nums .u8 _ _], _, _⟩)] => x
  | _ => 0
def g12Si11g0_5 (o : Option Heap) : Nat := match o with
  | some [(_, ⟨[.one (.ptr _ _ none), .one (.sl _ none _ _)], _, _⟩), (_, ⟨[.one (.sl _ none _ _)], _, _⟩), (_, ⟨[.one (.str _)], _, _⟩), (_, ⟨[.one (.int .i64 _)], _, _⟩), (_, ⟨[.one (.int .i64 _)], _, _⟩), (_, ⟨[.nums .u8 x _], _, _⟩), (_, ⟨[], _, _⟩), (_, ⟨[.nums .u8 _ _], _, _⟩)] => x
  | _ => 0
def g12Si11g0_6 (o : Option Heap) : List Nat := match o with
  | some [(_, ⟨[.one (.ptr _ _ none), .one (.sl _ none _ _)], _, _⟩), (_, ⟨[.one (.sl _ none _ _)], _, _⟩), (_, ⟨[.one (.str _)], _, _⟩), (_, ⟨[.one (.int .i64 _)], _, _⟩), (_, ⟨[.one (.int .i64 _)], _, _⟩), (_, ⟨[.nums .u8 _ x], _, _⟩), (_, ⟨[], _, _⟩), (_, ⟨[.nums .u8 _ _], _, _⟩)] => x
  | _ => []
def g12Si11g0_7 (o : Option Heap) : Nat := match o with
  | some [(_, ⟨[.one (.ptr _ _ none), .one (.sl _ none _ _)], _, _⟩), (_, ⟨[.one (.sl _ none _ _)], _, _⟩), (_, ⟨[.one (.str _)], _, _⟩), (_, ⟨[.one (.int .i64 _)], _, _⟩), (_, ⟨[.one (.int .i64 _)], _, _⟩), (_, ⟨[.nums .u8 _ _], _, _⟩), (_, ⟨[], _, _⟩), (_, ⟨[.nums .u8 x _], _, _⟩)] => x
  | _ => 0
def g12Si11g0_8 (o : Option Heap) : List Nat := match o with
  | some [(_, ⟨[.one (.ptr _ _ none), .one (.sl _ none _ _)], _, _⟩), (_, ⟨[.one (.sl _ none _ _)], _, _⟩), (_, ⟨[.one (.str _)], _, _⟩), (_, ⟨[.one (.int .i64 _)], _, _⟩), (_, ⟨[.one (.int .i64 _)], _, _⟩), (_, ⟨[.nums .u8 _ _], _, _⟩), (_, ⟨[], _, _⟩), (_, ⟨[.nums .u8 _ x], _, _⟩)] => x
  | _ => []
theorem g12Si11is0_spec {o : Option Heap} (h : g12Si11is0 o = true) : o = some [(410, ⟨[.one (.ptr 410 0 none), .one (.sl 415 none (g12Si11g0_0 o) 1)], 36, 1⟩), (411, ⟨[.one (.sl 500 none (g12Si11g0_1 o) 1)], 34, 1⟩), (412, ⟨[.one (.str (g12Si11g0_2 o))], 9, 1⟩), (413, ⟨[.one (.int .i64 (g12Si11g0_3 o))], 3, 1⟩), (414, ⟨[.one (.int .i64 (g12Si11g0_4 o))], 3, 1⟩), (415, ⟨[.nums .u8 (g12Si11g0_5 o) (g12Si11g0_6 o)], 5, 0⟩), (448, ⟨[], 0, 0⟩), (500, ⟨[.nums .u8 (g12Si11g0_7 o) (g12Si11g0_8 o)], 5, 2⟩)] := by
  unfold g12Si11is0 at h
  split at h
  · rename_i n0 n1 n2 n3 z4 n4 n5 n6 n7 n8 z10 n9 n10 n11 n12 z15 n13 n14 n15 z19 n16 n17 n18 z23 n19 n20 n21 z27 z28 n22 n23 n24 n25 n26 n27 z35 z36 n28 n29
    simp only [Bool.and_eq_true] at h
    have en0 := beq_true h.1
    subst en0
    replace h := h.2
    have en1 := beq_true h.1
    subst en1
    replace h := h.2
    have en2 := beq_true h.1
    subst en2
    replace h := h.2
    have en3 := beq_true h.1
    subst en3
    replace h := h.2
    have en4 := beq_true h.1
    subst en4
    replace h := h.2
    have en5 := beq_true h.1
    subst en5
    replace h := h.2
    have en6 := beq_true h.1
    subst en6
    replace h := h.2
    have en7 := beq_true h.1
    subst en7
    replace h := h.2
    have en8 := beq_true h.1
    subst en8
    replace h := h.2
    have en9 := beq_true h.1
    subst en9
    replace h := h.2
    have en10 := beq_true h.1
    subst en10
    replace h := h.2
    have en11 := beq_true h.1
    subst en11
    replace h := h.2
    have en12 := beq_true h.1
    subst en12
    replace h := h.2
    have en13 := beq_true h.1
    subst en13
    replace h := h.2
    have en14 := beq_true h.1
    subst en14
    replace h := h.2
    have en15 := beq_true h.1
    subst en15
    replace h := h.2
    have en16 := beq_true h.1
    subst en16
    replace h := h.2
    have en17 := beq_true h.1
    subst en17
    replace h := h.2
    have en18 := beq_true h.1
    subst en18
    replace h := h.2
    have en19 := beq_true h.1
    subst en19
    replace h := h.2
    have en20 := beq_true h.1
    subst en20
    replace h := h.2
    have en21 := beq_true h.1
    subst en21
    replace h := h.2
    have en22 := beq_true h.1
    subst en22
    replace h := h.2
    have en23 := beq_true h.1
    subst en23
    replace h := h.2
    have en24 := beq_true h.1
    subst en24
    replace h := h.2
    have en25 := beq_true h.1
    subst en25
    replace h := h.2
    have en26 := beq_true h.1
    subst en26
    replace h := h.2
    have en27 := beq_true h.1
    subst en27
    replace h := h.2
    have en28 := beq_true h.1
    subst en28
    replace h := h.2
    have en29 := beq_true h
    subst en29
    rfl
  · cases h
def g12Si11c0 (A : Ar) (x0 : Nat) (x1 : List Nat) (x2 : Nat) (x3 : List Nat) (x4 x5 : Int) : Bool := g12Si11is0 (g12Si11v A x0 x1 x2 x3 x4 x5)
def g12Si11r0_0 (A : Ar) (x0 : Nat) (x1 : List Nat) (x2 : Nat) (x3 : List Nat) (x4 x5 : Int) : Nat := g12Si11g0_0 (g12Si11v A x0 x1 x2 x3 x4 x5)
def g12Si11r0_1 (A : Ar) (x0 : Nat) (x1 : List Nat) (x2 : Nat) (x3 : List Nat) (x4 x5 : Int) : Nat := g12Si11g0_1 (g12Si11v A x0 x1 x2 x3 x4 x5)
def g12Si11r0_2 (A : Ar) (x0 : Nat) (x1 : List Nat) (x2 : Nat) (x3 : List Nat) (x4 x5 : Int) : List Nat := g12Si11g0_2 (g12Si11v A x0 x1 x2 x3 x4 x5)
def g12Si11r0_3 (A : Ar) (x0 : Nat) (x1 : List Nat) (x2 : Nat) (x3 : List Nat) (x4 x5 : Int) : Int := g12Si11g0_3 (g12Si11v A x0 x1 x2 x3 x4 x5)
def g12Si11r0_4 (A : Ar) (x0 : Nat) (x1 : List Nat) (x2 : Nat) (x3 : List Nat) (x4 x5 : Int) : Int := g12Si11g0_4 (g12Si11v A x0 x1 x2 x3 x4 x5)
def g12Si11r0_5 (A : Ar) (x0 : Nat) (x1 : List Nat) (x2 : Nat) (x3 : List Nat) (x4 x5 : Int) : Nat := g12Si11g0_5 (g12Si11v A x0 x1 x2 x3 x4 x5)
def g12Si11r0_6 (A : Ar) (x0 : Nat) (x1 : List Nat) (x2 : Nat) (x3 : List Nat) (x4 x5 : Int) : List Nat := g12Si11g0_6 (g12Si11v A x0 x1 x2 x3 x4 x5)
def g12Si11r0_7 (A : Ar) (x0 : Nat) (x1 : List Nat) (x2 : Nat) (x3 : List Nat) (x4 x5 : Int) : Nat := g12Si11g0_7 (g12Si11v A x0 x1 x2 x3 x4 x5)
def g12Si11r0_8 (A : Ar) (x0 : Nat) (x1 : List Nat) (x2 : Nat) (x3 : List Nat) (x4 x5 : Int) : List Nat := g12Si11g0_8 (g12Si11v A x0 x1 x2 x3 x4 x5)
def g12Si11is1 (o : Option Heap) : Bool := match o with
  | some [(n0, ⟨[.one (.ptr n1 n2 none), .one (.sl n3 none _ n4)], n5, n6⟩), (n7, ⟨[.one (.sl n8 none _ n9)], n10, n11⟩), (n12, ⟨[.one (.str _)], n13, n14⟩), (n15, ⟨[.one (.int .i64 _)], n16, n17⟩), (n18, ⟨[.one (.int .i64 _)], n19, n20⟩), (n21, ⟨[.nums .u8 _ _], n22, n23⟩), (n24, ⟨[], n25, n26⟩), (n27, ⟨[.nums .u8 _ _], n28, n29⟩)] => Nat.beq n0 410 && (Nat.beq n1 410 && (Nat.beq n2 0 && (Nat.beq n3 415 && (Nat.beq n4 1 && (Nat.beq n5 36 && (Nat.beq n6 1 && (Nat.beq n7 411 && (Nat.beq n8 13004 && (Nat.beq n9 1 && (Nat.beq n10 34 && (Nat.beq n11 1 && (Nat.beq n12 412 && (Nat.beq n13 9 && (Nat.beq n14 1 && (Nat.beq n15 413 && (Nat.beq n16 3 && (Nat.beq n17 1 && (Nat.beq n18 414 && (Nat.beq n19 3 && (Nat.beq n20 1 && (Nat.beq n21 415 && (Nat.beq n22 5 && (Nat.beq n23 0 && (Nat.beq n24 448 && (Nat.beq n25 0 && (Nat.beq n26 0 && (Nat.beq n27 13004 && (Nat.beq n28 5 && (Nat.beq n29 2)))))))))))))))))))))))))))))
  | _ => false
def g12Si11g1_0 (o : Option Heap) : Nat := match o with
  | some [(_, ⟨[.one (.ptr _ _ none), .one (.sl _ none x _)], _, _⟩), (_, ⟨[.one (.sl _ none _ _)], _, _⟩), (_, ⟨[.one (.str _)], _, _⟩), (_, ⟨[.one (.int .i64 _)], _, _⟩), (_, ⟨[.one (.int .i64 _)], _, _⟩), (_, ⟨[.nums .u8 _ _], _, _⟩), (_, ⟨[], _, _⟩), (_, ⟨[.nums .u8 _ _], _, _⟩)] => x
  | _ => 0
def g12Si11g1_1 (o : Option Heap) : Nat := match o with
  | some [(_, ⟨[.one (.ptr _ _ none), .one (.sl _ none _ _)], _, _⟩), (_, ⟨[.one (.sl _ none x _)], _, _⟩), (_, ⟨[.one (.str _)], _, _⟩), (_, ⟨[.one (.int .i64 _)], _, _⟩), (_, ⟨[.one (.int .i64 _)], _, _⟩), (_, ⟨[.nums .u8 _ _], _, _⟩), (_, ⟨[], _, _⟩), (_, ⟨[.nums .u8 _ _], _, _⟩)] => x
  | _ => 0
def g12Si11g1_2 (o : Option Heap) : List Nat := match o with
  | some [(_, ⟨[.one (.ptr _ _ none), .one (.sl _ none _ _)], _, _⟩), (_, ⟨[.one (.sl _ none _ _)], _, _⟩), (_, ⟨[.one (.str x)], _, _⟩), (_, ⟨[.one (.int .i64 _)], _, _⟩), (_, ⟨[.one (.int .i64 _)], _, _⟩), (_, ⟨[.nums .u8 _ _], _, _⟩), (_, ⟨[], _, _⟩), (_, ⟨[.nums .u8 _ _], _, _⟩)] => x
  | _ => []
def g12Si11g1_3 (o : Option Heap) : Int := match o with
  | some [(_, ⟨[.one (.ptr _ _ none), .one (.sl _ none _ _)], _, _⟩), (_, ⟨[.one (.sl _ none _ _)], _, _⟩), (_, ⟨[.one (.str _)], _, _⟩), (_, ⟨[.one (.int .i64 x)], _, _⟩), (_, ⟨[.one (.int .i64 _)], _, _⟩), (_, ⟨[.nums .u8 _ _], _, _⟩), (_, ⟨[], _, _⟩), (_, ⟨[.nums .u8 _ _], _, _⟩)] => x
  | _ => 0
def g12Si11g1_4 (o : Option Heap) : Int := match o with
  | some [(_, ⟨[.one (.ptr _ _ none), .one (.sl _ none _ _)], _, _⟩), (_, ⟨[.one (.sl _ none _ _)], _, _⟩), (_, ⟨[.one (.str _)], _, _⟩), (_, ⟨[.one (.int .i64 _)], _, _⟩), (_, ⟨[.one (.int .i64 x)], _, _⟩), (_, ⟨[.nums .u8 _ _], _, _⟩), (_, ⟨[], _, _⟩), (_, ⟨[.nums .u8 _ _], _, _⟩)] => x
  | _ => 0
def g12Si11g1_5 (o : Option Heap) : Nat := match o with
  | some [(_, ⟨[.one (.ptr _ _ none), .one (.sl _ none _ _)], _, _⟩), (_, ⟨[.one (.sl _ none _ _)], _, _⟩), (_, ⟨[.one (.str _)], _, _⟩), (_, ⟨[.one (.int .i64 _)], _, _⟩), (_, ⟨[.one (.int .i64 _)], _, _⟩), (_, ⟨[.nums .u8 x _], _, _⟩), (_, ⟨[], _, _⟩), (_, ⟨[.nums .u8 _ _], _, _⟩)] => x
  | _ => 0
def g12Si11g1_6 (o : Option Heap) : List Nat := match o with
  | some [(_, ⟨[.one (.ptr _ _ none), .one (.sl _ none _ _)], _, _⟩), (_, ⟨[.one (.sl _ none _ _)], _, _⟩), (_, ⟨[.one (.str _)], _, _⟩), (_, ⟨[.one (.int .i64 _)], _, _⟩), (_, ⟨[.one (.int .i64 _)], _, _⟩), (_, ⟨[.nums .u8 _ x], _, _⟩), (_, ⟨[], _, _⟩), (_, ⟨[.nums .u8 _ _], _, _⟩)] => x
  | _ => []
def g12Si11g1_7 (o : Option Heap) : Nat := match o with
  | some [(_, ⟨[.one (.ptr _ _ none), .one (.sl _ none _ _)], _, _⟩), (_, ⟨[.one (.sl _ none _ _)], _, _⟩), (_, ⟨[.one (.str _)], _, _⟩), (_, ⟨[.one (.int .i64 _)], _, _⟩), (_, ⟨[.one (.int .i64 _)], _, _⟩), (_, ⟨[.nums .u8 _ _], _, _⟩), (_, ⟨[], _, _⟩), (_, ⟨[.nums .u8 x _], _, _⟩)] => x
  | _ => 0
def g12Si11g1_8 (o : Option Heap) : List Nat := match o with
  | some [(_, ⟨[.one (.ptr _ _ none), .one (.sl _ none _ _)], _, _⟩), (_, ⟨[.one (.sl _ none _ _)], _, _⟩), (_, ⟨[.one (.str _)], _, _⟩), (_, ⟨[.one (.int .i64 _)], _, _⟩), (_, ⟨[.one (.int .i64 _)], _, _⟩), (_, ⟨[.nums .u8 _ _], _, _⟩), (_, ⟨[], _, _⟩), (_, ⟨[.nums .u8 _ x], _, _⟩)] => x
  | _ => []
theorem g12Si11is1_spec {o : Option Heap} (h : g12Si11is1 o = true) : o = some [(410, ⟨[.one (.ptr 410 0 none), .one (.sl 415 none (g12Si11g1_0 o) 1)], 36, 1⟩), (411, ⟨[.one (.sl 13004 none (g12Si11g1_1 o) 1)], 34, 1⟩), (412, ⟨[.one (.str (g12Si11g1_2 o))], 9, 1⟩), (413, ⟨[.one (.int .i64 (g12Si11g1_3 o))], 3, 1⟩), (414, ⟨[.one (.int .i64 (g12Si11g1_4 o))], 3, 1⟩), (415, ⟨[.nums .u8 (g12Si11g1_5 o) (g12Si11g1_6 o)], 5, 0⟩), (448, ⟨[], 0, 0⟩), (13004, ⟨[.nums .u8 (g12Si11g1_7 o) (g12Si11g1_8 o)], 5, 2⟩)] := by
  unfold g12Si11is1 at h
  split at h
  · rename_i n0 n1 n2 n3 z4 n4 n5 n6 n7 n8 z10 n9 n10 n11 n12 z15 n13 n14 n15 z19 n16 n17 n18 z23 n19 n20 n21 z27 z28 n22 n23 n24 n25 n26 n27 z35 z36 n28 n29
    simp only [Bool.and_eq_true] at h
    have en0 := beq_true h.1
    subst en0
    replace h := h.2
    have en1 := beq_true h.1
    subst en1
    replace h := h.2
    have en2 := beq_true h.1
    subst en2
    replace h := h.2
    have en3 := beq_true h.1
    subst en3
    replace h := h.2
    have en4 := beq_true h.1
    subst en4
    replace h := h.2
    have en5 := beq_true h.1
    subst en5
    replace h := h.2
    have en6 := beq_true h.1
    subst en6
    replace h := h.2
    have en7 := beq_true h.1
    subst en7
    replace h := h.2
    have en8 := beq_true h.1
    subst en8
    replace h := h.2
    have en9 := beq_true h.1
    subst en9
    replace h := h.2
    have en10 := beq_true h.1
    subst en10
    replace h := h.2
    have en11 := beq_true h.1
    subst en11
    replace h := h.2
    have en12 := beq_true h.1
    subst en12
    replace h := h.2
    have en13 := beq_true h.1
    subst en13
    replace h := h.2
    have en14 := beq_true h.1
    subst en14
    replace h := h.2
    have en15 := beq_true h.1
    subst en15
    replace h := h.2
    have en16 := beq_true h.1
    subst en16
    replace h := h.2
    have en17 := beq_true h.1
    subst en17
    replace h := h.2
    have en18 := beq_true h.1
    subst en18
    replace h := h.2
    have en19 := beq_true h.1
    subst en19
    replace h := h.2
    have en20 := beq_true h.1
    subst en20
    replace h := h.2
    have en21 := beq_true h.1
    subst en21
    replace h := h.2
    have en22 := beq_true h.1
    subst en22
    replace h := h.2
    have en23 := beq_true h.1
    subst en23
    replace h := h.2
    have en24 := beq_true h.1
    subst en24
    replace h := h.2
    have en25 := beq_true h.1
    subst en25
    replace h := h.2
    have en26 := beq_true h.1
    subst en26
    replace h := h.2
    have en27 := beq_true h.1
    subst en27
    replace h := h.2
    have en28 := beq_true h.1
    subst en28
    replace h := h.2
    have en29 := beq_true h
    subst en29
    rfl
  · cases h
def g12Si11c1 (A : Ar) (x0 : Nat) (x1 : List Nat) (x2 : Nat) (x3 : List Nat) (x4 x5 : Int) : Bool := g12Si11is1 (g12Si11v A x0 x1 x2 x3 x4 x5)
def g12Si11r1_0 (A : Ar) (x0 : Nat) (x1 : List Nat) (x2 : Nat) (x3 : List Nat) (x4 x5 : Int) : Nat := g12Si11g1_0 (g12Si11v A x0 x1 x2 x3 x4 x5)
def g12Si11r1_1 (A : Ar) (x0 : Nat) (x1 : List Nat) (x2 : Nat) (x3 : List Nat) (x4 x5 : Int) : Nat := g12Si11g1_1 (g12Si11v A x0 x1 x2 x3 x4 x5)
def g12Si11r1_2 (A : Ar) (x0 : Nat) (x1 : List Nat) (x2 : Nat) (x3 : List Nat) (x4 x5 : Int) : List Nat := g12Si11g1_2 (g12Si11v A x0 x1 x2 x3 x4 x5)
def g12Si11r1_3 (A : Ar) (x0 : Nat) (x1 : List Nat) (x2 : Nat) (x3 : List Nat) (x4 x5 : Int) : Int := g12Si11g1_3 (g12Si11v A x0 x1 x2 x3 x4 x5)
def g12Si11r1_4 (A : Ar) (x0 : Nat) (x1 : List Nat) (x2 : Nat) (x3 : List Nat) (x4 x5 : Int) : Int := g12Si11g1_4 (g12Si11v A x0 x1 x2 x3 x4 x5)
def g12Si11r1_5 (A : Ar) (x0 : Nat) (x1 : List Nat) (x2 : Nat) (x3 : List Nat) (x4 x5 : Int) : Nat := g12Si11g1_5 (g12Si11v A x0 x1 x2 x3 x4 x5)
def g12Si11r1_6 (A : Ar) (x0 : Nat) (x1 : List Nat) (x2 : Nat) (x3 : List Nat) (x4 x5 : Int) : List Nat := g12Si11g1_6 (g12Si11v A x0 x1 x2 x3 x4 x5)
def g12Si11r1_7 (A : Ar) (x0 : Nat) (x1 : List Nat) (x2 : Nat) (x3 : List Nat) (x4 x5 : Int) : Nat := g12Si11g1_7 (g12Si11v A x0 x1 x2 x3 x4 x5)
def g12Si11r1_8 (A : Ar) (x0 : Nat) (x1 : List Nat) (x2 : Nat) (x3 : List Nat) (x4 x5 : Int) : List Nat := g12Si11g1_8 (g12Si11v A x0 x1 x2 x3 x4 x5)
def g12Si11is2 (o : Option Heap) : Bool := match o with
  | some [(n0, ⟨[.one (.ptr n1 n2 none), .one (.sl n3 none _ n4)], n5, n6⟩), (n7, ⟨[.one .nils], n8, n9⟩), (n10, ⟨[.one (.str _)], n11, n12⟩), (n13, ⟨[.one (.int .i64 _)], n14, n15⟩), (n16, ⟨[.one (.int .i64 _)], n17, n18⟩), (n19, ⟨[.nums .u8 _ _], n20, n21⟩), (n22, ⟨[], n23, n24⟩)] => Nat.beq n0 410 && (Nat.beq n1 410 && (Nat.beq n2 0 && (Nat.beq n3 415 && (Nat.beq n4 1 && (Nat.beq n5 36 && (Nat.beq n6 1 && (Nat.beq n7 411 && (Nat.beq n8 34 && (Nat.beq n9 1 && (Nat.beq n10 412 && (Nat.beq n11 9 && (Nat.beq n12 1 && (Nat.beq n13 413 && (Nat.beq n14 3 && (Nat.beq n15 1 && (Nat.beq n16 414 && (Nat.beq n17 3 && (Nat.beq n18 1 && (Nat.beq n19 415 && (Nat.beq n20 5 && (Nat.beq n21 0 && (Nat.beq n22 448 && (Nat.beq n23 0 && (Nat.beq n24 0))))))))))))))))))))))))
  | _ => false
def g12Si11g2_0 (o : Option Heap) : Nat := match o with
  | some [(_, ⟨[.one (.ptr _ _ none), .one (.sl _ none x _)], _, _⟩), (_, ⟨[.one .nils], _, _⟩), (_, ⟨[.one (.str _)], _, _⟩), (_, ⟨[.one (.int .i64 _)], _, _⟩), (_, ⟨[.one (.int .i64 _)], _, _⟩), (_, ⟨[.nums .u8 _ _], _, _⟩), (_, ⟨[], _, _⟩)] => x
  | _ => 0
def g12Si11g2_1 (o : Option Heap) : List Nat := match o with
  | some [(_, ⟨[.one (.ptr _ _ none), .one (.sl _ none _ _)], _, _⟩), (_, ⟨[.one .nils], _, _⟩), (_, ⟨[.one (.str x)], _, _⟩), (_, ⟨[.one (.int .i64 _)], _, _⟩), (_, ⟨[.one (.int .i64 _)], _, _⟩), (_, ⟨[.nums .u8 _ _], _, _⟩), (_, ⟨[], _, _⟩)] => x
  | _ => []
def g12Si11g2_2 (o : Option Heap) : Int := match o with
  | some [(_, ⟨[.one (.ptr _ _ none), .one (.sl _ none _ _)], _, _⟩), (_, ⟨[.one .nils], _, _⟩), (_, ⟨[.one (.str _)], _, _⟩), (_, ⟨[.one (.int .i64 x)], _, _⟩), (_, ⟨[.one (.int .i64 _)], _, _⟩), (_, ⟨[.nums .u8 _ _], _, _⟩), (_, ⟨[], _, _⟩)] => x
  | _ => 0
def g12Si11g2_3 (o : Option Heap) : Int := match o with
  | some [(_, ⟨[.one (.ptr _ _ none), .one (.sl _ none _ _)], _, _⟩), (_, ⟨[.one .nils], _, _⟩), (_, ⟨[.one (.str _)], _, _⟩), (_, ⟨[.one (.int .i64 _)], _, _⟩), (_, ⟨[.one (.int .i64 x)], _, _⟩), (_, ⟨[.nums .u8 _ _], _, _⟩), (_, ⟨[], _, _⟩)] => x
  | _ => 0
def g12Si11g2_4 (o : Option Heap) : Nat := match o with
  | some [(_, ⟨[.one (.ptr _ _ none), .one (.sl _ none _ _)], _, _⟩), (_, ⟨[.one .nils], _, _⟩), (_, ⟨[.one (.str _)], _, _⟩), (_, ⟨[.one (.int .i64 _)], _, _⟩), (_, ⟨[.one (.int .i64 _)], _, _⟩), (_, ⟨[.nums .u8 x _], _, _⟩), (_, ⟨[], _, _⟩)] => x
  | _ => 0
def g12Si11g2_5 (o : Option Heap) : List Nat := match o with
  | some [(_, ⟨[.one (.ptr _ _ none), .one (.sl _ none _ _)], _, _⟩), (_, ⟨[.one .nils], _, _⟩), (_, ⟨[.one (.str _)], _, _⟩), (_, ⟨[.one (.int .i64 _)], _, _⟩), (_, ⟨[.one (.int .i64 _)], _, _⟩), (_, ⟨[.nums .u8 _ x], _, _⟩), (_, ⟨[], _, _⟩)] => x
  | _ => []
theorem g12Si11is2_spec {o : Option Heap} (h : g12Si11is2 o = true) : o = some [(410, ⟨[.one (.ptr 410 0 none), .one (.sl 415 none (g12Si11g2_0 o) 1)], 36, 1⟩), (411, ⟨[.one .nils], 34, 1⟩), (412, ⟨[.one (.str (g12Si11g2_1 o))], 9, 1⟩), (413, ⟨[.one (.int .i64 (g12Si11g2_2 o))], 3, 1⟩), (414, ⟨[.one (.int .i64 (g12Si11g2_3 o))], 3, 1⟩), (415, ⟨[.nums .u8 (g12Si11g2_4 o) (g12Si11g2_5 o)], 5, 0⟩), (448, ⟨[], 0, 0⟩)] := by
  unfold g12Si11is2 at h
  split at h
  · rename_i n0 n1 n2 n3 z4 n4 n5 n6 n7 n8 n9 n10 z12 n11 n12 n13 z16 n14 n15 n16 z20 n17 n18 n19 z24 z25 n20 n21 n22 n23 n24
    simp only [Bool.and_eq_true] at h
    have en0 := beq_true h.1
    subst en0
    replace h := h.2
    have en1 := beq_true h.1
    subst en1
    replace h := h.2
    have en2 := beq_true h.1
    subst en2
    replace h := h.2
    have en3 := beq_true h.1
    subst en3
    replace h := h.2
    have en4 := beq_true h.1
    subst en4
    replace h := h.2
    have en5 := beq_true h.1
    subst en5
    replace h := h.2
    have en6 := beq_true h.1
    subst en6
    replace h := h.2
    have en7 := beq_true h.1
    subst en7
    replace h := h.2
    have en8 := beq_true h.1
    subst en8
    replace h := h.2
    have en9 := beq_true h.1
    subst en9
    replace h := h.2
    have en10 := beq_true h.1
    subst en10
    replace h := h.2
    have en11 := beq_true h.1
    subst en11
    replace h := h.2
    have en12 := beq_true h.1
    subst en12
    replace h := h.2
    have en13 := beq_true h.1
    subst en13
    replace h := h.2
    have en14 := beq_true h.1
    subst en14
    replace h := h.2
    have en15 := beq_true h.1
    subst en15
    replace h := h.2
    have en16 := beq_true h.1
    subst en16
    replace h := h.2
    have en17 := beq_true h.1
    subst en17
    replace h := h.2
    have en18 := beq_true h.1
    subst en18
    replace h := h.2
    have en19 := beq_true h.1
    subst en19
    replace h := h.2
    have en20 := beq_true h.1
    subst en20
    replace h := h.2
    have en21 := beq_true h.1
    subst en21
    replace h := h.2
    have en22 := beq_true h.1
    subst en22
    replace h := h.2
    have en23 := beq_true h.1
    subst en23
    replace h := h.2
    have en24 := beq_true h
    subst en24
    rfl
  · cases h
def g12Si11c2 (A : Ar) (x0 : Nat) (x1 : List Nat) (x2 : Nat) (x3 : List Nat) (x4 x5 : Int) : Bool := g12Si11is2 (g12Si11v A x0 x1 x2 x3 x4 x5)
def g12Si11r2_0 (A : Ar) (x0 : Nat) (x1 : List Nat) (x2 : Nat) (x3 : List Nat) (x4 x5 : Int) : Nat := g12Si11g2_0 (g12Si11v A x0 x1 x2 x3 x4 x5)
def g12Si11r2_1 (A : Ar) (x0 : Nat) (x1 : List Nat) (x2 : Nat) (x3 : List Nat) (x4 x5 : Int) : List Nat := g12Si11g2_1 (g12Si11v A x0 x1 x2 x3 x4 x5)
def g12Si11r2_2 (A : Ar) (x0 : Nat) (x1 : List Nat) (x2 : Nat) (x3 : List Nat) (x4 x5 : Int) : Int := g12Si11g2_2 (g12Si11v A x0 x1 x2 x3 x4 x5)
def g12Si11r2_3 (A : Ar) (x0 : Nat) (x1 : List Nat) (x2 : Nat) (x3 : List Nat) (x4 x5 : Int) : Int := g12Si11g2_3 (g12Si11v A x0 x1 x2 x3 x4 x5)
def g12Si11r2_4 (A : Ar) (x0 : Nat) (x1 : List Nat) (x2 : Nat) (x3 : List Nat) (x4 x5 : Int) : Nat := g12Si11g2_4 (g12Si11v A x0 x1 x2 x3 x4 x5)
def g12Si11r2_5 (A : Ar) (x0 : Nat) (x1 : List Nat) (x2 : Nat) (x3 : List Nat) (x4 x5 : Int) : List Nat := g12Si11g2_5 (g12Si11v A x0 x1 x2 x3 x4 x5)
def g12Si11a_O (A : Ar) : Orc := g12Si11U A [(4, (pT 410 0)), (8, (pT 411 0)), (25, (.fn 32 [] [(.cell (.ptr 412 0 none)), (.cell (.ptr 413 0 none)), (.cell (.ptr 414 0 none))]))]
def g12Si11a_an : Ann := [(0, ([0, 1, 2, 3], [410, 411, 412, 413, 414, 415, 448])), (1, ([0, 1, 2, 3, 5, 6], [410, 411, 412, 413, 414, 415, 448])), (2, ([0, 1, 2, 3, 5, 6, 9, 10], [410, 411, 412, 413, 414, 415, 448, 500])), (3, ([0, 1, 2, 3, 5, 6, 9, 10], [410, 411, 412, 413, 414, 415, 448, 500])), (4, ([0, 1, 2, 3, 5, 6, 7, 9, 10], [410, 411, 412, 413, 414, 415, 448, 500])), (5, ([0, 1, 2, 3, 5, 6, 9, 10], [410, 411, 412, 413, 414, 415, 448, 500, 13004])), (6, ([0, 1, 2, 3, 5, 6, 9, 10], [410, 411, 412, 413, 414, 415, 448, 500])), (7, ([0, 1, 2, 3, 5, 6, 9, 10], [410, 411, 412, 413, 414, 415, 448, 500])), (8, ([0, 1, 2, 3, 5, 6, 9, 10], [410, 411, 412, 413, 414, 415, 448, 500])), (9, ([0, 1, 2, 3, 5, 6, 9, 10], [410, 411, 412, 413, 414, 415, 448, 500])), (10, ([0, 3, 5, 6], [410, 411, 412, 413, 414, 415, 448, 500])), (11, ([0, 3, 5, 6], [410, 411, 412, 413, 414, 415, 448, 500])), (1000002, ([5002, 13004], [500, 500])), (1000005, ([5002, 13004], [500, 500]))]
def g12Si11a_res : List ResultVar := []
def g12Si11a_cut : List Nat := [3, 6, 8, 10]
noncomputable def g12Si11a_N {R : Type} (A : Ar) (kk : AV → Heap → Option R) (t : List Bool → St → Option R) (p : List Bool) (s : St) : Option R := nodeN A gtys (g12Si11a_O A) g12Si11a_an g12Si11a_cut t (bodyOf Tryd.f32) (finD gtys g12Si11a_res kk) p s
def g12Si11a_J6as (x0 x1 : Int) (x2 x3 : Int) (x4 : Nat) (x5 : List Nat) (x6 x7 : Int) (x8 : Nat) (x9 : List Nat) : St := ⟨[(0, (.yld 449)), (1, (pT 412 0)), (2, (pT 413 0)), (3, (pT 414 0)), (5, (i6 x0)), (6, (i6 x1)), (9, (i6 x2)), (10, (i6 x3))], [(410, ⟨[.one .nilp, .one .nils], 36, 1⟩), (411, ⟨[.one (.sl 500 none x4 1)], 34, 1⟩), (412, ⟨[.one (.str x5)], 9, 1⟩), (413, ⟨[.one (.int .i64 x6)], 3, 1⟩), (414, ⟨[.one (.int .i64 x7)], 3, 1⟩), (448, ⟨[], 0, 0⟩), (500, ⟨[.nums .u8 x8 x9], 5, 2⟩)]⟩
def g12Si11a_J6a {R : Type} (A : Ar) (n : Nat) (kk : AV → Heap → Option R) (lg12Si11a_L5a : Int → Int → Int → Int → Nat → List Nat → Int → Int → Nat → List Nat → Option R) (x0 x1 : Int) (x2 x3 : Int) (x4 : Nat) (x5 : List Nat) (x6 x7 : Int) (x8 : Nat) (x9 : List Nat) : Option R :=
  match A.neg (A.ib .sub .i64 x0 x7) with
  | true => none
  | false => match A.neg x7 with
    | true => none
    | false => match g12Sb11c_c0 A (A.ib .and .i64 (A.ish .shr .i64 x1 (A.toN (A.ib .sub .i64 x0 x7))) (A.ib .sub .i64 (A.ish .shl .i64 1 (A.toN x7)) 1)) x4 x8 x9 with
      | true => lg12Si11a_L5a (A.ib .sub .i64 x0 x7) x1 x2 x3 (g12Sb11c_r0_0 A (A.ib .and .i64 (A.ish .shr .i64 x1 (A.toN (A.ib .sub .i64 x0 x7))) (A.ib .sub .i64 (A.ish .shl .i64 1 (A.toN x7)) 1)) x4 x8 x9) x5 x6 x7 (g12Sb11c_r0_1 A (A.ib .and .i64 (A.ish .shr .i64 x1 (A.toN (A.ib .sub .i64 x0 x7))) (A.ib .sub .i64 (A.ish .shl .i64 1 (A.toN x7)) 1)) x4 x8 x9) (g12Sb11c_r0_2 A (A.ib .and .i64 (A.ish .shr .i64 x1 (A.toN (A.ib .sub .i64 x0 x7))) (A.ib .sub .i64 (A.ish .shl .i64 1 (A.toN x7)) 1)) x4 x8 x9)
      | false => none
def g12Si11a_J8s (x0 x1 : Int) (x2 x3 : Int) (x4 : Nat) (x5 : List Nat) (x6 x7 : Int) (x8 : Nat) (x9 : List Nat) : St := ⟨[(0, (.yld 449)), (1, (pT 412 0)), (2, (pT 413 0)), (3, (pT 414 0)), (5, (i6 x0)), (6, (i6 x1)), (9, (i6 x2)), (10, (i6 x3))], [(410, ⟨[.one .nilp, .one .nils], 36, 1⟩), (411, ⟨[.one (.sl 500 none x4 1)], 34, 1⟩), (412, ⟨[.one (.str x5)], 9, 1⟩), (413, ⟨[.one (.int .i64 x6)], 3, 1⟩), (414, ⟨[.one (.int .i64 x7)], 3, 1⟩), (448, ⟨[], 0, 0⟩), (500, ⟨[.nums .u8 x8 x9], 5, 2⟩)]⟩
def g12Si11a_J8 {R : Type} (A : Ar) (n : Nat) (kk : AV → Heap → Option R) (lg12Si11a_L2a : Int → Int → Int → Int → Nat → List Nat → Int → Int → Nat → List Nat → Option R) (x0 x1 : Int) (x2 x3 : Int) (x4 : Nat) (x5 : List Nat) (x6 x7 : Int) (x8 : Nat) (x9 : List Nat) : Option R :=
  match A.neg x0 with
  | true => none
  | false => lg12Si11a_L2a x0 (A.ib .and .i64 x1 (A.ib .sub .i64 (A.ish .shl .i64 1 (A.toN x0)) 1)) x2 (A.ib .add .i64 x3 1) x4 x5 x6 x7 x8 x9
def g12Si11a_L5as (x0 x1 : Int) (x2 x3 : Int) (x4 : Nat) (x5 : List Nat) (x6 x7 : Int) (x8 : Nat) (x9 : List Nat) : St := ⟨[(0, (.yld 449)), (1, (pT 412 0)), (2, (pT 413 0)), (3, (pT 414 0)), (5, (i6 x0)), (6, (i6 x1)), (9, (i6 x2)), (10, (i6 x3))], [(410, ⟨[.one .nilp, .one .nils], 36, 1⟩), (411, ⟨[.one (.sl 500 none x4 1)], 34, 1⟩), (412, ⟨[.one (.str x5)], 9, 1⟩), (413, ⟨[.one (.int .i64 x6)], 3, 1⟩), (414, ⟨[.one (.int .i64 x7)], 3, 1⟩), (448, ⟨[], 0, 0⟩), (500, ⟨[.nums .u8 x8 x9], 5, 2⟩)]⟩
def g12Si11a_L5a {R : Type} (A : Ar) (n : Nat) (kk : AV → Heap → Option R) (lg12Si11a_L2a : Int → Int → Int → Int → Nat → List Nat → Int → Int → Nat → List Nat → Option R) : Nat → Int → Int → Int → Int → Nat → List Nat → Int → Int → Nat → List Nat → Option R
  | 0, _, _, _, _, _, _, _, _, _, _ => none
  | m + 1, x0, x1, x2, x3, x4, x5, x6, x7, x8, x9 => match A.ic .geq x0 x7 with
  | true => g12Si11a_J6a A n kk (g12Si11a_L5a A n kk lg12Si11a_L2a m) x0 x1 x2 x3 x4 x5 x6 x7 x8 x9
  | false => g12Si11a_J8 A n kk lg12Si11a_L2a x0 x1 x2 x3 x4 x5 x6 x7 x8 x9
def g12Si11a_J3as (x0 x1 : Int) (x2 x3 : Int) (x4 : Nat) (x5 : List Nat) (x6 x7 : Int) (x8 : Nat) (x9 : List Nat) : St := ⟨[(0, (.yld 449)), (1, (pT 412 0)), (2, (pT 413 0)), (3, (pT 414 0)), (5, (i6 x0)), (6, (i6 x1)), (9, (i6 x2)), (10, (i6 x3))], [(410, ⟨[.one .nilp, .one .nils], 36, 1⟩), (411, ⟨[.one (.sl 500 none x4 1)], 34, 1⟩), (412, ⟨[.one (.str x5)], 9, 1⟩), (413, ⟨[.one (.int .i64 x6)], 3, 1⟩), (414, ⟨[.one (.int .i64 x7)], 3, 1⟩), (448, ⟨[], 0, 0⟩), (500, ⟨[.nums .u8 x8 x9], 5, 2⟩)]⟩
def g12Si11a_J3a {R : Type} (A : Ar) (n : Nat) (kk : AV → Heap → Option R) (lg12Si11a_L2a : Int → Int → Int → Int → Nat → List Nat → Int → Int → Nat → List Nat → Option R) (x0 x1 : Int) (x2 x3 : Int) (x4 : Nat) (x5 : List Nat) (x6 x7 : Int) (x8 : Nat) (x9 : List Nat) : Option R :=
  match A.neg x6 with
  | true => none
  | false => match A.neg x3 with
    | true => none
    | false => match A.lt (A.toN x3) x5.length with
      | true => g12Si11a_L5a A n kk lg12Si11a_L2a n (A.ib .add .i64 x0 x6) (A.ib .or .i64 (A.ish .shl .i64 x1 (A.toN x6)) (A.ofN (x5.getD (A.toN x3) 0))) x2 x3 x4 x5 x6 x7 x8 x9
      | false => none
def g12Si11a_J10s (x0 x1 : Int) (x2 : Nat) (x3 : List Nat) (x4 x5 : Int) (x6 : Nat) (x7 : List Nat) : St := ⟨[(0, (.yld 449)), (3, (pT 414 0)), (5, (i6 x0)), (6, (i6 x1))], [(410, ⟨[.one .nilp, .one .nils], 36, 1⟩), (411, ⟨[.one (.sl 500 none x2 1)], 34, 1⟩), (412, ⟨[.one (.str x3)], 9, 1⟩), (413, ⟨[.one (.int .i64 x4)], 3, 1⟩), (414, ⟨[.one (.int .i64 x5)], 3, 1⟩), (448, ⟨[], 0, 0⟩), (500, ⟨[.nums .u8 x6 x7], 5, 2⟩)]⟩
def g12Si11a_J10 {R : Type} (A : Ar) (n : Nat) (kk : AV → Heap → Option R)  (x0 x1 : Int) (x2 : Nat) (x3 : List Nat) (x4 x5 : Int) (x6 : Nat) (x7 : List Nat) : Option R :=
  match A.ic .gtr x0 0 with
  | true => match A.neg (A.ib .sub .i64 x5 x0) with
    | true => none
    | false => match A.neg x5 with
      | true => none
      | false => match g12Sb11c_c0 A (A.ib .and .i64 (A.ish .shl .i64 x1 (A.toN (A.ib .sub .i64 x5 x0))) (A.ib .sub .i64 (A.ish .shl .i64 1 (A.toN x5)) 1)) x2 x6 x7 with
        | true => kk (.tup []) [(412, ⟨[.one (.str x3)], 9, 1⟩), (413, ⟨[.one (.int .i64 x4)], 3, 1⟩), (414, ⟨[.one (.int .i64 x5)], 3, 1⟩), (448, ⟨[], 0, 0⟩), (410, ⟨[.one .nilp, .one .nils], 36, 1⟩), (411, ⟨[.one (.sl 500 none (g12Sb11c_r0_0 A (A.ib .and .i64 (A.ish .shl .i64 x1 (A.toN (A.ib .sub .i64 x5 x0))) (A.ib .sub .i64 (A.ish .shl .i64 1 (A.toN x5)) 1)) x2 x6 x7) 1)], 34, 1⟩), (500, ⟨[.nums .u8 (g12Sb11c_r0_1 A (A.ib .and .i64 (A.ish .shl .i64 x1 (A.toN (A.ib .sub .i64 x5 x0))) (A.ib .sub .i64 (A.ish .shl .i64 1 (A.toN x5)) 1)) x2 x6 x7) (g12Sb11c_r0_2 A (A.ib .and .i64 (A.ish .shl .i64 x1 (A.toN (A.ib .sub .i64 x5 x0))) (A.ib .sub .i64 (A.ish .shl .i64 1 (A.toN x5)) 1)) x2 x6 x7)], 5, 2⟩)]
        | false => none
  | false => kk (.tup []) [(410, ⟨[.one .nilp, .one .nils], 36, 1⟩), (411, ⟨[.one (.sl 500 none x2 1)], 34, 1⟩), (412, ⟨[.one (.str x3)], 9, 1⟩), (413, ⟨[.one (.int .i64 x4)], 3, 1⟩), (414, ⟨[.one (.int .i64 x5)], 3, 1⟩), (448, ⟨[], 0, 0⟩), (500, ⟨[.nums .u8 x6 x7], 5, 2⟩)]
def g12Si11a_L2as (x0 x1 : Int) (x2 x3 : Int) (x4 : Nat) (x5 : List Nat) (x6 x7 : Int) (x8 : Nat) (x9 : List Nat) : St := ⟨[(0, (.yld 449)), (1, (pT 412 0)), (2, (pT 413 0)), (3, (pT 414 0)), (5, (i6 x0)), (6, (i6 x1)), (9, (i6 x2)), (10, (i6 x3))], [(410, ⟨[.one .nilp, .one .nils], 36, 1⟩), (411, ⟨[.one (.sl 500 none x4 1)], 34, 1⟩), (412, ⟨[.one (.str x5)], 9, 1⟩), (413, ⟨[.one (.int .i64 x6)], 3, 1⟩), (414, ⟨[.one (.int .i64 x7)], 3, 1⟩), (448, ⟨[], 0, 0⟩), (500, ⟨[.nums .u8 x8 x9], 5, 2⟩)]⟩
def g12Si11a_L2a {R : Type} (A : Ar) (n : Nat) (kk : AV → Heap → Option R)  : Nat → Int → Int → Int → Int → Nat → List Nat → Int → Int → Nat → List Nat → Option R
  | 0, _, _, _, _, _, _, _, _, _, _ => none
  | m + 1, x0, x1, x2, x3, x4, x5, x6, x7, x8, x9 => match A.ic .lss x3 x2 with
  | true => g12Si11a_J3a A n kk (g12Si11a_L2a A n kk  m) x0 x1 x2 x3 x4 x5 x6 x7 x8 x9
  | false => g12Si11a_J10 A n kk  x0 x1 x4 x5 x6 x7 x8 x9
def g12Si11a_J6s (x0 x1 : Int) (x2 x3 : Int) (x4 : List Nat) (x5 x6 : Int) : St := ⟨[(0, (.yld 449)), (1, (pT 412 0)), (2, (pT 413 0)), (3, (pT 414 0)), (5, (i6 x0)), (6, (i6 x1)), (9, (i6 x2)), (10, (i6 x3))], [(410, ⟨[.one .nilp, .one .nils], 36, 1⟩), (411, ⟨[.one .nils], 34, 1⟩), (412, ⟨[.one (.str x4)], 9, 1⟩), (413, ⟨[.one (.int .i64 x5)], 3, 1⟩), (414, ⟨[.one (.int .i64 x6)], 3, 1⟩), (448, ⟨[], 0, 0⟩)]⟩
def g12Si11a_J6 {R : Type} (A : Ar) (n : Nat) (kk : AV → Heap → Option R) (lg12Si11a_L5a : Int → Int → Int → Int → Nat → List Nat → Int → Int → Nat → List Nat → Option R) (x0 x1 : Int) (x2 x3 : Int) (x4 : List Nat) (x5 x6 : Int) : Option R :=
  match A.neg (A.ib .sub .i64 x0 x6) with
  | true => none
  | false => match A.neg x6 with
    | true => none
    | false => match g12Sb11b_c0 A (A.ib .and .i64 (A.ish .shr .i64 x1 (A.toN (A.ib .sub .i64 x0 x6))) (A.ib .sub .i64 (A.ish .shl .i64 1 (A.toN x6)) 1)) with
      | true => lg12Si11a_L5a (A.ib .sub .i64 x0 x6) x1 x2 x3 (g12Sb11b_r0_0 A (A.ib .and .i64 (A.ish .shr .i64 x1 (A.toN (A.ib .sub .i64 x0 x6))) (A.ib .sub .i64 (A.ish .shl .i64 1 (A.toN x6)) 1))) x4 x5 x6 (g12Sb11b_r0_1 A (A.ib .and .i64 (A.ish .shr .i64 x1 (A.toN (A.ib .sub .i64 x0 x6))) (A.ib .sub .i64 (A.ish .shl .i64 1 (A.toN x6)) 1))) (g12Sb11b_r0_2 A (A.ib .and .i64 (A.ish .shr .i64 x1 (A.toN (A.ib .sub .i64 x0 x6))) (A.ib .sub .i64 (A.ish .shl .i64 1 (A.toN x6)) 1)))
      | false => none
def g12Si11a_J8as (x0 x1 : Int) (x2 x3 : Int) (x4 : List Nat) (x5 x6 : Int) : St := ⟨[(0, (.yld 449)), (1, (pT 412 0)), (2, (pT 413 0)), (3, (pT 414 0)), (5, (i6 x0)), (6, (i6 x1)), (9, (i6 x2)), (10, (i6 x3))], [(410, ⟨[.one .nilp, .one .nils], 36, 1⟩), (411, ⟨[.one .nils], 34, 1⟩), (412, ⟨[.one (.str x4)], 9, 1⟩), (413, ⟨[.one (.int .i64 x5)], 3, 1⟩), (414, ⟨[.one (.int .i64 x6)], 3, 1⟩), (448, ⟨[], 0, 0⟩)]⟩
def g12Si11a_J8a {R : Type} (A : Ar) (n : Nat) (kk : AV → Heap → Option R) (lg12Si11a_L2 : Int → Int → Int → Int → List Nat → Int → Int → Option R) (x0 x1 : Int) (x2 x3 : Int) (x4 : List Nat) (x5 x6 : Int) : Option R :=
  match A.neg x0 with
  | true => none
  | false => lg12Si11a_L2 x0 (A.ib .and .i64 x1 (A.ib .sub .i64 (A.ish .shl .i64 1 (A.toN x0)) 1)) x2 (A.ib .add .i64 x3 1) x4 x5 x6
def g12Si11a_L5s (x0 x1 : Int) (x2 x3 : Int) (x4 : List Nat) (x5 x6 : Int) : St := ⟨[(0, (.yld 449)), (1, (pT 412 0)), (2, (pT 413 0)), (3, (pT 414 0)), (5, (i6 x0)), (6, (i6 x1)), (9, (i6 x2)), (10, (i6 x3))], [(410, ⟨[.one .nilp, .one .nils], 36, 1⟩), (411, ⟨[.one .nils], 34, 1⟩), (412, ⟨[.one (.str x4)], 9, 1⟩), (413, ⟨[.one (.int .i64 x5)], 3, 1⟩), (414, ⟨[.one (.int .i64 x6)], 3, 1⟩), (448, ⟨[], 0, 0⟩)]⟩
def g12Si11a_L5 {R : Type} (A : Ar) (n : Nat) (kk : AV → Heap → Option R) (lg12Si11a_L2 : Int → Int → Int → Int → List Nat → Int → Int → Option R) (lg12Si11a_L2a : Int → Int → Int → Int → Nat → List Nat → Int → Int → Nat → List Nat → Option R) : Nat → Int → Int → Int → Int → List Nat → Int → Int → Option R
  | 0, _, _, _, _, _, _, _ => none
  | m + 1, x0, x1, x2, x3, x4, x5, x6 => match A.ic .geq x0 x6 with
  | true => g12Si11a_J6 A n kk (g12Si11a_L5a A n kk lg12Si11a_L2a m) x0 x1 x2 x3 x4 x5 x6
  | false => g12Si11a_J8a A n kk lg12Si11a_L2 x0 x1 x2 x3 x4 x5 x6
def g12Si11a_J3s (x0 x1 : Int) (x2 x3 : Int) (x4 : List Nat) (x5 x6 : Int) : St := ⟨[(0, (.yld 449)), (1, (pT 412 0)), (2, (pT 413 0)), (3, (pT 414 0)), (5, (i6 x0)), (6, (i6 x1)), (9, (i6 x2)), (10, (i6 x3))], [(410, ⟨[.one .nilp, .one .nils], 36, 1⟩), (411, ⟨[.one .nils], 34, 1⟩), (412, ⟨[.one (.str x4)], 9, 1⟩), (413, ⟨[.one (.int .i64 x5)], 3, 1⟩), (414, ⟨[.one (.int .i64 x6)], 3, 1⟩), (448, ⟨[], 0, 0⟩)]⟩
def g12Si11a_J3 {R : Type} (A : Ar) (n : Nat) (kk : AV → Heap → Option R) (lg12Si11a_L2 : Int → Int → Int → Int → List Nat → Int → Int → Option R) (lg12Si11a_L2a : Int → Int → Int → Int → Nat → List Nat → Int → Int → Nat → List Nat → Option R) (x0 x1 : Int) (x2 x3 : Int) (x4 : List Nat) (x5 x6 : Int) : Option R :=
  match A.neg x5 with
  | true => none
  | false => match A.neg x3 with
    | true => none
    | false => match A.lt (A.toN x3) x4.length with
      | true => g12Si11a_L5 A n kk lg12Si11a_L2 lg12Si11a_L2a n (A.ib .add .i64 x0 x5) (A.ib .or .i64 (A.ish .shl .i64 x1 (A.toN x5)) (A.ofN (x4.getD (A.toN x3) 0))) x2 x3 x4 x5 x6
      | false => none
def g12Si11a_J10as (x0 x1 : Int) (x2 : List Nat) (x3 x4 : Int) : St := ⟨[(0, (.yld 449)), (3, (pT 414 0)), (5, (i6 x0)), (6, (i6 x1))], [(410, ⟨[.one .nilp, .one .nils], 36, 1⟩), (411, ⟨[.one .nils], 34, 1⟩), (412, ⟨[.one (.str x2)], 9, 1⟩), (413, ⟨[.one (.int .i64 x3)], 3, 1⟩), (414, ⟨[.one (.int .i64 x4)], 3, 1⟩), (448, ⟨[], 0, 0⟩)]⟩
def g12Si11a_J10a {R : Type} (A : Ar) (n : Nat) (kk : AV → Heap → Option R)  (x0 x1 : Int) (x2 : List Nat) (x3 x4 : Int) : Option R :=
  match A.ic .gtr x0 0 with
  | true => match A.neg (A.ib .sub .i64 x4 x0) with
    | true => none
    | false => match A.neg x4 with
      | true => none
      | false => match g12Sb11b_c0 A (A.ib .and .i64 (A.ish .shl .i64 x1 (A.toN (A.ib .sub .i64 x4 x0))) (A.ib .sub .i64 (A.ish .shl .i64 1 (A.toN x4)) 1)) with
        | true => kk (.tup []) [(412, ⟨[.one (.str x2)], 9, 1⟩), (413, ⟨[.one (.int .i64 x3)], 3, 1⟩), (414, ⟨[.one (.int .i64 x4)], 3, 1⟩), (448, ⟨[], 0, 0⟩), (410, ⟨[.one .nilp, .one .nils], 36, 1⟩), (411, ⟨[.one (.sl 13004 none (g12Sb11b_r0_0 A (A.ib .and .i64 (A.ish .shl .i64 x1 (A.toN (A.ib .sub .i64 x4 x0))) (A.ib .sub .i64 (A.ish .shl .i64 1 (A.toN x4)) 1))) 1)], 34, 1⟩), (13004, ⟨[.nums .u8 (g12Sb11b_r0_1 A (A.ib .and .i64 (A.ish .shl .i64 x1 (A.toN (A.ib .sub .i64 x4 x0))) (A.ib .sub .i64 (A.ish .shl .i64 1 (A.toN x4)) 1))) (g12Sb11b_r0_2 A (A.ib .and .i64 (A.ish .shl .i64 x1 (A.toN (A.ib .sub .i64 x4 x0))) (A.ib .sub .i64 (A.ish .shl .i64 1 (A.toN x4)) 1)))], 5, 2⟩)]
        | false => none
  | false => kk (.tup []) [(410, ⟨[.one .nilp, .one .nils], 36, 1⟩), (411, ⟨[.one .nils], 34, 1⟩), (412, ⟨[.one (.str x2)], 9, 1⟩), (413, ⟨[.one (.int .i64 x3)], 3, 1⟩), (414, ⟨[.one (.int .i64 x4)], 3, 1⟩), (448, ⟨[], 0, 0⟩)]
def g12Si11a_L2s (x0 x1 : Int) (x2 x3 : Int) (x4 : List Nat) (x5 x6 : Int) : St := ⟨[(0, (.yld 449)), (1, (pT 412 0)), (2, (pT 413 0)), (3, (pT 414 0)), (5, (i6 x0)), (6, (i6 x1)), (9, (i6 x2)), (10, (i6 x3))], [(410, ⟨[.one .nilp, .one .nils], 36, 1⟩), (411, ⟨[.one .nils], 34, 1⟩), (412, ⟨[.one (.str x4)], 9, 1⟩), (413, ⟨[.one (.int .i64 x5)], 3, 1⟩), (414, ⟨[.one (.int .i64 x6)], 3, 1⟩), (448, ⟨[], 0, 0⟩)]⟩
def g12Si11a_L2 {R : Type} (A : Ar) (n : Nat) (kk : AV → Heap → Option R)  : Nat → Int → Int → Int → Int → List Nat → Int → Int → Option R
  | 0, _, _, _, _, _, _, _ => none
  | m + 1, x0, x1, x2, x3, x4, x5, x6 => match A.ic .lss x3 x2 with
  | true => g12Si11a_J3 A n kk (g12Si11a_L2 A n kk  m) (g12Si11a_L2a A n kk  m) x0 x1 x2 x3 x4 x5 x6
  | false => g12Si11a_J10a A n kk  x0 x1 x4 x5 x6
def g12Si11a_ {R : Type} (A : Ar) (n : Nat) (kk : AV → Heap → Option R) (x0 : List Nat) (x1 x2 : Int) : Option R :=
  g12Si11a_L2 A n kk  n 0 0 (A.ofN x0.length) 0 x0 x1 x2
section
variable {R : Type} {A : Ar} {n : Nat} {kk : AV → Heap → Option R} {tb : Nat → List Bool → St → Option R} (st : Stp (g12Si11a_N A kk) tb)
include st
theorem g12Si11a_J6a_go {lg12Si11a_L5a : Int → Int → Int → Int → Nat → List Nat → Int → Int → Nat → List Nat → Option R} (hg12Si11a_L5a : ∀ (x0 x1 : Int) (x2 x3 : Int) (x4 : Nat) (x5 : List Nat) (x6 x7 : Int) (x8 : Nat) (x9 : List Nat), Prs (fun k => tb k (pth 27032) (g12Si11a_L5as x0 x1 x2 x3 x4 x5 x6 x7 x8 x9)) (lg12Si11a_L5a x0 x1 x2 x3 x4 x5 x6 x7 x8 x9)) {x0 : Int} {x1 : Int} {x2 : Int} {x3 : Int} {x4 : Nat} {x5 : List Nat} {x6 : Int} {x7 : Int} {x8 : Nat} {x9 : List Nat} : Prs (fun k => tb k (pth 54065) (g12Si11a_J6as x0 x1 x2 x3 x4 x5 x6 x7 x8 x9)) (g12Si11a_J6a A n kk lg12Si11a_L5a x0 x1 x2 x3 x4 x5 x6 x7 x8 x9) := by
  unfold g12Si11a_J6a
  exact st.g (pc (SxP07kpi _ pn (SxP07kpi _ pn (SxP07kpi _ (hg12Si11a_L5a _ _ _ _ _ _ _ _ _ _) pn))) (by kernel_rfl))
theorem g12Si11a_J8_go {lg12Si11a_L2a : Int → Int → Int → Int → Nat → List Nat → Int → Int → Nat → List Nat → Option R} (hg12Si11a_L2a : ∀ (x0 x1 : Int) (x2 x3 : Int) (x4 : Nat) (x5 : List Nat) (x6 x7 : Int) (x8 : Nat) (x9 : List Nat), Prs (fun k => tb k (pth 52) (g12Si11a_L2as x0 x1 x2 x3 x4 x5 x6 x7 x8 x9)) (lg12Si11a_L2a x0 x1 x2 x3 x4 x5 x6 x7 x8 x9)) {x0 : Int} {x1 : Int} {x2 : Int} {x3 : Int} {x4 : Nat} {x5 : List Nat} {x6 : Int} {x7 : Int} {x8 : Nat} {x9 : List Nat} : Prs (fun k => tb k (pth 6759) (g12Si11a_J8s x0 x1 x2 x3 x4 x5 x6 x7 x8 x9)) (g12Si11a_J8 A n kk lg12Si11a_L2a x0 x1 x2 x3 x4 x5 x6 x7 x8 x9) := by
  unfold g12Si11a_J8
  exact st.g (pc (SxP07kpi _ pn (hg12Si11a_L2a _ _ _ _ _ _ _ _ _ _)) (by kernel_rfl))
theorem g12Si11a_L5a_go {lg12Si11a_L2a : Int → Int → Int → Int → Nat → List Nat → Int → Int → Nat → List Nat → Option R} (hg12Si11a_L2a : ∀ (x0 x1 : Int) (x2 x3 : Int) (x4 : Nat) (x5 : List Nat) (x6 x7 : Int) (x8 : Nat) (x9 : List Nat), Prs (fun k => tb k (pth 52) (g12Si11a_L2as x0 x1 x2 x3 x4 x5 x6 x7 x8 x9)) (lg12Si11a_L2a x0 x1 x2 x3 x4 x5 x6 x7 x8 x9)) (m : Nat) : ∀ (x0 x1 : Int) (x2 x3 : Int) (x4 : Nat) (x5 : List Nat) (x6 x7 : Int) (x8 : Nat) (x9 : List Nat), Prs (fun k => tb k (pth 27032) (g12Si11a_L5as x0 x1 x2 x3 x4 x5 x6 x7 x8 x9)) (g12Si11a_L5a A n kk lg12Si11a_L2a m x0 x1 x2 x3 x4 x5 x6 x7 x8 x9) := by
  induction m with
  | zero => intro x0 x1 x2 x3 x4 x5 x6 x7 x8 x9; exact pn0
  | succ m ih =>
    intro x0 x1 x2 x3 x4 x5 x6 x7 x8 x9; rw [g12Si11a_L5a]
    exact st.g (pc (SxP07kpi _ (g12Si11a_J6a_go st ih) (g12Si11a_J8_go st hg12Si11a_L2a)) (by kernel_rfl))
theorem g12Si11a_J3a_go {lg12Si11a_L2a : Int → Int → Int → Int → Nat → List Nat → Int → Int → Nat → List Nat → Option R} (hg12Si11a_L2a : ∀ (x0 x1 : Int) (x2 x3 : Int) (x4 : Nat) (x5 : List Nat) (x6 x7 : Int) (x8 : Nat) (x9 : List Nat), Prs (fun k => tb k (pth 52) (g12Si11a_L2as x0 x1 x2 x3 x4 x5 x6 x7 x8 x9)) (lg12Si11a_L2a x0 x1 x2 x3 x4 x5 x6 x7 x8 x9)) {x0 : Int} {x1 : Int} {x2 : Int} {x3 : Int} {x4 : Nat} {x5 : List Nat} {x6 : Int} {x7 : Int} {x8 : Nat} {x9 : List Nat} : Prs (fun k => tb k (pth 211) (g12Si11a_J3as x0 x1 x2 x3 x4 x5 x6 x7 x8 x9)) (g12Si11a_J3a A n kk lg12Si11a_L2a x0 x1 x2 x3 x4 x5 x6 x7 x8 x9) := by
  unfold g12Si11a_J3a
  exact st.g (pc (SxP07kpi _ pn (SxP07kpi _ pn (SxP07kpi _ (g12Si11a_L5a_go st hg12Si11a_L2a n _ _ _ _ _ _ _ _ _ _) pn))) (by kernel_rfl))
theorem g12Si11a_J10_go {x0 : Int} {x1 : Int} {x2 : Nat} {x3 : List Nat} {x4 : Int} {x5 : Int} {x6 : Nat} {x7 : List Nat} : Prs (fun k => tb k (pth 7) (g12Si11a_J10s x0 x1 x2 x3 x4 x5 x6 x7)) (g12Si11a_J10 A n kk x0 x1 x2 x3 x4 x5 x6 x7) := by
  unfold g12Si11a_J10
  exact st.g (pc (SxP07kpi _ (SxP07kpi _ pn (SxP07kpi _ pn (SxP07kpi _ (pf _) pn))) (pf _)) (by kernel_rfl))
theorem g12Si11a_L2a_go (m : Nat) : ∀ (x0 x1 : Int) (x2 x3 : Int) (x4 : Nat) (x5 : List Nat) (x6 x7 : Int) (x8 : Nat) (x9 : List Nat), Prs (fun k => tb k (pth 52) (g12Si11a_L2as x0 x1 x2 x3 x4 x5 x6 x7 x8 x9)) (g12Si11a_L2a A n kk m x0 x1 x2 x3 x4 x5 x6 x7 x8 x9) := by
  induction m with
  | zero => intro x0 x1 x2 x3 x4 x5 x6 x7 x8 x9; exact pn0
  | succ m ih =>
    intro x0 x1 x2 x3 x4 x5 x6 x7 x8 x9; rw [g12Si11a_L2a]
    exact st.g (pc (SxP07kpi _ (g12Si11a_J3a_go st ih) (g12Si11a_J10_go st)) (by kernel_rfl))
theorem g12Si11a_J6_go {lg12Si11a_L5a : Int → Int → Int → Int → Nat → List Nat → Int → Int → Nat → List Nat → Option R} (hg12Si11a_L5a : ∀ (x0 x1 : Int) (x2 x3 : Int) (x4 : Nat) (x5 : List Nat) (x6 x7 : Int) (x8 : Nat) (x9 : List Nat), Prs (fun k => tb k (pth 27032) (g12Si11a_L5as x0 x1 x2 x3 x4 x5 x6 x7 x8 x9)) (lg12Si11a_L5a x0 x1 x2 x3 x4 x5 x6 x7 x8 x9)) {x0 : Int} {x1 : Int} {x2 : Int} {x3 : Int} {x4 : List Nat} {x5 : Int} {x6 : Int} : Prs (fun k => tb k (pth 54065) (g12Si11a_J6s x0 x1 x2 x3 x4 x5 x6)) (g12Si11a_J6 A n kk lg12Si11a_L5a x0 x1 x2 x3 x4 x5 x6) := by
  unfold g12Si11a_J6
  exact st.g (pc (SxP07kpi _ pn (SxP07kpi _ pn (SxP07kpi _ (hg12Si11a_L5a _ _ _ _ _ _ _ _ _ _) pn))) (by kernel_rfl))
theorem g12Si11a_J8a_go {lg12Si11a_L2 : Int → Int → Int → Int → List Nat → Int → Int → Option R} (hg12Si11a_L2 : ∀ (x0 x1 : Int) (x2 x3 : Int) (x4 : List Nat) (x5 x6 : Int), Prs (fun k => tb k (pth 52) (g12Si11a_L2s x0 x1 x2 x3 x4 x5 x6)) (lg12Si11a_L2 x0 x1 x2 x3 x4 x5 x6)) {x0 : Int} {x1 : Int} {x2 : Int} {x3 : Int} {x4 : List Nat} {x5 : Int} {x6 : Int} : Prs (fun k => tb k (pth 6759) (g12Si11a_J8as x0 x1 x2 x3 x4 x5 x6)) (g12Si11a_J8a A n kk lg12Si11a_L2 x0 x1 x2 x3 x4 x5 x6) := by
  unfold g12Si11a_J8a
  exact st.g (pc (SxP07kpi _ pn (hg12Si11a_L2 _ _ _ _ _ _ _)) (by kernel_rfl))
theorem g12Si11a_L5_go {lg12Si11a_L2 : Int → Int → Int → Int → List Nat → Int → Int → Option R} {lg12Si11a_L2a : Int → Int → Int → Int → Nat → List Nat → Int → Int → Nat → List Nat → Option R} (hg12Si11a_L2 : ∀ (x0 x1 : Int) (x2 x3 : Int) (x4 : List Nat) (x5 x6 : Int), Prs (fun k => tb k (pth 52) (g12Si11a_L2s x0 x1 x2 x3 x4 x5 x6)) (lg12Si11a_L2 x0 x1 x2 x3 x4 x5 x6)) (hg12Si11a_L2a : ∀ (x0 x1 : Int) (x2 x3 : Int) (x4 : Nat) (x5 : List Nat) (x6 x7 : Int) (x8 : Nat) (x9 : List Nat), Prs (fun k => tb k (pth 52) (g12Si11a_L2as x0 x1 x2 x3 x4 x5 x6 x7 x8 x9)) (lg12Si11a_L2a x0 x1 x2 x3 x4 x5 x6 x7 x8 x9)) (m : Nat) : ∀ (x0 x1 : Int) (x2 x3 : Int) (x4 : List Nat) (x5 x6 : Int), Prs (fun k => tb k (pth 27032) (g12Si11a_L5s x0 x1 x2 x3 x4 x5 x6)) (g12Si11a_L5 A n kk lg12Si11a_L2 lg12Si11a_L2a m x0 x1 x2 x3 x4 x5 x6) := by
  induction m with
  | zero => intro x0 x1 x2 x3 x4 x5 x6; exact pn0
  | succ m ih =>
    intro x0 x1 x2 x3 x4 x5 x6; rw [g12Si11a_L5]
    exact st.g (pc (SxP07kpi _ (g12Si11a_J6_go st (g12Si11a_L5a_go st hg12Si11a_L2a m)) (g12Si11a_J8a_go st hg12Si11a_L2)) (by kernel_rfl))
theorem g12Si11a_J3_go {lg12Si11a_L2 : Int → Int → Int → Int → List Nat → Int → Int → Option R} {lg12Si11a_L2a : Int → Int → Int → Int → Nat → List Nat → Int → Int → Nat → List Nat → Option R} (hg12Si11a_L2 : ∀ (x0 x1 : Int) (x2 x3 : Int) (x4 : List Nat) (x5 x6 : Int), Prs (fun k => tb k (pth 52) (g12Si11a_L2s x0 x1 x2 x3 x4 x5 x6)) (lg12Si11a_L2 x0 x1 x2 x3 x4 x5 x6)) (hg12Si11a_L2a : ∀ (x0 x1 : Int) (x2 x3 : Int) (x4 : Nat) (x5 : List Nat) (x6 x7 : Int) (x8 : Nat) (x9 : List Nat), Prs (fun k => tb k (pth 52) (g12Si11a_L2as x0 x1 x2 x3 x4 x5 x6 x7 x8 x9)) (lg12Si11a_L2a x0 x1 x2 x3 x4 x5 x6 x7 x8 x9)) {x0 : Int} {x1 : Int} {x2 : Int} {x3 : Int} {x4 : List Nat} {x5 : Int} {x6 : Int} : Prs (fun k => tb k (pth 211) (g12Si11a_J3s x0 x1 x2 x3 x4 x5 x6)) (g12Si11a_J3 A n kk lg12Si11a_L2 lg12Si11a_L2a x0 x1 x2 x3 x4 x5 x6) := by
  unfold g12Si11a_J3
  exact st.g (pc (SxP07kpi _ pn (SxP07kpi _ pn (SxP07kpi _ (g12Si11a_L5_go st hg12Si11a_L2 hg12Si11a_L2a n _ _ _ _ _ _ _) pn))) (by kernel_rfl))
theorem g12Si11a_J10a_go {x0 : Int} {x1 : Int} {x2 : List Nat} {x3 : Int} {x4 : Int} : Prs (fun k => tb k (pth 7) (g12Si11a_J10as x0 x1 x2 x3 x4)) (g12Si11a_J10a A n kk x0 x1 x2 x3 x4) := by
  unfold g12Si11a_J10a
  exact st.g (pc (SxP07kpi _ (SxP07kpi _ pn (SxP07kpi _ pn (SxP07kpi _ (pf _) pn))) (pf _)) (by kernel_rfl))
theorem g12Si11a_L2_go (m : Nat) : ∀ (x0 x1 : Int) (x2 x3 : Int) (x4 : List Nat) (x5 x6 : Int), Prs (fun k => tb k (pth 52) (g12Si11a_L2s x0 x1 x2 x3 x4 x5 x6)) (g12Si11a_L2 A n kk m x0 x1 x2 x3 x4 x5 x6) := by
  induction m with
  | zero => intro x0 x1 x2 x3 x4 x5 x6; exact pn0
  | succ m ih =>
    intro x0 x1 x2 x3 x4 x5 x6; rw [g12Si11a_L2]
    exact st.g (pc (SxP07kpi _ (g12Si11a_J3_go st ih (g12Si11a_L2a_go st m)) (g12Si11a_J10a_go st)) (by kernel_rfl))
theorem g12Si11a__go {x0 : List Nat} {x1 : Int} {x2 : Int} : Prs (fun k => funN A gtys (g12Si11a_O A) g12Si11a_an g12Si11a_cut (bodyOf Tryd.f32) g12Si11a_res [(.yld 449), (pT 412 0), (pT 413 0), (pT 414 0)] [(448, ⟨[], 0, 0⟩), (410, ⟨[.one .nilp, .one .nils], 36, 1⟩), (411, ⟨[.one .nils], 34, 1⟩), (412, ⟨[.one (.str x0)], 9, 1⟩), (413, ⟨[.one (.int .i64 x1)], 3, 1⟩), (414, ⟨[.one (.int .i64 x2)], 3, 1⟩)] kk (tb k)) (g12Si11a_ A n kk x0 x1 x2) := by
  unfold g12Si11a_
  exact pc (g12Si11a_L2_go st n _ _ _ _ _ _ _) (by kernel_rfl)
end
def g12Si11a_v (A : Ar) (x0 : List Nat) (x1 x2 : Int) : Option Heap := g12Si11a_ A (10000000) (fun _ h => some (pick h [410, 411, 412, 413, 414, 415, 448, 500, 13004])) x0 x1 x2
def g12Si11a_is0 (o : Option Heap) : Bool := match o with
  | some [(n0, ⟨[.one .nilp, .one .nils], n1, n2⟩), (n3, ⟨[.one (.sl n4 none _ n5)], n6, n7⟩), (n8, ⟨[.one (.str _)], n9, n10⟩), (n11, ⟨[.one (.int .i64 _)], n12, n13⟩), (n14, ⟨[.one (.int .i64 _)], n15, n16⟩), (n17, ⟨[], n18, n19⟩), (n20, ⟨[.nums .u8 _ _], n21, n22⟩)] => Nat.beq n0 410 && (Nat.beq n1 36 && (Nat.beq n2 1 && (Nat.beq n3 411 && (Nat.beq n4 500 && (Nat.beq n5 1 && (Nat.beq n6 34 && (Nat.beq n7 1 && (Nat.beq n8 412 && (Nat.beq n9 9 && (Nat.beq n10 1 && (Nat.beq n11 413 && (Nat.beq n12 3 && (Nat.beq n13 1 && (Nat.beq n14 414 && (Nat.beq n15 3 && (Nat.beq n16 1 && (Nat.beq n17 448 && (Nat.beq n18 0 && (Nat.beq n19 0 && (Nat.beq n20 500 && (Nat.beq n21 5 && (Nat.beq n22 2))))))))))))))))))))))
  | _ => false
def g12Si11a_g0_0 (o : Option Heap) : Nat := match o with
  | some [(_, ⟨[.one .nilp, .one .nils], _, _⟩), (_, ⟨[.one (.sl _ none x _)], _, _⟩), (_, ⟨[.one (.str _)], _, _⟩), (_, ⟨[.one (.int .i64 _)], _, _⟩), (_, ⟨[.one (.int .i64 _)], _, _⟩), (_, ⟨[], _, _⟩), (_, ⟨[.nums .u8 _ _], _, _⟩)] => x
  | _ => 0
def g12Si11a_g0_1 (o : Option Heap) : List Nat := match o with
  | some [(_, ⟨[.one .nilp, .one .nils], _, _⟩), (_, ⟨[.one (.sl _ none _ _)], _, _⟩), (_, ⟨[.one (.str x)], _, _⟩), (_, ⟨[.one (.int .i64 _)], _, _⟩), (_, ⟨[.one (.int .i64 _)], _, _⟩), (_, ⟨[], _, _⟩), (_, ⟨[.nums .u8 _ _], _, _⟩)] => x
  | _ => []
def g12Si11a_g0_2 (o : Option Heap) : Int := match o with
  | some [(_, ⟨[.one .nilp, .one .nils], _, _⟩), (_, ⟨[.one (.sl _ none _ _)], _, _⟩), (_, ⟨[.one (.str _)], _, _⟩), (_, ⟨[.one (.int .i64 x)], _, _⟩), (_, ⟨[.one (.int .i64 _)], _, _⟩), (_, ⟨[], _, _⟩), (_, ⟨[.nums .u8 _ _], _, _⟩)] => x
  | _ => 0
def g12Si11a_g0_3 (o : Option Heap) : Int := match o with
  | some [(_, ⟨[.one .nilp, .one .nils], _, _⟩), (_, ⟨[.one (.sl _ none _ _)], _, _⟩), (_, ⟨[.one (.str _)], _, _⟩), (_, ⟨[.one (.int .i64 _)], _, _⟩), (_, ⟨[.one (.int .i64 x)], _, _⟩), (_, ⟨[], _, _⟩), (_, ⟨[.nums .u8 _ _], _, _⟩)] => x
  | _ => 0
def g12Si11a_g0_4 (o : Option Heap) : Nat := match o with
  | some [(_, ⟨[.one .nilp, .one .nils], _, _⟩), (_, ⟨[.one (.sl _ none _ _)], _, _⟩), (_, ⟨[.one (.str _)], _, _⟩), (_, ⟨[.one (.int .i64 _)], _, _⟩), (_, ⟨[.one (.int .i64 _)], _, _⟩), (_, ⟨[], _, _⟩), (_, ⟨[.nums .u8 x _], _, _⟩)] => x
  | _ => 0
def g12Si11a_g0_5 (o : Option Heap) : List Nat := match o with
  | some [(_, ⟨[.one .nilp, .one .nils], _, _⟩), (_, ⟨[.one (.sl _ none _ _)], _, _⟩), (_, ⟨[.one (.str _)], _, _⟩), (_, ⟨[.one (.int .i64 _)], _, _⟩), (_, ⟨[.one (.int .i64 _)], _, _⟩), (_, ⟨[], _, _⟩), (_, ⟨[.nums .u8 _ x], _, _⟩)] => x
  | _ => []
theorem g12Si11a_is0_spec {o : Option Heap} (h : g12Si11a_is0 o = true) : o = some [(410, ⟨[.one .nilp, .one .nils], 36, 1⟩), (411, ⟨[.one (.sl 500 none (g12Si11a_g0_0 o) 1)], 34, 1⟩), (412, ⟨[.one (.str (g12Si11a_g0_1 o))], 9, 1⟩), (413, ⟨[.one (.int .i64 (g12Si11a_g0_2 o))], 3, 1⟩), (414, ⟨[.one (.int .i64 (g12Si11a_g0_3 o))], 3, 1⟩), (448, ⟨[], 0, 0⟩), (500, ⟨[.nums .u8 (g12Si11a_g0_4 o) (g12Si11a_g0_5 o)], 5, 2⟩)] := by
  unfold g12Si11a_is0 at h
  split at h
  · rename_i n0 n1 n2 n3 n4 z5 n5 n6 n7 n8 z10 n9 n10 n11 z14 n12 n13 n14 z18 n15 n16 n17 n18 n19 n20 z25 z26 n21 n22
    simp only [Bool.and_eq_true] at h
    have en0 := beq_true h.1
    subst en0
    replace h := h.2
    have en1 := beq_true h.1
    subst en1
    replace h := h.2
    have en2 := beq_true h.1
    subst en2
    replace h := h.2
    have en3 := beq_true h.1
    subst en3
    replace h := h.2
    have en4 := beq_true h.1
    subst en4
    replace h := h.2
    have en5 := beq_true h.1
    subst en5
    replace h := h.2
    have en6 := beq_true h.1
    subst en6
    replace h := h.2
    have en7 := beq_true h.1
    subst en7
    replace h := h.2
    have en8 := beq_true h.1
    subst en8
    replace h := h.2
    have en9 := beq_true h.1
    subst en9
    replace h := h.2
    have en10 := beq_true h.1
    subst en10
    replace h := h.2
    have en11 := beq_true h.1
    subst en11
    replace h := h.2
    have en12 := beq_true h.1
    subst en12
    replace h := h.2
    have en13 := beq_true h.1
    subst en13
    replace h := h.2
    have en14 := beq_true h.1
    subst en14
    replace h := h.2
    have en15 := beq_true h.1
    subst en15
    replace h := h.2
    have en16 := beq_true h.1
    subst en16
    replace h := h.2
    have en17 := beq_true h.1
    subst en17
    replace h := h.2
    have en18 := beq_true h.1
    subst en18
    replace h := h.2
    have en19 := beq_true h.1
    subst en19
    replace h := h.2
    have en20 := beq_true h.1
    subst en20
    replace h := h.2
    have en21 := beq_true h.1
    subst en21
    replace h := h.2
    have en22 := beq_true h
    subst en22
    rfl
  · cases h
def g12Si11a_c0 (A : Ar) (x0 : List Nat) (x1 x2 : Int) : Bool := g12Si11a_is0 (g12Si11a_v A x0 x1 x2)
def g12Si11a_r0_0 (A : Ar) (x0 : List Nat) (x1 x2 : Int) : Nat := g12Si11a_g0_0 (g12Si11a_v A x0 x1 x2)
def g12Si11a_r0_1 (A : Ar) (x0 : List Nat) (x1 x2 : Int) : List Nat := g12Si11a_g0_1 (g12Si11a_v A x0 x1 x2)
def g12Si11a_r0_2 (A : Ar) (x0 : List Nat) (x1 x2 : Int) : Int := g12Si11a_g0_2 (g12Si11a_v A x0 x1 x2)
def g12Si11a_r0_3 (A : Ar) (x0 : List Nat) (x1 x2 : Int) : Int := g12Si11a_g0_3 (g12Si11a_v A x0 x1 x2)
def g12Si11a_r0_4 (A : Ar) (x0 : List Nat) (x1 x2 : Int) : Nat := g12Si11a_g0_4 (g12Si11a_v A x0 x1 x2)
def g12Si11a_r0_5 (A : Ar) (x0 : List Nat) (x1 x2 : Int) : List Nat := g12Si11a_g0_5 (g12Si11a_v A x0 x1 x2)
def g12Si11a_is1 (o : Option Heap) : Bool := match o with
  | some [(n0, ⟨[.one .nilp, .one .nils], n1, n2⟩), (n3, ⟨[.one (.sl n4 none _ n5)], n6, n7⟩), (n8, ⟨[.one (.str _)], n9, n10⟩), (n11, ⟨[.one (.int .i64 _)], n12, n13⟩), (n14, ⟨[.one (.int .i64 _)], n15, n16⟩), (n17, ⟨[], n18, n19⟩), (n20, ⟨[.nums .u8 _ _], n21, n22⟩)] => Nat.beq n0 410 && (Nat.beq n1 36 && (Nat.beq n2 1 && (Nat.beq n3 411 && (Nat.beq n4 13004 && (Nat.beq n5 1 && (Nat.beq n6 34 && (Nat.beq n7 1 && (Nat.beq n8 412 && (Nat.beq n9 9 && (Nat.beq n10 1 && (Nat.beq n11 413 && (Nat.beq n12 3 && (Nat.beq n13 1 && (Nat.beq n14 414 && (Nat.beq n15 3 && (Nat.beq n16 1 && (Nat.beq n17 448 && (Nat.beq n18 0 && (Nat.beq n19 0 && (Nat.beq n20 13004 && (Nat.beq n21 5 && (Nat.beq n22 2))))))))))))))))))))))
  | _ => false
def g12Si11a_g1_0 (o : Option Heap) : Nat := match o with
  | some [(_, ⟨[.one .nilp, .one .nils], _, _⟩), (_, ⟨[.one (.sl _ none x _)], _, _⟩), (_, ⟨[.one (.str _)], _, _⟩), (_, ⟨[.one (.int .i64 _)], _, _⟩), (_, ⟨[.one (.int .i64 _)], _, _⟩), (_, ⟨[], _, _⟩), (_, ⟨[.nums .u8 _ _], _, _⟩)] => x
  | _ => 0
def g12Si11a_g1_1 (o : Option Heap) : List Nat := match o with
  | some [(_, ⟨[.one .nilp, .one .nils], _, _⟩), (_, ⟨[.one (.sl _ none _ _)], _, _⟩), (_, ⟨[.one (.str x)], _, _⟩), (_, ⟨[.one (.int .i64 _)], _, _⟩), (_, ⟨[.one (.int .i64 _)], _, _⟩), (_, ⟨[], _, _⟩), (_, ⟨[.nums .u8 _ _], _, _⟩)] => x
  | _ => []
def g12Si11a_g1_2 (o : Option Heap) : Int := match o with
  | some [(_, ⟨[.one .nilp, .one .nils], _, _⟩), (_, ⟨[.one (.sl _ none _ _)], _, _⟩), (_, ⟨[.one (.str _)], _, _⟩), (_, ⟨[.one (.int .i64 x)], _, _⟩), (_, ⟨[.one (.int .i64 _)], _, _⟩), (_, ⟨[], _, _⟩), (_, ⟨[.nums .u8 _ _], _, _⟩)] => x
  | _ => 0
def g12Si11a_g1_3 (o : Option Heap) : Int := match o with
  | some [(_, ⟨[.one .nilp, .one .nils], _, _⟩), (_, ⟨[.one (.sl _ none _ _)], _, _⟩), (_, ⟨[.one (.str _)], _, _⟩), (_, ⟨[.one (.int .i64 _)], _, _⟩), (_, ⟨[.one (.int .i64 x)], _, _⟩), (_, ⟨[], _, _⟩), (_, ⟨[.nums .u8 _ _], _, _⟩)] => x
  | _ => 0
def g12Si11a_g1_4 (o : Option Heap) : Nat := match o with
  | some [(_, ⟨[.one .nilp, .one .nils], _, _⟩), (_, ⟨[.one (.sl _ none _ _)], _, _⟩), (_, ⟨[.one (.str _)], _, _⟩), (_, ⟨[.one (.int .i64 _)], _, _⟩), (_, ⟨[.one (.int .i64 _)], _, _⟩), (_, ⟨[], _, _⟩), (_, ⟨[.nums .u8 x _], _, _⟩)] => x
  | _ => 0
def g12Si11a_g1_5 (o : Option Heap) : List Nat := match o with
  | some [(_, ⟨[.one .nilp, .one .nils], _, _⟩), (_, ⟨[.one (.sl _ none _ _)], _, _⟩), (_, ⟨[.one (.str _)], _, _⟩), (_, ⟨[.one (.int .i64 _)], _, _⟩), (_, ⟨[.one (.int .i64 _)], _, _⟩), (_, ⟨[], _, _⟩), (_, ⟨[.nums .u8 _ x], _, _⟩)] => x
  | _ => []
theorem g12Si11a_is1_spec {o : Option Heap} (h : g12Si11a_is1 o = true) : o = some [(410, ⟨[.one .nilp, .one .nils], 36, 1⟩), (411, ⟨[.one (.sl 13004 none (g12Si11a_g1_0 o) 1)], 34, 1⟩), (412, ⟨[.one (.str (g12Si11a_g1_1 o))], 9, 1⟩), (413, ⟨[.one (.int .i64 (g12Si11a_g1_2 o))], 3, 1⟩), (414, ⟨[.one (.int .i64 (g12Si11a_g1_3 o))], 3, 1⟩), (448, ⟨[], 0, 0⟩), (13004, ⟨[.nums .u8 (g12Si11a_g1_4 o) (g12Si11a_g1_5 o)], 5, 2⟩)] := by
  unfold g12Si11a_is1 at h
  split at h
  · rename_i n0 n1 n2 n3 n4 z5 n5 n6 n7 n8 z10 n9 n10 n11 z14 n12 n13 n14 z18 n15 n16 n17 n18 n19 n20 z25 z26 n21 n22
    simp only [Bool.and_eq_true] at h
    have en0 := beq_true h.1
    subst en0
    replace h := h.2
    have en1 := beq_true h.1
    subst en1
    replace h := h.2
    have en2 := beq_true h.1
    subst en2
    replace h := h.2
    have en3 := beq_true h.1
    subst en3
    replace h := h.2
    have en4 := beq_true h.1
    subst en4
    replace h := h.2
    have en5 := beq_true h.1
    subst en5
    replace h := h.2
    have en6 := beq_true h.1
    subst en6
    replace h := h.2
    have en7 := beq_true h.1
    subst en7
    replace h := h.2
    have en8 := beq_true h.1
    subst en8
    replace h := h.2
    have en9 := beq_true h.1
    subst en9
    replace h := h.2
    have en10 := beq_true h.1
    subst en10
    replace h := h.2
    have en11 := beq_true h.1
    subst en11
    replace h := h.2
    have en12 := beq_true h.1
    subst en12
    replace h := h.2
    have en13 := beq_true h.1
    subst en13
    replace h := h.2
    have en14 := beq_true h.1
    subst en14
    replace h := h.2
    have en15 := beq_true h.1
    subst en15
    replace h := h.2
    have en16 := beq_true h.1
    subst en16
    replace h := h.2
    have en17 := beq_true h.1
    subst en17
    replace h := h.2
    have en18 := beq_true h.1
    subst en18
    replace h := h.2
    have en19 := beq_true h.1
    subst en19
    replace h := h.2
    have en20 := beq_true h.1
    subst en20
    replace h := h.2
    have en21 := beq_true h.1
    subst en21
    replace h := h.2
    have en22 := beq_true h
    subst en22
    rfl
  · cases h
def g12Si11a_c1 (A : Ar) (x0 : List Nat) (x1 x2 : Int) : Bool := g12Si11a_is1 (g12Si11a_v A x0 x1 x2)
def g12Si11a_r1_0 (A : Ar) (x0 : List Nat) (x1 x2 : Int) : Nat := g12Si11a_g1_0 (g12Si11a_v A x0 x1 x2)
def g12Si11a_r1_1 (A : Ar) (x0 : List Nat) (x1 x2 : Int) : List Nat := g12Si11a_g1_1 (g12Si11a_v A x0 x1 x2)
def g12Si11a_r1_2 (A : Ar) (x0 : List Nat) (x1 x2 : Int) : Int := g12Si11a_g1_2 (g12Si11a_v A x0 x1 x2)
def g12Si11a_r1_3 (A : Ar) (x0 : List Nat) (x1 x2 : Int) : Int := g12Si11a_g1_3 (g12Si11a_v A x0 x1 x2)
def g12Si11a_r1_4 (A : Ar) (x0 : List Nat) (x1 x2 : Int) : Nat := g12Si11a_g1_4 (g12Si11a_v A x0 x1 x2)
def g12Si11a_r1_5 (A : Ar) (x0 : List Nat) (x1 x2 : Int) : List Nat := g12Si11a_g1_5 (g12Si11a_v A x0 x1 x2)
def g12Si11a_is2 (o : Option Heap) : Bool := match o with
  | some [(n0, ⟨[.one .nilp, .one .nils], n1, n2⟩), (n3, ⟨[.one .nils], n4, n5⟩), (n6, ⟨[.one (.str _)], n7, n8⟩), (n9, ⟨[.one (.int .i64 _)], n10, n11⟩), (n12, ⟨[.one (.int .i64 _)], n13, n14⟩), (n15, ⟨[], n16, n17⟩)] => Nat.beq n0 410 && (Nat.beq n1 36 && (Nat.beq n2 1 && (Nat.beq n3 411 && (Nat.beq n4 34 && (Nat.beq n5 1 && (Nat.beq n6 412 && (Nat.beq n7 9 && (Nat.beq n8 1 && (Nat.beq n9 413 && (Nat.beq n10 3 && (Nat.beq n11 1 && (Nat.beq n12 414 && (Nat.beq n13 3 && (Nat.beq n14 1 && (Nat.beq n15 448 && (Nat.beq n16 0 && (Nat.beq n17 0)))))))))))))))))
  | _ => false
def g12Si11a_g2_0 (o : Option Heap) : List Nat := match o with
  | some [(_, ⟨[.one .nilp, .one .nils], _, _⟩), (_, ⟨[.one .nils], _, _⟩), (_, ⟨[.one (.str x)], _, _⟩), (_, ⟨[.one (.int .i64 _)], _, _⟩), (_, ⟨[.one (.int .i64 _)], _, _⟩), (_, ⟨[], _, _⟩)] => x
  | _ => []
def g12Si11a_g2_1 (o : Option Heap) : Int := match o with
  | some [(_, ⟨[.one .nilp, .one .nils], _, _⟩), (_, ⟨[.one .nils], _, _⟩), (_, ⟨[.one (.str _)], _, _⟩), (_, ⟨[.one (.int .i64 x)], _, _⟩), (_, ⟨[.one (.int .i64 _)], _, _⟩), (_, ⟨[], _, _⟩)] => x
  | _ => 0
def g12Si11a_g2_2 (o : Option Heap) : Int := match o with
  | some [(_, ⟨[.one .nilp, .one .nils], _, _⟩), (_, ⟨[.one .nils], _, _⟩), (_, ⟨[.one (.str _)], _, _⟩), (_, ⟨[.one (.int .i64 _)], _, _⟩), (_, ⟨[.one (.int .i64 x)], _, _⟩), (_, ⟨[], _, _⟩)] => x
  | _ => 0
theorem g12Si11a_is2_spec {o : Option Heap} (h : g12Si11a_is2 o = true) : o = some [(410, ⟨[.one .nilp, .one .nils], 36, 1⟩), (411, ⟨[.one .nils], 34, 1⟩), (412, ⟨[.one (.str (g12Si11a_g2_0 o))], 9, 1⟩), (413, ⟨[.one (.int .i64 (g12Si11a_g2_1 o))], 3, 1⟩), (414, ⟨[.one (.int .i64 (g12Si11a_g2_2 o))], 3, 1⟩), (448, ⟨[], 0, 0⟩)] := by
  unfold g12Si11a_is2 at h
  split at h
  · rename_i n0 n1 n2 n3 n4 n5 n6 z7 n7 n8 n9 z11 n10 n11 n12 z15 n13 n14 n15 n16 n17
    simp only [Bool.and_eq_true] at h
    have en0 := beq_true h.1
    subst en0
    replace h := h.2
    have en1 := beq_true h.1
    subst en1
    replace h := h.2
    have en2 := beq_true h.1
    subst en2
    replace h := h.2
    have en3 := beq_true h.1
    subst en3
    replace h := h.2
    have en4 := beq_true h.1
    subst en4
    replace h := h.2
    have en5 := beq_true h.1
    subst en5
    replace h := h.2
    have en6 := beq_true h.1
    subst en6
    replace h := h.2
    have en7 := beq_true h.1
    subst en7
    replace h := h.2
    have en8 := beq_true h.1
    subst en8
    replace h := h.2
    have en9 := beq_true h.1
    subst en9
    replace h := h.2
    have en10 := beq_true h.1
    subst en10
    replace h := h.2
    have en11 := beq_true h.1
    subst en11
    replace h := h.2
    have en12 := beq_true h.1
    subst en12
    replace h := h.2
    have en13 := beq_true h.1
    subst en13
    replace h := h.2
    have en14 := beq_true h.1
    subst en14
    replace h := h.2
    have en15 := beq_true h.1
    subst en15
    replace h := h.2
    have en16 := beq_true h.1
    subst en16
    replace h := h.2
    have en17 := beq_true h
    subst en17
    rfl
  · cases h
def g12Si11a_c2 (A : Ar) (x0 : List Nat) (x1 x2 : Int) : Bool := g12Si11a_is2 (g12Si11a_v A x0 x1 x2)
def g12Si11a_r2_0 (A : Ar) (x0 : List Nat) (x1 x2 : Int) : List Nat := g12Si11a_g2_0 (g12Si11a_v A x0 x1 x2)
def g12Si11a_r2_1 (A : Ar) (x0 : List Nat) (x1 x2 : Int) : Int := g12Si11a_g2_1 (g12Si11a_v A x0 x1 x2)
def g12Si11a_r2_2 (A : Ar) (x0 : List Nat) (x1 x2 : Int) : Int := g12Si11a_g2_2 (g12Si11a_v A x0 x1 x2)
def g12Si11F (F0 : Nat → List Nat → Nat → List Nat → Int → Int → Option Heap) (F1 : List Nat → Int → Int → Option Heap) (sl : Slots) (caps : List V1) (h : Heap) : Option Heap := match sl, caps, h with
  | [(n0, .v (.cell (.ptr n1 n2 none))), (n3, .v (.cell (.ptr n4 n5 none))), (n6, .fn n7 [] [(.cell (.ptr n8 n9 none)), (.cell (.ptr n10 n11 none)), (.cell (.ptr n12 n13 none))])], [(.cell (.ptr n14 n15 none)), (.cell (.ptr n16 n17 none)), (.cell (.ptr n18 n19 none))], [(n20, ⟨[], n21, n22⟩), (n23, ⟨[.nums .u8 x0 x1], n24, n25⟩), (n26, ⟨[.one (.ptr n27 n28 none), .one (.sl n29 none x2 n30)], n31, n32⟩), (n33, ⟨[.one .nils], n34, n35⟩), (n36, ⟨[.one (.str x3)], n37, n38⟩), (n39, ⟨[.one (.int .i64 x4)], n40, n41⟩), (n42, ⟨[.one (.int .i64 x5)], n43, n44⟩)] => match Nat.beq n0 4 && (Nat.beq n1 410 && (Nat.beq n2 0 && (Nat.beq n3 8 && (Nat.beq n4 411 && (Nat.beq n5 0 && (Nat.beq n6 25 && (Nat.beq n7 32 && (Nat.beq n8 412 && (Nat.beq n9 0 && (Nat.beq n10 413 && (Nat.beq n11 0 && (Nat.beq n12 414 && (Nat.beq n13 0 && (Nat.beq n14 412 && (Nat.beq n15 0 && (Nat.beq n16 413 && (Nat.beq n17 0 && (Nat.beq n18 414 && (Nat.beq n19 0 && (Nat.beq n20 448 && (Nat.beq n21 0 && (Nat.beq n22 0 && (Nat.beq n23 415 && (Nat.beq n24 5 && (Nat.beq n25 0 && (Nat.beq n26 410 && (Nat.beq n27 410 && (Nat.beq n28 0 && (Nat.beq n29 415 && (Nat.beq n30 1 && (Nat.beq n31 36 && (Nat.beq n32 1 && (Nat.beq n33 411 && (Nat.beq n34 34 && (Nat.beq n35 1 && (Nat.beq n36 412 && (Nat.beq n37 9 && (Nat.beq n38 1 && (Nat.beq n39 413 && (Nat.beq n40 3 && (Nat.beq n41 1 && (Nat.beq n42 414 && (Nat.beq n43 3 && (Nat.beq n44 1)))))))))))))))))))))))))))))))))))))))))))) with
    | true => F0 x0 x1 x2 x3 x4 x5
    | false => none
  | [(n0, .v (.cell (.ptr n1 n2 none))), (n3, .v (.cell (.ptr n4 n5 none))), (n6, .fn n7 [] [(.cell (.ptr n8 n9 none)), (.cell (.ptr n10 n11 none)), (.cell (.ptr n12 n13 none))])], [(.cell (.ptr n14 n15 none)), (.cell (.ptr n16 n17 none)), (.cell (.ptr n18 n19 none))], [(n20, ⟨[], n21, n22⟩), (n23, ⟨[.one .nilp, .one .nils], n24, n25⟩), (n26, ⟨[.one .nils], n27, n28⟩), (n29, ⟨[.one (.str x0)], n30, n31⟩), (n32, ⟨[.one (.int .i64 x1)], n33, n34⟩), (n35, ⟨[.one (.int .i64 x2)], n36, n37⟩)] => match Nat.beq n0 4 && (Nat.beq n1 410 && (Nat.beq n2 0 && (Nat.beq n3 8 && (Nat.beq n4 411 && (Nat.beq n5 0 && (Nat.beq n6 25 && (Nat.beq n7 32 && (Nat.beq n8 412 && (Nat.beq n9 0 && (Nat.beq n10 413 && (Nat.beq n11 0 && (Nat.beq n12 414 && (Nat.beq n13 0 && (Nat.beq n14 412 && (Nat.beq n15 0 && (Nat.beq n16 413 && (Nat.beq n17 0 && (Nat.beq n18 414 && (Nat.beq n19 0 && (Nat.beq n20 448 && (Nat.beq n21 0 && (Nat.beq n22 0 && (Nat.beq n23 410 && (Nat.beq n24 36 && (Nat.beq n25 1 && (Nat.beq n26 411 && (Nat.beq n27 34 && (Nat.beq n28 1 && (Nat.beq n29 412 && (Nat.beq n30 9 && (Nat.beq n31 1 && (Nat.beq n32 413 && (Nat.beq n33 3 && (Nat.beq n34 1 && (Nat.beq n35 414 && (Nat.beq n36 3 && (Nat.beq n37 1))))))))))))))))))))))))))))))))))))) with
    | true => F1 x0 x1 x2
    | false => none
  | _, _, _ => none
def g12SR11 (A : Ar) (v : AV) (sl : Slots) (h : Heap) : GL (Ex × Heap) := match v, sl, h with
  | .fn n14 [] [(.cell (.ptr n15 n16 none)), (.cell (.ptr n17 n18 none)), (.cell (.ptr n19 n20 none))], [(n0, .v (.cell (.ptr n1 n2 none))), (n3, .v (.cell (.ptr n4 n5 none))), (n6, .fn n7 [] [(.cell (.ptr n8 n9 none)), (.cell (.ptr n10 n11 none)), (.cell (.ptr n12 n13 none))])], [(n21, ⟨[.nums .u8 x0 x1], n22, n23⟩), (n24, ⟨[.one (.ptr n25 n26 none), .one (.sl n27 none x2 n28)], n29, n30⟩), (n31, ⟨[.one .nils], n32, n33⟩), (n34, ⟨[.one (.str x3)], n35, n36⟩), (n37, ⟨[.one (.int .i64 x4)], n38, n39⟩), (n40, ⟨[.one (.int .i64 x5)], n41, n42⟩)] => match Nat.beq n0 4 && (Nat.beq n1 410 && (Nat.beq n2 0 && (Nat.beq n3 8 && (Nat.beq n4 411 && (Nat.beq n5 0 && (Nat.beq n6 25 && (Nat.beq n7 32 && (Nat.beq n8 412 && (Nat.beq n9 0 && (Nat.beq n10 413 && (Nat.beq n11 0 && (Nat.beq n12 414 && (Nat.beq n13 0 && (Nat.beq n14 32 && (Nat.beq n15 412 && (Nat.beq n16 0 && (Nat.beq n17 413 && (Nat.beq n18 0 && (Nat.beq n19 414 && (Nat.beq n20 0 && (Nat.beq n21 415 && (Nat.beq n22 5 && (Nat.beq n23 0 && (Nat.beq n24 410 && (Nat.beq n25 410 && (Nat.beq n26 0 && (Nat.beq n27 415 && (Nat.beq n28 1 && (Nat.beq n29 36 && (Nat.beq n30 1 && (Nat.beq n31 411 && (Nat.beq n32 34 && (Nat.beq n33 1 && (Nat.beq n34 412 && (Nat.beq n35 9 && (Nat.beq n36 1 && (Nat.beq n37 413 && (Nat.beq n38 3 && (Nat.beq n39 1 && (Nat.beq n40 414 && (Nat.beq n41 3 && (Nat.beq n42 1)))))))))))))))))))))))))))))))))))))))))) with
    | true => [(g12Si11c0 A x0 x1 x2 x3 x4 x5, some (.normal, [(410, ⟨[.one (.ptr 410 0 none), .one (.sl 415 none (g12Si11r0_0 A x0 x1 x2 x3 x4 x5) 1)], 36, 1⟩), (411, ⟨[.one (.sl 500 none (g12Si11r0_1 A x0 x1 x2 x3 x4 x5) 1)], 34, 1⟩), (412, ⟨[.one (.str (g12Si11r0_2 A x0 x1 x2 x3 x4 x5))], 9, 1⟩), (413, ⟨[.one (.int .i64 (g12Si11r0_3 A x0 x1 x2 x3 x4 x5))], 3, 1⟩), (414, ⟨[.one (.int .i64 (g12Si11r0_4 A x0 x1 x2 x3 x4 x5))], 3, 1⟩), (415, ⟨[.nums .u8 (g12Si11r0_5 A x0 x1 x2 x3 x4 x5) (g12Si11r0_6 A x0 x1 x2 x3 x4 x5)], 5, 0⟩), (500, ⟨[.nums .u8 (g12Si11r0_7 A x0 x1 x2 x3 x4 x5) (g12Si11r0_8 A x0 x1 x2 x3 x4 x5)], 5, 2⟩)])),
    (g12Si11c1 A x0 x1 x2 x3 x4 x5, some (.normal, [(410, ⟨[.one (.ptr 410 0 none), .one (.sl 415 none (g12Si11r1_0 A x0 x1 x2 x3 x4 x5) 1)], 36, 1⟩), (411, ⟨[.one (.sl 13004 none (g12Si11r1_1 A x0 x1 x2 x3 x4 x5) 1)], 34, 1⟩), (412, ⟨[.one (.str (g12Si11r1_2 A x0 x1 x2 x3 x4 x5))], 9, 1⟩), (413, ⟨[.one (.int .i64 (g12Si11r1_3 A x0 x1 x2 x3 x4 x5))], 3, 1⟩), (414, ⟨[.one (.int .i64 (g12Si11r1_4 A x0 x1 x2 x3 x4 x5))], 3, 1⟩), (415, ⟨[.nums .u8 (g12Si11r1_5 A x0 x1 x2 x3 x4 x5) (g12Si11r1_6 A x0 x1 x2 x3 x4 x5)], 5, 0⟩), (13004, ⟨[.nums .u8 (g12Si11r1_7 A x0 x1 x2 x3 x4 x5) (g12Si11r1_8 A x0 x1 x2 x3 x4 x5)], 5, 2⟩)])),
    (g12Si11c2 A x0 x1 x2 x3 x4 x5, some (.normal, [(410, ⟨[.one (.ptr 410 0 none), .one (.sl 415 none (g12Si11r2_0 A x0 x1 x2 x3 x4 x5) 1)], 36, 1⟩), (411, ⟨[.one .nils], 34, 1⟩), (412, ⟨[.one (.str (g12Si11r2_1 A x0 x1 x2 x3 x4 x5))], 9, 1⟩), (413, ⟨[.one (.int .i64 (g12Si11r2_2 A x0 x1 x2 x3 x4 x5))], 3, 1⟩), (414, ⟨[.one (.int .i64 (g12Si11r2_3 A x0 x1 x2 x3 x4 x5))], 3, 1⟩), (415, ⟨[.nums .u8 (g12Si11r2_4 A x0 x1 x2 x3 x4 x5) (g12Si11r2_5 A x0 x1 x2 x3 x4 x5)], 5, 0⟩)]))]
    | false => []
  | .fn n14 [] [(.cell (.ptr n15 n16 none)), (.cell (.ptr n17 n18 none)), (.cell (.ptr n19 n20 none))], [(n0, .v (.cell (.ptr n1 n2 none))), (n3, .v (.cell (.ptr n4 n5 none))), (n6, .fn n7 [] [(.cell (.ptr n8 n9 none)), (.cell (.ptr n10 n11 none)), (.cell (.ptr n12 n13 none))])], [(n21, ⟨[.one .nilp, .one .nils], n22, n23⟩), (n24, ⟨[.one .nils], n25, n26⟩), (n27, ⟨[.one (.str x0)], n28, n29⟩), (n30, ⟨[.one (.int .i64 x1)], n31, n32⟩), (n33, ⟨[.one (.int .i64 x2)], n34, n35⟩)] => match Nat.beq n0 4 && (Nat.beq n1 410 && (Nat.beq n2 0 && (Nat.beq n3 8 && (Nat.beq n4 411 && (Nat.beq n5 0 && (Nat.beq n6 25 && (Nat.beq n7 32 && (Nat.beq n8 412 && (Nat.beq n9 0 && (Nat.beq n10 413 && (Nat.beq n11 0 && (Nat.beq n12 414 && (Nat.beq n13 0 && (Nat.beq n14 32 && (Nat.beq n15 412 && (Nat.beq n16 0 && (Nat.beq n17 413 && (Nat.beq n18 0 && (Nat.beq n19 414 && (Nat.beq n20 0 && (Nat.beq n21 410 && (Nat.beq n22 36 && (Nat.beq n23 1 && (Nat.beq n24 411 && (Nat.beq n25 34 && (Nat.beq n26 1 && (Nat.beq n27 412 && (Nat.beq n28 9 && (Nat.beq n29 1 && (Nat.beq n30 413 && (Nat.beq n31 3 && (Nat.beq n32 1 && (Nat.beq n33 414 && (Nat.beq n34 3 && (Nat.beq n35 1))))))))))))))))))))))))))))))))))) with
    | true => [(g12Si11a_c0 A x0 x1 x2, some (.normal, [(410, ⟨[.one .nilp, .one .nils], 36, 1⟩), (411, ⟨[.one (.sl 500 none (g12Si11a_r0_0 A x0 x1 x2) 1)], 34, 1⟩), (412, ⟨[.one (.str (g12Si11a_r0_1 A x0 x1 x2))], 9, 1⟩), (413, ⟨[.one (.int .i64 (g12Si11a_r0_2 A x0 x1 x2))], 3, 1⟩), (414, ⟨[.one (.int .i64 (g12Si11a_r0_3 A x0 x1 x2))], 3, 1⟩), (500, ⟨[.nums .u8 (g12Si11a_r0_4 A x0 x1 x2) (g12Si11a_r0_5 A x0 x1 x2)], 5, 2⟩)])),
    (g12Si11a_c1 A x0 x1 x2, some (.normal, [(410, ⟨[.one .nilp, .one .nils], 36, 1⟩), (411, ⟨[.one (.sl 13004 none (g12Si11a_r1_0 A x0 x1 x2) 1)], 34, 1⟩), (412, ⟨[.one (.str (g12Si11a_r1_1 A x0 x1 x2))], 9, 1⟩), (413, ⟨[.one (.int .i64 (g12Si11a_r1_2 A x0 x1 x2))], 3, 1⟩), (414, ⟨[.one (.int .i64 (g12Si11a_r1_3 A x0 x1 x2))], 3, 1⟩), (13004, ⟨[.nums .u8 (g12Si11a_r1_4 A x0 x1 x2) (g12Si11a_r1_5 A x0 x1 x2)], 5, 2⟩)])),
    (g12Si11a_c2 A x0 x1 x2, some (.normal, [(410, ⟨[.one .nilp, .one .nils], 36, 1⟩), (411, ⟨[.one .nils], 34, 1⟩), (412, ⟨[.one (.str (g12Si11a_r2_0 A x0 x1 x2))], 9, 1⟩), (413, ⟨[.one (.int .i64 (g12Si11a_r2_1 A x0 x1 x2))], 3, 1⟩), (414, ⟨[.one (.int .i64 (g12Si11a_r2_2 A x0 x1 x2))], 3, 1⟩)]))]
    | false => []
  | _, _, _ => []
theorem g12Si11eq (F0 : Nat → List Nat → Nat → List Nat → Int → Int → Option Heap) (F1 : List Nat → Int → Int → Option Heap) {x0 : Nat} {x1 : List Nat} {x2 : Nat} {x3 : List Nat} {x4 : Int} {x5 : Int} : rngF 32 (g12Si11F F0 F1) (.fn 32 [] [(.cell (.ptr 412 0 none)), (.cell (.ptr 413 0 none)), (.cell (.ptr 414 0 none))]) [(4, (pT 410 0)), (8, (pT 411 0)), (25, (.fn 32 [] [(.cell (.ptr 412 0 none)), (.cell (.ptr 413 0 none)), (.cell (.ptr 414 0 none))]))] [(415, ⟨[.nums .u8 x0 x1], 5, 0⟩), (410, ⟨[.one (.ptr 410 0 none), .one (.sl 415 none x2 1)], 36, 1⟩), (411, ⟨[.one .nils], 34, 1⟩), (412, ⟨[.one (.str x3)], 9, 1⟩), (413, ⟨[.one (.int .i64 x4)], 3, 1⟩), (414, ⟨[.one (.int .i64 x5)], 3, 1⟩)] = rngK (F0 x0 x1 x2 x3 x4 x5) := by kernel_rfl
theorem g12Si11a_eq (F0 : Nat → List Nat → Nat → List Nat → Int → Int → Option Heap) (F1 : List Nat → Int → Int → Option Heap) {x0 : List Nat} {x1 : Int} {x2 : Int} : rngF 32 (g12Si11F F0 F1) (.fn 32 [] [(.cell (.ptr 412 0 none)), (.cell (.ptr 413 0 none)), (.cell (.ptr 414 0 none))]) [(4, (pT 410 0)), (8, (pT 411 0)), (25, (.fn 32 [] [(.cell (.ptr 412 0 none)), (.cell (.ptr 413 0 none)), (.cell (.ptr 414 0 none))]))] [(410, ⟨[.one .nilp, .one .nils], 36, 1⟩), (411, ⟨[.one .nils], 34, 1⟩), (412, ⟨[.one (.str x0)], 9, 1⟩), (413, ⟨[.one (.int .i64 x1)], 3, 1⟩), (414, ⟨[.one (.int .i64 x2)], 3, 1⟩)] = rngK (F1 x0 x1 x2) := by kernel_rfl
theorem g12SR11_sound {v : AV} {sl : Slots} {h : Heap} {r : Ex × Heap} (hl : pickG (g12SR11 realA v sl h) = some r) : rngF 32 (g12Si11F (g12Si11v realA) (g12Si11a_v realA)) v sl h = some r := by
  unfold g12SR11 at hl
  split at hl
  · rename_i n14 n15 n16 n17 n18 n19 n20 n0 n1 n2 n3 n4 n5 n6 n7 n8 n9 n10 n11 n12 n13 n21 x0 x1 n22 n23 n24 n25 n26 n27 x2 n28 n29 n30 n31 n32 n33 n34 x3 n35 n36 n37 x4 n38 n39 n40 x5 n41 n42
    split at hl
    case h_2 => cases hl
    rename_i hc0
    simp only [Bool.and_eq_true] at hc0
    have en0 := beq_true hc0.1
    subst en0
    replace hc0 := hc0.2
    have en1 := beq_true hc0.1
    subst en1
    replace hc0 := hc0.2
    have en2 := beq_true hc0.1
    subst en2
    replace hc0 := hc0.2
    have en3 := beq_true hc0.1
    subst en3
    replace hc0 := hc0.2
    have en4 := beq_true hc0.1
    subst en4
    replace hc0 := hc0.2
    have en5 := beq_true hc0.1
    subst en5
    replace hc0 := hc0.2
    have en6 := beq_true hc0.1
    subst en6
    replace hc0 := hc0.2
    have en7 := beq_true hc0.1
    subst en7
    replace hc0 := hc0.2
    have en8 := beq_true hc0.1
    subst en8
    replace hc0 := hc0.2
    have en9 := beq_true hc0.1
    subst en9
    replace hc0 := hc0.2
    have en10 := beq_true hc0.1
    subst en10
    replace hc0 := hc0.2
    have en11 := beq_true hc0.1
    subst en11
    replace hc0 := hc0.2
    have en12 := beq_true hc0.1
    subst en12
    replace hc0 := hc0.2
    have en13 := beq_true hc0.1
    subst en13
    replace hc0 := hc0.2
    have en14 := beq_true hc0.1
    subst en14
    replace hc0 := hc0.2
    have en15 := beq_true hc0.1
    subst en15
    replace hc0 := hc0.2
    have en16 := beq_true hc0.1
    subst en16
    replace hc0 := hc0.2
    have en17 := beq_true hc0.1
    subst en17
    replace hc0 := hc0.2
    have en18 := beq_true hc0.1
    subst en18
    replace hc0 := hc0.2
    have en19 := beq_true hc0.1
    subst en19
    replace hc0 := hc0.2
    have en20 := beq_true hc0.1
    subst en20
    replace hc0 := hc0.2
    have en21 := beq_true hc0.1
    subst en21
    replace hc0 := hc0.2
    have en22 := beq_true hc0.1
    subst en22
    replace hc0 := hc0.2
    have en23 := beq_true hc0.1
    subst en23
    replace hc0 := hc0.2
    have en24 := beq_true hc0.1
    subst en24
    replace hc0 := hc0.2
    have en25 := beq_true hc0.1
    subst en25
    replace hc0 := hc0.2
    have en26 := beq_true hc0.1
    subst en26
    replace hc0 := hc0.2
    have en27 := beq_true hc0.1
    subst en27
    replace hc0 := hc0.2
    have en28 := beq_true hc0.1
    subst en28
    replace hc0 := hc0.2
    have en29 := beq_true hc0.1
    subst en29
    replace hc0 := hc0.2
    have en30 := beq_true hc0.1
    subst en30
    replace hc0 := hc0.2
    have en31 := beq_true hc0.1
    subst en31
    replace hc0 := hc0.2
    have en32 := beq_true hc0.1
    subst en32
    replace hc0 := hc0.2
    have en33 := beq_true hc0.1
    subst en33
    replace hc0 := hc0.2
    have en34 := beq_true hc0.1
    subst en34
    replace hc0 := hc0.2
    have en35 := beq_true hc0.1
    subst en35
    replace hc0 := hc0.2
    have en36 := beq_true hc0.1
    subst en36
    replace hc0 := hc0.2
    have en37 := beq_true hc0.1
    subst en37
    replace hc0 := hc0.2
    have en38 := beq_true hc0.1
    subst en38
    replace hc0 := hc0.2
    have en39 := beq_true hc0.1
    subst en39
    replace hc0 := hc0.2
    have en40 := beq_true hc0.1
    subst en40
    replace hc0 := hc0.2
    have en41 := beq_true hc0.1
    subst en41
    replace hc0 := hc0.2
    have en42 := beq_true hc0
    subst en42
    refine (g12Si11eq (g12Si11v realA) (g12Si11a_v realA)).trans ?_
    rcases pickG_cons hl with ⟨hc, hl⟩ | hl
    · simp only [Option.some.injEq] at hl
      subst hl
      exact (congrArg rngK (g12Si11is0_spec hc)).trans rfl
    rcases pickG_cons hl with ⟨hc, hl⟩ | hl
    · simp only [Option.some.injEq] at hl
      subst hl
      exact (congrArg rngK (g12Si11is1_spec hc)).trans rfl
    rcases pickG_cons hl with ⟨hc, hl⟩ | hl
    · simp only [Option.some.injEq] at hl
      subst hl
      exact (congrArg rngK (g12Si11is2_spec hc)).trans rfl
    cases hl
  · rename_i n14 n15 n16 n17 n18 n19 n20 n0 n1 n2 n3 n4 n5 n6 n7 n8 n9 n10 n11 n12 n13 n21 n22 n23 n24 n25 n26 n27 x0 n28 n29 n30 x1 n31 n32 n33 x2 n34 n35
    split at hl
    case h_2 => cases hl
    rename_i hc0
    simp only [Bool.and_eq_true] at hc0
    have en0 := beq_true hc0.1
    subst en0
    replace hc0 := hc0.2
    have en1 := beq_true hc0.1
    subst en1
    replace hc0 := hc0.2
    have en2 := beq_true hc0.1
    subst en2
    replace hc0 := hc0.2
    have en3 := beq_true hc0.1
    subst en3
    replace hc0 := hc0.2
    have en4 := beq_true hc0.1
    subst en4
    replace hc0 := hc0.2
    have en5 := beq_true hc0.1
    subst en5
    replace hc0 := hc0.2
    have en6 := beq_true hc0.1
    subst en6
    replace hc0 := hc0.2
    have en7 := beq_true hc0.1
    subst en7
    replace hc0 := hc0.2
    have en8 := beq_true hc0.1
    subst en8
    replace hc0 := hc0.2
    have en9 := beq_true hc0.1
    subst en9
    replace hc0 := hc0.2
    have en10 := beq_true hc0.1
    subst en10
    replace hc0 := hc0.2
    have en11 := beq_true hc0.1
    subst en11
    replace hc0 := hc0.2
    have en12 := beq_true hc0.1
    subst en12
    replace hc0 := hc0.2
    have en13 := beq_true hc0.1
    subst en13
    replace hc0 := hc0.2
    have en14 := beq_true hc0.1
    subst en14
    replace hc0 := hc0.2
    have en15 := beq_true hc0.1
    subst en15
    replace hc0 := hc0.2
    have en16 := beq_true hc0.1
    subst en16
    replace hc0 := hc0.2
    have en17 := beq_true hc0.1
    subst en17
    replace hc0 := hc0.2
    have en18 := beq_true hc0.1
    subst en18
    replace hc0 := hc0.2
    have en19 := beq_true hc0.1
    subst en19
    replace hc0 := hc0.2
    have en20 := beq_true hc0.1
    subst en20
    replace hc0 := hc0.2
    have en21 := beq_true hc0.1
    subst en21
    replace hc0 := hc0.2
    have en22 := beq_true hc0.1
    subst en22
    replace hc0 := hc0.2
    have en23 := beq_true hc0.1
    subst en23
    replace hc0 := hc0.2
    have en24 := beq_true hc0.1
    subst en24
    replace hc0 := hc0.2
    have en25 := beq_true hc0.1
    subst en25
    replace hc0 := hc0.2
    have en26 := beq_true hc0.1
    subst en26
    replace hc0 := hc0.2
    have en27 := beq_true hc0.1
    subst en27
    replace hc0 := hc0.2
    have en28 := beq_true hc0.1
    subst en28
    replace hc0 := hc0.2
    have en29 := beq_true hc0.1
    subst en29
    replace hc0 := hc0.2
    have en30 := beq_true hc0.1
    subst en30
    replace hc0 := hc0.2
    have en31 := beq_true hc0.1
    subst en31
    replace hc0 := hc0.2
    have en32 := beq_true hc0.1
    subst en32
    replace hc0 := hc0.2
    have en33 := beq_true hc0.1
    subst en33
    replace hc0 := hc0.2
    have en34 := beq_true hc0.1
    subst en34
    replace hc0 := hc0.2
    have en35 := beq_true hc0
    subst en35
    refine (g12Si11a_eq (g12Si11v realA) (g12Si11a_v realA)).trans ?_
    rcases pickG_cons hl with ⟨hc, hl⟩ | hl
    · simp only [Option.some.injEq] at hl
      subst hl
      exact (congrArg rngK (g12Si11a_is0_spec hc)).trans rfl
    rcases pickG_cons hl with ⟨hc, hl⟩ | hl
    · simp only [Option.some.injEq] at hl
      subst hl
      exact (congrArg rngK (g12Si11a_is1_spec hc)).trans rfl
    rcases pickG_cons hl with ⟨hc, hl⟩ | hl
    · simp only [Option.some.injEq] at hl
      subst hl
      exact (congrArg rngK (g12Si11a_is2_spec hc)).trans rfl
    cases hl
  · cases hl
theorem g12Si11hit {sl : Slots} {caps : List V1} {h h2 : Heap} (hh : g12Si11F (g12Si11v realA) (g12Si11a_v realA) sl caps h = some h2) : caps.length + 1 ≤ Tryd.f32.ntmps ∧ ∃ m, funN realA gtys (g12Si11U realA sl) g12Si11an g12Si11cut (bodyOf Tryd.f32) Tryd.f32.results.toList (.yld 449 :: vAV caps []) h (fun _ h => some (pick h [410, 411, 412, 413, 414, 415, 448, 500, 13004])) (goD realA gtys (g12Si11U realA sl) g12Si11an g12Si11cut (bodyOf Tryd.f32) (finD gtys Tryd.f32.results.toList (fun _ h => some (pick h [410, 411, 412, 413, 414, 415, 448, 500, 13004]))) m) = some h2 := by
  unfold g12Si11F at hh
  split at hh
  · rename_i n0 n1 n2 n3 n4 n5 n6 n7 n8 n9 n10 n11 n12 n13 n14 n15 n16 n17 n18 n19 n20 n21 n22 n23 x0 x1 n24 n25 n26 n27 n28 n29 x2 n30 n31 n32 n33 n34 n35 n36 x3 n37 n38 n39 x4 n40 n41 n42 x5 n43 n44
    split at hh
    case h_2 => cases hh
    rename_i hc0
    simp only [Bool.and_eq_true] at hc0
    have en0 := beq_true hc0.1
    subst en0
    replace hc0 := hc0.2
    have en1 := beq_true hc0.1
    subst en1
    replace hc0 := hc0.2
    have en2 := beq_true hc0.1
    subst en2
    replace hc0 := hc0.2
    have en3 := beq_true hc0.1
    subst en3
    replace hc0 := hc0.2
    have en4 := beq_true hc0.1
    subst en4
    replace hc0 := hc0.2
    have en5 := beq_true hc0.1
    subst en5
    replace hc0 := hc0.2
    have en6 := beq_true hc0.1
    subst en6
    replace hc0 := hc0.2
    have en7 := beq_true hc0.1
    subst en7
    replace hc0 := hc0.2
    have en8 := beq_true hc0.1
    subst en8
    replace hc0 := hc0.2
    have en9 := beq_true hc0.1
    subst en9
    replace hc0 := hc0.2
    have en10 := beq_true hc0.1
    subst en10
    replace hc0 := hc0.2
    have en11 := beq_true hc0.1
    subst en11
    replace hc0 := hc0.2
    have en12 := beq_true hc0.1
    subst en12
    replace hc0 := hc0.2
    have en13 := beq_true hc0.1
    subst en13
    replace hc0 := hc0.2
    have en14 := beq_true hc0.1
    subst en14
    replace hc0 := hc0.2
    have en15 := beq_true hc0.1
    subst en15
    replace hc0 := hc0.2
    have en16 := beq_true hc0.1
    subst en16
    replace hc0 := hc0.2
    have en17 := beq_true hc0.1
    subst en17
    replace hc0 := hc0.2
    have en18 := beq_true hc0.1
    subst en18
    replace hc0 := hc0.2
    have en19 := beq_true hc0.1
    subst en19
    replace hc0 := hc0.2
    have en20 := beq_true hc0.1
    subst en20
    replace hc0 := hc0.2
    have en21 := beq_true hc0.1
    subst en21
    replace hc0 := hc0.2
    have en22 := beq_true hc0.1
    subst en22
    replace hc0 := hc0.2
    have en23 := beq_true hc0.1
    subst en23
    replace hc0 := hc0.2
    have en24 := beq_true hc0.1
    subst en24
    replace hc0 := hc0.2
    have en25 := beq_true hc0.1
    subst en25
    replace hc0 := hc0.2
    have en26 := beq_true hc0.1
    subst en26
    replace hc0 := hc0.2
    have en27 := beq_true hc0.1
    subst en27
    replace hc0 := hc0.2
    have en28 := beq_true hc0.1
    subst en28
    replace hc0 := hc0.2
    have en29 := beq_true hc0.1
    subst en29
    replace hc0 := hc0.2
    have en30 := beq_true hc0.1
    subst en30
    replace hc0 := hc0.2
    have en31 := beq_true hc0.1
    subst en31
    replace hc0 := hc0.2
    have en32 := beq_true hc0.1
    subst en32
    replace hc0 := hc0.2
    have en33 := beq_true hc0.1
    subst en33
    replace hc0 := hc0.2
    have en34 := beq_true hc0.1
    subst en34
    replace hc0 := hc0.2
    have en35 := beq_true hc0.1
    subst en35
    replace hc0 := hc0.2
    have en36 := beq_true hc0.1
    subst en36
    replace hc0 := hc0.2
    have en37 := beq_true hc0.1
    subst en37
    replace hc0 := hc0.2
    have en38 := beq_true hc0.1
    subst en38
    replace hc0 := hc0.2
    have en39 := beq_true hc0.1
    subst en39
    replace hc0 := hc0.2
    have en40 := beq_true hc0.1
    subst en40
    replace hc0 := hc0.2
    have en41 := beq_true hc0.1
    subst en41
    replace hc0 := hc0.2
    have en42 := beq_true hc0.1
    subst en42
    replace hc0 := hc0.2
    have en43 := beq_true hc0.1
    subst en43
    replace hc0 := hc0.2
    have en44 := beq_true hc0
    subst en44
    exact ⟨Nat.le_of_ble_eq_true (by kernel_rfl), via_tb (fun _ st => g12Si11_go st) hh⟩
  · rename_i n0 n1 n2 n3 n4 n5 n6 n7 n8 n9 n10 n11 n12 n13 n14 n15 n16 n17 n18 n19 n20 n21 n22 n23 n24 n25 n26 n27 n28 n29 x0 n30 n31 n32 x1 n33 n34 n35 x2 n36 n37
    split at hh
    case h_2 => cases hh
    rename_i hc0
    simp only [Bool.and_eq_true] at hc0
    have en0 := beq_true hc0.1
    subst en0
    replace hc0 := hc0.2
    have en1 := beq_true hc0.1
    subst en1
    replace hc0 := hc0.2
    have en2 := beq_true hc0.1
    subst en2
    replace hc0 := hc0.2
    have en3 := beq_true hc0.1
    subst en3
    replace hc0 := hc0.2
    have en4 := beq_true hc0.1
    subst en4
    replace hc0 := hc0.2
    have en5 := beq_true hc0.1
    subst en5
    replace hc0 := hc0.2
    have en6 := beq_true hc0.1
    subst en6
    replace hc0 := hc0.2
    have en7 := beq_true hc0.1
    subst en7
    replace hc0 := hc0.2
    have en8 := beq_true hc0.1
    subst en8
    replace hc0 := hc0.2
    have en9 := beq_true hc0.1
    subst en9
    replace hc0 := hc0.2
    have en10 := beq_true hc0.1
    subst en10
    replace hc0 := hc0.2
    have en11 := beq_true hc0.1
    subst en11
    replace hc0 := hc0.2
    have en12 := beq_true hc0.1
    subst en12
    replace hc0 := hc0.2
    have en13 := beq_true hc0.1
    subst en13
    replace hc0 := hc0.2
    have en14 := beq_true hc0.1
    subst en14
    replace hc0 := hc0.2
    have en15 := beq_true hc0.1
    subst en15
    replace hc0 := hc0.2
    have en16 := beq_true hc0.1
    subst en16
    replace hc0 := hc0.2
    have en17 := beq_true hc0.1
    subst en17
    replace hc0 := hc0.2
    have en18 := beq_true hc0.1
    subst en18
    replace hc0 := hc0.2
    have en19 := beq_true hc0.1
    subst en19
    replace hc0 := hc0.2
    have en20 := beq_true hc0.1
    subst en20
    replace hc0 := hc0.2
    have en21 := beq_true hc0.1
    subst en21
    replace hc0 := hc0.2
    have en22 := beq_true hc0.1
    subst en22
    replace hc0 := hc0.2
    have en23 := beq_true hc0.1
    subst en23
    replace hc0 := hc0.2
    have en24 := beq_true hc0.1
    subst en24
    replace hc0 := hc0.2
    have en25 := beq_true hc0.1
    subst en25
    replace hc0 := hc0.2
    have en26 := beq_true hc0.1
    subst en26
    replace hc0 := hc0.2
    have en27 := beq_true hc0.1
    subst en27
    replace hc0 := hc0.2
    have en28 := beq_true hc0.1
    subst en28
    replace hc0 := hc0.2
    have en29 := beq_true hc0.1
    subst en29
    replace hc0 := hc0.2
    have en30 := beq_true hc0.1
    subst en30
    replace hc0 := hc0.2
    have en31 := beq_true hc0.1
    subst en31
    replace hc0 := hc0.2
    have en32 := beq_true hc0.1
    subst en32
    replace hc0 := hc0.2
    have en33 := beq_true hc0.1
    subst en33
    replace hc0 := hc0.2
    have en34 := beq_true hc0.1
    subst en34
    replace hc0 := hc0.2
    have en35 := beq_true hc0.1
    subst en35
    replace hc0 := hc0.2
    have en36 := beq_true hc0.1
    subst en36
    replace hc0 := hc0.2
    have en37 := beq_true hc0
    subst en37
    exact ⟨Nat.le_of_ble_eq_true (by kernel_rfl), via_tb (fun _ st => g12Si11a__go st) hh⟩
  · cases hh
def g12W (A : Ar) (i : Nat) (v : AV) (sl : Slots) (h : Heap) : GL (Ex × Heap) := match Nat.beq i 11 with
  | true => g12SR11 A v (pick sl [4, 8, 25]) h
  | false => []
def g12P (A : Ar) (sI : List Nat) : Orc := { g12BO A with pb := 410, nx := some (13, sI), rngg := g12W A }
theorem g12hR : ∀ s N S ρ w (cx : Cx), cx.nt = Tryd.f12.ntmps → cx.pb = 410 → cx.lo ≤ w.heap.size → RngOk Tryd.prog (g12P realA s) Fence.wide 0 N S ρ w cx (rngs g12C) := by
  intro s N S ρ w cx hnt hpb hlo
  rw [show rngs g12C = [.rangeFunc (rfG (rfOf 0 (bodyOf Tryd.f12))) (rfPs (rfOf 0 (bodyOf Tryd.f12))) (rfAs (rfOf 0 (bodyOf Tryd.f12))) (rfBd (rfOf 0 (bodyOf Tryd.f12)))] from by kernel_rfl]
  exact rng_ok (O := g12P realA s) mixed gtysOK (OU := fun sl => g12Si11U realA (pick sl [4, 8, 25])) (fun _ => g12Si11BO_sound) (fun _ => g12Si11BO_det) (fun _ => rfl) (fun _ _ _ _ _ => rfl) (E := [412, 413, 414, 448]) (np := 1) (bodyE := fun sl vs g => pickG (g12SB11 realA (pick sl [4, 8, 25]) vs g)) (fun _ => rfl) (fun _ _ _ => yRoundG_pick) (i0 := 11) (by kernel_rfl) (fun _ _ _ _ _ h => by rw [hnt]; exact bodyH_pick [4, 8, 25] (g12SB11_sound h)) (by kernel_rfl) (nodupB_spec (by kernel_rfl)) (by rw [hnt]; exact allLtB_spec (by kernel_rfl)) Tryd.func32 (ic := bodyOf Tryd.f32) rfl (by kernel_rfl) Tryd.call32 (itE := fun sl caps h => g12Si11F (g12Si11v realA) (g12Si11a_v realA) (pick sl [4, 8, 25]) caps h) (an := g12Si11an) (cut := g12Si11cut) (bs := [410, 411, 412, 413, 414, 415, 448, 500, 13004]) (fun _ _ _ _ _ h => g12Si11hit h) (fun _ _ _ _ h => g12SR11_sound h) (by rw [hpb]; decide) hlo
def g12an : Ann := [(0, ([0], [])), (1, ([0, 2, 3], [])), (2, ([0, 2, 3, 4], [2000])), (3, ([0, 2, 3, 4, 13], [409, 500, 2000, 9002])), (4, ([0, 2, 3, 4, 13, 14], [409, 500, 2000])), (5, ([0, 2, 3, 4, 6, 13], [409, 500, 2000])), (6, ([0, 2, 3, 4, 7, 13], [409, 500, 2000])), (7, ([], [409])), (8, ([0, 2, 3, 4, 7, 13], [409, 500, 2000])), (9, ([0, 2, 3, 4], [500, 2000])), (10, ([0, 2, 3, 4, 8], [500, 2000, 10000])), (13, ([0, 4, 8], [410, 411, 412, 413, 414, 415, 500, 13004])), (14, ([0, 10], [410, 411, 412, 413, 414, 415, 500, 13004])), (15, ([], [410, 411, 412, 413, 414, 415, 500, 13004])), (16, ([10], [410, 411, 412, 413, 414, 415, 500, 13004])), (2000011, ([0, 2, 3, 4, 8, 25], [410, 411, 412, 413, 414, 415, 500, 2000, 10000, 11001, 11501, 11502])), (1000003, ([9002], [500])), (1000009, ([9002], [500])), (3000011, ([2000, 10000, 11001, 11501, 11502, 500], [410, 411, 412, 413, 414, 415]))]
def g12res : List ResultVar := [.tmp 2, .tmp 3]
def g12Scut : List Nat := [4, 13]
noncomputable def g12SN {R : Type} (A : Ar) (sI : List Nat) (kk : AV → Heap → Option R) (t : List Bool → St → Option R) (p : List Bool) (s : St) : Option R := nodeN A gtys (g12P A sI) g12an g12Scut t g12C (finD gtys g12res kk) p s
def g12SJ13s (x0 : List Nat) (x1 x2 : Nat) (x3 : List Nat) (x4 x5 : Int) (x6 : Nat) (x7 : List Nat) (x8 : Nat) (x9 : List Nat) : St := ⟨[(0, (tS x0)), (4, (pT 410 0)), (8, (pT 411 0))], [(410, ⟨[.one (.ptr 410 0 none), .one (.sl 415 none x1 1)], 36, 1⟩), (411, ⟨[.one (.sl 500 none x2 1)], 34, 1⟩), (412, ⟨[.one (.str x3)], 9, 1⟩), (413, ⟨[.one (.int .i64 x4)], 3, 1⟩), (414, ⟨[.one (.int .i64 x5)], 3, 1⟩), (415, ⟨[.nums .u8 x6 x7], 5, 0⟩), (500, ⟨[.nums .u8 x8 x9], 5, 2⟩)]⟩
def g12SJ13 {R : Type} (A : Ar) (sI : List Nat) (n : Nat) (kk : AV → Heap → Option R)  (x0 : List Nat) (x1 x2 : Nat) (x3 : List Nat) (x4 x5 : Int) (x6 : Nat) (x7 : List Nat) (x8 : Nat) (x9 : List Nat) : Option R :=
  match g24ok A x1 x6 x7 with
  | true => match A.neg (A.ib .quo .i64 (A.ib .mul .i64 (g24r0 A x1 x6 x7) 6) 8) with
    | true => none
    | false => match A.le (A.toN (A.ib .quo .i64 (A.ib .mul .i64 (g24r0 A x1 x6 x7) 6) 8)) x2 with
      | true => match g10ok A (x9.take (A.toN (A.ib .quo .i64 (A.ib .mul .i64 (g24r0 A x1 x6 x7) 6) 8))) with
        | true => match A.sc .neq (g10r0 A (x9.take (A.toN (A.ib .quo .i64 (A.ib .mul .i64 (g24r0 A x1 x6 x7) 6) 8)))) x0 with
          | true => kk (.tup [(.cell (.str [])), (.cell (.bool false))]) [(410, ⟨[.one (.ptr 410 0 none), .one (.sl 415 none (g24r1 A x1 x6 x7) 1)], 36, 1⟩), (411, ⟨[.one (.sl 500 none x2 1)], 34, 1⟩), (412, ⟨[.one (.str x3)], 9, 1⟩), (413, ⟨[.one (.int .i64 x4)], 3, 1⟩), (414, ⟨[.one (.int .i64 x5)], 3, 1⟩), (415, ⟨[.nums .u8 (g24r2 A x1 x6 x7) (g24r3 A x1 x6 x7)], 5, 0⟩), (500, ⟨[.nums .u8 x8 x9], 5, 2⟩)]
          | false => kk (.tup [(.cell (.str (x9.take (A.toN (A.ib .quo .i64 (A.ib .mul .i64 (g24r0 A x1 x6 x7) 6) 8))))), (.cell (.bool true))]) [(410, ⟨[.one (.ptr 410 0 none), .one (.sl 415 none (g24r1 A x1 x6 x7) 1)], 36, 1⟩), (411, ⟨[.one (.sl 500 none x2 1)], 34, 1⟩), (412, ⟨[.one (.str x3)], 9, 1⟩), (413, ⟨[.one (.int .i64 x4)], 3, 1⟩), (414, ⟨[.one (.int .i64 x5)], 3, 1⟩), (415, ⟨[.nums .u8 (g24r2 A x1 x6 x7) (g24r3 A x1 x6 x7)], 5, 0⟩), (500, ⟨[.nums .u8 x8 x9], 5, 2⟩)]
        | false => none
      | false => none
  | false => none
def g12SJ13as (x0 : List Nat) (x1 x2 : Nat) (x3 : List Nat) (x4 x5 : Int) (x6 : Nat) (x7 : List Nat) (x8 : Nat) (x9 : List Nat) : St := ⟨[(0, (tS x0)), (4, (pT 410 0)), (8, (pT 411 0))], [(410, ⟨[.one (.ptr 410 0 none), .one (.sl 415 none x1 1)], 36, 1⟩), (411, ⟨[.one (.sl 13004 none x2 1)], 34, 1⟩), (412, ⟨[.one (.str x3)], 9, 1⟩), (413, ⟨[.one (.int .i64 x4)], 3, 1⟩), (414, ⟨[.one (.int .i64 x5)], 3, 1⟩), (415, ⟨[.nums .u8 x6 x7], 5, 0⟩), (13004, ⟨[.nums .u8 x8 x9], 5, 2⟩)]⟩
def g12SJ13a {R : Type} (A : Ar) (sI : List Nat) (n : Nat) (kk : AV → Heap → Option R)  (x0 : List Nat) (x1 x2 : Nat) (x3 : List Nat) (x4 x5 : Int) (x6 : Nat) (x7 : List Nat) (x8 : Nat) (x9 : List Nat) : Option R :=
  match g24ok A x1 x6 x7 with
  | true => match A.neg (A.ib .quo .i64 (A.ib .mul .i64 (g24r0 A x1 x6 x7) 6) 8) with
    | true => none
    | false => match A.le (A.toN (A.ib .quo .i64 (A.ib .mul .i64 (g24r0 A x1 x6 x7) 6) 8)) x2 with
      | true => match g10ok A (x9.take (A.toN (A.ib .quo .i64 (A.ib .mul .i64 (g24r0 A x1 x6 x7) 6) 8))) with
        | true => match A.sc .neq (g10r0 A (x9.take (A.toN (A.ib .quo .i64 (A.ib .mul .i64 (g24r0 A x1 x6 x7) 6) 8)))) x0 with
          | true => kk (.tup [(.cell (.str [])), (.cell (.bool false))]) [(410, ⟨[.one (.ptr 410 0 none), .one (.sl 415 none (g24r1 A x1 x6 x7) 1)], 36, 1⟩), (411, ⟨[.one (.sl 13004 none x2 1)], 34, 1⟩), (412, ⟨[.one (.str x3)], 9, 1⟩), (413, ⟨[.one (.int .i64 x4)], 3, 1⟩), (414, ⟨[.one (.int .i64 x5)], 3, 1⟩), (415, ⟨[.nums .u8 (g24r2 A x1 x6 x7) (g24r3 A x1 x6 x7)], 5, 0⟩), (13004, ⟨[.nums .u8 x8 x9], 5, 2⟩)]
          | false => kk (.tup [(.cell (.str (x9.take (A.toN (A.ib .quo .i64 (A.ib .mul .i64 (g24r0 A x1 x6 x7) 6) 8))))), (.cell (.bool true))]) [(410, ⟨[.one (.ptr 410 0 none), .one (.sl 415 none (g24r1 A x1 x6 x7) 1)], 36, 1⟩), (411, ⟨[.one (.sl 13004 none x2 1)], 34, 1⟩), (412, ⟨[.one (.str x3)], 9, 1⟩), (413, ⟨[.one (.int .i64 x4)], 3, 1⟩), (414, ⟨[.one (.int .i64 x5)], 3, 1⟩), (415, ⟨[.nums .u8 (g24r2 A x1 x6 x7) (g24r3 A x1 x6 x7)], 5, 0⟩), (13004, ⟨[.nums .u8 x8 x9], 5, 2⟩)]
        | false => none
      | false => none
  | false => none
def g12SJ13bs (x0 : List Nat) (x1 : Nat) (x2 : List Nat) (x3 x4 : Int) (x5 : Nat) (x6 : List Nat) : St := ⟨[(0, (tS x0)), (4, (pT 410 0)), (8, (pT 411 0))], [(410, ⟨[.one (.ptr 410 0 none), .one (.sl 415 none x1 1)], 36, 1⟩), (411, ⟨[.one .nils], 34, 1⟩), (412, ⟨[.one (.str x2)], 9, 1⟩), (413, ⟨[.one (.int .i64 x3)], 3, 1⟩), (414, ⟨[.one (.int .i64 x4)], 3, 1⟩), (415, ⟨[.nums .u8 x5 x6], 5, 0⟩)]⟩
def g12SJ13b {R : Type} (A : Ar) (sI : List Nat) (n : Nat) (kk : AV → Heap → Option R)  (x0 : List Nat) (x1 : Nat) (x2 : List Nat) (x3 x4 : Int) (x5 : Nat) (x6 : List Nat) : Option R :=
  match g24ok A x1 x5 x6 with
  | true => match A.neg (A.ib .quo .i64 (A.ib .mul .i64 (g24r0 A x1 x5 x6) 6) 8) with
    | true => none
    | false => match A.le (A.toN (A.ib .quo .i64 (A.ib .mul .i64 (g24r0 A x1 x5 x6) 6) 8)) 0 with
      | true => match g10ok A [] with
        | true => match A.sc .neq (g10r0 A []) x0 with
          | true => kk (.tup [(.cell (.str [])), (.cell (.bool false))]) [(410, ⟨[.one (.ptr 410 0 none), .one (.sl 415 none (g24r1 A x1 x5 x6) 1)], 36, 1⟩), (411, ⟨[.one .nils], 34, 1⟩), (412, ⟨[.one (.str x2)], 9, 1⟩), (413, ⟨[.one (.int .i64 x3)], 3, 1⟩), (414, ⟨[.one (.int .i64 x4)], 3, 1⟩), (415, ⟨[.nums .u8 (g24r2 A x1 x5 x6) (g24r3 A x1 x5 x6)], 5, 0⟩)]
          | false => kk (.tup [(.cell (.str [])), (.cell (.bool true))]) [(410, ⟨[.one (.ptr 410 0 none), .one (.sl 415 none (g24r1 A x1 x5 x6) 1)], 36, 1⟩), (411, ⟨[.one .nils], 34, 1⟩), (412, ⟨[.one (.str x2)], 9, 1⟩), (413, ⟨[.one (.int .i64 x3)], 3, 1⟩), (414, ⟨[.one (.int .i64 x4)], 3, 1⟩), (415, ⟨[.nums .u8 (g24r2 A x1 x5 x6) (g24r3 A x1 x5 x6)], 5, 0⟩)]
        | false => none
      | false => none
  | false => none
def g12SJ4as (x0 x1 : List Nat) (x2 x3 : Int) (x4 x5 : Nat) (x6 : List Nat) (x7 : Nat) : St := ⟨[(0, (tS x0)), (2, (tS x1)), (3, (bO false)), (4, (pT 2000 0)), (14, (.tup [(.cell (.bool true)), (.cell (.int .i64 x2)), (.cell (.int .i32 x3))]))], [(409, ⟨[], x4, 0⟩), (500, ⟨[.nums .u8 x5 x6], 5, 2⟩), (2000, ⟨[.one (.ptr 2000 0 none), .one (.sl 500 none x7 1)], 36, 1⟩)]⟩
def g12SJ4a {R : Type} (A : Ar) (sI : List Nat) (n : Nat) (kk : AV → Heap → Option R) (lg12SL3b : List Nat → List Nat → Nat → Nat → List Nat → Nat → Option R) (x0 x1 : List Nat) (x2 x3 : Int) (x4 x5 : Nat) (x6 : List Nat) (x7 : Nat) : Option R :=
  match idxRok A x3 with
  | true => match A.ic .lss (idxR A x3) 0 with
    | true => kk (.tup [(.cell (.str [])), (.cell (.bool false))]) [(409, ⟨[], x4, 0⟩)]
    | false => match g23a_ok A (A.i2n .u8 (idxR A x3)) x7 x5 x6 with
      | true => lg12SL3b x0 x1 x4 (g23a_r1 A (A.i2n .u8 (idxR A x3)) x7 x5 x6) (g23a_r2 A (A.i2n .u8 (idxR A x3)) x7 x5 x6) (g23a_r0 A (A.i2n .u8 (idxR A x3)) x7 x5 x6)
      | false => none
  | false => none
def g12SL3bs (x0 x1 : List Nat) (x2 x3 : Nat) (x4 : List Nat) (x5 : Nat) : St := ⟨[(0, (tS x0)), (2, (tS x1)), (3, (bO false)), (4, (pT 2000 0))], [(409, ⟨[], x2, 0⟩), (500, ⟨[.nums .u8 x3 x4], 5, 2⟩), (2000, ⟨[.one (.ptr 2000 0 none), .one (.sl 500 none x5 1)], 36, 1⟩)]⟩
def g12SL3b {R : Type} (A : Ar) (sI : List Nat) (n : Nat) (kk : AV → Heap → Option R)  : Nat → List Nat → List Nat → Nat → Nat → List Nat → Nat → Option R
  | 0, _, _, _, _, _, _ => none
  | m + 1, x0, x1, x2, x3, x4, x5 => match A.lt x2 sI.length with
  | true => g12SJ4a A sI n kk (g12SL3b A sI n kk  m) x0 x1 (A.ofN x2) (A.ofN (runeN sI x2)) (stepN sI x2) x3 x4 x5
  | false => match g26ok A x5 x3 x4 with
    | true => match g12Si11c0 A (g26r2 A x5 x3 x4) (g26r3 A x5 x3 x4) (g26r1 A x5 x3 x4) (g26r0 A x5 x3 x4) 6 8 with
      | true => g12SJ13 A sI n kk  x0 (g12Si11r0_0 A (g26r2 A x5 x3 x4) (g26r3 A x5 x3 x4) (g26r1 A x5 x3 x4) (g26r0 A x5 x3 x4) 6 8) (g12Si11r0_1 A (g26r2 A x5 x3 x4) (g26r3 A x5 x3 x4) (g26r1 A x5 x3 x4) (g26r0 A x5 x3 x4) 6 8) (g12Si11r0_2 A (g26r2 A x5 x3 x4) (g26r3 A x5 x3 x4) (g26r1 A x5 x3 x4) (g26r0 A x5 x3 x4) 6 8) (g12Si11r0_3 A (g26r2 A x5 x3 x4) (g26r3 A x5 x3 x4) (g26r1 A x5 x3 x4) (g26r0 A x5 x3 x4) 6 8) (g12Si11r0_4 A (g26r2 A x5 x3 x4) (g26r3 A x5 x3 x4) (g26r1 A x5 x3 x4) (g26r0 A x5 x3 x4) 6 8) (g12Si11r0_5 A (g26r2 A x5 x3 x4) (g26r3 A x5 x3 x4) (g26r1 A x5 x3 x4) (g26r0 A x5 x3 x4) 6 8) (g12Si11r0_6 A (g26r2 A x5 x3 x4) (g26r3 A x5 x3 x4) (g26r1 A x5 x3 x4) (g26r0 A x5 x3 x4) 6 8) (g12Si11r0_7 A (g26r2 A x5 x3 x4) (g26r3 A x5 x3 x4) (g26r1 A x5 x3 x4) (g26r0 A x5 x3 x4) 6 8) (g12Si11r0_8 A (g26r2 A x5 x3 x4) (g26r3 A x5 x3 x4) (g26r1 A x5 x3 x4) (g26r0 A x5 x3 x4) 6 8)
      | false => match g12Si11c1 A (g26r2 A x5 x3 x4) (g26r3 A x5 x3 x4) (g26r1 A x5 x3 x4) (g26r0 A x5 x3 x4) 6 8 with
        | true => g12SJ13a A sI n kk  x0 (g12Si11r1_0 A (g26r2 A x5 x3 x4) (g26r3 A x5 x3 x4) (g26r1 A x5 x3 x4) (g26r0 A x5 x3 x4) 6 8) (g12Si11r1_1 A (g26r2 A x5 x3 x4) (g26r3 A x5 x3 x4) (g26r1 A x5 x3 x4) (g26r0 A x5 x3 x4) 6 8) (g12Si11r1_2 A (g26r2 A x5 x3 x4) (g26r3 A x5 x3 x4) (g26r1 A x5 x3 x4) (g26r0 A x5 x3 x4) 6 8) (g12Si11r1_3 A (g26r2 A x5 x3 x4) (g26r3 A x5 x3 x4) (g26r1 A x5 x3 x4) (g26r0 A x5 x3 x4) 6 8) (g12Si11r1_4 A (g26r2 A x5 x3 x4) (g26r3 A x5 x3 x4) (g26r1 A x5 x3 x4) (g26r0 A x5 x3 x4) 6 8) (g12Si11r1_5 A (g26r2 A x5 x3 x4) (g26r3 A x5 x3 x4) (g26r1 A x5 x3 x4) (g26r0 A x5 x3 x4) 6 8) (g12Si11r1_6 A (g26r2 A x5 x3 x4) (g26r3 A x5 x3 x4) (g26r1 A x5 x3 x4) (g26r0 A x5 x3 x4) 6 8) (g12Si11r1_7 A (g26r2 A x5 x3 x4) (g26r3 A x5 x3 x4) (g26r1 A x5 x3 x4) (g26r0 A x5 x3 x4) 6 8) (g12Si11r1_8 A (g26r2 A x5 x3 x4) (g26r3 A x5 x3 x4) (g26r1 A x5 x3 x4) (g26r0 A x5 x3 x4) 6 8)
        | false => match g12Si11c2 A (g26r2 A x5 x3 x4) (g26r3 A x5 x3 x4) (g26r1 A x5 x3 x4) (g26r0 A x5 x3 x4) 6 8 with
          | true => g12SJ13b A sI n kk  x0 (g12Si11r2_0 A (g26r2 A x5 x3 x4) (g26r3 A x5 x3 x4) (g26r1 A x5 x3 x4) (g26r0 A x5 x3 x4) 6 8) (g12Si11r2_1 A (g26r2 A x5 x3 x4) (g26r3 A x5 x3 x4) (g26r1 A x5 x3 x4) (g26r0 A x5 x3 x4) 6 8) (g12Si11r2_2 A (g26r2 A x5 x3 x4) (g26r3 A x5 x3 x4) (g26r1 A x5 x3 x4) (g26r0 A x5 x3 x4) 6 8) (g12Si11r2_3 A (g26r2 A x5 x3 x4) (g26r3 A x5 x3 x4) (g26r1 A x5 x3 x4) (g26r0 A x5 x3 x4) 6 8) (g12Si11r2_4 A (g26r2 A x5 x3 x4) (g26r3 A x5 x3 x4) (g26r1 A x5 x3 x4) (g26r0 A x5 x3 x4) 6 8) (g12Si11r2_5 A (g26r2 A x5 x3 x4) (g26r3 A x5 x3 x4) (g26r1 A x5 x3 x4) (g26r0 A x5 x3 x4) 6 8)
          | false => none
    | false => none
def g12SL3as (x0 x1 : List Nat) (x2 x3 x4 : Nat) (x5 : List Nat) : St := ⟨[(0, (tS x0)), (2, (tS x1)), (3, (bO false)), (4, (pT 2000 0))], [(409, ⟨[], x2, 0⟩), (2000, ⟨[.one (.ptr 2000 0 none), .one (.sl 500 none x3 1)], 36, 1⟩), (500, ⟨[.nums .u8 x4 x5], 5, 2⟩)]⟩
def g12SL3a {R : Type} (A : Ar) (sI : List Nat) (n : Nat) (kk : AV → Heap → Option R)  : Nat → List Nat → List Nat → Nat → Nat → Nat → List Nat → Option R
  | 0, _, _, _, _, _, _ => none
  | m + 1, x0, x1, x2, x3, x4, x5 => match A.lt x2 sI.length with
  | true => g12SJ4a A sI n kk (g12SL3b A sI n kk  m) x0 x1 (A.ofN x2) (A.ofN (runeN sI x2)) (stepN sI x2) x4 x5 x3
  | false => match g26ok A x3 x4 x5 with
    | true => match g12Si11c0 A (g26r2 A x3 x4 x5) (g26r3 A x3 x4 x5) (g26r1 A x3 x4 x5) (g26r0 A x3 x4 x5) 6 8 with
      | true => g12SJ13 A sI n kk  x0 (g12Si11r0_0 A (g26r2 A x3 x4 x5) (g26r3 A x3 x4 x5) (g26r1 A x3 x4 x5) (g26r0 A x3 x4 x5) 6 8) (g12Si11r0_1 A (g26r2 A x3 x4 x5) (g26r3 A x3 x4 x5) (g26r1 A x3 x4 x5) (g26r0 A x3 x4 x5) 6 8) (g12Si11r0_2 A (g26r2 A x3 x4 x5) (g26r3 A x3 x4 x5) (g26r1 A x3 x4 x5) (g26r0 A x3 x4 x5) 6 8) (g12Si11r0_3 A (g26r2 A x3 x4 x5) (g26r3 A x3 x4 x5) (g26r1 A x3 x4 x5) (g26r0 A x3 x4 x5) 6 8) (g12Si11r0_4 A (g26r2 A x3 x4 x5) (g26r3 A x3 x4 x5) (g26r1 A x3 x4 x5) (g26r0 A x3 x4 x5) 6 8) (g12Si11r0_5 A (g26r2 A x3 x4 x5) (g26r3 A x3 x4 x5) (g26r1 A x3 x4 x5) (g26r0 A x3 x4 x5) 6 8) (g12Si11r0_6 A (g26r2 A x3 x4 x5) (g26r3 A x3 x4 x5) (g26r1 A x3 x4 x5) (g26r0 A x3 x4 x5) 6 8) (g12Si11r0_7 A (g26r2 A x3 x4 x5) (g26r3 A x3 x4 x5) (g26r1 A x3 x4 x5) (g26r0 A x3 x4 x5) 6 8) (g12Si11r0_8 A (g26r2 A x3 x4 x5) (g26r3 A x3 x4 x5) (g26r1 A x3 x4 x5) (g26r0 A x3 x4 x5) 6 8)
      | false => match g12Si11c1 A (g26r2 A x3 x4 x5) (g26r3 A x3 x4 x5) (g26r1 A x3 x4 x5) (g26r0 A x3 x4 x5) 6 8 with
        | true => g12SJ13a A sI n kk  x0 (g12Si11r1_0 A (g26r2 A x3 x4 x5) (g26r3 A x3 x4 x5) (g26r1 A x3 x4 x5) (g26r0 A x3 x4 x5) 6 8) (g12Si11r1_1 A (g26r2 A x3 x4 x5) (g26r3 A x3 x4 x5) (g26r1 A x3 x4 x5) (g26r0 A x3 x4 x5) 6 8) (g12Si11r1_2 A (g26r2 A x3 x4 x5) (g26r3 A x3 x4 x5) (g26r1 A x3 x4 x5) (g26r0 A x3 x4 x5) 6 8) (g12Si11r1_3 A (g26r2 A x3 x4 x5) (g26r3 A x3 x4 x5) (g26r1 A x3 x4 x5) (g26r0 A x3 x4 x5) 6 8) (g12Si11r1_4 A (g26r2 A x3 x4 x5) (g26r3 A x3 x4 x5) (g26r1 A x3 x4 x5) (g26r0 A x3 x4 x5) 6 8) (g12Si11r1_5 A (g26r2 A x3 x4 x5) (g26r3 A x3 x4 x5) (g26r1 A x3 x4 x5) (g26r0 A x3 x4 x5) 6 8) (g12Si11r1_6 A (g26r2 A x3 x4 x5) (g26r3 A x3 x4 x5) (g26r1 A x3 x4 x5) (g26r0 A x3 x4 x5) 6 8) (g12Si11r1_7 A (g26r2 A x3 x4 x5) (g26r3 A x3 x4 x5) (g26r1 A x3 x4 x5) (g26r0 A x3 x4 x5) 6 8) (g12Si11r1_8 A (g26r2 A x3 x4 x5) (g26r3 A x3 x4 x5) (g26r1 A x3 x4 x5) (g26r0 A x3 x4 x5) 6 8)
        | false => match g12Si11c2 A (g26r2 A x3 x4 x5) (g26r3 A x3 x4 x5) (g26r1 A x3 x4 x5) (g26r0 A x3 x4 x5) 6 8 with
          | true => g12SJ13b A sI n kk  x0 (g12Si11r2_0 A (g26r2 A x3 x4 x5) (g26r3 A x3 x4 x5) (g26r1 A x3 x4 x5) (g26r0 A x3 x4 x5) 6 8) (g12Si11r2_1 A (g26r2 A x3 x4 x5) (g26r3 A x3 x4 x5) (g26r1 A x3 x4 x5) (g26r0 A x3 x4 x5) 6 8) (g12Si11r2_2 A (g26r2 A x3 x4 x5) (g26r3 A x3 x4 x5) (g26r1 A x3 x4 x5) (g26r0 A x3 x4 x5) 6 8) (g12Si11r2_3 A (g26r2 A x3 x4 x5) (g26r3 A x3 x4 x5) (g26r1 A x3 x4 x5) (g26r0 A x3 x4 x5) 6 8) (g12Si11r2_4 A (g26r2 A x3 x4 x5) (g26r3 A x3 x4 x5) (g26r1 A x3 x4 x5) (g26r0 A x3 x4 x5) 6 8) (g12Si11r2_5 A (g26r2 A x3 x4 x5) (g26r3 A x3 x4 x5) (g26r1 A x3 x4 x5) (g26r0 A x3 x4 x5) 6 8)
          | false => none
    | false => none
def g12SJ4s (x0 x1 : List Nat) (x2 x3 : Int) (x4 : Nat) : St := ⟨[(0, (tS x0)), (2, (tS x1)), (3, (bO false)), (4, (pT 2000 0)), (14, (.tup [(.cell (.bool true)), (.cell (.int .i64 x2)), (.cell (.int .i32 x3))]))], [(409, ⟨[], x4, 0⟩), (2000, ⟨[.one .nilp, .one .nils], 36, 1⟩)]⟩
def g12SJ4 {R : Type} (A : Ar) (sI : List Nat) (n : Nat) (kk : AV → Heap → Option R) (lg12SL3a : List Nat → List Nat → Nat → Nat → Nat → List Nat → Option R) (x0 x1 : List Nat) (x2 x3 : Int) (x4 : Nat) : Option R :=
  match idxRok A x3 with
  | true => match A.ic .lss (idxR A x3) 0 with
    | true => kk (.tup [(.cell (.str [])), (.cell (.bool false))]) [(409, ⟨[], x4, 0⟩)]
    | false => match g23ok A (A.i2n .u8 (idxR A x3)) with
      | true => lg12SL3a x0 x1 x4 (g23r0 A (A.i2n .u8 (idxR A x3))) (g23r1 A (A.i2n .u8 (idxR A x3))) (g23r2 A (A.i2n .u8 (idxR A x3)))
      | false => none
  | false => none
def g12SJ13cs (x0 : List Nat) (x1 : Nat) (x2 : List Nat) (x3 x4 : Int) (x5 : Nat) (x6 : List Nat) : St := ⟨[(0, (tS x0)), (4, (pT 410 0)), (8, (pT 411 0))], [(410, ⟨[.one .nilp, .one .nils], 36, 1⟩), (411, ⟨[.one (.sl 500 none x1 1)], 34, 1⟩), (412, ⟨[.one (.str x2)], 9, 1⟩), (413, ⟨[.one (.int .i64 x3)], 3, 1⟩), (414, ⟨[.one (.int .i64 x4)], 3, 1⟩), (500, ⟨[.nums .u8 x5 x6], 5, 2⟩)]⟩
def g12SJ13c {R : Type} (A : Ar) (sI : List Nat) (n : Nat) (kk : AV → Heap → Option R)  (x0 : List Nat) (x1 : Nat) (x2 : List Nat) (x3 x4 : Int) (x5 : Nat) (x6 : List Nat) : Option R :=
  match g24b_ok A with
  | true => match A.neg (A.ib .quo .i64 (A.ib .mul .i64 (g24b_r0 A) 6) 8) with
    | true => none
    | false => match A.le (A.toN (A.ib .quo .i64 (A.ib .mul .i64 (g24b_r0 A) 6) 8)) x1 with
      | true => match g10ok A (x6.take (A.toN (A.ib .quo .i64 (A.ib .mul .i64 (g24b_r0 A) 6) 8))) with
        | true => match A.sc .neq (g10r0 A (x6.take (A.toN (A.ib .quo .i64 (A.ib .mul .i64 (g24b_r0 A) 6) 8)))) x0 with
          | true => kk (.tup [(.cell (.str [])), (.cell (.bool false))]) [(410, ⟨[.one .nilp, .one .nils], 36, 1⟩), (411, ⟨[.one (.sl 500 none x1 1)], 34, 1⟩), (412, ⟨[.one (.str x2)], 9, 1⟩), (413, ⟨[.one (.int .i64 x3)], 3, 1⟩), (414, ⟨[.one (.int .i64 x4)], 3, 1⟩), (500, ⟨[.nums .u8 x5 x6], 5, 2⟩)]
          | false => kk (.tup [(.cell (.str (x6.take (A.toN (A.ib .quo .i64 (A.ib .mul .i64 (g24b_r0 A) 6) 8))))), (.cell (.bool true))]) [(410, ⟨[.one .nilp, .one .nils], 36, 1⟩), (411, ⟨[.one (.sl 500 none x1 1)], 34, 1⟩), (412, ⟨[.one (.str x2)], 9, 1⟩), (413, ⟨[.one (.int .i64 x3)], 3, 1⟩), (414, ⟨[.one (.int .i64 x4)], 3, 1⟩), (500, ⟨[.nums .u8 x5 x6], 5, 2⟩)]
        | false => none
      | false => none
  | false => none
def g12SJ13ds (x0 : List Nat) (x1 : Nat) (x2 : List Nat) (x3 x4 : Int) (x5 : Nat) (x6 : List Nat) : St := ⟨[(0, (tS x0)), (4, (pT 410 0)), (8, (pT 411 0))], [(410, ⟨[.one .nilp, .one .nils], 36, 1⟩), (411, ⟨[.one (.sl 13004 none x1 1)], 34, 1⟩), (412, ⟨[.one (.str x2)], 9, 1⟩), (413, ⟨[.one (.int .i64 x3)], 3, 1⟩), (414, ⟨[.one (.int .i64 x4)], 3, 1⟩), (13004, ⟨[.nums .u8 x5 x6], 5, 2⟩)]⟩
def g12SJ13d {R : Type} (A : Ar) (sI : List Nat) (n : Nat) (kk : AV → Heap → Option R)  (x0 : List Nat) (x1 : Nat) (x2 : List Nat) (x3 x4 : Int) (x5 : Nat) (x6 : List Nat) : Option R :=
  match g24b_ok A with
  | true => match A.neg (A.ib .quo .i64 (A.ib .mul .i64 (g24b_r0 A) 6) 8) with
    | true => none
    | false => match A.le (A.toN (A.ib .quo .i64 (A.ib .mul .i64 (g24b_r0 A) 6) 8)) x1 with
      | true => match g10ok A (x6.take (A.toN (A.ib .quo .i64 (A.ib .mul .i64 (g24b_r0 A) 6) 8))) with
        | true => match A.sc .neq (g10r0 A (x6.take (A.toN (A.ib .quo .i64 (A.ib .mul .i64 (g24b_r0 A) 6) 8)))) x0 with
          | true => kk (.tup [(.cell (.str [])), (.cell (.bool false))]) [(410, ⟨[.one .nilp, .one .nils], 36, 1⟩), (411, ⟨[.one (.sl 13004 none x1 1)], 34, 1⟩), (412, ⟨[.one (.str x2)], 9, 1⟩), (413, ⟨[.one (.int .i64 x3)], 3, 1⟩), (414, ⟨[.one (.int .i64 x4)], 3, 1⟩), (13004, ⟨[.nums .u8 x5 x6], 5, 2⟩)]
          | false => kk (.tup [(.cell (.str (x6.take (A.toN (A.ib .quo .i64 (A.ib .mul .i64 (g24b_r0 A) 6) 8))))), (.cell (.bool true))]) [(410, ⟨[.one .nilp, .one .nils], 36, 1⟩), (411, ⟨[.one (.sl 13004 none x1 1)], 34, 1⟩), (412, ⟨[.one (.str x2)], 9, 1⟩), (413, ⟨[.one (.int .i64 x3)], 3, 1⟩), (414, ⟨[.one (.int .i64 x4)], 3, 1⟩), (13004, ⟨[.nums .u8 x5 x6], 5, 2⟩)]
        | false => none
      | false => none
  | false => none
def g12SJ13es (x0 x1 : List Nat) (x2 x3 : Int) : St := ⟨[(0, (tS x0)), (4, (pT 410 0)), (8, (pT 411 0))], [(410, ⟨[.one .nilp, .one .nils], 36, 1⟩), (411, ⟨[.one .nils], 34, 1⟩), (412, ⟨[.one (.str x1)], 9, 1⟩), (413, ⟨[.one (.int .i64 x2)], 3, 1⟩), (414, ⟨[.one (.int .i64 x3)], 3, 1⟩)]⟩
def g12SJ13e {R : Type} (A : Ar) (sI : List Nat) (n : Nat) (kk : AV → Heap → Option R)  (x0 x1 : List Nat) (x2 x3 : Int) : Option R :=
  match g24b_ok A with
  | true => match A.neg (A.ib .quo .i64 (A.ib .mul .i64 (g24b_r0 A) 6) 8) with
    | true => none
    | false => match A.le (A.toN (A.ib .quo .i64 (A.ib .mul .i64 (g24b_r0 A) 6) 8)) 0 with
      | true => match g10ok A [] with
        | true => match A.sc .neq (g10r0 A []) x0 with
          | true => kk (.tup [(.cell (.str [])), (.cell (.bool false))]) [(410, ⟨[.one .nilp, .one .nils], 36, 1⟩), (411, ⟨[.one .nils], 34, 1⟩), (412, ⟨[.one (.str x1)], 9, 1⟩), (413, ⟨[.one (.int .i64 x2)], 3, 1⟩), (414, ⟨[.one (.int .i64 x3)], 3, 1⟩)]
          | false => kk (.tup [(.cell (.str [])), (.cell (.bool true))]) [(410, ⟨[.one .nilp, .one .nils], 36, 1⟩), (411, ⟨[.one .nils], 34, 1⟩), (412, ⟨[.one (.str x1)], 9, 1⟩), (413, ⟨[.one (.int .i64 x2)], 3, 1⟩), (414, ⟨[.one (.int .i64 x3)], 3, 1⟩)]
        | false => none
      | false => none
  | false => none
def g12SL3s (x0 x1 : List Nat) (x2 : Nat) : St := ⟨[(0, (tS x0)), (2, (tS x1)), (3, (bO false)), (4, (pT 2000 0))], [(409, ⟨[], x2, 0⟩), (2000, ⟨[.one .nilp, .one .nils], 36, 1⟩)]⟩
def g12SL3 {R : Type} (A : Ar) (sI : List Nat) (n : Nat) (kk : AV → Heap → Option R)  : Nat → List Nat → List Nat → Nat → Option R
  | 0, _, _, _ => none
  | m + 1, x0, x1, x2 => match A.lt x2 sI.length with
  | true => g12SJ4 A sI n kk (g12SL3a A sI n kk  m) x0 x1 (A.ofN x2) (A.ofN (runeN sI x2)) (stepN sI x2)
  | false => match g26a_ok A with
    | true => match g12Si11a_c0 A (g26a_r0 A) 6 8 with
      | true => g12SJ13c A sI n kk  x0 (g12Si11a_r0_0 A (g26a_r0 A) 6 8) (g12Si11a_r0_1 A (g26a_r0 A) 6 8) (g12Si11a_r0_2 A (g26a_r0 A) 6 8) (g12Si11a_r0_3 A (g26a_r0 A) 6 8) (g12Si11a_r0_4 A (g26a_r0 A) 6 8) (g12Si11a_r0_5 A (g26a_r0 A) 6 8)
      | false => match g12Si11a_c1 A (g26a_r0 A) 6 8 with
        | true => g12SJ13d A sI n kk  x0 (g12Si11a_r1_0 A (g26a_r0 A) 6 8) (g12Si11a_r1_1 A (g26a_r0 A) 6 8) (g12Si11a_r1_2 A (g26a_r0 A) 6 8) (g12Si11a_r1_3 A (g26a_r0 A) 6 8) (g12Si11a_r1_4 A (g26a_r0 A) 6 8) (g12Si11a_r1_5 A (g26a_r0 A) 6 8)
        | false => match g12Si11a_c2 A (g26a_r0 A) 6 8 with
          | true => g12SJ13e A sI n kk  x0 (g12Si11a_r2_0 A (g26a_r0 A) 6 8) (g12Si11a_r2_1 A (g26a_r0 A) 6 8) (g12Si11a_r2_2 A (g26a_r0 A) 6 8)
          | false => none
    | false => none
def g12S {R : Type} (A : Ar) (sI : List Nat) (n : Nat) (kk : AV → Heap → Option R) (x0 x1 : List Nat) (x2 x3 : List Nat) (x4 : Nat) : Option R :=
  g12SL3 A sI n kk  n x2 x3 x4
section
variable {R : Type} {A : Ar} {sI : List Nat} {n : Nat} {kk : AV → Heap → Option R} {tb : Nat → List Bool → St → Option R} (st : Stp (g12SN A sI kk) tb)
include st
theorem g12SJ13_go {x0 : List Nat} {x1 : Nat} {x2 : Nat} {x3 : List Nat} {x4 : Int} {x5 : Int} {x6 : Nat} {x7 : List Nat} {x8 : Nat} {x9 : List Nat} : Prs (fun k => tb k (pth 15) (g12SJ13s x0 x1 x2 x3 x4 x5 x6 x7 x8 x9)) (g12SJ13 A sI n kk x0 x1 x2 x3 x4 x5 x6 x7 x8 x9) := by
  unfold g12SJ13
  exact st.g (pc (SxP07kpi _ (SxP07kpi _ pn (SxP07kpi _ (SxP07kpi _ (SxP07kpi _ (pf _) (pf _)) pn) pn)) pn) (by kernel_rfl))
theorem g12SJ13a_go {x0 : List Nat} {x1 : Nat} {x2 : Nat} {x3 : List Nat} {x4 : Int} {x5 : Int} {x6 : Nat} {x7 : List Nat} {x8 : Nat} {x9 : List Nat} : Prs (fun k => tb k (pth 15) (g12SJ13as x0 x1 x2 x3 x4 x5 x6 x7 x8 x9)) (g12SJ13a A sI n kk x0 x1 x2 x3 x4 x5 x6 x7 x8 x9) := by
  unfold g12SJ13a
  exact st.g (pc (SxP07kpi _ (SxP07kpi _ pn (SxP07kpi _ (SxP07kpi _ (SxP07kpi _ (pf _) (pf _)) pn) pn)) pn) (by kernel_rfl))
theorem g12SJ13b_go {x0 : List Nat} {x1 : Nat} {x2 : List Nat} {x3 : Int} {x4 : Int} {x5 : Nat} {x6 : List Nat} : Prs (fun k => tb k (pth 15) (g12SJ13bs x0 x1 x2 x3 x4 x5 x6)) (g12SJ13b A sI n kk x0 x1 x2 x3 x4 x5 x6) := by
  unfold g12SJ13b
  exact st.g (pc (SxP07kpi _ (SxP07kpi _ pn (SxP07kpi _ (SxP07kpi _ (SxP07kpi _ (pf _) (pf _)) pn) pn)) pn) (by kernel_rfl))
theorem g12SJ4a_go {lg12SL3b : List Nat → List Nat → Nat → Nat → List Nat → Nat → Option R} (hg12SL3b : ∀ (x0 x1 : List Nat) (x2 x3 : Nat) (x4 : List Nat) (x5 : Nat), Prs (fun k => tb k (pth 8) (g12SL3bs x0 x1 x2 x3 x4 x5)) (lg12SL3b x0 x1 x2 x3 x4 x5)) {x0 : List Nat} {x1 : List Nat} {x2 : Int} {x3 : Int} {x4 : Nat} {x5 : Nat} {x6 : List Nat} {x7 : Nat} : Prs (fun k => tb k (pth 35) (g12SJ4as x0 x1 x2 x3 x4 x5 x6 x7)) (g12SJ4a A sI n kk lg12SL3b x0 x1 x2 x3 x4 x5 x6 x7) := by
  unfold g12SJ4a
  exact st.g (pc (SxP07kpi _ (SxP07kpi _ (pf _) (SxP07kpi _ (hg12SL3b _ _ _ _ _ _) pn)) pn) (by kernel_rfl))
theorem g12SL3b_go (m : Nat) : ∀ (x0 x1 : List Nat) (x2 x3 : Nat) (x4 : List Nat) (x5 : Nat), Prs (fun k => tb k (pth 8) (g12SL3bs x0 x1 x2 x3 x4 x5)) (g12SL3b A sI n kk m x0 x1 x2 x3 x4 x5) := by
  induction m with
  | zero => intro x0 x1 x2 x3 x4 x5; exact pn0
  | succ m ih =>
    intro x0 x1 x2 x3 x4 x5; rw [g12SL3b]
    exact st.g (pc (SxP07kpi _ (g12SJ4a_go st ih) (SxP07kpi _ (SxP07kpi _ (g12SJ13_go st) (SxP07kpi _ (g12SJ13a_go st) (SxP07kpi _ (g12SJ13b_go st) pn))) pn)) (by kernel_rfl))
theorem g12SL3a_go (m : Nat) : ∀ (x0 x1 : List Nat) (x2 x3 x4 : Nat) (x5 : List Nat), Prs (fun k => tb k (pth 8) (g12SL3as x0 x1 x2 x3 x4 x5)) (g12SL3a A sI n kk m x0 x1 x2 x3 x4 x5) := by
  induction m with
  | zero => intro x0 x1 x2 x3 x4 x5; exact pn0
  | succ m ih =>
    intro x0 x1 x2 x3 x4 x5; rw [g12SL3a]
    exact st.g (pc (SxP07kpi _ (g12SJ4a_go st (g12SL3b_go st m)) (SxP07kpi _ (SxP07kpi _ (g12SJ13_go st) (SxP07kpi _ (g12SJ13a_go st) (SxP07kpi _ (g12SJ13b_go st) pn))) pn)) (by kernel_rfl))
theorem g12SJ4_go {lg12SL3a : List Nat → List Nat → Nat → Nat → Nat → List Nat → Option R} (hg12SL3a : ∀ (x0 x1 : List Nat) (x2 x3 x4 : Nat) (x5 : List Nat), Prs (fun k => tb k (pth 8) (g12SL3as x0 x1 x2 x3 x4 x5)) (lg12SL3a x0 x1 x2 x3 x4 x5)) {x0 : List Nat} {x1 : List Nat} {x2 : Int} {x3 : Int} {x4 : Nat} : Prs (fun k => tb k (pth 35) (g12SJ4s x0 x1 x2 x3 x4)) (g12SJ4 A sI n kk lg12SL3a x0 x1 x2 x3 x4) := by
  unfold g12SJ4
  exact st.g (pc (SxP07kpi _ (SxP07kpi _ (pf _) (SxP07kpi _ (hg12SL3a _ _ _ _ _ _) pn)) pn) (by kernel_rfl))
theorem g12SJ13c_go {x0 : List Nat} {x1 : Nat} {x2 : List Nat} {x3 : Int} {x4 : Int} {x5 : Nat} {x6 : List Nat} : Prs (fun k => tb k (pth 15) (g12SJ13cs x0 x1 x2 x3 x4 x5 x6)) (g12SJ13c A sI n kk x0 x1 x2 x3 x4 x5 x6) := by
  unfold g12SJ13c
  exact st.g (pc (SxP07kpi _ (SxP07kpi _ pn (SxP07kpi _ (SxP07kpi _ (SxP07kpi _ (pf _) (pf _)) pn) pn)) pn) (by kernel_rfl))
theorem g12SJ13d_go {x0 : List Nat} {x1 : Nat} {x2 : List Nat} {x3 : Int} {x4 : Int} {x5 : Nat} {x6 : List Nat} : Prs (fun k => tb k (pth 15) (g12SJ13ds x0 x1 x2 x3 x4 x5 x6)) (g12SJ13d A sI n kk x0 x1 x2 x3 x4 x5 x6) := by
  unfold g12SJ13d
  exact st.g (pc (SxP07kpi _ (SxP07kpi _ pn (SxP07kpi _ (SxP07kpi _ (SxP07kpi _ (pf _) (pf _)) pn) pn)) pn) (by kernel_rfl))
theorem g12SJ13e_go {x0 : List Nat} {x1 : List Nat} {x2 : Int} {x3 : Int} : Prs (fun k => tb k (pth 15) (g12SJ13es x0 x1 x2 x3)) (g12SJ13e A sI n kk x0 x1 x2 x3) := by
  unfold g12SJ13e
  exact st.g (pc (SxP07kpi _ (SxP07kpi _ pn (SxP07kpi _ (SxP07kpi _ (SxP07kpi _ (pf _) (pf _)) pn) pn)) pn) (by kernel_rfl))
theorem g12SL3_go (m : Nat) : ∀ (x0 x1 : List Nat) (x2 : Nat), Prs (fun k => tb k (pth 8) (g12SL3s x0 x1 x2)) (g12SL3 A sI n kk m x0 x1 x2) := by
  induction m with
  | zero => intro x0 x1 x2; exact pn0
  | succ m ih =>
    intro x0 x1 x2; rw [g12SL3]
    exact st.g (pc (SxP07kpi _ (g12SJ4_go st (g12SL3a_go st m)) (SxP07kpi _ (SxP07kpi _ (g12SJ13c_go st) (SxP07kpi _ (g12SJ13d_go st) (SxP07kpi _ (g12SJ13e_go st) pn))) pn)) (by kernel_rfl))
theorem g12S_go {x0 : List Nat} {x1 : List Nat} {x2 : List Nat} {x3 : List Nat} {x4 : Nat} : Prs (fun k => codeN A gtys (g12P A sI) g12an g12Scut (tb k) [] g12C (finD gtys g12res kk) ⟨[(12, (tS x0)), (11, (tS x1)), (0, (tS x2)), (2, (tS x3)), (3, (bO false)), (4, (pT 2000 0))], [(409, ⟨[], x4, 0⟩), (2000, ⟨[.one .nilp, .one .nils], 36, 1⟩)]⟩) (g12S A sI n kk x0 x1 x2 x3 x4) := by
  unfold g12S
  exact pc (g12SL3_go st n _ _ _) (by kernel_rfl)
end
def g12X (A : Ar) (sI : List Nat) (st : St) : Option AV := match st with
  | ⟨[(n0, .v (.cell (.str x0))), (n1, .v (.cell (.str x1))), (n2, .v (.cell (.str x2))), (n3, .v (.cell (.str x3))), (n4, .v (.cell (.bool false))), (n5, .v (.cell (.ptr n6 n7 none)))], [(n8, ⟨[], x4, n9⟩), (n10, ⟨[.one .nilp, .one .nils], n11, n12⟩)]⟩ => match Nat.beq n0 12 && (Nat.beq n1 11 && (Nat.beq n2 0 && (Nat.beq n3 2 && (Nat.beq n4 3 && (Nat.beq n5 4 && (Nat.beq n6 2000 && (Nat.beq n7 0 && (Nat.beq n8 409 && (Nat.beq n9 0 && (Nat.beq n10 2000 && (Nat.beq n11 36 && (Nat.beq n12 1)))))))))))) with
    | true => g12S A sI (10000000) (fun v _ => some v) x0 x1 x2 x3 x4
    | false => none
  | _ => none
theorem g12X_sound {sI : List Nat} {st : St} {v : AV} (hx : g12X realA sI st = some v) : ∃ m, codeN realA gtys (g12P realA sI) g12an g12Scut (goD realA gtys (g12P realA sI) g12an g12Scut g12C (finD gtys Tryd.f12.results.toList fun v _ => some v) m) [] g12C (finD gtys Tryd.f12.results.toList fun v _ => some v) st = some v := by
  unfold g12X at hx
  split at hx
  · rename_i n0 x0 n1 x1 n2 x2 n3 x3 n4 n5 n6 n7 n8 x4 n9 n10 n11 n12
    split at hx
    case h_2 => cases hx
    rename_i hc0
    simp only [Bool.and_eq_true] at hc0
    have en0 := beq_true hc0.1
    subst en0
    replace hc0 := hc0.2
    have en1 := beq_true hc0.1
    subst en1
    replace hc0 := hc0.2
    have en2 := beq_true hc0.1
    subst en2
    replace hc0 := hc0.2
    have en3 := beq_true hc0.1
    subst en3
    replace hc0 := hc0.2
    have en4 := beq_true hc0.1
    subst en4
    replace hc0 := hc0.2
    have en5 := beq_true hc0.1
    subst en5
    replace hc0 := hc0.2
    have en6 := beq_true hc0.1
    subst en6
    replace hc0 := hc0.2
    have en7 := beq_true hc0.1
    subst en7
    replace hc0 := hc0.2
    have en8 := beq_true hc0.1
    subst en8
    replace hc0 := hc0.2
    have en9 := beq_true hc0.1
    subst en9
    replace hc0 := hc0.2
    have en10 := beq_true hc0.1
    subst en10
    replace hc0 := hc0.2
    have en11 := beq_true hc0.1
    subst en11
    replace hc0 := hc0.2
    have en12 := beq_true hc0
    subst en12
    exact g12S_go goD_stp _ hx
  · cases hx
def g12 {R : Type} (A : Ar) (n : Nat) (kk : AV → Heap → Option R) (a : List Nat) : Option R :=
  match g27ok A a [61] with
  | true => g12S A (g27r0 A a [61]) n kk (g27r0 A a [61]) a a [] 0
  | false => none
theorem g12_is (A : Ar) (a : List Nat) : funI A gtys (g12O A) g12an 2 2 g12p (bodyOf Tryd.f12) g12res [(tS a)] (fun v _ => some v) (g12X A) = g12 A (10000000) (fun v _ => some v) a := by kernel_rfl
def g12is (o : Option AV) : Bool := match o with
  | some (.tup [.cell (.str _), .cell (.bool _)]) => true
  | _ => false
def g12g0 (o : Option AV) : List Nat := match o with
  | some (.tup [.cell (.str x), .cell (.bool _)]) => x
  | _ => []
def g12g1 (o : Option AV) : Bool := match o with
  | some (.tup [.cell (.str _), .cell (.bool x)]) => x
  | _ => false
theorem g12is_spec {o : Option AV} (h : g12is o = true) : o = some (.tup [.cell (.str (g12g0 o)), .cell (.bool (g12g1 o))]) := by
  unfold g12is at h
  split at h
  · rfl
  · cases h
def g12v (A : Ar) (a : List Nat) : Option AV := g12 A (10000000) (fun v _ => some v) a
def g12ok (A : Ar) (a : List Nat) : Bool := g12is (g12v A a)
def g12r0 (A : Ar) (a : List Nat) : List Nat := g12g0 (g12v A a)
def g12r1 (A : Ar) (a : List Nat) : Bool := g12g1 (g12v A a)
theorem g12ok_spec {A : Ar} {a} (h : g12ok A a = true) : g12v A a = some (.tup [.cell (.str (g12r0 A a)), .cell (.bool (g12r1 A a))]) := g12is_spec h
def g12o (A : Ar) (args : List AV) : Option (Bool × AV) := match args with
  | [.v (.cell (.str a))] => some (g12ok A a, .tup [.cell (.str (g12r0 A a)), .cell (.bool (g12r1 A a))])
  | _ => none
theorem g12o_sound : ∀ args v, g12o realA args = some (true, v) → Fn1 Tryd.prog 12 args v := by
  intro args v h
  unfold g12o at h
  split at h
  · rename_i a
    simp only [Option.some.injEq, Prod.mk.injEq] at h
    obtain ⟨hc, h⟩ := h
    subst h
    · skip
      exact fn1_ofI mixed gtysOK (O := g12O realA) (O2 := g12P realA) g12BO_sound g12BO_det rfl (fun _ _ => rfl) rfl (fun _ _ _ _ => rfl) (d := 13) (fun _ => g12BO_sound) (fun _ => g12BO_det) (fun _ => rfl) (fun _ => rfl) (fun _ _ _ => rfl) (fun _ => rfl) (an := g12an) (cut := g12Scut) Tryd.func12 (c := bodyOf Tryd.f12) (n := 2) (id := 2) (ops := g12p) (blk := tailC (headC g12q)) (rest := tailC g12q) rfl (by kernel_rfl) Tryd.call12 (by kernel_rfl) (by kernel_rfl) (by kernel_rfl) (by kernel_rfl) (by kernel_rfl) g12hR (Nat.le_of_ble_eq_true rfl) (fun b => rfl) (X2 := g12X realA) (fun s st h => g12X_sound h) fun _ => (g12_is realA a).trans (show g12v realA a = _ from g12ok_spec hc)
  · cases h
attribute [local irreducible] g12ok g12r0 g12r1
end Go.Sx
