import Derived.Test.YtkomlijabeedpaaDoorSxP07b
namespace Go.Sx
set_option linter.unusedSectionVars false
open Go.Proofs
set_option linter.unusedVariables false
set_option maxRecDepth 100000
theorem SxP07cpi {R : Type} (c : Bool) {f1 f2 : Nat → Option R} {a1 a2 : Option R} (h1 : Prs f1 a1) (h2 : Prs f2 a2) : Prs (fun k => match c with | true => f1 k | false => f2 k) (match c with | true => a1 | false => a2) := by cases c <;> assumption
attribute [local irreducible] g23ok g23r0 g23r1 g23r2 g23a_ok g23a_r0 g23a_r1 g23a_r2 g26ok g26r0 g26r1 g26r2 g26r3 g26a_ok g26a_r0
noncomputable abbrev g11C3 : Code := .seq (rfAs (rfOf 0 (bodyOf Tryd.f11))) (rfBd (rfOf 0 (bodyOf Tryd.f11)))
def g11b3O (A : Ar) : Orc := orcH [] [(23, ⟨[0, 1], none, (ho2 (g23o A) (g23a_o A))⟩)]
theorem g11b3O_sound : OSound Tryd.prog (g11b3O realA) := orcH_sound (fun f g hm args v hv => by
    cases hm) (fun f e hm args h v h' hv => by
    simp only [List.mem_cons, List.not_mem_nil, or_false, Prod.mk.injEq] at hm
    rcases hm with ⟨rfl, rfl⟩
    · exact (ho2_sound g23o_sound g23a_o_sound) _ _ _ _ hv)
theorem g11b3O_det : ODet (g11b3O realA) := orcH_det _ _
def g11b3an : Ann := [(3, ([3, 7], [410])), (4, ([3, 4], [410])), (3000003, ([2000, 3001, 3501, 3502], [410, 411, 412, 413]))]
def g11b3cut : List Nat := []
noncomputable def g11b3N {R : Type} (A : Ar) (kk : Ex → Heap → Option R) (t : List Bool → St → Option R) (p : List Bool) (s : St) : Option R := nodeN A gtys (g11b3O A) g11b3an g11b3cut t g11C3 (bdP [410, 5002] kk) p s
def g11b3 {R : Type} (A : Ar) (n : Nat) (kk : Ex → Heap → Option R) (x0 : Int) : Option R :=
  match A.neg x0 with
  | true => none
  | false => match A.lt (A.toN x0) ([48, 49, 50, 51, 52, 53, 54, 55, 56, 57, 97, 98, 99, 100, 101, 102].length) with
    | true => match g23ok A ([48, 49, 50, 51, 52, 53, 54, 55, 56, 57, 97, 98, 99, 100, 101, 102].getD (A.toN x0) 0) with
      | true => kk .normal [(410, ⟨[.one (.ptr 410 0 none), .one (.sl 5002 none (g23r0 A ([48, 49, 50, 51, 52, 53, 54, 55, 56, 57, 97, 98, 99, 100, 101, 102].getD (A.toN x0) 0)) 1)], 36, 1⟩), (5002, ⟨[.nums .u8 (g23r1 A ([48, 49, 50, 51, 52, 53, 54, 55, 56, 57, 97, 98, 99, 100, 101, 102].getD (A.toN x0) 0)) (g23r2 A ([48, 49, 50, 51, 52, 53, 54, 55, 56, 57, 97, 98, 99, 100, 101, 102].getD (A.toN x0) 0))], 5, 2⟩)]
      | false => none
    | false => none
section
variable {R : Type} {A : Ar} {n : Nat} {kk : Ex → Heap → Option R} {tb : Nat → List Bool → St → Option R} (st : Stp (g11b3N A kk) tb)
include st
theorem g11b3_go {x0 : Int} : Prs (fun k => codeN A gtys (g11b3O A) g11b3an g11b3cut (tb k) [] g11C3 (bdP [410, 5002] kk) ⟨zipS [7] [(i6 x0)] ++ [(3, (pT 410 0)), (6, (.fn 32 [] [(.cell (.ptr 411 0 none)), (.cell (.ptr 412 0 none)), (.cell (.ptr 413 0 none))]))], [(410, ⟨[.one .nilp, .one .nils], 36, 1⟩)]⟩ ) (g11b3 A n kk x0) := by
  unfold g11b3
  exact pc (SxP07cpi _ pn (SxP07cpi _ (SxP07cpi _ (pf _) pn) pn)) (by kernel_rfl)
end
def g11b3v (A : Ar) (x0 : Int) : Option (Ex × Heap) := g11b3 A (10000000) (fun ex h => some (ex, h)) x0
def g11b3is0 (o : Option (Ex × Heap)) : Bool := match o with
  | some (.normal, [(n0, ⟨[.one (.ptr n1 n2 none), .one (.sl n3 none _ n4)], n5, n6⟩), (n7, ⟨[.nums .u8 _ _], n8, n9⟩)]) => Nat.beq n0 410 && (Nat.beq n1 410 && (Nat.beq n2 0 && (Nat.beq n3 5002 && (Nat.beq n4 1 && (Nat.beq n5 36 && (Nat.beq n6 1 && (Nat.beq n7 5002 && (Nat.beq n8 5 && (Nat.beq n9 2)))))))))
  | _ => false
def g11b3g0_0 (o : Option (Ex × Heap)) : Nat := match o with
  | some (.normal, [(_, ⟨[.one (.ptr _ _ none), .one (.sl _ none x _)], _, _⟩), (_, ⟨[.nums .u8 _ _], _, _⟩)]) => x
  | _ => 0
def g11b3g0_1 (o : Option (Ex × Heap)) : Nat := match o with
  | some (.normal, [(_, ⟨[.one (.ptr _ _ none), .one (.sl _ none _ _)], _, _⟩), (_, ⟨[.nums .u8 x _], _, _⟩)]) => x
  | _ => 0
def g11b3g0_2 (o : Option (Ex × Heap)) : List Nat := match o with
  | some (.normal, [(_, ⟨[.one (.ptr _ _ none), .one (.sl _ none _ _)], _, _⟩), (_, ⟨[.nums .u8 _ x], _, _⟩)]) => x
  | _ => []
theorem g11b3is0_spec {o : Option (Ex × Heap)} (h : g11b3is0 o = true) : o = some (.normal, [(410, ⟨[.one (.ptr 410 0 none), .one (.sl 5002 none (g11b3g0_0 o) 1)], 36, 1⟩), (5002, ⟨[.nums .u8 (g11b3g0_1 o) (g11b3g0_2 o)], 5, 2⟩)]) := by
  unfold g11b3is0 at h
  split at h
  · rename_i n0 n1 n2 n3 z4 n4 n5 n6 n7 z9 z10 n8 n9
    simp only [Bool.and_eq_true] at h
    have en0 := beq_true h.1
    subst en0
    replace h := h.2
    have en1 := beq_true h.1
    subst en1
    replace h := h.2
    have en2 := beq_true h.1
    subst en2
    replace h := h.2
    have en3 := beq_true h.1
    subst en3
    replace h := h.2
    have en4 := beq_true h.1
    subst en4
    replace h := h.2
    have en5 := beq_true h.1
    subst en5
    replace h := h.2
    have en6 := beq_true h.1
    subst en6
    replace h := h.2
    have en7 := beq_true h.1
    subst en7
    replace h := h.2
    have en8 := beq_true h.1
    subst en8
    replace h := h.2
    have en9 := beq_true h
    subst en9
    rfl
  · cases h
def g11b3c0 (A : Ar) (x0 : Int) : Bool := g11b3is0 (g11b3v A x0)
def g11b3r0_0 (A : Ar) (x0 : Int) : Nat := g11b3g0_0 (g11b3v A x0)
def g11b3r0_1 (A : Ar) (x0 : Int) : Nat := g11b3g0_1 (g11b3v A x0)
def g11b3r0_2 (A : Ar) (x0 : Int) : List Nat := g11b3g0_2 (g11b3v A x0)
def g11b3G (A : Ar) (sl : Slots) (vs : List AV) (h : Heap) : Option (GL (Ex × Heap)) := match sl, vs, h with
  | [(n0, .v (.cell (.ptr n1 n2 none))), (n3, .fn n4 [] [(.cell (.ptr n5 n6 none)), (.cell (.ptr n7 n8 none)), (.cell (.ptr n9 n10 none))])], [.v (.cell (.int .i64 x0))], [(n11, ⟨[.one .nilp, .one .nils], n12, n13⟩)] => match Nat.beq n0 3 && (Nat.beq n1 410 && (Nat.beq n2 0 && (Nat.beq n3 6 && (Nat.beq n4 32 && (Nat.beq n5 411 && (Nat.beq n6 0 && (Nat.beq n7 412 && (Nat.beq n8 0 && (Nat.beq n9 413 && (Nat.beq n10 0 && (Nat.beq n11 410 && (Nat.beq n12 36 && (Nat.beq n13 1))))))))))))) with
    | true => some [(g11b3c0 A x0, some (.normal, [(410, ⟨[.one (.ptr 410 0 none), .one (.sl 5002 none (g11b3r0_0 A x0) 1)], 36, 1⟩), (5002, ⟨[.nums .u8 (g11b3r0_1 A x0) (g11b3r0_2 A x0)], 5, 2⟩)]))]
    | false => none
  | _, _, _ => none
theorem g11b3G_sound {sl : Slots} {vs : List AV} {h : Heap} {l : GL (Ex × Heap)} (hg : g11b3G realA sl vs h = some l) {ex : Ex} {g' : Heap} (hl : pickG l = some (ex, g')) : BodyH Tryd.prog Tryd.f11.ntmps (rfAs (rfOf 0 (bodyOf Tryd.f11))) (rfBd (rfOf 0 (bodyOf Tryd.f11))) (rfPs (rfOf 0 (bodyOf Tryd.f11))).toList sl vs h ex g' := by
  unfold g11b3G at hg
  split at hg
  · rename_i n0 n1 n2 n3 n4 n5 n6 n7 n8 n9 n10 x0 n11 n12 n13
    split at hg
    case h_2 => cases hg
    rename_i hc0
    simp only [Bool.and_eq_true] at hc0
    have en0 := beq_true hc0.1
    subst en0
    replace hc0 := hc0.2
    have en1 := beq_true hc0.1
    subst en1
    replace hc0 := hc0.2
    have en2 := beq_true hc0.1
    subst en2
    replace hc0 := hc0.2
    have en3 := beq_true hc0.1
    subst en3
    replace hc0 := hc0.2
    have en4 := beq_true hc0.1
    subst en4
    replace hc0 := hc0.2
    have en5 := beq_true hc0.1
    subst en5
    replace hc0 := hc0.2
    have en6 := beq_true hc0.1
    subst en6
    replace hc0 := hc0.2
    have en7 := beq_true hc0.1
    subst en7
    replace hc0 := hc0.2
    have en8 := beq_true hc0.1
    subst en8
    replace hc0 := hc0.2
    have en9 := beq_true hc0.1
    subst en9
    replace hc0 := hc0.2
    have en10 := beq_true hc0.1
    subst en10
    replace hc0 := hc0.2
    have en11 := beq_true hc0.1
    subst en11
    replace hc0 := hc0.2
    have en12 := beq_true hc0.1
    subst en12
    replace hc0 := hc0.2
    have en13 := beq_true hc0
    subst en13
    simp only [Option.some.injEq] at hg
    subst hg
    rcases pickG_cons hl with ⟨hc, hl⟩ | hl
    · simp only [Option.some.injEq, Prod.mk.injEq] at hl
      obtain ⟨rfl, rfl⟩ := hl
      exact bodyH_of2 mixed gtysOK g11b3O_sound g11b3O_det (an := g11b3an) (cut := g11b3cut) (bs := [410, 5002]) (by kernel_rfl) (by kernel_rfl) (by kernel_rfl) (by kernel_rfl) (by kernel_rfl) (by kernel_rfl) (show g11b3v realA x0 = _ from g11b3is0_spec hc) fun _ st => g11b3_go st
    cases hl
  · cases hg
def g11b3a_O (A : Ar) : Orc := orcH [] [(23, ⟨[0, 1], none, (ho2 (g23o A) (g23a_o A))⟩)]
theorem g11b3a_O_sound : OSound Tryd.prog (g11b3a_O realA) := orcH_sound (fun f g hm args v hv => by
    cases hm) (fun f e hm args h v h' hv => by
    simp only [List.mem_cons, List.not_mem_nil, or_false, Prod.mk.injEq] at hm
    rcases hm with ⟨rfl, rfl⟩
    · exact (ho2_sound g23o_sound g23a_o_sound) _ _ _ _ hv)
theorem g11b3a_O_det : ODet (g11b3a_O realA) := orcH_det _ _
def g11b3a_an : Ann := [(3, ([3, 7], [410, 500])), (4, ([3, 4], [410, 500])), (3000003, ([2000, 3001, 3501, 3502], [410, 411, 412, 413]))]
def g11b3a_cut : List Nat := []
noncomputable def g11b3a_N {R : Type} (A : Ar) (kk : Ex → Heap → Option R) (t : List Bool → St → Option R) (p : List Bool) (s : St) : Option R := nodeN A gtys (g11b3a_O A) g11b3a_an g11b3a_cut t g11C3 (bdP [410, 500] kk) p s
def g11b3a_ {R : Type} (A : Ar) (n : Nat) (kk : Ex → Heap → Option R) (x0 : Int) (x1 x2 : Nat) (x3 : List Nat) : Option R :=
  match A.neg x0 with
  | true => none
  | false => match A.lt (A.toN x0) ([48, 49, 50, 51, 52, 53, 54, 55, 56, 57, 97, 98, 99, 100, 101, 102].length) with
    | true => match g23a_ok A ([48, 49, 50, 51, 52, 53, 54, 55, 56, 57, 97, 98, 99, 100, 101, 102].getD (A.toN x0) 0) x1 x2 x3 with
      | true => kk .normal [(410, ⟨[.one (.ptr 410 0 none), .one (.sl 500 none (g23a_r0 A ([48, 49, 50, 51, 52, 53, 54, 55, 56, 57, 97, 98, 99, 100, 101, 102].getD (A.toN x0) 0) x1 x2 x3) 1)], 36, 1⟩), (500, ⟨[.nums .u8 (g23a_r1 A ([48, 49, 50, 51, 52, 53, 54, 55, 56, 57, 97, 98, 99, 100, 101, 102].getD (A.toN x0) 0) x1 x2 x3) (g23a_r2 A ([48, 49, 50, 51, 52, 53, 54, 55, 56, 57, 97, 98, 99, 100, 101, 102].getD (A.toN x0) 0) x1 x2 x3)], 5, 2⟩)]
      | false => none
    | false => none
section
variable {R : Type} {A : Ar} {n : Nat} {kk : Ex → Heap → Option R} {tb : Nat → List Bool → St → Option R} (st : Stp (g11b3a_N A kk) tb)
include st
theorem g11b3a__go {x0 : Int} {x1 : Nat} {x2 : Nat} {x3 : List Nat} : Prs (fun k => codeN A gtys (g11b3a_O A) g11b3a_an g11b3a_cut (tb k) [] g11C3 (bdP [410, 500] kk) ⟨zipS [7] [(i6 x0)] ++ [(3, (pT 410 0)), (6, (.fn 32 [] [(.cell (.ptr 411 0 none)), (.cell (.ptr 412 0 none)), (.cell (.ptr 413 0 none))]))], [(410, ⟨[.one (.ptr 410 0 none), .one (.sl 500 none x1 1)], 36, 1⟩), (500, ⟨[.nums .u8 x2 x3], 5, 2⟩)]⟩ ) (g11b3a_ A n kk x0 x1 x2 x3) := by
  unfold g11b3a_
  exact pc (SxP07cpi _ pn (SxP07cpi _ (SxP07cpi _ (pf _) pn) pn)) (by kernel_rfl)
end
def g11b3a_v (A : Ar) (x0 : Int) (x1 x2 : Nat) (x3 : List Nat) : Option (Ex × Heap) := g11b3a_ A (10000000) (fun ex h => some (ex, h)) x0 x1 x2 x3
def g11b3a_is0 (o : Option (Ex × Heap)) : Bool := match o with
  | some (.normal, [(n0, ⟨[.one (.ptr n1 n2 none), .one (.sl n3 none _ n4)], n5, n6⟩), (n7, ⟨[.nums .u8 _ _], n8, n9⟩)]) => Nat.beq n0 410 && (Nat.beq n1 410 && (Nat.beq n2 0 && (Nat.beq n3 500 && (Nat.beq n4 1 && (Nat.beq n5 36 && (Nat.beq n6 1 && (Nat.beq n7 500 && (Nat.beq n8 5 && (Nat.beq n9 2)))))))))
  | _ => false
def g11b3a_g0_0 (o : Option (Ex × Heap)) : Nat := match o with
  | some (.normal, [(_, ⟨[.one (.ptr _ _ none), .one (.sl _ none x _)], _, _⟩), (_, ⟨[.nums .u8 _ _], _, _⟩)]) => x
  | _ => 0
def g11b3a_g0_1 (o : Option (Ex × Heap)) : Nat := match o with
  | some (.normal, [(_, ⟨[.one (.ptr _ _ none), .one (.sl _ none _ _)], _, _⟩), (_, ⟨[.nums .u8 x _], _, _⟩)]) => x
  | _ => 0
def g11b3a_g0_2 (o : Option (Ex × Heap)) : List Nat := match o with
  | some (.normal, [(_, ⟨[.one (.ptr _ _ none), .one (.sl _ none _ _)], _, _⟩), (_, ⟨[.nums .u8 _ x], _, _⟩)]) => x
  | _ => []
theorem g11b3a_is0_spec {o : Option (Ex × Heap)} (h : g11b3a_is0 o = true) : o = some (.normal, [(410, ⟨[.one (.ptr 410 0 none), .one (.sl 500 none (g11b3a_g0_0 o) 1)], 36, 1⟩), (500, ⟨[.nums .u8 (g11b3a_g0_1 o) (g11b3a_g0_2 o)], 5, 2⟩)]) := by
  unfold g11b3a_is0 at h
  split at h
  · rename_i n0 n1 n2 n3 z4 n4 n5 n6 n7 z9 z10 n8 n9
    simp only [Bool.and_eq_true] at h
    have en0 := beq_true h.1
    subst en0
    replace h := h.2
    have en1 := beq_true h.1
    subst en1
    replace h := h.2
    have en2 := beq_true h.1
    subst en2
    replace h := h.2
    have en3 := beq_true h.1
    subst en3
    replace h := h.2
    have en4 := beq_true h.1
    subst en4
    replace h := h.2
    have en5 := beq_true h.1
    subst en5
    replace h := h.2
    have en6 := beq_true h.1
    subst en6
    replace h := h.2
    have en7 := beq_true h.1
    subst en7
    replace h := h.2
    have en8 := beq_true h.1
    subst en8
    replace h := h.2
    have en9 := beq_true h
    subst en9
    rfl
  · cases h
def g11b3a_c0 (A : Ar) (x0 : Int) (x1 x2 : Nat) (x3 : List Nat) : Bool := g11b3a_is0 (g11b3a_v A x0 x1 x2 x3)
def g11b3a_r0_0 (A : Ar) (x0 : Int) (x1 x2 : Nat) (x3 : List Nat) : Nat := g11b3a_g0_0 (g11b3a_v A x0 x1 x2 x3)
def g11b3a_r0_1 (A : Ar) (x0 : Int) (x1 x2 : Nat) (x3 : List Nat) : Nat := g11b3a_g0_1 (g11b3a_v A x0 x1 x2 x3)
def g11b3a_r0_2 (A : Ar) (x0 : Int) (x1 x2 : Nat) (x3 : List Nat) : List Nat := g11b3a_g0_2 (g11b3a_v A x0 x1 x2 x3)
def g11b3a_G (A : Ar) (sl : Slots) (vs : List AV) (h : Heap) : Option (GL (Ex × Heap)) := match sl, vs, h with
  | [(n0, .v (.cell (.ptr n1 n2 none))), (n3, .fn n4 [] [(.cell (.ptr n5 n6 none)), (.cell (.ptr n7 n8 none)), (.cell (.ptr n9 n10 none))])], [.v (.cell (.int .i64 x0))], [(n11, ⟨[.one (.ptr n12 n13 none), .one (.sl n14 none x1 n15)], n16, n17⟩), (n18, ⟨[.nums .u8 x2 x3], n19, n20⟩)] => match Nat.beq n0 3 && (Nat.beq n1 410 && (Nat.beq n2 0 && (Nat.beq n3 6 && (Nat.beq n4 32 && (Nat.beq n5 411 && (Nat.beq n6 0 && (Nat.beq n7 412 && (Nat.beq n8 0 && (Nat.beq n9 413 && (Nat.beq n10 0 && (Nat.beq n11 410 && (Nat.beq n12 410 && (Nat.beq n13 0 && (Nat.beq n14 500 && (Nat.beq n15 1 && (Nat.beq n16 36 && (Nat.beq n17 1 && (Nat.beq n18 500 && (Nat.beq n19 5 && (Nat.beq n20 2)))))))))))))))))))) with
    | true => some [(g11b3a_c0 A x0 x1 x2 x3, some (.normal, [(410, ⟨[.one (.ptr 410 0 none), .one (.sl 500 none (g11b3a_r0_0 A x0 x1 x2 x3) 1)], 36, 1⟩), (500, ⟨[.nums .u8 (g11b3a_r0_1 A x0 x1 x2 x3) (g11b3a_r0_2 A x0 x1 x2 x3)], 5, 2⟩)]))]
    | false => none
  | _, _, _ => none
theorem g11b3a_G_sound {sl : Slots} {vs : List AV} {h : Heap} {l : GL (Ex × Heap)} (hg : g11b3a_G realA sl vs h = some l) {ex : Ex} {g' : Heap} (hl : pickG l = some (ex, g')) : BodyH Tryd.prog Tryd.f11.ntmps (rfAs (rfOf 0 (bodyOf Tryd.f11))) (rfBd (rfOf 0 (bodyOf Tryd.f11))) (rfPs (rfOf 0 (bodyOf Tryd.f11))).toList sl vs h ex g' := by
  unfold g11b3a_G at hg
  split at hg
  · rename_i n0 n1 n2 n3 n4 n5 n6 n7 n8 n9 n10 x0 n11 n12 n13 n14 x1 n15 n16 n17 n18 x2 x3 n19 n20
    split at hg
    case h_2 => cases hg
    rename_i hc0
    simp only [Bool.and_eq_true] at hc0
    have en0 := beq_true hc0.1
    subst en0
    replace hc0 := hc0.2
    have en1 := beq_true hc0.1
    subst en1
    replace hc0 := hc0.2
    have en2 := beq_true hc0.1
    subst en2
    replace hc0 := hc0.2
    have en3 := beq_true hc0.1
    subst en3
    replace hc0 := hc0.2
    have en4 := beq_true hc0.1
    subst en4
    replace hc0 := hc0.2
    have en5 := beq_true hc0.1
    subst en5
    replace hc0 := hc0.2
    have en6 := beq_true hc0.1
    subst en6
    replace hc0 := hc0.2
    have en7 := beq_true hc0.1
    subst en7
    replace hc0 := hc0.2
    have en8 := beq_true hc0.1
    subst en8
    replace hc0 := hc0.2
    have en9 := beq_true hc0.1
    subst en9
    replace hc0 := hc0.2
    have en10 := beq_true hc0.1
    subst en10
    replace hc0 := hc0.2
    have en11 := beq_true hc0.1
    subst en11
    replace hc0 := hc0.2
    have en12 := beq_true hc0.1
    subst en12
    replace hc0 := hc0.2
    have en13 := beq_true hc0.1
    subst en13
    replace hc0 := hc0.2
    have en14 := beq_true hc0.1
    subst en14
    replace hc0 := hc0.2
    have en15 := beq_true hc0.1
    subst en15
    replace hc0 := hc0.2
    have en16 := beq_true hc0.1
    subst en16
    replace hc0 := hc0.2
    have en17 := beq_true hc0.1
    subst en17
    replace hc0 := hc0.2
    have en18 := beq_true hc0.1
    subst en18
    replace hc0 := hc0.2
    have en19 := beq_true hc0.1
    subst en19
    replace hc0 := hc0.2
    have en20 := beq_true hc0
    subst en20
    simp only [Option.some.injEq] at hg
    subst hg
    rcases pickG_cons hl with ⟨hc, hl⟩ | hl
    · simp only [Option.some.injEq, Prod.mk.injEq] at hl
      obtain ⟨rfl, rfl⟩ := hl
      exact bodyH_of2 mixed gtysOK g11b3a_O_sound g11b3a_O_det (an := g11b3a_an) (cut := g11b3a_cut) (bs := [410, 500]) (by kernel_rfl) (by kernel_rfl) (by kernel_rfl) (by kernel_rfl) (by kernel_rfl) (by kernel_rfl) (show g11b3a_v realA x0 x1 x2 x3 = _ from g11b3a_is0_spec hc) fun _ st => g11b3a__go st
    cases hl
  · cases hg
def g11B3 (A : Ar) (sl : Slots) (vs : List AV) (h : Heap) : GL (Ex × Heap) := match g11b3G A sl vs h with
    | some l => l
    | none => match g11b3a_G A sl vs h with
    | some l => l
    | none => []
theorem g11B3_sound {sl : Slots} {vs : List AV} {h : Heap} {ex : Ex} {g' : Heap} (hl : pickG (g11B3 realA sl vs h) = some (ex, g')) : BodyH Tryd.prog Tryd.f11.ntmps (rfAs (rfOf 0 (bodyOf Tryd.f11))) (rfBd (rfOf 0 (bodyOf Tryd.f11))) (rfPs (rfOf 0 (bodyOf Tryd.f11))).toList sl vs h ex g' := by
  unfold g11B3 at hl
  split at hl
  · rename_i l hg
    exact g11b3G_sound hg hl
  split at hl
  · rename_i l hg
    exact g11b3a_G_sound hg hl
  cases hl
def g11i3BO (A : Ar) : Orc := orcOf []
theorem g11i3BO_sound : OSound Tryd.prog (g11i3BO realA) := orc_sound fun f g hm args v hv => by
  cases hm
theorem g11i3BO_det : ODet (g11i3BO realA) := orc_det _
def g11i3U (A : Ar) (sl : Slots) : Orc := { g11i3BO A with ylg := yRoundG [411, 412, 413, 448] 1 (g11B3 A sl), tk := true, pb := 450 }
def g11i3O (A : Ar) : Orc := g11i3U A [(3, (pT 410 0)), (6, (.fn 32 [] [(.cell (.ptr 411 0 none)), (.cell (.ptr 412 0 none)), (.cell (.ptr 413 0 none))]))]
def g11i3an : Ann := [(0, ([0, 1, 2, 3], [410, 411, 412, 413, 448])), (1, ([0, 1, 2, 3, 5, 6], [410, 411, 412, 413, 448])), (2, ([0, 1, 2, 3, 5, 6, 9, 10], [410, 411, 412, 413, 448, 500])), (3, ([0, 1, 2, 3, 5, 6, 9, 10], [410, 411, 412, 413, 448, 500])), (4, ([0, 1, 2, 3, 5, 6, 7, 9, 10], [410, 411, 412, 413, 448, 500])), (5, ([0, 1, 2, 3, 5, 6, 9, 10], [410, 411, 412, 413, 448, 500, 5002])), (6, ([0, 1, 2, 3, 5, 6, 9, 10], [410, 411, 412, 413, 448, 500])), (7, ([0, 1, 2, 3, 5, 6, 9, 10], [410, 411, 412, 413, 448, 500])), (8, ([0, 1, 2, 3, 5, 6, 9, 10], [410, 411, 412, 413, 448, 500])), (9, ([0, 1, 2, 3, 5, 6, 9, 10], [410, 411, 412, 413, 448, 500])), (10, ([0, 3, 5, 6], [410, 411, 412, 413, 448, 500])), (11, ([0, 3, 5, 6], [410, 411, 412, 413, 448, 500])), (1000002, ([5002, 13004], [500, 500])), (1000005, ([5002, 13004], [500, 500]))]
def g11i3res : List ResultVar := []
def g11i3cut : List Nat := [3, 6, 8, 10]
noncomputable def g11i3N {R : Type} (A : Ar) (kk : AV → Heap → Option R) (t : List Bool → St → Option R) (p : List Bool) (s : St) : Option R := nodeN A gtys (g11i3O A) g11i3an g11i3cut t (bodyOf Tryd.f32) (finD gtys g11i3res kk) p s
def g11i3J6as (x0 x1 : Int) (x2 x3 : Int) (x4 : Nat) (x5 : List Nat) (x6 x7 : Int) (x8 : Nat) (x9 : List Nat) : St := ⟨[(0, (.yld 449)), (1, (pT 411 0)), (2, (pT 412 0)), (3, (pT 413 0)), (5, (i6 x0)), (6, (i6 x1)), (9, (i6 x2)), (10, (i6 x3))], [(410, ⟨[.one (.ptr 410 0 none), .one (.sl 500 none x4 1)], 36, 1⟩), (411, ⟨[.one (.str x5)], 9, 1⟩), (412, ⟨[.one (.int .i64 x6)], 3, 1⟩), (413, ⟨[.one (.int .i64 x7)], 3, 1⟩), (448, ⟨[], 0, 0⟩), (500, ⟨[.nums .u8 x8 x9], 5, 2⟩)]⟩
def g11i3J6a {R : Type} (A : Ar) (n : Nat) (kk : AV → Heap → Option R) (lg11i3L5a : Int → Int → Int → Int → Nat → List Nat → Int → Int → Nat → List Nat → Option R) (x0 x1 : Int) (x2 x3 : Int) (x4 : Nat) (x5 : List Nat) (x6 x7 : Int) (x8 : Nat) (x9 : List Nat) : Option R :=
  match A.neg (A.ib .sub .i64 x0 x7) with
  | true => none
  | false => match A.neg x7 with
    | true => none
    | false => match g11b3a_c0 A (A.ib .and .i64 (A.ish .shr .i64 x1 (A.toN (A.ib .sub .i64 x0 x7))) (A.ib .sub .i64 (A.ish .shl .i64 1 (A.toN x7)) 1)) x4 x8 x9 with
      | true => lg11i3L5a (A.ib .sub .i64 x0 x7) x1 x2 x3 (g11b3a_r0_0 A (A.ib .and .i64 (A.ish .shr .i64 x1 (A.toN (A.ib .sub .i64 x0 x7))) (A.ib .sub .i64 (A.ish .shl .i64 1 (A.toN x7)) 1)) x4 x8 x9) x5 x6 x7 (g11b3a_r0_1 A (A.ib .and .i64 (A.ish .shr .i64 x1 (A.toN (A.ib .sub .i64 x0 x7))) (A.ib .sub .i64 (A.ish .shl .i64 1 (A.toN x7)) 1)) x4 x8 x9) (g11b3a_r0_2 A (A.ib .and .i64 (A.ish .shr .i64 x1 (A.toN (A.ib .sub .i64 x0 x7))) (A.ib .sub .i64 (A.ish .shl .i64 1 (A.toN x7)) 1)) x4 x8 x9)
      | false => none
def g11i3J8s (x0 x1 : Int) (x2 x3 : Int) (x4 : Nat) (x5 : List Nat) (x6 x7 : Int) (x8 : Nat) (x9 : List Nat) : St := ⟨[(0, (.yld 449)), (1, (pT 411 0)), (2, (pT 412 0)), (3, (pT 413 0)), (5, (i6 x0)), (6, (i6 x1)), (9, (i6 x2)), (10, (i6 x3))], [(410, ⟨[.one (.ptr 410 0 none), .one (.sl 500 none x4 1)], 36, 1⟩), (411, ⟨[.one (.str x5)], 9, 1⟩), (412, ⟨[.one (.int .i64 x6)], 3, 1⟩), (413, ⟨[.one (.int .i64 x7)], 3, 1⟩), (448, ⟨[], 0, 0⟩), (500, ⟨[.nums .u8 x8 x9], 5, 2⟩)]⟩
def g11i3J8 {R : Type} (A : Ar) (n : Nat) (kk : AV → Heap → Option R) (lg11i3L2a : Int → Int → Int → Int → Nat → List Nat → Int → Int → Nat → List Nat → Option R) (x0 x1 : Int) (x2 x3 : Int) (x4 : Nat) (x5 : List Nat) (x6 x7 : Int) (x8 : Nat) (x9 : List Nat) : Option R :=
  match A.neg x0 with
  | true => none
  | false => lg11i3L2a x0 (A.ib .and .i64 x1 (A.ib .sub .i64 (A.ish .shl .i64 1 (A.toN x0)) 1)) x2 (A.ib .add .i64 x3 1) x4 x5 x6 x7 x8 x9
def g11i3L5as (x0 x1 : Int) (x2 x3 : Int) (x4 : Nat) (x5 : List Nat) (x6 x7 : Int) (x8 : Nat) (x9 : List Nat) : St := ⟨[(0, (.yld 449)), (1, (pT 411 0)), (2, (pT 412 0)), (3, (pT 413 0)), (5, (i6 x0)), (6, (i6 x1)), (9, (i6 x2)), (10, (i6 x3))], [(410, ⟨[.one (.ptr 410 0 none), .one (.sl 500 none x4 1)], 36, 1⟩), (411, ⟨[.one (.str x5)], 9, 1⟩), (412, ⟨[.one (.int .i64 x6)], 3, 1⟩), (413, ⟨[.one (.int .i64 x7)], 3, 1⟩), (448, ⟨[], 0, 0⟩), (500, ⟨[.nums .u8 x8 x9], 5, 2⟩)]⟩
def g11i3L5a {R : Type} (A : Ar) (n : Nat) (kk : AV → Heap → Option R) (lg11i3L2a : Int → Int → Int → Int → Nat → List Nat → Int → Int → Nat → List Nat → Option R) : Nat → Int → Int → Int → Int → Nat → List Nat → Int → Int → Nat → List Nat → Option R
  | 0, _, _, _, _, _, _, _, _, _, _ => none
  | m + 1, x0, x1, x2, x3, x4, x5, x6, x7, x8, x9 => match A.ic .geq x0 x7 with
  | true => g11i3J6a A n kk (g11i3L5a A n kk lg11i3L2a m) x0 x1 x2 x3 x4 x5 x6 x7 x8 x9
  | false => g11i3J8 A n kk lg11i3L2a x0 x1 x2 x3 x4 x5 x6 x7 x8 x9
def g11i3J3as (x0 x1 : Int) (x2 x3 : Int) (x4 : Nat) (x5 : List Nat) (x6 x7 : Int) (x8 : Nat) (x9 : List Nat) : St := ⟨[(0, (.yld 449)), (1, (pT 411 0)), (2, (pT 412 0)), (3, (pT 413 0)), (5, (i6 x0)), (6, (i6 x1)), (9, (i6 x2)), (10, (i6 x3))], [(410, ⟨[.one (.ptr 410 0 none), .one (.sl 500 none x4 1)], 36, 1⟩), (411, ⟨[.one (.str x5)], 9, 1⟩), (412, ⟨[.one (.int .i64 x6)], 3, 1⟩), (413, ⟨[.one (.int .i64 x7)], 3, 1⟩), (448, ⟨[], 0, 0⟩), (500, ⟨[.nums .u8 x8 x9], 5, 2⟩)]⟩
def g11i3J3a {R : Type} (A : Ar) (n : Nat) (kk : AV → Heap → Option R) (lg11i3L2a : Int → Int → Int → Int → Nat → List Nat → Int → Int → Nat → List Nat → Option R) (x0 x1 : Int) (x2 x3 : Int) (x4 : Nat) (x5 : List Nat) (x6 x7 : Int) (x8 : Nat) (x9 : List Nat) : Option R :=
  match A.neg x6 with
  | true => none
  | false => match A.neg x3 with
    | true => none
    | false => match A.lt (A.toN x3) x5.length with
      | true => g11i3L5a A n kk lg11i3L2a n (A.ib .add .i64 x0 x6) (A.ib .or .i64 (A.ish .shl .i64 x1 (A.toN x6)) (A.ofN (x5.getD (A.toN x3) 0))) x2 x3 x4 x5 x6 x7 x8 x9
      | false => none
def g11i3J10s (x0 x1 : Int) (x2 : Nat) (x3 : List Nat) (x4 x5 : Int) (x6 : Nat) (x7 : List Nat) : St := ⟨[(0, (.yld 449)), (3, (pT 413 0)), (5, (i6 x0)), (6, (i6 x1))], [(410, ⟨[.one (.ptr 410 0 none), .one (.sl 500 none x2 1)], 36, 1⟩), (411, ⟨[.one (.str x3)], 9, 1⟩), (412, ⟨[.one (.int .i64 x4)], 3, 1⟩), (413, ⟨[.one (.int .i64 x5)], 3, 1⟩), (448, ⟨[], 0, 0⟩), (500, ⟨[.nums .u8 x6 x7], 5, 2⟩)]⟩
def g11i3J10 {R : Type} (A : Ar) (n : Nat) (kk : AV → Heap → Option R)  (x0 x1 : Int) (x2 : Nat) (x3 : List Nat) (x4 x5 : Int) (x6 : Nat) (x7 : List Nat) : Option R :=
  match A.ic .gtr x0 0 with
  | true => match A.neg (A.ib .sub .i64 x5 x0) with
    | true => none
    | false => match A.neg x5 with
      | true => none
      | false => match g11b3a_c0 A (A.ib .and .i64 (A.ish .shl .i64 x1 (A.toN (A.ib .sub .i64 x5 x0))) (A.ib .sub .i64 (A.ish .shl .i64 1 (A.toN x5)) 1)) x2 x6 x7 with
        | true => kk (.tup []) [(411, ⟨[.one (.str x3)], 9, 1⟩), (412, ⟨[.one (.int .i64 x4)], 3, 1⟩), (413, ⟨[.one (.int .i64 x5)], 3, 1⟩), (448, ⟨[], 0, 0⟩), (410, ⟨[.one (.ptr 410 0 none), .one (.sl 500 none (g11b3a_r0_0 A (A.ib .and .i64 (A.ish .shl .i64 x1 (A.toN (A.ib .sub .i64 x5 x0))) (A.ib .sub .i64 (A.ish .shl .i64 1 (A.toN x5)) 1)) x2 x6 x7) 1)], 36, 1⟩), (500, ⟨[.nums .u8 (g11b3a_r0_1 A (A.ib .and .i64 (A.ish .shl .i64 x1 (A.toN (A.ib .sub .i64 x5 x0))) (A.ib .sub .i64 (A.ish .shl .i64 1 (A.toN x5)) 1)) x2 x6 x7) (g11b3a_r0_2 A (A.ib .and .i64 (A.ish .shl .i64 x1 (A.toN (A.ib .sub .i64 x5 x0))) (A.ib .sub .i64 (A.ish .shl .i64 1 (A.toN x5)) 1)) x2 x6 x7)], 5, 2⟩)]
        | false => none
  | false => kk (.tup []) [(410, ⟨[.one (.ptr 410 0 none), .one (.sl 500 none x2 1)], 36, 1⟩), (411, ⟨[.one (.str x3)], 9, 1⟩), (412, ⟨[.one (.int .i64 x4)], 3, 1⟩), (413, ⟨[.one (.int .i64 x5)], 3, 1⟩), (448, ⟨[], 0, 0⟩), (500, ⟨[.nums .u8 x6 x7], 5, 2⟩)]
def g11i3L2as (x0 x1 : Int) (x2 x3 : Int) (x4 : Nat) (x5 : List Nat) (x6 x7 : Int) (x8 : Nat) (x9 : List Nat) : St := ⟨[(0, (.yld 449)), (1, (pT 411 0)), (2, (pT 412 0)), (3, (pT 413 0)), (5, (i6 x0)), (6, (i6 x1)), (9, (i6 x2)), (10, (i6 x3))], [(410, ⟨[.one (.ptr 410 0 none), .one (.sl 500 none x4 1)], 36, 1⟩), (411, ⟨[.one (.str x5)], 9, 1⟩), (412, ⟨[.one (.int .i64 x6)], 3, 1⟩), (413, ⟨[.one (.int .i64 x7)], 3, 1⟩), (448, ⟨[], 0, 0⟩), (500, ⟨[.nums .u8 x8 x9], 5, 2⟩)]⟩
def g11i3L2a {R : Type} (A : Ar) (n : Nat) (kk : AV → Heap → Option R)  : Nat → Int → Int → Int → Int → Nat → List Nat → Int → Int → Nat → List Nat → Option R
  | 0, _, _, _, _, _, _, _, _, _, _ => none
  | m + 1, x0, x1, x2, x3, x4, x5, x6, x7, x8, x9 => match A.ic .lss x3 x2 with
  | true => g11i3J3a A n kk (g11i3L2a A n kk  m) x0 x1 x2 x3 x4 x5 x6 x7 x8 x9
  | false => g11i3J10 A n kk  x0 x1 x4 x5 x6 x7 x8 x9
def g11i3J6s (x0 x1 : Int) (x2 x3 : Int) (x4 : List Nat) (x5 x6 : Int) : St := ⟨[(0, (.yld 449)), (1, (pT 411 0)), (2, (pT 412 0)), (3, (pT 413 0)), (5, (i6 x0)), (6, (i6 x1)), (9, (i6 x2)), (10, (i6 x3))], [(410, ⟨[.one .nilp, .one .nils], 36, 1⟩), (411, ⟨[.one (.str x4)], 9, 1⟩), (412, ⟨[.one (.int .i64 x5)], 3, 1⟩), (413, ⟨[.one (.int .i64 x6)], 3, 1⟩), (448, ⟨[], 0, 0⟩)]⟩
def g11i3J6 {R : Type} (A : Ar) (n : Nat) (kk : AV → Heap → Option R) (lg11i3L5a : Int → Int → Int → Int → Nat → List Nat → Int → Int → Nat → List Nat → Option R) (x0 x1 : Int) (x2 x3 : Int) (x4 : List Nat) (x5 x6 : Int) : Option R :=
  match A.neg (A.ib .sub .i64 x0 x6) with
  | true => none
  | false => match A.neg x6 with
    | true => none
    | false => match g11b3c0 A (A.ib .and .i64 (A.ish .shr .i64 x1 (A.toN (A.ib .sub .i64 x0 x6))) (A.ib .sub .i64 (A.ish .shl .i64 1 (A.toN x6)) 1)) with
      | true => lg11i3L5a (A.ib .sub .i64 x0 x6) x1 x2 x3 (g11b3r0_0 A (A.ib .and .i64 (A.ish .shr .i64 x1 (A.toN (A.ib .sub .i64 x0 x6))) (A.ib .sub .i64 (A.ish .shl .i64 1 (A.toN x6)) 1))) x4 x5 x6 (g11b3r0_1 A (A.ib .and .i64 (A.ish .shr .i64 x1 (A.toN (A.ib .sub .i64 x0 x6))) (A.ib .sub .i64 (A.ish .shl .i64 1 (A.toN x6)) 1))) (g11b3r0_2 A (A.ib .and .i64 (A.ish .shr .i64 x1 (A.toN (A.ib .sub .i64 x0 x6))) (A.ib .sub .i64 (A.ish .shl .i64 1 (A.toN x6)) 1)))
      | false => none
def g11i3J8as (x0 x1 : Int) (x2 x3 : Int) (x4 : List Nat) (x5 x6 : Int) : St := ⟨[(0, (.yld 449)), (1, (pT 411 0)), (2, (pT 412 0)), (3, (pT 413 0)), (5, (i6 x0)), (6, (i6 x1)), (9, (i6 x2)), (10, (i6 x3))], [(410, ⟨[.one .nilp, .one .nils], 36, 1⟩), (411, ⟨[.one (.str x4)], 9, 1⟩), (412, ⟨[.one (.int .i64 x5)], 3, 1⟩), (413, ⟨[.one (.int .i64 x6)], 3, 1⟩), (448, ⟨[], 0, 0⟩)]⟩
def g11i3J8a {R : Type} (A : Ar) (n : Nat) (kk : AV → Heap → Option R) (lg11i3L2 : Int → Int → Int → Int → List Nat → Int → Int → Option R) (x0 x1 : Int) (x2 x3 : Int) (x4 : List Nat) (x5 x6 : Int) : Option R :=
  match A.neg x0 with
  | true => none
  | false => lg11i3L2 x0 (A.ib .and .i64 x1 (A.ib .sub .i64 (A.ish .shl .i64 1 (A.toN x0)) 1)) x2 (A.ib .add .i64 x3 1) x4 x5 x6
def g11i3L5s (x0 x1 : Int) (x2 x3 : Int) (x4 : List Nat) (x5 x6 : Int) : St := ⟨[(0, (.yld 449)), (1, (pT 411 0)), (2, (pT 412 0)), (3, (pT 413 0)), (5, (i6 x0)), (6, (i6 x1)), (9, (i6 x2)), (10, (i6 x3))], [(410, ⟨[.one .nilp, .one .nils], 36, 1⟩), (411, ⟨[.one (.str x4)], 9, 1⟩), (412, ⟨[.one (.int .i64 x5)], 3, 1⟩), (413, ⟨[.one (.int .i64 x6)], 3, 1⟩), (448, ⟨[], 0, 0⟩)]⟩
def g11i3L5 {R : Type} (A : Ar) (n : Nat) (kk : AV → Heap → Option R) (lg11i3L2 : Int → Int → Int → Int → List Nat → Int → Int → Option R) (lg11i3L2a : Int → Int → Int → Int → Nat → List Nat → Int → Int → Nat → List Nat → Option R) : Nat → Int → Int → Int → Int → List Nat → Int → Int → Option R
  | 0, _, _, _, _, _, _, _ => none
  | m + 1, x0, x1, x2, x3, x4, x5, x6 => match A.ic .geq x0 x6 with
  | true => g11i3J6 A n kk (g11i3L5a A n kk lg11i3L2a m) x0 x1 x2 x3 x4 x5 x6
  | false => g11i3J8a A n kk lg11i3L2 x0 x1 x2 x3 x4 x5 x6
def g11i3J3s (x0 x1 : Int) (x2 x3 : Int) (x4 : List Nat) (x5 x6 : Int) : St := ⟨[(0, (.yld 449)), (1, (pT 411 0)), (2, (pT 412 0)), (3, (pT 413 0)), (5, (i6 x0)), (6, (i6 x1)), (9, (i6 x2)), (10, (i6 x3))], [(410, ⟨[.one .nilp, .one .nils], 36, 1⟩), (411, ⟨[.one (.str x4)], 9, 1⟩), (412, ⟨[.one (.int .i64 x5)], 3, 1⟩), (413, ⟨[.one (.int .i64 x6)], 3, 1⟩), (448, ⟨[], 0, 0⟩)]⟩
def g11i3J3 {R : Type} (A : Ar) (n : Nat) (kk : AV → Heap → Option R) (lg11i3L2 : Int → Int → Int → Int → List Nat → Int → Int → Option R) (lg11i3L2a : Int → Int → Int → Int → Nat → List Nat → Int → Int → Nat → List Nat → Option R) (x0 x1 : Int) (x2 x3 : Int) (x4 : List Nat) (x5 x6 : Int) : Option R :=
  match A.neg x5 with
  | true => none
  | false => match A.neg x3 with
    | true => none
    | false => match A.lt (A.toN x3) x4.length with
      | true => g11i3L5 A n kk lg11i3L2 lg11i3L2a n (A.ib .add .i64 x0 x5) (A.ib .or .i64 (A.ish .shl .i64 x1 (A.toN x5)) (A.ofN (x4.getD (A.toN x3) 0))) x2 x3 x4 x5 x6
      | false => none
def g11i3J10as (x0 x1 : Int) (x2 : List Nat) (x3 x4 : Int) : St := ⟨[(0, (.yld 449)), (3, (pT 413 0)), (5, (i6 x0)), (6, (i6 x1))], [(410, ⟨[.one .nilp, .one .nils], 36, 1⟩), (411, ⟨[.one (.str x2)], 9, 1⟩), (412, ⟨[.one (.int .i64 x3)], 3, 1⟩), (413, ⟨[.one (.int .i64 x4)], 3, 1⟩), (448, ⟨[], 0, 0⟩)]⟩
def g11i3J10a {R : Type} (A : Ar) (n : Nat) (kk : AV → Heap → Option R)  (x0 x1 : Int) (x2 : List Nat) (x3 x4 : Int) : Option R :=
  match A.ic .gtr x0 0 with
  | true => match A.neg (A.ib .sub .i64 x4 x0) with
    | true => none
    | false => match A.neg x4 with
      | true => none
      | false => match g11b3c0 A (A.ib .and .i64 (A.ish .shl .i64 x1 (A.toN (A.ib .sub .i64 x4 x0))) (A.ib .sub .i64 (A.ish .shl .i64 1 (A.toN x4)) 1)) with
        | true => kk (.tup []) [(411, ⟨[.one (.str x2)], 9, 1⟩), (412, ⟨[.one (.int .i64 x3)], 3, 1⟩), (413, ⟨[.one (.int .i64 x4)], 3, 1⟩), (448, ⟨[], 0, 0⟩), (410, ⟨[.one (.ptr 410 0 none), .one (.sl 5002 none (g11b3r0_0 A (A.ib .and .i64 (A.ish .shl .i64 x1 (A.toN (A.ib .sub .i64 x4 x0))) (A.ib .sub .i64 (A.ish .shl .i64 1 (A.toN x4)) 1))) 1)], 36, 1⟩), (5002, ⟨[.nums .u8 (g11b3r0_1 A (A.ib .and .i64 (A.ish .shl .i64 x1 (A.toN (A.ib .sub .i64 x4 x0))) (A.ib .sub .i64 (A.ish .shl .i64 1 (A.toN x4)) 1))) (g11b3r0_2 A (A.ib .and .i64 (A.ish .shl .i64 x1 (A.toN (A.ib .sub .i64 x4 x0))) (A.ib .sub .i64 (A.ish .shl .i64 1 (A.toN x4)) 1)))], 5, 2⟩)]
        | false => none
  | false => kk (.tup []) [(410, ⟨[.one .nilp, .one .nils], 36, 1⟩), (411, ⟨[.one (.str x2)], 9, 1⟩), (412, ⟨[.one (.int .i64 x3)], 3, 1⟩), (413, ⟨[.one (.int .i64 x4)], 3, 1⟩), (448, ⟨[], 0, 0⟩)]
def g11i3L2s (x0 x1 : Int) (x2 x3 : Int) (x4 : List Nat) (x5 x6 : Int) : St := ⟨[(0, (.yld 449)), (1, (pT 411 0)), (2, (pT 412 0)), (3, (pT 413 0)), (5, (i6 x0)), (6, (i6 x1)), (9, (i6 x2)), (10, (i6 x3))], [(410, ⟨[.one .nilp, .one .nils], 36, 1⟩), (411, ⟨[.one (.str x4)], 9, 1⟩), (412, ⟨[.one (.int .i64 x5)], 3, 1⟩), (413, ⟨[.one (.int .i64 x6)], 3, 1⟩), (448, ⟨[], 0, 0⟩)]⟩
def g11i3L2 {R : Type} (A : Ar) (n : Nat) (kk : AV → Heap → Option R)  : Nat → Int → Int → Int → Int → List Nat → Int → Int → Option R
  | 0, _, _, _, _, _, _, _ => none
  | m + 1, x0, x1, x2, x3, x4, x5, x6 => match A.ic .lss x3 x2 with
  | true => g11i3J3 A n kk (g11i3L2 A n kk  m) (g11i3L2a A n kk  m) x0 x1 x2 x3 x4 x5 x6
  | false => g11i3J10a A n kk  x0 x1 x4 x5 x6
def g11i3 {R : Type} (A : Ar) (n : Nat) (kk : AV → Heap → Option R) (x0 : List Nat) (x1 x2 : Int) : Option R :=
  g11i3L2 A n kk  n 0 0 (A.ofN x0.length) 0 x0 x1 x2
section
variable {R : Type} {A : Ar} {n : Nat} {kk : AV → Heap → Option R} {tb : Nat → List Bool → St → Option R} (st : Stp (g11i3N A kk) tb)
include st
theorem g11i3J6a_go {lg11i3L5a : Int → Int → Int → Int → Nat → List Nat → Int → Int → Nat → List Nat → Option R} (hg11i3L5a : ∀ (x0 x1 : Int) (x2 x3 : Int) (x4 : Nat) (x5 : List Nat) (x6 x7 : Int) (x8 : Nat) (x9 : List Nat), Prs (fun k => tb k (pth 27032) (g11i3L5as x0 x1 x2 x3 x4 x5 x6 x7 x8 x9)) (lg11i3L5a x0 x1 x2 x3 x4 x5 x6 x7 x8 x9)) {x0 : Int} {x1 : Int} {x2 : Int} {x3 : Int} {x4 : Nat} {x5 : List Nat} {x6 : Int} {x7 : Int} {x8 : Nat} {x9 : List Nat} : Prs (fun k => tb k (pth 54065) (g11i3J6as x0 x1 x2 x3 x4 x5 x6 x7 x8 x9)) (g11i3J6a A n kk lg11i3L5a x0 x1 x2 x3 x4 x5 x6 x7 x8 x9) := by
  unfold g11i3J6a
  exact st.g (pc (SxP07cpi _ pn (SxP07cpi _ pn (SxP07cpi _ (hg11i3L5a _ _ _ _ _ _ _ _ _ _) pn))) (by kernel_rfl))
theorem g11i3J8_go {lg11i3L2a : Int → Int → Int → Int → Nat → List Nat → Int → Int → Nat → List Nat → Option R} (hg11i3L2a : ∀ (x0 x1 : Int) (x2 x3 : Int) (x4 : Nat) (x5 : List Nat) (x6 x7 : Int) (x8 : Nat) (x9 : List Nat), Prs (fun k => tb k (pth 52) (g11i3L2as x0 x1 x2 x3 x4 x5 x6 x7 x8 x9)) (lg11i3L2a x0 x1 x2 x3 x4 x5 x6 x7 x8 x9)) {x0 : Int} {x1 : Int} {x2 : Int} {x3 : Int} {x4 : Nat} {x5 : List Nat} {x6 : Int} {x7 : Int} {x8 : Nat} {x9 : List Nat} : Prs (fun k => tb k (pth 6759) (g11i3J8s x0 x1 x2 x3 x4 x5 x6 x7 x8 x9)) (g11i3J8 A n kk lg11i3L2a x0 x1 x2 x3 x4 x5 x6 x7 x8 x9) := by
  unfold g11i3J8
  exact st.g (pc (SxP07cpi _ pn (hg11i3L2a _ _ _ _ _ _ _ _ _ _)) (by kernel_rfl))
theorem g11i3L5a_go {lg11i3L2a : Int → Int → Int → Int → Nat → List Nat → Int → Int → Nat → List Nat → Option R} (hg11i3L2a : ∀ (x0 x1 : Int) (x2 x3 : Int) (x4 : Nat) (x5 : List Nat) (x6 x7 : Int) (x8 : Nat) (x9 : List Nat), Prs (fun k => tb k (pth 52) (g11i3L2as x0 x1 x2 x3 x4 x5 x6 x7 x8 x9)) (lg11i3L2a x0 x1 x2 x3 x4 x5 x6 x7 x8 x9)) (m : Nat) : ∀ (x0 x1 : Int) (x2 x3 : Int) (x4 : Nat) (x5 : List Nat) (x6 x7 : Int) (x8 : Nat) (x9 : List Nat), Prs (fun k => tb k (pth 27032) (g11i3L5as x0 x1 x2 x3 x4 x5 x6 x7 x8 x9)) (g11i3L5a A n kk lg11i3L2a m x0 x1 x2 x3 x4 x5 x6 x7 x8 x9) := by
  induction m with
  | zero => intro x0 x1 x2 x3 x4 x5 x6 x7 x8 x9; exact pn0
  | succ m ih =>
    intro x0 x1 x2 x3 x4 x5 x6 x7 x8 x9; rw [g11i3L5a]
    exact st.g (pc (SxP07cpi _ (g11i3J6a_go st ih) (g11i3J8_go st hg11i3L2a)) (by kernel_rfl))
theorem g11i3J3a_go {lg11i3L2a : Int → Int → Int → Int → Nat → List Nat → Int → Int → Nat → List Nat → Option R} (hg11i3L2a : ∀ (x0 x1 : Int) (x2 x3 : Int) (x4 : Nat) (x5 : List Nat) (x6 x7 : Int) (x8 : Nat) (x9 : List Nat), Prs (fun k => tb k (pth 52) (g11i3L2as x0 x1 x2 x3 x4 x5 x6 x7 x8 x9)) (lg11i3L2a x0 x1 x2 x3 x4 x5 x6 x7 x8 x9)) {x0 : Int} {x1 : Int} {x2 : Int} {x3 : Int} {x4 : Nat} {x5 : List Nat} {x6 : Int} {x7 : Int} {x8 : Nat} {x9 : List Nat} : Prs (fun k => tb k (pth 211) (g11i3J3as x0 x1 x2 x3 x4 x5 x6 x7 x8 x9)) (g11i3J3a A n kk lg11i3L2a x0 x1 x2 x3 x4 x5 x6 x7 x8 x9) := by
  unfold g11i3J3a
  exact st.g (pc (SxP07cpi _ pn (SxP07cpi _ pn (SxP07cpi _ (g11i3L5a_go st hg11i3L2a n _ _ _ _ _ _ _ _ _ _) pn))) (by kernel_rfl))
theorem g11i3J10_go {x0 : Int} {x1 : Int} {x2 : Nat} {x3 : List Nat} {x4 : Int} {x5 : Int} {x6 : Nat} {x7 : List Nat} : Prs (fun k => tb k (pth 7) (g11i3J10s x0 x1 x2 x3 x4 x5 x6 x7)) (g11i3J10 A n kk x0 x1 x2 x3 x4 x5 x6 x7) := by
  unfold g11i3J10
  exact st.g (pc (SxP07cpi _ (SxP07cpi _ pn (SxP07cpi _ pn (SxP07cpi _ (pf _) pn))) (pf _)) (by kernel_rfl))
theorem g11i3L2a_go (m : Nat) : ∀ (x0 x1 : Int) (x2 x3 : Int) (x4 : Nat) (x5 : List Nat) (x6 x7 : Int) (x8 : Nat) (x9 : List Nat), Prs (fun k => tb k (pth 52) (g11i3L2as x0 x1 x2 x3 x4 x5 x6 x7 x8 x9)) (g11i3L2a A n kk m x0 x1 x2 x3 x4 x5 x6 x7 x8 x9) := by
  induction m with
  | zero => intro x0 x1 x2 x3 x4 x5 x6 x7 x8 x9; exact pn0
  | succ m ih =>
    intro x0 x1 x2 x3 x4 x5 x6 x7 x8 x9; rw [g11i3L2a]
    exact st.g (pc (SxP07cpi _ (g11i3J3a_go st ih) (g11i3J10_go st)) (by kernel_rfl))
theorem g11i3J6_go {lg11i3L5a : Int → Int → Int → Int → Nat → List Nat → Int → Int → Nat → List Nat → Option R} (hg11i3L5a : ∀ (x0 x1 : Int) (x2 x3 : Int) (x4 : Nat) (x5 : List Nat) (x6 x7 : Int) (x8 : Nat) (x9 : List Nat), Prs (fun k => tb k (pth 27032) (g11i3L5as x0 x1 x2 x3 x4 x5 x6 x7 x8 x9)) (lg11i3L5a x0 x1 x2 x3 x4 x5 x6 x7 x8 x9)) {x0 : Int} {x1 : Int} {x2 : Int} {x3 : Int} {x4 : List Nat} {x5 : Int} {x6 : Int} : Prs (fun k => tb k (pth 54065) (g11i3J6s x0 x1 x2 x3 x4 x5 x6)) (g11i3J6 A n kk lg11i3L5a x0 x1 x2 x3 x4 x5 x6) := by
  unfold g11i3J6
  exact st.g (pc (SxP07cpi _ pn (SxP07cpi _ pn (SxP07cpi _ (hg11i3L5a _ _ _ _ _ _ _ _ _ _) pn))) (by kernel_rfl))
theorem g11i3J8a_go {lg11i3L2 : Int → Int → Int → Int → List Nat → Int → Int → Option R} (hg11i3L2 : ∀ (x0 x1 : Int) (x2 x3 : Int) (x4 : List Nat) (x5 x6 : Int), Prs (fun k => tb k (pth 52) (g11i3L2s x0 x1 x2 x3 x4 x5 x6)) (lg11i3L2 x0 x1 x2 x3 x4 x5 x6)) {x0 : Int} {x1 : Int} {x2 : Int} {x3 : Int} {x4 : List Nat} {x5 : Int} {x6 : Int} : Prs (fun k => tb k (pth 6759) (g11i3J8as x0 x1 x2 x3 x4 x5 x6)) (g11i3J8a A n kk lg11i3L2 x0 x1 x2 x3 x4 x5 x6) := by
  unfold g11i3J8a
  exact st.g (pc (SxP07cpi _ pn (hg11i3L2 _ _ _ _ _ _ _)) (by kernel_rfl))
theorem g11i3L5_go {lg11i3L2 : Int → Int → Int → Int → List Nat → Int → Int → Option R} {lg11i3L2a : Int → Int → Int → Int → Nat → List Nat → Int → Int → Nat → List Nat → Option R} (hg11i3L2 : ∀ (x0 x1 : Int) (x2 x3 : Int) (x4 : List Nat) (x5 x6 : Int), Prs (fun k => tb k (pth 52) (g11i3L2s x0 x1 x2 x3 x4 x5 x6)) (lg11i3L2 x0 x1 x2 x3 x4 x5 x6)) (hg11i3L2a : ∀ (x0 x1 : Int) (x2 x3 : Int) (x4 : Nat) (x5 : List Nat) (x6 x7 : Int) (x8 : Nat) (x9 : List Nat), Prs (fun k => tb k (pth 52) (g11i3L2as x0 x1 x2 x3 x4 x5 x6 x7 x8 x9)) (lg11i3L2a x0 x1 x2 x3 x4 x5 x6 x7 x8 x9)) (m : Nat) : ∀ (x0 x1 : Int) (x2 x3 : Int) (x4 : List Nat) (x5 x6 : Int), Prs (fun k => tb k (pth 27032) (g11i3L5s x0 x1 x2 x3 x4 x5 x6)) (g11i3L5 A n kk lg11i3L2 lg11i3L2a m x0 x1 x2 x3 x4 x5 x6) := by
  induction m with
  | zero => intro x0 x1 x2 x3 x4 x5 x6; exact pn0
  | succ m ih =>
    intro x0 x1 x2 x3 x4 x5 x6; rw [g11i3L5]
    exact st.g (pc (SxP07cpi _ (g11i3J6_go st (g11i3L5a_go st hg11i3L2a m)) (g11i3J8a_go st hg11i3L2)) (by kernel_rfl))
theorem g11i3J3_go {lg11i3L2 : Int → Int → Int → Int → List Nat → Int → Int → Option R} {lg11i3L2a : Int → Int → Int → Int → Nat → List Nat → Int → Int → Nat → List Nat → Option R} (hg11i3L2 : ∀ (x0 x1 : Int) (x2 x3 : Int) (x4 : List Nat) (x5 x6 : Int), Prs (fun k => tb k (pth 52) (g11i3L2s x0 x1 x2 x3 x4 x5 x6)) (lg11i3L2 x0 x1 x2 x3 x4 x5 x6)) (hg11i3L2a : ∀ (x0 x1 : Int) (x2 x3 : Int) (x4 : Nat) (x5 : List Nat) (x6 x7 : Int) (x8 : Nat) (x9 : List Nat), Prs (fun k => tb k (pth 52) (g11i3L2as x0 x1 x2 x3 x4 x5 x6 x7 x8 x9)) (lg11i3L2a x0 x1 x2 x3 x4 x5 x6 x7 x8 x9)) {x0 : Int} {x1 : Int} {x2 : Int} {x3 : Int} {x4 : List Nat} {x5 : Int} {x6 : Int} : Prs (fun k => tb k (pth 211) (g11i3J3s x0 x1 x2 x3 x4 x5 x6)) (g11i3J3 A n kk lg11i3L2 lg11i3L2a x0 x1 x2 x3 x4 x5 x6) := by
  unfold g11i3J3
  exact st.g (pc (SxP07cpi _ pn (SxP07cpi _ pn (SxP07cpi _ (g11i3L5_go st hg11i3L2 hg11i3L2a n _ _ _ _ _ _ _) pn))) (by kernel_rfl))
theorem g11i3J10a_go {x0 : Int} {x1 : Int} {x2 : List Nat} {x3 : Int} {x4 : Int} : Prs (fun k => tb k (pth 7) (g11i3J10as x0 x1 x2 x3 x4)) (g11i3J10a A n kk x0 x1 x2 x3 x4) := by
  unfold g11i3J10a
  exact st.g (pc (SxP07cpi _ (SxP07cpi _ pn (SxP07cpi _ pn (SxP07cpi _ (pf _) pn))) (pf _)) (by kernel_rfl))
theorem g11i3L2_go (m : Nat) : ∀ (x0 x1 : Int) (x2 x3 : Int) (x4 : List Nat) (x5 x6 : Int), Prs (fun k => tb k (pth 52) (g11i3L2s x0 x1 x2 x3 x4 x5 x6)) (g11i3L2 A n kk m x0 x1 x2 x3 x4 x5 x6) := by
  induction m with
  | zero => intro x0 x1 x2 x3 x4 x5 x6; exact pn0
  | succ m ih =>
    intro x0 x1 x2 x3 x4 x5 x6; rw [g11i3L2]
    exact st.g (pc (SxP07cpi _ (g11i3J3_go st ih (g11i3L2a_go st m)) (g11i3J10a_go st)) (by kernel_rfl))
theorem g11i3_go {x0 : List Nat} {x1 : Int} {x2 : Int} : Prs (fun k => funN A gtys (g11i3O A) g11i3an g11i3cut (bodyOf Tryd.f32) g11i3res [(.yld 449), (pT 411 0), (pT 412 0), (pT 413 0)] [(448, ⟨[], 0, 0⟩), (410, ⟨[.one .nilp, .one .nils], 36, 1⟩), (411, ⟨[.one (.str x0)], 9, 1⟩), (412, ⟨[.one (.int .i64 x1)], 3, 1⟩), (413, ⟨[.one (.int .i64 x2)], 3, 1⟩)] kk (tb k)) (g11i3 A n kk x0 x1 x2) := by
  unfold g11i3
  exact pc (g11i3L2_go st n _ _ _ _ _ _ _) (by kernel_rfl)
end
def g11i3v (A : Ar) (x0 : List Nat) (x1 x2 : Int) : Option Heap := g11i3 A (10000000) (fun _ h => some (pick h [410, 411, 412, 413, 448, 500, 5002])) x0 x1 x2
def g11i3is0 (o : Option Heap) : Bool := match o with
  | some [(n0, ⟨[.one (.ptr n1 n2 none), .one (.sl n3 none _ n4)], n5, n6⟩), (n7, ⟨[.one (.str _)], n8, n9⟩), (n10, ⟨[.one (.int .i64 _)], n11, n12⟩), (n13, ⟨[.one (.int .i64 _)], n14, n15⟩), (n16, ⟨[], n17, n18⟩), (n19, ⟨[.nums .u8 _ _], n20, n21⟩)] => Nat.beq n0 410 && (Nat.beq n1 410 && (Nat.beq n2 0 && (Nat.beq n3 500 && (Nat.beq n4 1 && (Nat.beq n5 36 && (Nat.beq n6 1 && (Nat.beq n7 411 && (Nat.beq n8 9 && (Nat.beq n9 1 && (Nat.beq n10 412 && (Nat.beq n11 3 && (Nat.beq n12 1 && (Nat.beq n13 413 && (Nat.beq n14 3 && (Nat.beq n15 1 && (Nat.beq n16 448 && (Nat.beq n17 0 && (Nat.beq n18 0 && (Nat.beq n19 500 && (Nat.beq n20 5 && (Nat.beq n21 2)))))))))))))))))))))
  | _ => false
def g11i3g0_0 (o : Option Heap) : Nat := match o with
  | some [(_, ⟨[.one (.ptr _ _ none), .one (.sl _ none x _)], _, _⟩), (_, ⟨[.one (.str _)], _, _⟩), (_, ⟨[.one (.int .i64 _)], _, _⟩), (_, ⟨[.one (.int .i64 _)], _, _⟩), (_, ⟨[], _, _⟩), (_, ⟨[.nums .u8 _ _], _, _⟩)] => x
  | _ => 0
def g11i3g0_1 (o : Option Heap) : List Nat := match o with
  | some [(_, ⟨[.one (.ptr _ _ none), .one (.sl _ none _ _)], _, _⟩), (_, ⟨[.one (.str x)], _, _⟩), (_, ⟨[.one (.int .i64 _)], _, _⟩), (_, ⟨[.one (.int .i64 _)], _, _⟩), (_, ⟨[], _, _⟩), (_, ⟨[.nums .u8 _ _], _, _⟩)] => x
  | _ => []
def g11i3g0_2 (o : Option Heap) : Int := match o with
  | some [(_, ⟨[.one (.ptr _ _ none), .one (.sl _ none _ _)], _, _⟩), (_, ⟨[.one (.str _)], _, _⟩), (_, ⟨[.one (.int .i64 x)], _, _⟩), (_, ⟨[.one (.int .i64 _)], _, _⟩), (_, ⟨[], _, _⟩), (_, ⟨[.nums .u8 _ _], _, _⟩)] => x
  | _ => 0
def g11i3g0_3 (o : Option Heap) : Int := match o with
  | some [(_, ⟨[.one (.ptr _ _ none), .one (.sl _ none _ _)], _, _⟩), (_, ⟨[.one (.str _)], _, _⟩), (_, ⟨[.one (.int .i64 _)], _, _⟩), (_, ⟨[.one (.int .i64 x)], _, _⟩), (_, ⟨[], _, _⟩), (_, ⟨[.nums .u8 _ _], _, _⟩)] => x
  | _ => 0
def g11i3g0_4 (o : Option Heap) : Nat := match o with
  | some [(_, ⟨[.one (.ptr _ _ none), .one (.sl _ none _ _)], _, _⟩), (_, ⟨[.one (.str _)], _, _⟩), (_, ⟨[.one (.int .i64 _)], _, _⟩), (_, ⟨[.one (.int .i64 _)], _, _⟩), (_, ⟨[], _, _⟩), (_, ⟨[.nums .u8 x _], _, _⟩)] => x
  | _ => 0
def g11i3g0_5 (o : Option Heap) : List Nat := match o with
  | some [(_, ⟨[.one (.ptr _ _ none), .one (.sl _ none _ _)], _, _⟩), (_, ⟨[.one (.str _)], _, _⟩), (_, ⟨[.one (.int .i64 _)], _, _⟩), (_, ⟨[.one (.int .i64 _)], _, _⟩), (_, ⟨[], _, _⟩), (_, ⟨[.nums .u8 _ x], _, _⟩)] => x
  | _ => []
theorem g11i3is0_spec {o : Option Heap} (h : g11i3is0 o = true) : o = some [(410, ⟨[.one (.ptr 410 0 none), .one (.sl 500 none (g11i3g0_0 o) 1)], 36, 1⟩), (411, ⟨[.one (.str (g11i3g0_1 o))], 9, 1⟩), (412, ⟨[.one (.int .i64 (g11i3g0_2 o))], 3, 1⟩), (413, ⟨[.one (.int .i64 (g11i3g0_3 o))], 3, 1⟩), (448, ⟨[], 0, 0⟩), (500, ⟨[.nums .u8 (g11i3g0_4 o) (g11i3g0_5 o)], 5, 2⟩)] := by
  unfold g11i3is0 at h
  split at h
  · rename_i n0 n1 n2 n3 z4 n4 n5 n6 n7 z9 n8 n9 n10 z13 n11 n12 n13 z17 n14 n15 n16 n17 n18 n19 z24 z25 n20 n21
    simp only [Bool.and_eq_true] at h
    have en0 := beq_true h.1
    subst en0
    replace h := h.2
    have en1 := beq_true h.1
    subst en1
    replace h := h.2
    have en2 := beq_true h.1
    subst en2
    replace h := h.2
    have en3 := beq_true h.1
    subst en3
    replace h := h.2
    have en4 := beq_true h.1
    subst en4
    replace h := h.2
    have en5 := beq_true h.1
    subst en5
    replace h := h.2
    have en6 := beq_true h.1
    subst en6
    replace h := h.2
    have en7 := beq_true h.1
    subst en7
    replace h := h.2
    have en8 := beq_true h.1
    subst en8
    replace h := h.2
    have en9 := beq_true h.1
    subst en9
    replace h := h.2
    have en10 := beq_true h.1
    subst en10
    replace h := h.2
    have en11 := beq_true h.1
    subst en11
    replace h := h.2
    have en12 := beq_true h.1
    subst en12
    replace h := h.2
    have en13 := beq_true h.1
    subst en13
    replace h := h.2
    have en14 := beq_true h.1
    subst en14
    replace h := h.2
    have en15 := beq_true h.1
    subst en15
    replace h := h.2
    have en16 := beq_true h.1
    subst en16
    replace h := h.2
    have en17 := beq_true h.1
    subst en17
    replace h := h.2
    have en18 := beq_true h.1
    subst en18
    replace h := h.2
    have en19 := beq_true h.1
    subst en19
    replace h := h.2
    have en20 := beq_true h.1
    subst en20
    replace h := h.2
    have en21 := beq_true h
    subst en21
    rfl
  · cases h
def g11i3c0 (A : Ar) (x0 : List Nat) (x1 x2 : Int) : Bool := g11i3is0 (g11i3v A x0 x1 x2)
def g11i3r0_0 (A : Ar) (x0 : List Nat) (x1 x2 : Int) : Nat := g11i3g0_0 (g11i3v A x0 x1 x2)
def g11i3r0_1 (A : Ar) (x0 : List Nat) (x1 x2 : Int) : List Nat := g11i3g0_1 (g11i3v A x0 x1 x2)
def g11i3r0_2 (A : Ar) (x0 : List Nat) (x1 x2 : Int) : Int := g11i3g0_2 (g11i3v A x0 x1 x2)
def g11i3r0_3 (A : Ar) (x0 : List Nat) (x1 x2 : Int) : Int := g11i3g0_3 (g11i3v A x0 x1 x2)
def g11i3r0_4 (A : Ar) (x0 : List Nat) (x1 x2 : Int) : Nat := g11i3g0_4 (g11i3v A x0 x1 x2)
def g11i3r0_5 (A : Ar) (x0 : List Nat) (x1 x2 : Int) : List Nat := g11i3g0_5 (g11i3v A x0 x1 x2)
def g11i3is1 (o : Option Heap) : Bool := match o with
  | some [(n0, ⟨[.one (.ptr n1 n2 none), .one (.sl n3 none _ n4)], n5, n6⟩), (n7, ⟨[.one (.str _)], n8, n9⟩), (n10, ⟨[.one (.int .i64 _)], n11, n12⟩), (n13, ⟨[.one (.int .i64 _)], n14, n15⟩), (n16, ⟨[], n17, n18⟩), (n19, ⟨[.nums .u8 _ _], n20, n21⟩)] => Nat.beq n0 410 && (Nat.beq n1 410 && (Nat.beq n2 0 && (Nat.beq n3 5002 && (Nat.beq n4 1 && (Nat.beq n5 36 && (Nat.beq n6 1 && (Nat.beq n7 411 && (Nat.beq n8 9 && (Nat.beq n9 1 && (Nat.beq n10 412 && (Nat.beq n11 3 && (Nat.beq n12 1 && (Nat.beq n13 413 && (Nat.beq n14 3 && (Nat.beq n15 1 && (Nat.beq n16 448 && (Nat.beq n17 0 && (Nat.beq n18 0 && (Nat.beq n19 5002 && (Nat.beq n20 5 && (Nat.beq n21 2)))))))))))))))))))))
  | _ => false
def g11i3g1_0 (o : Option Heap) : Nat := match o with
  | some [(_, ⟨[.one (.ptr _ _ none), .one (.sl _ none x _)], _, _⟩), (_, ⟨[.one (.str _)], _, _⟩), (_, ⟨[.one (.int .i64 _)], _, _⟩), (_, ⟨[.one (.int .i64 _)], _, _⟩), (_, ⟨[], _, _⟩), (_, ⟨[.nums .u8 _ _], _, _⟩)] => x
  | _ => 0
def g11i3g1_1 (o : Option Heap) : List Nat := match o with
  | some [(_, ⟨[.one (.ptr _ _ none), .one (.sl _ none _ _)], _, _⟩), (_, ⟨[.one (.str x)], _, _⟩), (_, ⟨[.one (.int .i64 _)], _, _⟩), (_, ⟨[.one (.int .i64 _)], _, _⟩), (_, ⟨[], _, _⟩), (_, ⟨[.nums .u8 _ _], _, _⟩)] => x
  | _ => []
def g11i3g1_2 (o : Option Heap) : Int := match o with
  | some [(_, ⟨[.one (.ptr _ _ none), .one (.sl _ none _ _)], _, _⟩), (_, ⟨[.one (.str _)], _, _⟩), (_, ⟨[.one (.int .i64 x)], _, _⟩), (_, ⟨[.one (.int .i64 _)], _, _⟩), (_, ⟨[], _, _⟩), (_, ⟨[.nums .u8 _ _], _, _⟩)] => x
  | _ => 0
def g11i3g1_3 (o : Option Heap) : Int := match o with
  | some [(_, ⟨[.one (.ptr _ _ none), .one (.sl _ none _ _)], _, _⟩), (_, ⟨[.one (.str _)], _, _⟩), (_, ⟨[.one (.int .i64 _)], _, _⟩), (_, ⟨[.one (.int .i64 x)], _, _⟩), (_, ⟨[], _, _⟩), (_, ⟨[.nums .u8 _ _], _, _⟩)] => x
  | _ => 0
def g11i3g1_4 (o : Option Heap) : Nat := match o with
  | some [(_, ⟨[.one (.ptr _ _ none), .one (.sl _ none _ _)], _, _⟩), (_, ⟨[.one (.str _)], _, _⟩), (_, ⟨[.one (.int .i64 _)], _, _⟩), (_, ⟨[.one (.int .i64 _)], _, _⟩), (_, ⟨[], _, _⟩), (_, ⟨[.nums .u8 x _], _, _⟩)] => x
  | _ => 0
def g11i3g1_5 (o : Option Heap) : List Nat := match o with
  | some [(_, ⟨[.one (.ptr _ _ none), .one (.sl _ none _ _)], _, _⟩), (_, ⟨[.one (.str _)], _, _⟩), (_, ⟨[.one (.int .i64 _)], _, _⟩), (_, ⟨[.one (.int .i64 _)], _, _⟩), (_, ⟨[], _, _⟩), (_, ⟨[.nums .u8 _ x], _, _⟩)] => x
  | _ => []
theorem g11i3is1_spec {o : Option Heap} (h : g11i3is1 o = true) : o = some [(410, ⟨[.one (.ptr 410 0 none), .one (.sl 5002 none (g11i3g1_0 o) 1)], 36, 1⟩), (411, ⟨[.one (.str (g11i3g1_1 o))], 9, 1⟩), (412, ⟨[.one (.int .i64 (g11i3g1_2 o))], 3, 1⟩), (413, ⟨[.one (.int .i64 (g11i3g1_3 o))], 3, 1⟩), (448, ⟨[], 0, 0⟩), (5002, ⟨[.nums .u8 (g11i3g1_4 o) (g11i3g1_5 o)], 5, 2⟩)] := by
  unfold g11i3is1 at h
  split at h
  · rename_i n0 n1 n2 n3 z4 n4 n5 n6 n7 z9 n8 n9 n10 z13 n11 n12 n13 z17 n14 n15 n16 n17 n18 n19 z24 z25 n20 n21
    simp only [Bool.and_eq_true] at h
    have en0 := beq_true h.1
    subst en0
    replace h := h.2
    have en1 := beq_true h.1
    subst en1
    replace h := h.2
    have en2 := beq_true h.1
    subst en2
    replace h := h.2
    have en3 := beq_true h.1
    subst en3
    replace h := h.2
    have en4 := beq_true h.1
    subst en4
    replace h := h.2
    have en5 := beq_true h.1
    subst en5
    replace h := h.2
    have en6 := beq_true h.1
    subst en6
    replace h := h.2
    have en7 := beq_true h.1
    subst en7
    replace h := h.2
    have en8 := beq_true h.1
    subst en8
    replace h := h.2
    have en9 := beq_true h.1
    subst en9
    replace h := h.2
    have en10 := beq_true h.1
    subst en10
    replace h := h.2
    have en11 := beq_true h.1
    subst en11
    replace h := h.2
    have en12 := beq_true h.1
    subst en12
    replace h := h.2
    have en13 := beq_true h.1
    subst en13
    replace h := h.2
    have en14 := beq_true h.1
    subst en14
    replace h := h.2
    have en15 := beq_true h.1
    subst en15
    replace h := h.2
    have en16 := beq_true h.1
    subst en16
    replace h := h.2
    have en17 := beq_true h.1
    subst en17
    replace h := h.2
    have en18 := beq_true h.1
    subst en18
    replace h := h.2
    have en19 := beq_true h.1
    subst en19
    replace h := h.2
    have en20 := beq_true h.1
    subst en20
    replace h := h.2
    have en21 := beq_true h
    subst en21
    rfl
  · cases h
def g11i3c1 (A : Ar) (x0 : List Nat) (x1 x2 : Int) : Bool := g11i3is1 (g11i3v A x0 x1 x2)
def g11i3r1_0 (A : Ar) (x0 : List Nat) (x1 x2 : Int) : Nat := g11i3g1_0 (g11i3v A x0 x1 x2)
def g11i3r1_1 (A : Ar) (x0 : List Nat) (x1 x2 : Int) : List Nat := g11i3g1_1 (g11i3v A x0 x1 x2)
def g11i3r1_2 (A : Ar) (x0 : List Nat) (x1 x2 : Int) : Int := g11i3g1_2 (g11i3v A x0 x1 x2)
def g11i3r1_3 (A : Ar) (x0 : List Nat) (x1 x2 : Int) : Int := g11i3g1_3 (g11i3v A x0 x1 x2)
def g11i3r1_4 (A : Ar) (x0 : List Nat) (x1 x2 : Int) : Nat := g11i3g1_4 (g11i3v A x0 x1 x2)
def g11i3r1_5 (A : Ar) (x0 : List Nat) (x1 x2 : Int) : List Nat := g11i3g1_5 (g11i3v A x0 x1 x2)
def g11i3is2 (o : Option Heap) : Bool := match o with
  | some [(n0, ⟨[.one .nilp, .one .nils], n1, n2⟩), (n3, ⟨[.one (.str _)], n4, n5⟩), (n6, ⟨[.one (.int .i64 _)], n7, n8⟩), (n9, ⟨[.one (.int .i64 _)], n10, n11⟩), (n12, ⟨[], n13, n14⟩)] => Nat.beq n0 410 && (Nat.beq n1 36 && (Nat.beq n2 1 && (Nat.beq n3 411 && (Nat.beq n4 9 && (Nat.beq n5 1 && (Nat.beq n6 412 && (Nat.beq n7 3 && (Nat.beq n8 1 && (Nat.beq n9 413 && (Nat.beq n10 3 && (Nat.beq n11 1 && (Nat.beq n12 448 && (Nat.beq n13 0 && (Nat.beq n14 0))))))))))))))
  | _ => false
def g11i3g2_0 (o : Option Heap) : List Nat := match o with
  | some [(_, ⟨[.one .nilp, .one .nils], _, _⟩), (_, ⟨[.one (.str x)], _, _⟩), (_, ⟨[.one (.int .i64 _)], _, _⟩), (_, ⟨[.one (.int .i64 _)], _, _⟩), (_, ⟨[], _, _⟩)] => x
  | _ => []
def g11i3g2_1 (o : Option Heap) : Int := match o with
  | some [(_, ⟨[.one .nilp, .one .nils], _, _⟩), (_, ⟨[.one (.str _)], _, _⟩), (_, ⟨[.one (.int .i64 x)], _, _⟩), (_, ⟨[.one (.int .i64 _)], _, _⟩), (_, ⟨[], _, _⟩)] => x
  | _ => 0
def g11i3g2_2 (o : Option Heap) : Int := match o with
  | some [(_, ⟨[.one .nilp, .one .nils], _, _⟩), (_, ⟨[.one (.str _)], _, _⟩), (_, ⟨[.one (.int .i64 _)], _, _⟩), (_, ⟨[.one (.int .i64 x)], _, _⟩), (_, ⟨[], _, _⟩)] => x
  | _ => 0
theorem g11i3is2_spec {o : Option Heap} (h : g11i3is2 o = true) : o = some [(410, ⟨[.one .nilp, .one .nils], 36, 1⟩), (411, ⟨[.one (.str (g11i3g2_0 o))], 9, 1⟩), (412, ⟨[.one (.int .i64 (g11i3g2_1 o))], 3, 1⟩), (413, ⟨[.one (.int .i64 (g11i3g2_2 o))], 3, 1⟩), (448, ⟨[], 0, 0⟩)] := by
  unfold g11i3is2 at h
  split at h
  · rename_i n0 n1 n2 n3 z4 n4 n5 n6 z8 n7 n8 n9 z12 n10 n11 n12 n13 n14
    simp only [Bool.and_eq_true] at h
    have en0 := beq_true h.1
    subst en0
    replace h := h.2
    have en1 := beq_true h.1
    subst en1
    replace h := h.2
    have en2 := beq_true h.1
    subst en2
    replace h := h.2
    have en3 := beq_true h.1
    subst en3
    replace h := h.2
    have en4 := beq_true h.1
    subst en4
    replace h := h.2
    have en5 := beq_true h.1
    subst en5
    replace h := h.2
    have en6 := beq_true h.1
    subst en6
    replace h := h.2
    have en7 := beq_true h.1
    subst en7
    replace h := h.2
    have en8 := beq_true h.1
    subst en8
    replace h := h.2
    have en9 := beq_true h.1
    subst en9
    replace h := h.2
    have en10 := beq_true h.1
    subst en10
    replace h := h.2
    have en11 := beq_true h.1
    subst en11
    replace h := h.2
    have en12 := beq_true h.1
    subst en12
    replace h := h.2
    have en13 := beq_true h.1
    subst en13
    replace h := h.2
    have en14 := beq_true h
    subst en14
    rfl
  · cases h
def g11i3c2 (A : Ar) (x0 : List Nat) (x1 x2 : Int) : Bool := g11i3is2 (g11i3v A x0 x1 x2)
def g11i3r2_0 (A : Ar) (x0 : List Nat) (x1 x2 : Int) : List Nat := g11i3g2_0 (g11i3v A x0 x1 x2)
def g11i3r2_1 (A : Ar) (x0 : List Nat) (x1 x2 : Int) : Int := g11i3g2_1 (g11i3v A x0 x1 x2)
def g11i3r2_2 (A : Ar) (x0 : List Nat) (x1 x2 : Int) : Int := g11i3g2_2 (g11i3v A x0 x1 x2)
def g11i3F (F : List Nat → Int → Int → Option Heap) (sl : Slots) (caps : List V1) (h : Heap) : Option Heap := match sl, caps, h with
  | [(n0, .v (.cell (.ptr n1 n2 none))), (n3, .fn n4 [] [(.cell (.ptr n5 n6 none)), (.cell (.ptr n7 n8 none)), (.cell (.ptr n9 n10 none))])], [(.cell (.ptr n11 n12 none)), (.cell (.ptr n13 n14 none)), (.cell (.ptr n15 n16 none))], [(n17, ⟨[], n18, n19⟩), (n20, ⟨[.one .nilp, .one .nils], n21, n22⟩), (n23, ⟨[.one (.str x0)], n24, n25⟩), (n26, ⟨[.one (.int .i64 x1)], n27, n28⟩), (n29, ⟨[.one (.int .i64 x2)], n30, n31⟩)] => match Nat.beq n0 3 && (Nat.beq n1 410 && (Nat.beq n2 0 && (Nat.beq n3 6 && (Nat.beq n4 32 && (Nat.beq n5 411 && (Nat.beq n6 0 && (Nat.beq n7 412 && (Nat.beq n8 0 && (Nat.beq n9 413 && (Nat.beq n10 0 && (Nat.beq n11 411 && (Nat.beq n12 0 && (Nat.beq n13 412 && (Nat.beq n14 0 && (Nat.beq n15 413 && (Nat.beq n16 0 && (Nat.beq n17 448 && (Nat.beq n18 0 && (Nat.beq n19 0 && (Nat.beq n20 410 && (Nat.beq n21 36 && (Nat.beq n22 1 && (Nat.beq n23 411 && (Nat.beq n24 9 && (Nat.beq n25 1 && (Nat.beq n26 412 && (Nat.beq n27 3 && (Nat.beq n28 1 && (Nat.beq n29 413 && (Nat.beq n30 3 && (Nat.beq n31 1))))))))))))))))))))))))))))))) with
    | true => F x0 x1 x2
    | false => none
  | _, _, _ => none
def g11R3 (A : Ar) (v : AV) (sl : Slots) (h : Heap) : GL (Ex × Heap) := match v, sl, h with
  | .fn n11 [] [(.cell (.ptr n12 n13 none)), (.cell (.ptr n14 n15 none)), (.cell (.ptr n16 n17 none))], [(n0, .v (.cell (.ptr n1 n2 none))), (n3, .fn n4 [] [(.cell (.ptr n5 n6 none)), (.cell (.ptr n7 n8 none)), (.cell (.ptr n9 n10 none))])], [(n18, ⟨[.one .nilp, .one .nils], n19, n20⟩), (n21, ⟨[.one (.str x0)], n22, n23⟩), (n24, ⟨[.one (.int .i64 x1)], n25, n26⟩), (n27, ⟨[.one (.int .i64 x2)], n28, n29⟩)] => match Nat.beq n0 3 && (Nat.beq n1 410 && (Nat.beq n2 0 && (Nat.beq n3 6 && (Nat.beq n4 32 && (Nat.beq n5 411 && (Nat.beq n6 0 && (Nat.beq n7 412 && (Nat.beq n8 0 && (Nat.beq n9 413 && (Nat.beq n10 0 && (Nat.beq n11 32 && (Nat.beq n12 411 && (Nat.beq n13 0 && (Nat.beq n14 412 && (Nat.beq n15 0 && (Nat.beq n16 413 && (Nat.beq n17 0 && (Nat.beq n18 410 && (Nat.beq n19 36 && (Nat.beq n20 1 && (Nat.beq n21 411 && (Nat.beq n22 9 && (Nat.beq n23 1 && (Nat.beq n24 412 && (Nat.beq n25 3 && (Nat.beq n26 1 && (Nat.beq n27 413 && (Nat.beq n28 3 && (Nat.beq n29 1))))))))))))))))))))))))))))) with
    | true => [(g11i3c0 A x0 x1 x2, some (.normal, [(410, ⟨[.one (.ptr 410 0 none), .one (.sl 500 none (g11i3r0_0 A x0 x1 x2) 1)], 36, 1⟩), (411, ⟨[.one (.str (g11i3r0_1 A x0 x1 x2))], 9, 1⟩), (412, ⟨[.one (.int .i64 (g11i3r0_2 A x0 x1 x2))], 3, 1⟩), (413, ⟨[.one (.int .i64 (g11i3r0_3 A x0 x1 x2))], 3, 1⟩), (500, ⟨[.nums .u8 (g11i3r0_4 A x0 x1 x2) (g11i3r0_5 A x0 x1 x2)], 5, 2⟩)])),
    (g11i3c1 A x0 x1 x2, some (.normal, [(410, ⟨[.one (.ptr 410 0 none), .one (.sl 5002 none (g11i3r1_0 A x0 x1 x2) 1)], 36, 1⟩), (411, ⟨[.one (.str (g11i3r1_1 A x0 x1 x2))], 9, 1⟩), (412, ⟨[.one (.int .i64 (g11i3r1_2 A x0 x1 x2))], 3, 1⟩), (413, ⟨[.one (.int .i64 (g11i3r1_3 A x0 x1 x2))], 3, 1⟩), (5002, ⟨[.nums .u8 (g11i3r1_4 A x0 x1 x2) (g11i3r1_5 A x0 x1 x2)], 5, 2⟩)])),
    (g11i3c2 A x0 x1 x2, some (.normal, [(410, ⟨[.one .nilp, .one .nils], 36, 1⟩), (411, ⟨[.one (.str (g11i3r2_0 A x0 x1 x2))], 9, 1⟩), (412, ⟨[.one (.int .i64 (g11i3r2_1 A x0 x1 x2))], 3, 1⟩), (413, ⟨[.one (.int .i64 (g11i3r2_2 A x0 x1 x2))], 3, 1⟩)]))]
    | false => []
  | _, _, _ => []
theorem g11i3eq (F : List Nat → Int → Int → Option Heap) {x0 : List Nat} {x1 : Int} {x2 : Int} : rngF 32 (g11i3F F) (.fn 32 [] [(.cell (.ptr 411 0 none)), (.cell (.ptr 412 0 none)), (.cell (.ptr 413 0 none))]) [(3, (pT 410 0)), (6, (.fn 32 [] [(.cell (.ptr 411 0 none)), (.cell (.ptr 412 0 none)), (.cell (.ptr 413 0 none))]))] [(410, ⟨[.one .nilp, .one .nils], 36, 1⟩), (411, ⟨[.one (.str x0)], 9, 1⟩), (412, ⟨[.one (.int .i64 x1)], 3, 1⟩), (413, ⟨[.one (.int .i64 x2)], 3, 1⟩)] = rngK (F x0 x1 x2) := by kernel_rfl
theorem g11R3_sound {v : AV} {sl : Slots} {h : Heap} {r : Ex × Heap} (hl : pickG (g11R3 realA v sl h) = some r) : rngF 32 (g11i3F (g11i3v realA)) v sl h = some r := by
  unfold g11R3 at hl
  split at hl
  · rename_i n11 n12 n13 n14 n15 n16 n17 n0 n1 n2 n3 n4 n5 n6 n7 n8 n9 n10 n18 n19 n20 n21 x0 n22 n23 n24 x1 n25 n26 n27 x2 n28 n29
    split at hl
    case h_2 => cases hl
    rename_i hc0
    simp only [Bool.and_eq_true] at hc0
    have en0 := beq_true hc0.1
    subst en0
    replace hc0 := hc0.2
    have en1 := beq_true hc0.1
    subst en1
    replace hc0 := hc0.2
    have en2 := beq_true hc0.1
    subst en2
    replace hc0 := hc0.2
    have en3 := beq_true hc0.1
    subst en3
    replace hc0 := hc0.2
    have en4 := beq_true hc0.1
    subst en4
    replace hc0 := hc0.2
    have en5 := beq_true hc0.1
    subst en5
    replace hc0 := hc0.2
    have en6 := beq_true hc0.1
    subst en6
    replace hc0 := hc0.2
    have en7 := beq_true hc0.1
    subst en7
    replace hc0 := hc0.2
    have en8 := beq_true hc0.1
    subst en8
    replace hc0 := hc0.2
    have en9 := beq_true hc0.1
    subst en9
    replace hc0 := hc0.2
    have en10 := beq_true hc0.1
    subst en10
    replace hc0 := hc0.2
    have en11 := beq_true hc0.1
    subst en11
    replace hc0 := hc0.2
    have en12 := beq_true hc0.1
    subst en12
    replace hc0 := hc0.2
    have en13 := beq_true hc0.1
    subst en13
    replace hc0 := hc0.2
    have en14 := beq_true hc0.1
    subst en14
    replace hc0 := hc0.2
    have en15 := beq_true hc0.1
    subst en15
    replace hc0 := hc0.2
    have en16 := beq_true hc0.1
    subst en16
    replace hc0 := hc0.2
    have en17 := beq_true hc0.1
    subst en17
    replace hc0 := hc0.2
    have en18 := beq_true hc0.1
    subst en18
    replace hc0 := hc0.2
    have en19 := beq_true hc0.1
    subst en19
    replace hc0 := hc0.2
    have en20 := beq_true hc0.1
    subst en20
    replace hc0 := hc0.2
    have en21 := beq_true hc0.1
    subst en21
    replace hc0 := hc0.2
    have en22 := beq_true hc0.1
    subst en22
    replace hc0 := hc0.2
    have en23 := beq_true hc0.1
    subst en23
    replace hc0 := hc0.2
    have en24 := beq_true hc0.1
    subst en24
    replace hc0 := hc0.2
    have en25 := beq_true hc0.1
    subst en25
    replace hc0 := hc0.2
    have en26 := beq_true hc0.1
    subst en26
    replace hc0 := hc0.2
    have en27 := beq_true hc0.1
    subst en27
    replace hc0 := hc0.2
    have en28 := beq_true hc0.1
    subst en28
    replace hc0 := hc0.2
    have en29 := beq_true hc0
    subst en29
    refine (g11i3eq (g11i3v realA)).trans ?_
    rcases pickG_cons hl with ⟨hc, hl⟩ | hl
    · simp only [Option.some.injEq] at hl
      subst hl
      exact (congrArg rngK (g11i3is0_spec hc)).trans rfl
    rcases pickG_cons hl with ⟨hc, hl⟩ | hl
    · simp only [Option.some.injEq] at hl
      subst hl
      exact (congrArg rngK (g11i3is1_spec hc)).trans rfl
    rcases pickG_cons hl with ⟨hc, hl⟩ | hl
    · simp only [Option.some.injEq] at hl
      subst hl
      exact (congrArg rngK (g11i3is2_spec hc)).trans rfl
    cases hl
  · cases hl
theorem g11i3hit {sl : Slots} {caps : List V1} {h h2 : Heap} (hh : g11i3F (g11i3v realA) sl caps h = some h2) : caps.length + 1 ≤ Tryd.f32.ntmps ∧ ∃ m, funN realA gtys (g11i3U realA sl) g11i3an g11i3cut (bodyOf Tryd.f32) Tryd.f32.results.toList (.yld 449 :: vAV caps []) h (fun _ h => some (pick h [410, 411, 412, 413, 448, 500, 5002])) (goD realA gtys (g11i3U realA sl) g11i3an g11i3cut (bodyOf Tryd.f32) (finD gtys Tryd.f32.results.toList (fun _ h => some (pick h [410, 411, 412, 413, 448, 500, 5002]))) m) = some h2 := by
  unfold g11i3F at hh
  split at hh
  · rename_i n0 n1 n2 n3 n4 n5 n6 n7 n8 n9 n10 n11 n12 n13 n14 n15 n16 n17 n18 n19 n20 n21 n22 n23 x0 n24 n25 n26 x1 n27 n28 n29 x2 n30 n31
    split at hh
    case h_2 => cases hh
    rename_i hc0
    simp only [Bool.and_eq_true] at hc0
    have en0 := beq_true hc0.1
    subst en0
    replace hc0 := hc0.2
    have en1 := beq_true hc0.1
    subst en1
    replace hc0 := hc0.2
    have en2 := beq_true hc0.1
    subst en2
    replace hc0 := hc0.2
    have en3 := beq_true hc0.1
    subst en3
    replace hc0 := hc0.2
    have en4 := beq_true hc0.1
    subst en4
    replace hc0 := hc0.2
    have en5 := beq_true hc0.1
    subst en5
    replace hc0 := hc0.2
    have en6 := beq_true hc0.1
    subst en6
    replace hc0 := hc0.2
    have en7 := beq_true hc0.1
    subst en7
    replace hc0 := hc0.2
    have en8 := beq_true hc0.1
    subst en8
    replace hc0 := hc0.2
    have en9 := beq_true hc0.1
    subst en9
    replace hc0 := hc0.2
    have en10 := beq_true hc0.1
    subst en10
    replace hc0 := hc0.2
    have en11 := beq_true hc0.1
    subst en11
    replace hc0 := hc0.2
    have en12 := beq_true hc0.1
    subst en12
    replace hc0 := hc0.2
    have en13 := beq_true hc0.1
    subst en13
    replace hc0 := hc0.2
    have en14 := beq_true hc0.1
    subst en14
    replace hc0 := hc0.2
    have en15 := beq_true hc0.1
    subst en15
    replace hc0 := hc0.2
    have en16 := beq_true hc0.1
    subst en16
    replace hc0 := hc0.2
    have en17 := beq_true hc0.1
    subst en17
    replace hc0 := hc0.2
    have en18 := beq_true hc0.1
    subst en18
    replace hc0 := hc0.2
    have en19 := beq_true hc0.1
    subst en19
    replace hc0 := hc0.2
    have en20 := beq_true hc0.1
    subst en20
    replace hc0 := hc0.2
    have en21 := beq_true hc0.1
    subst en21
    replace hc0 := hc0.2
    have en22 := beq_true hc0.1
    subst en22
    replace hc0 := hc0.2
    have en23 := beq_true hc0.1
    subst en23
    replace hc0 := hc0.2
    have en24 := beq_true hc0.1
    subst en24
    replace hc0 := hc0.2
    have en25 := beq_true hc0.1
    subst en25
    replace hc0 := hc0.2
    have en26 := beq_true hc0.1
    subst en26
    replace hc0 := hc0.2
    have en27 := beq_true hc0.1
    subst en27
    replace hc0 := hc0.2
    have en28 := beq_true hc0.1
    subst en28
    replace hc0 := hc0.2
    have en29 := beq_true hc0.1
    subst en29
    replace hc0 := hc0.2
    have en30 := beq_true hc0.1
    subst en30
    replace hc0 := hc0.2
    have en31 := beq_true hc0
    subst en31
    exact ⟨Nat.le_of_ble_eq_true (by kernel_rfl), via_tb (fun _ st => g11i3_go st) hh⟩
  · cases hh
def g11BO (A : Ar) : Orc := orc3 22 32 9 3 3 (orcH [] [(23, ⟨[0, 1], none, (ho2 (g23o A) (g23a_o A))⟩), (26, ⟨[], none, (ho2 (g26o A) (g26a_o A))⟩)])
theorem g11BO_sound : OSound Tryd.prog (g11BO realA) := orc3_sound Bd07.box3 <| orcH_sound (fun f g hm args v hv => by
    cases hm) (fun f e hm args h v h' hv => by
    simp only [List.mem_cons, List.not_mem_nil, or_false, Prod.mk.injEq] at hm
    rcases hm with ⟨rfl, rfl⟩ | ⟨rfl, rfl⟩
    · exact (ho2_sound g23o_sound g23a_o_sound) _ _ _ _ hv
    · exact (ho2_sound g26o_sound g26a_o_sound) _ _ _ _ hv)
theorem g11BO_det : ODet (g11BO realA) := orc3_det <| orcH_det _ _
def g11W (A : Ar) (i : Nat) (v : AV) (sl : Slots) (h : Heap) : GL (Ex × Heap) := match Nat.beq i 3 with
  | true => g11R3 A v (pick sl [3, 6]) h
  | false => []
def g11O (A : Ar) : Orc := { g11BO A with rngg := g11W A, pb := 410 }
theorem g11O_sound : OSound Tryd.prog (g11O realA) := g11BO_sound
theorem g11O_det : ODet (g11O realA) := g11BO_det
theorem g11hR : ∀ N S ρ w, RngOk Tryd.prog (g11O realA) Fence.wide 0 N S ρ w ⟨Tryd.f11.ntmps, [], fun _ => undef, (g11O realA).pb, (by show 410 ≤ 500; decide), w.heap.size⟩ (rngs (bodyOf Tryd.f11)) := by
  intro N S ρ w
  rw [show rngs (bodyOf Tryd.f11) = [.rangeFunc (rfG (rfOf 0 (bodyOf Tryd.f11))) (rfPs (rfOf 0 (bodyOf Tryd.f11))) (rfAs (rfOf 0 (bodyOf Tryd.f11))) (rfBd (rfOf 0 (bodyOf Tryd.f11)))] from by kernel_rfl]
  exact rng_ok (O := g11O realA) mixed gtysOK (OU := fun sl => g11i3U realA (pick sl [3, 6])) (fun _ => g11i3BO_sound) (fun _ => g11i3BO_det) (fun _ => rfl) (fun _ _ _ _ _ => rfl) (E := [411, 412, 413, 448]) (np := 1) (bodyE := fun sl vs g => pickG (g11B3 realA (pick sl [3, 6]) vs g)) (fun _ => rfl) (fun _ _ _ => yRoundG_pick) (i0 := 3) (by kernel_rfl) (fun _ _ _ _ _ h => bodyH_pick [3, 6] (g11B3_sound h)) (by kernel_rfl) (nodupB_spec (by kernel_rfl)) (allLtB_spec (by kernel_rfl)) Tryd.func32 (ic := bodyOf Tryd.f32) rfl (by kernel_rfl) Tryd.call32 (itE := fun sl caps h => g11i3F (g11i3v realA) (pick sl [3, 6]) caps h) (an := g11i3an) (cut := g11i3cut) (bs := [410, 411, 412, 413, 448, 500, 5002]) (fun _ _ _ _ _ h => g11i3hit h) (fun _ _ _ _ h => g11R3_sound h) (show 410 ≤ 448 by decide) (Nat.le_refl _)
def g11an : Ann := [(0, ([0], [])), (1, ([0, 2], [])), (2, ([0, 2, 3], [2000])), (5, ([3], [410, 500, 5002])), (2000003, ([2, 3, 6], [410, 411, 412, 413, 2000, 3001, 3501, 3502])), (3000003, ([2000, 3001, 3501, 3502], [410, 411, 412, 413]))]
def g11res : List ResultVar := [.tmp 2]
def g11cut : List Nat := []
noncomputable def g11N {R : Type} (A : Ar) (kk : AV → Heap → Option R) (t : List Bool → St → Option R) (p : List Bool) (s : St) : Option R := nodeN A gtys (g11O A) g11an g11cut t (bodyOf Tryd.f11) (finD gtys g11res kk) p s
def g11 {R : Type} (A : Ar) (n : Nat) (kk : AV → Heap → Option R) (x0 : List Nat) : Option R :=
  match g11i3c0 A x0 8 4 with
  | true => match g26ok A (g11i3r0_0 A x0 8 4) (g11i3r0_4 A x0 8 4) (g11i3r0_5 A x0 8 4) with
    | true => kk (tS (g26r0 A (g11i3r0_0 A x0 8 4) (g11i3r0_4 A x0 8 4) (g11i3r0_5 A x0 8 4))) [(410, ⟨[.one (.ptr 410 0 none), .one (.sl 500 none (g26r1 A (g11i3r0_0 A x0 8 4) (g11i3r0_4 A x0 8 4) (g11i3r0_5 A x0 8 4)) 1)], 36, 1⟩), (500, ⟨[.nums .u8 (g26r2 A (g11i3r0_0 A x0 8 4) (g11i3r0_4 A x0 8 4) (g11i3r0_5 A x0 8 4)) (g26r3 A (g11i3r0_0 A x0 8 4) (g11i3r0_4 A x0 8 4) (g11i3r0_5 A x0 8 4))], 5, 0⟩)]
    | false => none
  | false => match g11i3c1 A x0 8 4 with
    | true => match g26ok A (g11i3r1_0 A x0 8 4) (g11i3r1_4 A x0 8 4) (g11i3r1_5 A x0 8 4) with
      | true => kk (tS (g26r0 A (g11i3r1_0 A x0 8 4) (g11i3r1_4 A x0 8 4) (g11i3r1_5 A x0 8 4))) [(410, ⟨[.one (.ptr 410 0 none), .one (.sl 5002 none (g26r1 A (g11i3r1_0 A x0 8 4) (g11i3r1_4 A x0 8 4) (g11i3r1_5 A x0 8 4)) 1)], 36, 1⟩), (5002, ⟨[.nums .u8 (g26r2 A (g11i3r1_0 A x0 8 4) (g11i3r1_4 A x0 8 4) (g11i3r1_5 A x0 8 4)) (g26r3 A (g11i3r1_0 A x0 8 4) (g11i3r1_4 A x0 8 4) (g11i3r1_5 A x0 8 4))], 5, 0⟩)]
      | false => none
    | false => match g11i3c2 A x0 8 4 with
      | true => match g26a_ok A with
        | true => kk (tS (g26a_r0 A)) [(410, ⟨[.one .nilp, .one .nils], 36, 1⟩)]
        | false => none
      | false => none
section
variable {R : Type} {A : Ar} {n : Nat} {kk : AV → Heap → Option R} {tb : Nat → List Bool → St → Option R} (st : Stp (g11N A kk) tb)
include st
theorem g11_go {x0 : List Nat} : Prs (fun k => funN A gtys (g11O A) g11an g11cut (bodyOf Tryd.f11) g11res [(tS x0)] [] kk (tb k)) (g11 A n kk x0) := by
  unfold g11
  exact pc (SxP07cpi _ (SxP07cpi _ (pf _) pn) (SxP07cpi _ (SxP07cpi _ (pf _) pn) (SxP07cpi _ (SxP07cpi _ (pf _) pn) pn))) (by kernel_rfl)
end
def g11is (o : Option (AV × Heap)) : Bool := match o with
  | some (.v (.cell (.str _)), []) => true
  | _ => false
def g11g0 (o : Option (AV × Heap)) : List Nat := match o with
  | some (.v (.cell (.str x)), []) => x
  | _ => []
theorem g11is_spec {o : Option (AV × Heap)} (h : g11is o = true) : o = some ((tS (g11g0 o)), []) := by
  unfold g11is at h
  split at h
  · rfl
  · cases h
def g11v (A : Ar) (x0 : List Nat) : Option (AV × Heap) := g11 A (10000000) (outR (outH [] none)) x0
def g11ok (A : Ar) (x0 : List Nat) : Bool := g11is (g11v A x0)
def g11r0 (A : Ar) (x0 : List Nat) : List Nat := g11g0 (g11v A x0)
theorem g11ok_spec {A : Ar} {x0} (h : g11ok A x0 = true) : g11v A x0 = some ((tS (g11r0 A x0)), []) := g11is_spec h
def g11o (A : Ar) (args : List AV) (h : Heap) : Option (Bool × AV × Heap) := match args, h with
  | [.v (.cell (.str x0))], [] => some (g11ok A x0, (tS (g11r0 A x0)), [])
  | _, _ => none
theorem g11o_sound : ∀ args h v h', g11o realA args h = some (true, v, h') → FnH Tryd.prog 11 args h v h' := by
  intro args h v h' hh
  unfold g11o at hh
  split at hh
  · rename_i x0
    simp only [Option.some.injEq, Prod.mk.injEq] at hh
    obtain ⟨hc, hv, hh⟩ := hh
    subst hv
    subst hh
    exact fnh_ofR mixed gtysOK g11O_sound g11O_det (an := g11an) (cut := g11cut) Tryd.func11 (c := bodyOf Tryd.f11) rfl (by kernel_rfl) Tryd.call11 rfl g11hR (Nat.le_of_ble_eq_true rfl) (k := (outH [] none)) (fun a b c => outH_sound a b c) (fun _ => (show g11v realA x0 = _ from g11ok_spec hc)) fun _ st => g11_go st
  · cases hh
attribute [local irreducible] g11ok g11r0
end Go.Sx
