import Derived.Test.YtkomlijabeedpaaDoorSxP07a
namespace Go.Sx
set_option linter.unusedSectionVars false
open Go.Proofs
set_option linter.unusedVariables false
set_option maxRecDepth 100000
theorem SxP07bpi {R : Type} (c : Bool) {f1 f2 : Nat → Option R} {a1 a2 : Option R} (h1 : Prs f1 a1) (h2 : Prs f2 a2) : Prs (fun k => match c with | true => f1 k | false => f2 k) (match c with | true => a1 | false => a2) := by cases c <;> assumption
attribute [local irreducible] g23ok g23r0 g23r1 g23r2 g23a_ok g23a_r0 g23a_r1 g23a_r2 g24a_ok g24a_r0 g24a_r1 g24a_r2 g24a_r3 g25ok g25r1 g25r2 g25r3 g26ok g26r0 g26r1 g26r2 g26r3 g24b_ok g24b_r0 g25a_ok g25a_r1 g25a_r2 g25a_r3 g26a_ok g26a_r0
noncomputable abbrev g10C3 : Code := .seq (rfAs (rfOf 0 (bodyOf Tryd.f10))) (rfBd (rfOf 0 (bodyOf Tryd.f10)))
def g10b3O (A : Ar) : Orc := orcH [] [(23, ⟨[0, 1], none, (g23o A)⟩)]
theorem g10b3O_sound : OSound Tryd.prog (g10b3O realA) := orcH_sound (fun f g hm args v hv => by
    cases hm) (fun f e hm args h v h' hv => by
    simp only [List.mem_cons, List.not_mem_nil, or_false, Prod.mk.injEq] at hm
    rcases hm with ⟨rfl, rfl⟩
    · exact g23o_sound _ _ _ _ hv)
theorem g10b3O_det : ODet (g10b3O realA) := orcH_det _ _
def g10b3an : Ann := [(3, ([3, 7], [410])), (4, ([3, 4], [410])), (1000005, ([7000, 5002], [500, 500])), (3000003, ([2000, 3001, 3501, 3502], [410, 411, 412, 413]))]
def g10b3cut : List Nat := []
abbrev g10b3t0 (A : Ar) (x0 : Int) : Nat := g23r0 A ([65, 66, 67, 68, 69, 70, 71, 72, 73, 74, 75, 76, 77, 78, 79, 80, 81, 82, 83, 84, 85, 86, 87, 88, 89, 90, 97, 98, 99, 100, 101, 102, 103, 104, 105, 106, 107, 108, 109, 110, 111, 112, 113, 114, 115, 116, 117, 118, 119, 120, 121, 122, 48, 49, 50, 51, 52, 53, 54, 55, 56, 57, 43, 47].getD (A.toN x0) 0)
abbrev g10b3t1 (A : Ar) (x0 : Int) : Nat := g23r1 A ([65, 66, 67, 68, 69, 70, 71, 72, 73, 74, 75, 76, 77, 78, 79, 80, 81, 82, 83, 84, 85, 86, 87, 88, 89, 90, 97, 98, 99, 100, 101, 102, 103, 104, 105, 106, 107, 108, 109, 110, 111, 112, 113, 114, 115, 116, 117, 118, 119, 120, 121, 122, 48, 49, 50, 51, 52, 53, 54, 55, 56, 57, 43, 47].getD (A.toN x0) 0)
abbrev g10b3t2 (A : Ar) (x0 : Int) : List Nat := g23r2 A ([65, 66, 67, 68, 69, 70, 71, 72, 73, 74, 75, 76, 77, 78, 79, 80, 81, 82, 83, 84, 85, 86, 87, 88, 89, 90, 97, 98, 99, 100, 101, 102, 103, 104, 105, 106, 107, 108, 109, 110, 111, 112, 113, 114, 115, 116, 117, 118, 119, 120, 121, 122, 48, 49, 50, 51, 52, 53, 54, 55, 56, 57, 43, 47].getD (A.toN x0) 0)
noncomputable def g10b3N {R : Type} (A : Ar) (kk : Ex → Heap → Option R) (t : List Bool → St → Option R) (p : List Bool) (s : St) : Option R := nodeN A gtys (g10b3O A) g10b3an g10b3cut t g10C3 (bdP [410, 5002] kk) p s
def g10b3 {R : Type} (A : Ar) (n : Nat) (kk : Ex → Heap → Option R) (x0 : Int) : Option R :=
  match A.neg x0 with
  | true => none
  | false => match A.lt (A.toN x0) ([65, 66, 67, 68, 69, 70, 71, 72, 73, 74, 75, 76, 77, 78, 79, 80, 81, 82, 83, 84, 85, 86, 87, 88, 89, 90, 97, 98, 99, 100, 101, 102, 103, 104, 105, 106, 107, 108, 109, 110, 111, 112, 113, 114, 115, 116, 117, 118, 119, 120, 121, 122, 48, 49, 50, 51, 52, 53, 54, 55, 56, 57, 43, 47].length) with
    | true => match g23ok A ([65, 66, 67, 68, 69, 70, 71, 72, 73, 74, 75, 76, 77, 78, 79, 80, 81, 82, 83, 84, 85, 86, 87, 88, 89, 90, 97, 98, 99, 100, 101, 102, 103, 104, 105, 106, 107, 108, 109, 110, 111, 112, 113, 114, 115, 116, 117, 118, 119, 120, 121, 122, 48, 49, 50, 51, 52, 53, 54, 55, 56, 57, 43, 47].getD (A.toN x0) 0) with
      | true => kk .normal [(410, ⟨[.one (.ptr 410 0 none), .one (.sl 5002 none (g10b3t0 A x0) 1)], 36, 1⟩), (5002, ⟨[.nums .u8 (g10b3t1 A x0) (g10b3t2 A x0)], 5, 2⟩)]
      | false => none
    | false => none
section
variable {R : Type} {A : Ar} {n : Nat} {kk : Ex → Heap → Option R} {tb : Nat → List Bool → St → Option R} (st : Stp (g10b3N A kk) tb)
include st
theorem g10b3_go {x0 : Int} : Prs (fun k => codeN A gtys (g10b3O A) g10b3an g10b3cut (tb k) [] g10C3 (bdP [410, 5002] kk) ⟨zipS [7] [(i6 x0)] ++ [(3, (pT 410 0)), (6, (.fn 32 [] [(.cell (.ptr 411 0 none)), (.cell (.ptr 412 0 none)), (.cell (.ptr 413 0 none))]))], [(410, ⟨[.one .nilp, .one .nils], 36, 1⟩)]⟩ ) (g10b3 A n kk x0) := by
  unfold g10b3
  exact pc (SxP07bpi _ pn (SxP07bpi _ (SxP07bpi _ (pf _) pn) pn)) (by kernel_rfl)
end
def g10b3v (A : Ar) (x0 : Int) : Option (Ex × Heap) := g10b3 A (10000000) (fun ex h => some (ex, h)) x0
def g10b3is0 (o : Option (Ex × Heap)) : Bool := match o with
  | some (.normal, [(n0, ⟨[.one (.ptr n1 n2 none), .one (.sl n3 none _ n4)], n5, n6⟩), (n7, ⟨[.nums .u8 _ _], n8, n9⟩)]) => Nat.beq n0 410 && (Nat.beq n1 410 && (Nat.beq n2 0 && (Nat.beq n3 5002 && (Nat.beq n4 1 && (Nat.beq n5 36 && (Nat.beq n6 1 && (Nat.beq n7 5002 && (Nat.beq n8 5 && (Nat.beq n9 2)))))))))
  | _ => false
def g10b3g0_0 (o : Option (Ex × Heap)) : Nat := match o with
  | some (.normal, [(_, ⟨[.one (.ptr _ _ none), .one (.sl _ none x _)], _, _⟩), (_, ⟨[.nums .u8 _ _], _, _⟩)]) => x
  | _ => 0
def g10b3g0_1 (o : Option (Ex × Heap)) : Nat := match o with
  | some (.normal, [(_, ⟨[.one (.ptr _ _ none), .one (.sl _ none _ _)], _, _⟩), (_, ⟨[.nums .u8 x _], _, _⟩)]) => x
  | _ => 0
def g10b3g0_2 (o : Option (Ex × Heap)) : List Nat := match o with
  | some (.normal, [(_, ⟨[.one (.ptr _ _ none), .one (.sl _ none _ _)], _, _⟩), (_, ⟨[.nums .u8 _ x], _, _⟩)]) => x
  | _ => []
theorem g10b3is0_spec {o : Option (Ex × Heap)} (h : g10b3is0 o = true) : o = some (.normal, [(410, ⟨[.one (.ptr 410 0 none), .one (.sl 5002 none (g10b3g0_0 o) 1)], 36, 1⟩), (5002, ⟨[.nums .u8 (g10b3g0_1 o) (g10b3g0_2 o)], 5, 2⟩)]) := by
  unfold g10b3is0 at h
  split at h
  · rename_i n0 n1 n2 n3 z4 n4 n5 n6 n7 z9 z10 n8 n9
    simp only [Bool.and_eq_true] at h
    have en0 := beq_true h.1
    subst en0
    replace h := h.2
    have en1 := beq_true h.1
    subst en1
    replace h := h.2
    have en2 := beq_true h.1
    subst en2
    replace h := h.2
    have en3 := beq_true h.1
    subst en3
    replace h := h.2
    have en4 := beq_true h.1
    subst en4
    replace h := h.2
    have en5 := beq_true h.1
    subst en5
    replace h := h.2
    have en6 := beq_true h.1
    subst en6
    replace h := h.2
    have en7 := beq_true h.1
    subst en7
    replace h := h.2
    have en8 := beq_true h.1
    subst en8
    replace h := h.2
    have en9 := beq_true h
    subst en9
    rfl
  · cases h
def g10b3c0 (A : Ar) (x0 : Int) : Bool := g10b3is0 (g10b3v A x0)
def g10b3r0_0 (A : Ar) (x0 : Int) : Nat := g10b3g0_0 (g10b3v A x0)
def g10b3r0_1 (A : Ar) (x0 : Int) : Nat := g10b3g0_1 (g10b3v A x0)
def g10b3r0_2 (A : Ar) (x0 : Int) : List Nat := g10b3g0_2 (g10b3v A x0)
def g10b3G (A : Ar) (sl : Slots) (vs : List AV) (h : Heap) : Option (GL (Ex × Heap)) := match sl, vs, h with
  | [(n0, .v (.cell (.ptr n1 n2 none))), (n3, .fn n4 [] [(.cell (.ptr n5 n6 none)), (.cell (.ptr n7 n8 none)), (.cell (.ptr n9 n10 none))])], [.v (.cell (.int .i64 x0))], [(n11, ⟨[.one .nilp, .one .nils], n12, n13⟩)] => match Nat.beq n0 3 && (Nat.beq n1 410 && (Nat.beq n2 0 && (Nat.beq n3 6 && (Nat.beq n4 32 && (Nat.beq n5 411 && (Nat.beq n6 0 && (Nat.beq n7 412 && (Nat.beq n8 0 && (Nat.beq n9 413 && (Nat.beq n10 0 && (Nat.beq n11 410 && (Nat.beq n12 36 && (Nat.beq n13 1))))))))))))) with
    | true => some [(g10b3c0 A x0, some (.normal, [(410, ⟨[.one (.ptr 410 0 none), .one (.sl 5002 none (g10b3r0_0 A x0) 1)], 36, 1⟩), (5002, ⟨[.nums .u8 (g10b3r0_1 A x0) (g10b3r0_2 A x0)], 5, 2⟩)]))]
    | false => none
  | _, _, _ => none
theorem g10b3G_sound {sl : Slots} {vs : List AV} {h : Heap} {l : GL (Ex × Heap)} (hg : g10b3G realA sl vs h = some l) {ex : Ex} {g' : Heap} (hl : pickG l = some (ex, g')) : BodyH Tryd.prog Tryd.f10.ntmps (rfAs (rfOf 0 (bodyOf Tryd.f10))) (rfBd (rfOf 0 (bodyOf Tryd.f10))) (rfPs (rfOf 0 (bodyOf Tryd.f10))).toList sl vs h ex g' := by
  unfold g10b3G at hg
  split at hg
  · rename_i n0 n1 n2 n3 n4 n5 n6 n7 n8 n9 n10 x0 n11 n12 n13
    split at hg
    case h_2 => cases hg
    rename_i hc0
    simp only [Bool.and_eq_true] at hc0
    have en0 := beq_true hc0.1
    subst en0
    replace hc0 := hc0.2
    have en1 := beq_true hc0.1
    subst en1
    replace hc0 := hc0.2
    have en2 := beq_true hc0.1
    subst en2
    replace hc0 := hc0.2
    have en3 := beq_true hc0.1
    subst en3
    replace hc0 := hc0.2
    have en4 := beq_true hc0.1
    subst en4
    replace hc0 := hc0.2
    have en5 := beq_true hc0.1
    subst en5
    replace hc0 := hc0.2
    have en6 := beq_true hc0.1
    subst en6
    replace hc0 := hc0.2
    have en7 := beq_true hc0.1
    subst en7
    replace hc0 := hc0.2
    have en8 := beq_true hc0.1
    subst en8
    replace hc0 := hc0.2
    have en9 := beq_true hc0.1
    subst en9
    replace hc0 := hc0.2
    have en10 := beq_true hc0.1
    subst en10
    replace hc0 := hc0.2
    have en11 := beq_true hc0.1
    subst en11
    replace hc0 := hc0.2
    have en12 := beq_true hc0.1
    subst en12
    replace hc0 := hc0.2
    have en13 := beq_true hc0
    subst en13
    simp only [Option.some.injEq] at hg
    subst hg
    rcases pickG_cons hl with ⟨hc, hl⟩ | hl
    · simp only [Option.some.injEq, Prod.mk.injEq] at hl
      obtain ⟨rfl, rfl⟩ := hl
      exact bodyH_of2 mixed gtysOK g10b3O_sound g10b3O_det (an := g10b3an) (cut := g10b3cut) (bs := [410, 5002]) (by kernel_rfl) (by kernel_rfl) (by kernel_rfl) (by kernel_rfl) (by kernel_rfl) (by kernel_rfl) (show g10b3v realA x0 = _ from g10b3is0_spec hc) fun _ st => g10b3_go st
    cases hl
  · cases hg
def g10b3a_O (A : Ar) : Orc := orcH [] [(23, ⟨[0, 1], none, (ho2 (g23o A) (g23a_o A))⟩)]
theorem g10b3a_O_sound : OSound Tryd.prog (g10b3a_O realA) := orcH_sound (fun f g hm args v hv => by
    cases hm) (fun f e hm args h v h' hv => by
    simp only [List.mem_cons, List.not_mem_nil, or_false, Prod.mk.injEq] at hm
    rcases hm with ⟨rfl, rfl⟩
    · exact (ho2_sound g23o_sound g23a_o_sound) _ _ _ _ hv)
theorem g10b3a_O_det : ODet (g10b3a_O realA) := orcH_det _ _
def g10b3a_an : Ann := [(3, ([3, 7], [410, 500])), (4, ([3, 4], [410, 500])), (1000005, ([7000, 5002], [500, 500])), (3000003, ([2000, 3001, 3501, 3502], [410, 411, 412, 413]))]
def g10b3a_cut : List Nat := []
abbrev g10b3a_t0 (A : Ar) (x0 : Int) (x1 x2 : Nat) (x3 : List Nat) : Nat := g23a_r0 A ([65, 66, 67, 68, 69, 70, 71, 72, 73, 74, 75, 76, 77, 78, 79, 80, 81, 82, 83, 84, 85, 86, 87, 88, 89, 90, 97, 98, 99, 100, 101, 102, 103, 104, 105, 106, 107, 108, 109, 110, 111, 112, 113, 114, 115, 116, 117, 118, 119, 120, 121, 122, 48, 49, 50, 51, 52, 53, 54, 55, 56, 57, 43, 47].getD (A.toN x0) 0) x1 x2 x3
abbrev g10b3a_t1 (A : Ar) (x0 : Int) (x1 x2 : Nat) (x3 : List Nat) : Nat := g23a_r1 A ([65, 66, 67, 68, 69, 70, 71, 72, 73, 74, 75, 76, 77, 78, 79, 80, 81, 82, 83, 84, 85, 86, 87, 88, 89, 90, 97, 98, 99, 100, 101, 102, 103, 104, 105, 106, 107, 108, 109, 110, 111, 112, 113, 114, 115, 116, 117, 118, 119, 120, 121, 122, 48, 49, 50, 51, 52, 53, 54, 55, 56, 57, 43, 47].getD (A.toN x0) 0) x1 x2 x3
abbrev g10b3a_t2 (A : Ar) (x0 : Int) (x1 x2 : Nat) (x3 : List Nat) : List Nat := g23a_r2 A ([65, 66, 67, 68, 69, 70, 71, 72, 73, 74, 75, 76, 77, 78, 79, 80, 81, 82, 83, 84, 85, 86, 87, 88, 89, 90, 97, 98, 99, 100, 101, 102, 103, 104, 105, 106, 107, 108, 109, 110, 111, 112, 113, 114, 115, 116, 117, 118, 119, 120, 121, 122, 48, 49, 50, 51, 52, 53, 54, 55, 56, 57, 43, 47].getD (A.toN x0) 0) x1 x2 x3
noncomputable def g10b3a_N {R : Type} (A : Ar) (kk : Ex → Heap → Option R) (t : List Bool → St → Option R) (p : List Bool) (s : St) : Option R := nodeN A gtys (g10b3a_O A) g10b3a_an g10b3a_cut t g10C3 (bdP [410, 500] kk) p s
def g10b3a_ {R : Type} (A : Ar) (n : Nat) (kk : Ex → Heap → Option R) (x0 : Int) (x1 x2 : Nat) (x3 : List Nat) : Option R :=
  match A.neg x0 with
  | true => none
  | false => match A.lt (A.toN x0) ([65, 66, 67, 68, 69, 70, 71, 72, 73, 74, 75, 76, 77, 78, 79, 80, 81, 82, 83, 84, 85, 86, 87, 88, 89, 90, 97, 98, 99, 100, 101, 102, 103, 104, 105, 106, 107, 108, 109, 110, 111, 112, 113, 114, 115, 116, 117, 118, 119, 120, 121, 122, 48, 49, 50, 51, 52, 53, 54, 55, 56, 57, 43, 47].length) with
    | true => match g23a_ok A ([65, 66, 67, 68, 69, 70, 71, 72, 73, 74, 75, 76, 77, 78, 79, 80, 81, 82, 83, 84, 85, 86, 87, 88, 89, 90, 97, 98, 99, 100, 101, 102, 103, 104, 105, 106, 107, 108, 109, 110, 111, 112, 113, 114, 115, 116, 117, 118, 119, 120, 121, 122, 48, 49, 50, 51, 52, 53, 54, 55, 56, 57, 43, 47].getD (A.toN x0) 0) x1 x2 x3 with
      | true => kk .normal [(410, ⟨[.one (.ptr 410 0 none), .one (.sl 500 none (g10b3a_t0 A x0 x1 x2 x3) 1)], 36, 1⟩), (500, ⟨[.nums .u8 (g10b3a_t1 A x0 x1 x2 x3) (g10b3a_t2 A x0 x1 x2 x3)], 5, 2⟩)]
      | false => none
    | false => none
section
variable {R : Type} {A : Ar} {n : Nat} {kk : Ex → Heap → Option R} {tb : Nat → List Bool → St → Option R} (st : Stp (g10b3a_N A kk) tb)
include st
theorem g10b3a__go {x0 : Int} {x1 : Nat} {x2 : Nat} {x3 : List Nat} : Prs (fun k => codeN A gtys (g10b3a_O A) g10b3a_an g10b3a_cut (tb k) [] g10C3 (bdP [410, 500] kk) ⟨zipS [7] [(i6 x0)] ++ [(3, (pT 410 0)), (6, (.fn 32 [] [(.cell (.ptr 411 0 none)), (.cell (.ptr 412 0 none)), (.cell (.ptr 413 0 none))]))], [(410, ⟨[.one (.ptr 410 0 none), .one (.sl 500 none x1 1)], 36, 1⟩), (500, ⟨[.nums .u8 x2 x3], 5, 2⟩)]⟩ ) (g10b3a_ A n kk x0 x1 x2 x3) := by
  unfold g10b3a_
  exact pc (SxP07bpi _ pn (SxP07bpi _ (SxP07bpi _ (pf _) pn) pn)) (by kernel_rfl)
end
def g10b3a_v (A : Ar) (x0 : Int) (x1 x2 : Nat) (x3 : List Nat) : Option (Ex × Heap) := g10b3a_ A (10000000) (fun ex h => some (ex, h)) x0 x1 x2 x3
def g10b3a_is0 (o : Option (Ex × Heap)) : Bool := match o with
  | some (.normal, [(n0, ⟨[.one (.ptr n1 n2 none), .one (.sl n3 none _ n4)], n5, n6⟩), (n7, ⟨[.nums .u8 _ _], n8, n9⟩)]) => Nat.beq n0 410 && (Nat.beq n1 410 && (Nat.beq n2 0 && (Nat.beq n3 500 && (Nat.beq n4 1 && (Nat.beq n5 36 && (Nat.beq n6 1 && (Nat.beq n7 500 && (Nat.beq n8 5 && (Nat.beq n9 2)))))))))
  | _ => false
def g10b3a_g0_0 (o : Option (Ex × Heap)) : Nat := match o with
  | some (.normal, [(_, ⟨[.one (.ptr _ _ none), .one (.sl _ none x _)], _, _⟩), (_, ⟨[.nums .u8 _ _], _, _⟩)]) => x
  | _ => 0
def g10b3a_g0_1 (o : Option (Ex × Heap)) : Nat := match o with
  | some (.normal, [(_, ⟨[.one (.ptr _ _ none), .one (.sl _ none _ _)], _, _⟩), (_, ⟨[.nums .u8 x _], _, _⟩)]) => x
  | _ => 0
def g10b3a_g0_2 (o : Option (Ex × Heap)) : List Nat := match o with
  | some (.normal, [(_, ⟨[.one (.ptr _ _ none), .one (.sl _ none _ _)], _, _⟩), (_, ⟨[.nums .u8 _ x], _, _⟩)]) => x
  | _ => []
theorem g10b3a_is0_spec {o : Option (Ex × Heap)} (h : g10b3a_is0 o = true) : o = some (.normal, [(410, ⟨[.one (.ptr 410 0 none), .one (.sl 500 none (g10b3a_g0_0 o) 1)], 36, 1⟩), (500, ⟨[.nums .u8 (g10b3a_g0_1 o) (g10b3a_g0_2 o)], 5, 2⟩)]) := by
  unfold g10b3a_is0 at h
  split at h
  · rename_i n0 n1 n2 n3 z4 n4 n5 n6 n7 z9 z10 n8 n9
    simp only [Bool.and_eq_true] at h
    have en0 := beq_true h.1
    subst en0
    replace h := h.2
    have en1 := beq_true h.1
    subst en1
    replace h := h.2
    have en2 := beq_true h.1
    subst en2
    replace h := h.2
    have en3 := beq_true h.1
    subst en3
    replace h := h.2
    have en4 := beq_true h.1
    subst en4
    replace h := h.2
    have en5 := beq_true h.1
    subst en5
    replace h := h.2
    have en6 := beq_true h.1
    subst en6
    replace h := h.2
    have en7 := beq_true h.1
    subst en7
    replace h := h.2
    have en8 := beq_true h.1
    subst en8
    replace h := h.2
    have en9 := beq_true h
    subst en9
    rfl
  · cases h
def g10b3a_c0 (A : Ar) (x0 : Int) (x1 x2 : Nat) (x3 : List Nat) : Bool := g10b3a_is0 (g10b3a_v A x0 x1 x2 x3)
def g10b3a_r0_0 (A : Ar) (x0 : Int) (x1 x2 : Nat) (x3 : List Nat) : Nat := g10b3a_g0_0 (g10b3a_v A x0 x1 x2 x3)
def g10b3a_r0_1 (A : Ar) (x0 : Int) (x1 x2 : Nat) (x3 : List Nat) : Nat := g10b3a_g0_1 (g10b3a_v A x0 x1 x2 x3)
def g10b3a_r0_2 (A : Ar) (x0 : Int) (x1 x2 : Nat) (x3 : List Nat) : List Nat := g10b3a_g0_2 (g10b3a_v A x0 x1 x2 x3)
def g10b3a_G (A : Ar) (sl : Slots) (vs : List AV) (h : Heap) : Option (GL (Ex × Heap)) := match sl, vs, h with
  | [(n0, .v (.cell (.ptr n1 n2 none))), (n3, .fn n4 [] [(.cell (.ptr n5 n6 none)), (.cell (.ptr n7 n8 none)), (.cell (.ptr n9 n10 none))])], [.v (.cell (.int .i64 x0))], [(n11, ⟨[.one (.ptr n12 n13 none), .one (.sl n14 none x1 n15)], n16, n17⟩), (n18, ⟨[.nums .u8 x2 x3], n19, n20⟩)] => match Nat.beq n0 3 && (Nat.beq n1 410 && (Nat.beq n2 0 && (Nat.beq n3 6 && (Nat.beq n4 32 && (Nat.beq n5 411 && (Nat.beq n6 0 && (Nat.beq n7 412 && (Nat.beq n8 0 && (Nat.beq n9 413 && (Nat.beq n10 0 && (Nat.beq n11 410 && (Nat.beq n12 410 && (Nat.beq n13 0 && (Nat.beq n14 500 && (Nat.beq n15 1 && (Nat.beq n16 36 && (Nat.beq n17 1 && (Nat.beq n18 500 && (Nat.beq n19 5 && (Nat.beq n20 2)))))))))))))))))))) with
    | true => some [(g10b3a_c0 A x0 x1 x2 x3, some (.normal, [(410, ⟨[.one (.ptr 410 0 none), .one (.sl 500 none (g10b3a_r0_0 A x0 x1 x2 x3) 1)], 36, 1⟩), (500, ⟨[.nums .u8 (g10b3a_r0_1 A x0 x1 x2 x3) (g10b3a_r0_2 A x0 x1 x2 x3)], 5, 2⟩)]))]
    | false => none
  | _, _, _ => none
theorem g10b3a_G_sound {sl : Slots} {vs : List AV} {h : Heap} {l : GL (Ex × Heap)} (hg : g10b3a_G realA sl vs h = some l) {ex : Ex} {g' : Heap} (hl : pickG l = some (ex, g')) : BodyH Tryd.prog Tryd.f10.ntmps (rfAs (rfOf 0 (bodyOf Tryd.f10))) (rfBd (rfOf 0 (bodyOf Tryd.f10))) (rfPs (rfOf 0 (bodyOf Tryd.f10))).toList sl vs h ex g' := by
  unfold g10b3a_G at hg
  split at hg
  · rename_i n0 n1 n2 n3 n4 n5 n6 n7 n8 n9 n10 x0 n11 n12 n13 n14 x1 n15 n16 n17 n18 x2 x3 n19 n20
    split at hg
    case h_2 => cases hg
    rename_i hc0
    simp only [Bool.and_eq_true] at hc0
    have en0 := beq_true hc0.1
    subst en0
    replace hc0 := hc0.2
    have en1 := beq_true hc0.1
    subst en1
    replace hc0 := hc0.2
    have en2 := beq_true hc0.1
    subst en2
    replace hc0 := hc0.2
    have en3 := beq_true hc0.1
    subst en3
    replace hc0 := hc0.2
    have en4 := beq_true hc0.1
    subst en4
    replace hc0 := hc0.2
    have en5 := beq_true hc0.1
    subst en5
    replace hc0 := hc0.2
    have en6 := beq_true hc0.1
    subst en6
    replace hc0 := hc0.2
    have en7 := beq_true hc0.1
    subst en7
    replace hc0 := hc0.2
    have en8 := beq_true hc0.1
    subst en8
    replace hc0 := hc0.2
    have en9 := beq_true hc0.1
    subst en9
    replace hc0 := hc0.2
    have en10 := beq_true hc0.1
    subst en10
    replace hc0 := hc0.2
    have en11 := beq_true hc0.1
    subst en11
    replace hc0 := hc0.2
    have en12 := beq_true hc0.1
    subst en12
    replace hc0 := hc0.2
    have en13 := beq_true hc0.1
    subst en13
    replace hc0 := hc0.2
    have en14 := beq_true hc0.1
    subst en14
    replace hc0 := hc0.2
    have en15 := beq_true hc0.1
    subst en15
    replace hc0 := hc0.2
    have en16 := beq_true hc0.1
    subst en16
    replace hc0 := hc0.2
    have en17 := beq_true hc0.1
    subst en17
    replace hc0 := hc0.2
    have en18 := beq_true hc0.1
    subst en18
    replace hc0 := hc0.2
    have en19 := beq_true hc0.1
    subst en19
    replace hc0 := hc0.2
    have en20 := beq_true hc0
    subst en20
    simp only [Option.some.injEq] at hg
    subst hg
    rcases pickG_cons hl with ⟨hc, hl⟩ | hl
    · simp only [Option.some.injEq, Prod.mk.injEq] at hl
      obtain ⟨rfl, rfl⟩ := hl
      exact bodyH_of2 mixed gtysOK g10b3a_O_sound g10b3a_O_det (an := g10b3a_an) (cut := g10b3a_cut) (bs := [410, 500]) (by kernel_rfl) (by kernel_rfl) (by kernel_rfl) (by kernel_rfl) (by kernel_rfl) (by kernel_rfl) (show g10b3a_v realA x0 x1 x2 x3 = _ from g10b3a_is0_spec hc) fun _ st => g10b3a__go st
    cases hl
  · cases hg
def g10B3 (A : Ar) (sl : Slots) (vs : List AV) (h : Heap) : GL (Ex × Heap) := match g10b3G A sl vs h with
    | some l => l
    | none => match g10b3a_G A sl vs h with
    | some l => l
    | none => []
theorem g10B3_sound {sl : Slots} {vs : List AV} {h : Heap} {ex : Ex} {g' : Heap} (hl : pickG (g10B3 realA sl vs h) = some (ex, g')) : BodyH Tryd.prog Tryd.f10.ntmps (rfAs (rfOf 0 (bodyOf Tryd.f10))) (rfBd (rfOf 0 (bodyOf Tryd.f10))) (rfPs (rfOf 0 (bodyOf Tryd.f10))).toList sl vs h ex g' := by
  unfold g10B3 at hl
  split at hl
  · rename_i l hg
    exact g10b3G_sound hg hl
  split at hl
  · rename_i l hg
    exact g10b3a_G_sound hg hl
  cases hl
def g10i3BO (A : Ar) : Orc := orcOf []
theorem g10i3BO_sound : OSound Tryd.prog (g10i3BO realA) := orc_sound fun f g hm args v hv => by
  cases hm
theorem g10i3BO_det : ODet (g10i3BO realA) := orc_det _
def g10i3U (A : Ar) (sl : Slots) : Orc := { g10i3BO A with ylg := yRoundG [411, 412, 413, 448] 1 (g10B3 A sl), tk := true, pb := 450 }
def g10i3O (A : Ar) : Orc := g10i3U A [(3, (pT 410 0)), (6, (.fn 32 [] [(.cell (.ptr 411 0 none)), (.cell (.ptr 412 0 none)), (.cell (.ptr 413 0 none))]))]
def g10i3an : Ann := [(0, ([0, 1, 2, 3], [410, 411, 412, 413, 448])), (1, ([0, 1, 2, 3, 5, 6], [410, 411, 412, 413, 448])), (2, ([0, 1, 2, 3, 5, 6, 9, 10], [410, 411, 412, 413, 448, 500])), (3, ([0, 1, 2, 3, 5, 6, 9, 10], [410, 411, 412, 413, 448, 500])), (4, ([0, 1, 2, 3, 5, 6, 7, 9, 10], [410, 411, 412, 413, 448, 500])), (5, ([0, 1, 2, 3, 5, 6, 9, 10], [410, 411, 412, 413, 448, 500, 5002])), (6, ([0, 1, 2, 3, 5, 6, 9, 10], [410, 411, 412, 413, 448, 500])), (7, ([0, 1, 2, 3, 5, 6, 9, 10], [410, 411, 412, 413, 448, 500])), (8, ([0, 1, 2, 3, 5, 6, 9, 10], [410, 411, 412, 413, 448, 500])), (9, ([0, 1, 2, 3, 5, 6, 9, 10], [410, 411, 412, 413, 448, 500])), (10, ([0, 3, 5, 6], [410, 411, 412, 413, 448, 500])), (11, ([0, 3, 5, 6], [410, 411, 412, 413, 448, 500])), (1000002, ([5002, 13004], [500, 500])), (1000005, ([5002, 13004], [500, 500]))]
def g10i3res : List ResultVar := []
def g10i3cut : List Nat := [3, 6, 8, 10]
noncomputable def g10i3N {R : Type} (A : Ar) (kk : AV → Heap → Option R) (t : List Bool → St → Option R) (p : List Bool) (s : St) : Option R := nodeN A gtys (g10i3O A) g10i3an g10i3cut t (bodyOf Tryd.f32) (finD gtys g10i3res kk) p s
def g10i3J6as (x0 x1 : Int) (x2 x3 : Int) (x4 : Nat) (x5 : List Nat) (x6 x7 : Int) (x8 : Nat) (x9 : List Nat) : St := ⟨[(0, (.yld 449)), (1, (pT 411 0)), (2, (pT 412 0)), (3, (pT 413 0)), (5, (i6 x0)), (6, (i6 x1)), (9, (i6 x2)), (10, (i6 x3))], [(410, ⟨[.one (.ptr 410 0 none), .one (.sl 500 none x4 1)], 36, 1⟩), (411, ⟨[.one (.str x5)], 9, 1⟩), (412, ⟨[.one (.int .i64 x6)], 3, 1⟩), (413, ⟨[.one (.int .i64 x7)], 3, 1⟩), (448, ⟨[], 0, 0⟩), (500, ⟨[.nums .u8 x8 x9], 5, 2⟩)]⟩
def g10i3J6a {R : Type} (A : Ar) (n : Nat) (kk : AV → Heap → Option R) (lg10i3L5a : Int → Int → Int → Int → Nat → List Nat → Int → Int → Nat → List Nat → Option R) (x0 x1 : Int) (x2 x3 : Int) (x4 : Nat) (x5 : List Nat) (x6 x7 : Int) (x8 : Nat) (x9 : List Nat) : Option R :=
  match A.neg (A.ib .sub .i64 x0 x7) with
  | true => none
  | false => match A.neg x7 with
    | true => none
    | false => match g10b3a_c0 A (A.ib .and .i64 (A.ish .shr .i64 x1 (A.toN (A.ib .sub .i64 x0 x7))) (A.ib .sub .i64 (A.ish .shl .i64 1 (A.toN x7)) 1)) x4 x8 x9 with
      | true => lg10i3L5a (A.ib .sub .i64 x0 x7) x1 x2 x3 (g10b3a_r0_0 A (A.ib .and .i64 (A.ish .shr .i64 x1 (A.toN (A.ib .sub .i64 x0 x7))) (A.ib .sub .i64 (A.ish .shl .i64 1 (A.toN x7)) 1)) x4 x8 x9) x5 x6 x7 (g10b3a_r0_1 A (A.ib .and .i64 (A.ish .shr .i64 x1 (A.toN (A.ib .sub .i64 x0 x7))) (A.ib .sub .i64 (A.ish .shl .i64 1 (A.toN x7)) 1)) x4 x8 x9) (g10b3a_r0_2 A (A.ib .and .i64 (A.ish .shr .i64 x1 (A.toN (A.ib .sub .i64 x0 x7))) (A.ib .sub .i64 (A.ish .shl .i64 1 (A.toN x7)) 1)) x4 x8 x9)
      | false => none
def g10i3J8s (x0 x1 : Int) (x2 x3 : Int) (x4 : Nat) (x5 : List Nat) (x6 x7 : Int) (x8 : Nat) (x9 : List Nat) : St := ⟨[(0, (.yld 449)), (1, (pT 411 0)), (2, (pT 412 0)), (3, (pT 413 0)), (5, (i6 x0)), (6, (i6 x1)), (9, (i6 x2)), (10, (i6 x3))], [(410, ⟨[.one (.ptr 410 0 none), .one (.sl 500 none x4 1)], 36, 1⟩), (411, ⟨[.one (.str x5)], 9, 1⟩), (412, ⟨[.one (.int .i64 x6)], 3, 1⟩), (413, ⟨[.one (.int .i64 x7)], 3, 1⟩), (448, ⟨[], 0, 0⟩), (500, ⟨[.nums .u8 x8 x9], 5, 2⟩)]⟩
def g10i3J8 {R : Type} (A : Ar) (n : Nat) (kk : AV → Heap → Option R) (lg10i3L2a : Int → Int → Int → Int → Nat → List Nat → Int → Int → Nat → List Nat → Option R) (x0 x1 : Int) (x2 x3 : Int) (x4 : Nat) (x5 : List Nat) (x6 x7 : Int) (x8 : Nat) (x9 : List Nat) : Option R :=
  match A.neg x0 with
  | true => none
  | false => lg10i3L2a x0 (A.ib .and .i64 x1 (A.ib .sub .i64 (A.ish .shl .i64 1 (A.toN x0)) 1)) x2 (A.ib .add .i64 x3 1) x4 x5 x6 x7 x8 x9
def g10i3L5as (x0 x1 : Int) (x2 x3 : Int) (x4 : Nat) (x5 : List Nat) (x6 x7 : Int) (x8 : Nat) (x9 : List Nat) : St := ⟨[(0, (.yld 449)), (1, (pT 411 0)), (2, (pT 412 0)), (3, (pT 413 0)), (5, (i6 x0)), (6, (i6 x1)), (9, (i6 x2)), (10, (i6 x3))], [(410, ⟨[.one (.ptr 410 0 none), .one (.sl 500 none x4 1)], 36, 1⟩), (411, ⟨[.one (.str x5)], 9, 1⟩), (412, ⟨[.one (.int .i64 x6)], 3, 1⟩), (413, ⟨[.one (.int .i64 x7)], 3, 1⟩), (448, ⟨[], 0, 0⟩), (500, ⟨[.nums .u8 x8 x9], 5, 2⟩)]⟩
def g10i3L5a {R : Type} (A : Ar) (n : Nat) (kk : AV → Heap → Option R) (lg10i3L2a : Int → Int → Int → Int → Nat → List Nat → Int → Int → Nat → List Nat → Option R) : Nat → Int → Int → Int → Int → Nat → List Nat → Int → Int → Nat → List Nat → Option R
  | 0, _, _, _, _, _, _, _, _, _, _ => none
  | m + 1, x0, x1, x2, x3, x4, x5, x6, x7, x8, x9 => match A.ic .geq x0 x7 with
  | true => g10i3J6a A n kk (g10i3L5a A n kk lg10i3L2a m) x0 x1 x2 x3 x4 x5 x6 x7 x8 x9
  | false => g10i3J8 A n kk lg10i3L2a x0 x1 x2 x3 x4 x5 x6 x7 x8 x9
def g10i3J3as (x0 x1 : Int) (x2 x3 : Int) (x4 : Nat) (x5 : List Nat) (x6 x7 : Int) (x8 : Nat) (x9 : List Nat) : St := ⟨[(0, (.yld 449)), (1, (pT 411 0)), (2, (pT 412 0)), (3, (pT 413 0)), (5, (i6 x0)), (6, (i6 x1)), (9, (i6 x2)), (10, (i6 x3))], [(410, ⟨[.one (.ptr 410 0 none), .one (.sl 500 none x4 1)], 36, 1⟩), (411, ⟨[.one (.str x5)], 9, 1⟩), (412, ⟨[.one (.int .i64 x6)], 3, 1⟩), (413, ⟨[.one (.int .i64 x7)], 3, 1⟩), (448, ⟨[], 0, 0⟩), (500, ⟨[.nums .u8 x8 x9], 5, 2⟩)]⟩
def g10i3J3a {R : Type} (A : Ar) (n : Nat) (kk : AV → Heap → Option R) (lg10i3L2a : Int → Int → Int → Int → Nat → List Nat → Int → Int → Nat → List Nat → Option R) (x0 x1 : Int) (x2 x3 : Int) (x4 : Nat) (x5 : List Nat) (x6 x7 : Int) (x8 : Nat) (x9 : List Nat) : Option R :=
  match A.neg x6 with
  | true => none
  | false => match A.neg x3 with
    | true => none
    | false => match A.lt (A.toN x3) x5.length with
      | true => g10i3L5a A n kk lg10i3L2a n (A.ib .add .i64 x0 x6) (A.ib .or .i64 (A.ish .shl .i64 x1 (A.toN x6)) (A.ofN (x5.getD (A.toN x3) 0))) x2 x3 x4 x5 x6 x7 x8 x9
      | false => none
def g10i3J10s (x0 x1 : Int) (x2 : Nat) (x3 : List Nat) (x4 x5 : Int) (x6 : Nat) (x7 : List Nat) : St := ⟨[(0, (.yld 449)), (3, (pT 413 0)), (5, (i6 x0)), (6, (i6 x1))], [(410, ⟨[.one (.ptr 410 0 none), .one (.sl 500 none x2 1)], 36, 1⟩), (411, ⟨[.one (.str x3)], 9, 1⟩), (412, ⟨[.one (.int .i64 x4)], 3, 1⟩), (413, ⟨[.one (.int .i64 x5)], 3, 1⟩), (448, ⟨[], 0, 0⟩), (500, ⟨[.nums .u8 x6 x7], 5, 2⟩)]⟩
def g10i3J10 {R : Type} (A : Ar) (n : Nat) (kk : AV → Heap → Option R)  (x0 x1 : Int) (x2 : Nat) (x3 : List Nat) (x4 x5 : Int) (x6 : Nat) (x7 : List Nat) : Option R :=
  match A.ic .gtr x0 0 with
  | true => match A.neg (A.ib .sub .i64 x5 x0) with
    | true => none
    | false => match A.neg x5 with
      | true => none
      | false => match g10b3a_c0 A (A.ib .and .i64 (A.ish .shl .i64 x1 (A.toN (A.ib .sub .i64 x5 x0))) (A.ib .sub .i64 (A.ish .shl .i64 1 (A.toN x5)) 1)) x2 x6 x7 with
        | true => kk (.tup []) [(411, ⟨[.one (.str x3)], 9, 1⟩), (412, ⟨[.one (.int .i64 x4)], 3, 1⟩), (413, ⟨[.one (.int .i64 x5)], 3, 1⟩), (448, ⟨[], 0, 0⟩), (410, ⟨[.one (.ptr 410 0 none), .one (.sl 500 none (g10b3a_r0_0 A (A.ib .and .i64 (A.ish .shl .i64 x1 (A.toN (A.ib .sub .i64 x5 x0))) (A.ib .sub .i64 (A.ish .shl .i64 1 (A.toN x5)) 1)) x2 x6 x7) 1)], 36, 1⟩), (500, ⟨[.nums .u8 (g10b3a_r0_1 A (A.ib .and .i64 (A.ish .shl .i64 x1 (A.toN (A.ib .sub .i64 x5 x0))) (A.ib .sub .i64 (A.ish .shl .i64 1 (A.toN x5)) 1)) x2 x6 x7) (g10b3a_r0_2 A (A.ib .and .i64 (A.ish .shl .i64 x1 (A.toN (A.ib .sub .i64 x5 x0))) (A.ib .sub .i64 (A.ish .shl .i64 1 (A.toN x5)) 1)) x2 x6 x7)], 5, 2⟩)]
        | false => none
  | false => kk (.tup []) [(410, ⟨[.one (.ptr 410 0 none), .one (.sl 500 none x2 1)], 36, 1⟩), (411, ⟨[.one (.str x3)], 9, 1⟩), (412, ⟨[.one (.int .i64 x4)], 3, 1⟩), (413, ⟨[.one (.int .i64 x5)], 3, 1⟩), (448, ⟨[], 0, 0⟩), (500, ⟨[.nums .u8 x6 x7], 5, 2⟩)]
def g10i3L2as (x0 x1 : Int) (x2 x3 : Int) (x4 : Nat) (x5 : List Nat) (x6 x7 : Int) (x8 : Nat) (x9 : List Nat) : St := ⟨[(0, (.yld 449)), (1, (pT 411 0)), (2, (pT 412 0)), (3, (pT 413 0)), (5, (i6 x0)), (6, (i6 x1)), (9, (i6 x2)), (10, (i6 x3))], [(410, ⟨[.one (.ptr 410 0 none), .one (.sl 500 none x4 1)], 36, 1⟩), (411, ⟨[.one (.str x5)], 9, 1⟩), (412, ⟨[.one (.int .i64 x6)], 3, 1⟩), (413, ⟨[.one (.int .i64 x7)], 3, 1⟩), (448, ⟨[], 0, 0⟩), (500, ⟨[.nums .u8 x8 x9], 5, 2⟩)]⟩
def g10i3L2a {R : Type} (A : Ar) (n : Nat) (kk : AV → Heap → Option R)  : Nat → Int → Int → Int → Int → Nat → List Nat → Int → Int → Nat → List Nat → Option R
  | 0, _, _, _, _, _, _, _, _, _, _ => none
  | m + 1, x0, x1, x2, x3, x4, x5, x6, x7, x8, x9 => match A.ic .lss x3 x2 with
  | true => g10i3J3a A n kk (g10i3L2a A n kk  m) x0 x1 x2 x3 x4 x5 x6 x7 x8 x9
  | false => g10i3J10 A n kk  x0 x1 x4 x5 x6 x7 x8 x9
def g10i3J6s (x0 x1 : Int) (x2 x3 : Int) (x4 : List Nat) (x5 x6 : Int) : St := ⟨[(0, (.yld 449)), (1, (pT 411 0)), (2, (pT 412 0)), (3, (pT 413 0)), (5, (i6 x0)), (6, (i6 x1)), (9, (i6 x2)), (10, (i6 x3))], [(410, ⟨[.one .nilp, .one .nils], 36, 1⟩), (411, ⟨[.one (.str x4)], 9, 1⟩), (412, ⟨[.one (.int .i64 x5)], 3, 1⟩), (413, ⟨[.one (.int .i64 x6)], 3, 1⟩), (448, ⟨[], 0, 0⟩)]⟩
def g10i3J6 {R : Type} (A : Ar) (n : Nat) (kk : AV → Heap → Option R) (lg10i3L5a : Int → Int → Int → Int → Nat → List Nat → Int → Int → Nat → List Nat → Option R) (x0 x1 : Int) (x2 x3 : Int) (x4 : List Nat) (x5 x6 : Int) : Option R :=
  match A.neg (A.ib .sub .i64 x0 x6) with
  | true => none
  | false => match A.neg x6 with
    | true => none
    | false => match g10b3c0 A (A.ib .and .i64 (A.ish .shr .i64 x1 (A.toN (A.ib .sub .i64 x0 x6))) (A.ib .sub .i64 (A.ish .shl .i64 1 (A.toN x6)) 1)) with
      | true => lg10i3L5a (A.ib .sub .i64 x0 x6) x1 x2 x3 (g10b3r0_0 A (A.ib .and .i64 (A.ish .shr .i64 x1 (A.toN (A.ib .sub .i64 x0 x6))) (A.ib .sub .i64 (A.ish .shl .i64 1 (A.toN x6)) 1))) x4 x5 x6 (g10b3r0_1 A (A.ib .and .i64 (A.ish .shr .i64 x1 (A.toN (A.ib .sub .i64 x0 x6))) (A.ib .sub .i64 (A.ish .shl .i64 1 (A.toN x6)) 1))) (g10b3r0_2 A (A.ib .and .i64 (A.ish .shr .i64 x1 (A.toN (A.ib .sub .i64 x0 x6))) (A.ib .sub .i64 (A.ish .shl .i64 1 (A.toN x6)) 1)))
      | false => none
def g10i3J8as (x0 x1 : Int) (x2 x3 : Int) (x4 : List Nat) (x5 x6 : Int) : St := ⟨[(0, (.yld 449)), (1, (pT 411 0)), (2, (pT 412 0)), (3, (pT 413 0)), (5, (i6 x0)), (6, (i6 x1)), (9, (i6 x2)), (10, (i6 x3))], [(410, ⟨[.one .nilp, .one .nils], 36, 1⟩), (411, ⟨[.one (.str x4)], 9, 1⟩), (412, ⟨[.one (.int .i64 x5)], 3, 1⟩), (413, ⟨[.one (.int .i64 x6)], 3, 1⟩), (448, ⟨[], 0, 0⟩)]⟩
def g10i3J8a {R : Type} (A : Ar) (n : Nat) (kk : AV → Heap → Option R) (lg10i3L2 : Int → Int → Int → Int → List Nat → Int → Int → Option R) (x0 x1 : Int) (x2 x3 : Int) (x4 : List Nat) (x5 x6 : Int) : Option R :=
  match A.neg x0 with
  | true => none
  | false => lg10i3L2 x0 (A.ib .and .i64 x1 (A.ib .sub .i64 (A.ish .shl .i64 1 (A.toN x0)) 1)) x2 (A.ib .add .i64 x3 1) x4 x5 x6
def g10i3L5s (x0 x1 : Int) (x2 x3 : Int) (x4 : List Nat) (x5 x6 : Int) : St := ⟨[(0, (.yld 449)), (1, (pT 411 0)), (2, (pT 412 0)), (3, (pT 413 0)), (5, (i6 x0)), (6, (i6 x1)), (9, (i6 x2)), (10, (i6 x3))], [(410, ⟨[.one .nilp, .one .nils], 36, 1⟩), (411, ⟨[.one (.str x4)], 9, 1⟩), (412, ⟨[.one (.int .i64 x5)], 3, 1⟩), (413, ⟨[.one (.int .i64 x6)], 3, 1⟩), (448, ⟨[], 0, 0⟩)]⟩
def g10i3L5 {R : Type} (A : Ar) (n : Nat) (kk : AV → Heap → Option R) (lg10i3L2 : Int → Int → Int → Int → List Nat → Int → Int → Option R) (lg10i3L2a : Int → Int → Int → Int → Nat → List Nat → Int → Int → Nat → List Nat → Option R) : Nat → Int → Int → Int → Int → List Nat → Int → Int → Option R
  | 0, _, _, _, _, _, _, _ => none
  | m + 1, x0, x1, x2, x3, x4, x5, x6 => match A.ic .geq x0 x6 with
  | true => g10i3J6 A n kk (g10i3L5a A n kk lg10i3L2a m) x0 x1 x2 x3 x4 x5 x6
  | false => g10i3J8a A n kk lg10i3L2 x0 x1 x2 x3 x4 x5 x6
def g10i3J3s (x0 x1 : Int) (x2 x3 : Int) (x4 : List Nat) (x5 x6 : Int) : St := ⟨[(0, (.yld 449)), (1, (pT 411 0)), (2, (pT 412 0)), (3, (pT 413 0)), (5, (i6 x0)), (6, (i6 x1)), (9, (i6 x2)), (10, (i6 x3))], [(410, ⟨[.one .nilp, .one .nils], 36, 1⟩), (411, ⟨[.one (.str x4)], 9, 1⟩), (412, ⟨[.one (.int .i64 x5)], 3, 1⟩), (413, ⟨[.one (.int .i64 x6)], 3, 1⟩), (448, ⟨[], 0, 0⟩)]⟩
def g10i3J3 {R : Type} (A : Ar) (n : Nat) (kk : AV → Heap → Option R) (lg10i3L2 : Int → Int → Int → Int → List Nat → Int → Int → Option R) (lg10i3L2a : Int → Int → Int → Int → Nat → List Nat → Int → Int → Nat → List Nat → Option R) (x0 x1 : Int) (x2 x3 : Int) (x4 : List Nat) (x5 x6 : Int) : Option R :=
  match A.neg x5 with
  | true => none
  | false => match A.neg x3 with
    | true => none
    | false => match A.lt (A.toN x3) x4.length with
      | true => g10i3L5 A n kk lg10i3L2 lg10i3L2a n (A.ib .add .i64 x0 x5) (A.ib .or .i64 (A.ish .shl .i64 x1 (A.toN x5)) (A.ofN (x4.getD (A.toN x3) 0))) x2 x3 x4 x5 x6
      | false => none
def g10i3J10as (x0 x1 : Int) (x2 : List Nat) (x3 x4 : Int) : St := ⟨[(0, (.yld 449)), (3, (pT 413 0)), (5, (i6 x0)), (6, (i6 x1))], [(410, ⟨[.one .nilp, .one .nils], 36, 1⟩), (411, ⟨[.one (.str x2)], 9, 1⟩), (412, ⟨[.one (.int .i64 x3)], 3, 1⟩), (413, ⟨[.one (.int .i64 x4)], 3, 1⟩), (448, ⟨[], 0, 0⟩)]⟩
def g10i3J10a {R : Type} (A : Ar) (n : Nat) (kk : AV → Heap → Option R)  (x0 x1 : Int) (x2 : List Nat) (x3 x4 : Int) : Option R :=
  match A.ic .gtr x0 0 with
  | true => match A.neg (A.ib .sub .i64 x4 x0) with
    | true => none
    | false => match A.neg x4 with
      | true => none
      | false => match g10b3c0 A (A.ib .and .i64 (A.ish .shl .i64 x1 (A.toN (A.ib .sub .i64 x4 x0))) (A.ib .sub .i64 (A.ish .shl .i64 1 (A.toN x4)) 1)) with
        | true => kk (.tup []) [(411, ⟨[.one (.str x2)], 9, 1⟩), (412, ⟨[.one (.int .i64 x3)], 3, 1⟩), (413, ⟨[.one (.int .i64 x4)], 3, 1⟩), (448, ⟨[], 0, 0⟩), (410, ⟨[.one (.ptr 410 0 none), .one (.sl 5002 none (g10b3r0_0 A (A.ib .and .i64 (A.ish .shl .i64 x1 (A.toN (A.ib .sub .i64 x4 x0))) (A.ib .sub .i64 (A.ish .shl .i64 1 (A.toN x4)) 1))) 1)], 36, 1⟩), (5002, ⟨[.nums .u8 (g10b3r0_1 A (A.ib .and .i64 (A.ish .shl .i64 x1 (A.toN (A.ib .sub .i64 x4 x0))) (A.ib .sub .i64 (A.ish .shl .i64 1 (A.toN x4)) 1))) (g10b3r0_2 A (A.ib .and .i64 (A.ish .shl .i64 x1 (A.toN (A.ib .sub .i64 x4 x0))) (A.ib .sub .i64 (A.ish .shl .i64 1 (A.toN x4)) 1)))], 5, 2⟩)]
        | false => none
  | false => kk (.tup []) [(410, ⟨[.one .nilp, .one .nils], 36, 1⟩), (411, ⟨[.one (.str x2)], 9, 1⟩), (412, ⟨[.one (.int .i64 x3)], 3, 1⟩), (413, ⟨[.one (.int .i64 x4)], 3, 1⟩), (448, ⟨[], 0, 0⟩)]
def g10i3L2s (x0 x1 : Int) (x2 x3 : Int) (x4 : List Nat) (x5 x6 : Int) : St := ⟨[(0, (.yld 449)), (1, (pT 411 0)), (2, (pT 412 0)), (3, (pT 413 0)), (5, (i6 x0)), (6, (i6 x1)), (9, (i6 x2)), (10, (i6 x3))], [(410, ⟨[.one .nilp, .one .nils], 36, 1⟩), (411, ⟨[.one (.str x4)], 9, 1⟩), (412, ⟨[.one (.int .i64 x5)], 3, 1⟩), (413, ⟨[.one (.int .i64 x6)], 3, 1⟩), (448, ⟨[], 0, 0⟩)]⟩
def g10i3L2 {R : Type} (A : Ar) (n : Nat) (kk : AV → Heap → Option R)  : Nat → Int → Int → Int → Int → List Nat → Int → Int → Option R
  | 0, _, _, _, _, _, _, _ => none
  | m + 1, x0, x1, x2, x3, x4, x5, x6 => match A.ic .lss x3 x2 with
  | true => g10i3J3 A n kk (g10i3L2 A n kk  m) (g10i3L2a A n kk  m) x0 x1 x2 x3 x4 x5 x6
  | false => g10i3J10a A n kk  x0 x1 x4 x5 x6
def g10i3 {R : Type} (A : Ar) (n : Nat) (kk : AV → Heap → Option R) (x0 : List Nat) (x1 x2 : Int) : Option R :=
  g10i3L2 A n kk  n 0 0 (A.ofN x0.length) 0 x0 x1 x2
section
variable {R : Type} {A : Ar} {n : Nat} {kk : AV → Heap → Option R} {tb : Nat → List Bool → St → Option R} (st : Stp (g10i3N A kk) tb)
include st
theorem g10i3J6a_go {lg10i3L5a : Int → Int → Int → Int → Nat → List Nat → Int → Int → Nat → List Nat → Option R} (hg10i3L5a : ∀ (x0 x1 : Int) (x2 x3 : Int) (x4 : Nat) (x5 : List Nat) (x6 x7 : Int) (x8 : Nat) (x9 : List Nat), Prs (fun k => tb k (pth 27032) (g10i3L5as x0 x1 x2 x3 x4 x5 x6 x7 x8 x9)) (lg10i3L5a x0 x1 x2 x3 x4 x5 x6 x7 x8 x9)) {x0 : Int} {x1 : Int} {x2 : Int} {x3 : Int} {x4 : Nat} {x5 : List Nat} {x6 : Int} {x7 : Int} {x8 : Nat} {x9 : List Nat} : Prs (fun k => tb k (pth 54065) (g10i3J6as x0 x1 x2 x3 x4 x5 x6 x7 x8 x9)) (g10i3J6a A n kk lg10i3L5a x0 x1 x2 x3 x4 x5 x6 x7 x8 x9) := by
  unfold g10i3J6a
  exact st.g (pc (SxP07bpi _ pn (SxP07bpi _ pn (SxP07bpi _ (hg10i3L5a _ _ _ _ _ _ _ _ _ _) pn))) (by kernel_rfl))
theorem g10i3J8_go {lg10i3L2a : Int → Int → Int → Int → Nat → List Nat → Int → Int → Nat → List Nat → Option R} (hg10i3L2a : ∀ (x0 x1 : Int) (x2 x3 : Int) (x4 : Nat) (x5 : List Nat) (x6 x7 : Int) (x8 : Nat) (x9 : List Nat), Prs (fun k => tb k (pth 52) (g10i3L2as x0 x1 x2 x3 x4 x5 x6 x7 x8 x9)) (lg10i3L2a x0 x1 x2 x3 x4 x5 x6 x7 x8 x9)) {x0 : Int} {x1 : Int} {x2 : Int} {x3 : Int} {x4 : Nat} {x5 : List Nat} {x6 : Int} {x7 : Int} {x8 : Nat} {x9 : List Nat} : Prs (fun k => tb k (pth 6759) (g10i3J8s x0 x1 x2 x3 x4 x5 x6 x7 x8 x9)) (g10i3J8 A n kk lg10i3L2a x0 x1 x2 x3 x4 x5 x6 x7 x8 x9) := by
  unfold g10i3J8
  exact st.g (pc (SxP07bpi _ pn (hg10i3L2a _ _ _ _ _ _ _ _ _ _)) (by kernel_rfl))
theorem g10i3L5a_go {lg10i3L2a : Int → Int → Int → Int → Nat → List Nat → Int → Int → Nat → List Nat → Option R} (hg10i3L2a : ∀ (x0 x1 : Int) (x2 x3 : Int) (x4 : Nat) (x5 : List Nat) (x6 x7 : Int) (x8 : Nat) (x9 : List Nat), Prs (fun k => tb k (pth 52) (g10i3L2as x0 x1 x2 x3 x4 x5 x6 x7 x8 x9)) (lg10i3L2a x0 x1 x2 x3 x4 x5 x6 x7 x8 x9)) (m : Nat) : ∀ (x0 x1 : Int) (x2 x3 : Int) (x4 : Nat) (x5 : List Nat) (x6 x7 : Int) (x8 : Nat) (x9 : List Nat), Prs (fun k => tb k (pth 27032) (g10i3L5as x0 x1 x2 x3 x4 x5 x6 x7 x8 x9)) (g10i3L5a A n kk lg10i3L2a m x0 x1 x2 x3 x4 x5 x6 x7 x8 x9) := by
  induction m with
  | zero => intro x0 x1 x2 x3 x4 x5 x6 x7 x8 x9; exact pn0
  | succ m ih =>
    intro x0 x1 x2 x3 x4 x5 x6 x7 x8 x9; rw [g10i3L5a]
    exact st.g (pc (SxP07bpi _ (g10i3J6a_go st ih) (g10i3J8_go st hg10i3L2a)) (by kernel_rfl))
theorem g10i3J3a_go {lg10i3L2a : Int → Int → Int → Int → Nat → List Nat → Int → Int → Nat → List Nat → Option R} (hg10i3L2a : ∀ (x0 x1 : Int) (x2 x3 : Int) (x4 : Nat) (x5 : List Nat) (x6 x7 : Int) (x8 : Nat) (x9 : List Nat), Prs (fun k => tb k (pth 52) (g10i3L2as x0 x1 x2 x3 x4 x5 x6 x7 x8 x9)) (lg10i3L2a x0 x1 x2 x3 x4 x5 x6 x7 x8 x9)) {x0 : Int} {x1 : Int} {x2 : Int} {x3 : Int} {x4 : Nat} {x5 : List Nat} {x6 : Int} {x7 : Int} {x8 : Nat} {x9 : List Nat} : Prs (fun k => tb k (pth 211) (g10i3J3as x0 x1 x2 x3 x4 x5 x6 x7 x8 x9)) (g10i3J3a A n kk lg10i3L2a x0 x1 x2 x3 x4 x5 x6 x7 x8 x9) := by
  unfold g10i3J3a
  exact st.g (pc (SxP07bpi _ pn (SxP07bpi _ pn (SxP07bpi _ (g10i3L5a_go st hg10i3L2a n _ _ _ _ _ _ _ _ _ _) pn))) (by kernel_rfl))
theorem g10i3J10_go {x0 : Int} {x1 : Int} {x2 : Nat} {x3 : List Nat} {x4 : Int} {x5 : Int} {x6 : Nat} {x7 : List Nat} : Prs (fun k => tb k (pth 7) (g10i3J10s x0 x1 x2 x3 x4 x5 x6 x7)) (g10i3J10 A n kk x0 x1 x2 x3 x4 x5 x6 x7) := by
  unfold g10i3J10
  exact st.g (pc (SxP07bpi _ (SxP07bpi _ pn (SxP07bpi _ pn (SxP07bpi _ (pf _) pn))) (pf _)) (by kernel_rfl))
theorem g10i3L2a_go (m : Nat) : ∀ (x0 x1 : Int) (x2 x3 : Int) (x4 : Nat) (x5 : List Nat) (x6 x7 : Int) (x8 : Nat) (x9 : List Nat), Prs (fun k => tb k (pth 52) (g10i3L2as x0 x1 x2 x3 x4 x5 x6 x7 x8 x9)) (g10i3L2a A n kk m x0 x1 x2 x3 x4 x5 x6 x7 x8 x9) := by
  induction m with
  | zero => intro x0 x1 x2 x3 x4 x5 x6 x7 x8 x9; exact pn0
  | succ m ih =>
    intro x0 x1 x2 x3 x4 x5 x6 x7 x8 x9; rw [g10i3L2a]
    exact st.g (pc (SxP07bpi _ (g10i3J3a_go st ih) (g10i3J10_go st)) (by kernel_rfl))
theorem g10i3J6_go {lg10i3L5a : Int → Int → Int → Int → Nat → List Nat → Int → Int → Nat → List Nat → Option R} (hg10i3L5a : ∀ (x0 x1 : Int) (x2 x3 : Int) (x4 : Nat) (x5 : List Nat) (x6 x7 : Int) (x8 : Nat) (x9 : List Nat), Prs (fun k => tb k (pth 27032) (g10i3L5as x0 x1 x2 x3 x4 x5 x6 x7 x8 x9)) (lg10i3L5a x0 x1 x2 x3 x4 x5 x6 x7 x8 x9)) {x0 : Int} {x1 : Int} {x2 : Int} {x3 : Int} {x4 : List Nat} {x5 : Int} {x6 : Int} : Prs (fun k => tb k (pth 54065) (g10i3J6s x0 x1 x2 x3 x4 x5 x6)) (g10i3J6 A n kk lg10i3L5a x0 x1 x2 x3 x4 x5 x6) := by
  unfold g10i3J6
  exact st.g (pc (SxP07bpi _ pn (SxP07bpi _ pn (SxP07bpi _ (hg10i3L5a _ _ _ _ _ _ _ _ _ _) pn))) (by kernel_rfl))
theorem g10i3J8a_go {lg10i3L2 : Int → Int → Int → Int → List Nat → Int → Int → Option R} (hg10i3L2 : ∀ (x0 x1 : Int) (x2 x3 : Int) (x4 : List Nat) (x5 x6 : Int), Prs (fun k => tb k (pth 52) (g10i3L2s x0 x1 x2 x3 x4 x5 x6)) (lg10i3L2 x0 x1 x2 x3 x4 x5 x6)) {x0 : Int} {x1 : Int} {x2 : Int} {x3 : Int} {x4 : List Nat} {x5 : Int} {x6 : Int} : Prs (fun k => tb k (pth 6759) (g10i3J8as x0 x1 x2 x3 x4 x5 x6)) (g10i3J8a A n kk lg10i3L2 x0 x1 x2 x3 x4 x5 x6) := by
  unfold g10i3J8a
  exact st.g (pc (SxP07bpi _ pn (hg10i3L2 _ _ _ _ _ _ _)) (by kernel_rfl))
theorem g10i3L5_go {lg10i3L2 : Int → Int → Int → Int → List Nat → Int → Int → Option R} {lg10i3L2a : Int → Int → Int → Int → Nat → List Nat → Int → Int → Nat → List Nat → Option R} (hg10i3L2 : ∀ (x0 x1 : Int) (x2 x3 : Int) (x4 : List Nat) (x5 x6 : Int), Prs (fun k => tb k (pth 52) (g10i3L2s x0 x1 x2 x3 x4 x5 x6)) (lg10i3L2 x0 x1 x2 x3 x4 x5 x6)) (hg10i3L2a : ∀ (x0 x1 : Int) (x2 x3 : Int) (x4 : Nat) (x5 : List Nat) (x6 x7 : Int) (x8 : Nat) (x9 : List Nat), Prs (fun k => tb k (pth 52) (g10i3L2as x0 x1 x2 x3 x4 x5 x6 x7 x8 x9)) (lg10i3L2a x0 x1 x2 x3 x4 x5 x6 x7 x8 x9)) (m : Nat) : ∀ (x0 x1 : Int) (x2 x3 : Int) (x4 : List Nat) (x5 x6 : Int), Prs (fun k => tb k (pth 27032) (g10i3L5s x0 x1 x2 x3 x4 x5 x6)) (g10i3L5 A n kk lg10i3L2 lg10i3L2a m x0 x1 x2 x3 x4 x5 x6) := by
  induction m with
  | zero => intro x0 x1 x2 x3 x4 x5 x6; exact pn0
  | succ m ih =>
    intro x0 x1 x2 x3 x4 x5 x6; rw [g10i3L5]
    exact st.g (pc (SxP07bpi _ (g10i3J6_go st (g10i3L5a_go st hg10i3L2a m)) (g10i3J8a_go st hg10i3L2)) (by kernel_rfl))
theorem g10i3J3_go {lg10i3L2 : Int → Int → Int → Int → List Nat → Int → Int → Option R} {lg10i3L2a : Int → Int → Int → Int → Nat → List Nat → Int → Int → Nat → List Nat → Option R} (hg10i3L2 : ∀ (x0 x1 : Int) (x2 x3 : Int) (x4 : List Nat) (x5 x6 : Int), Prs (fun k => tb k (pth 52) (g10i3L2s x0 x1 x2 x3 x4 x5 x6)) (lg10i3L2 x0 x1 x2 x3 x4 x5 x6)) (hg10i3L2a : ∀ (x0 x1 : Int) (x2 x3 : Int) (x4 : Nat) (x5 : List Nat) (x6 x7 : Int) (x8 : Nat) (x9 : List Nat), Prs (fun k => tb k (pth 52) (g10i3L2as x0 x1 x2 x3 x4 x5 x6 x7 x8 x9)) (lg10i3L2a x0 x1 x2 x3 x4 x5 x6 x7 x8 x9)) {x0 : Int} {x1 : Int} {x2 : Int} {x3 : Int} {x4 : List Nat} {x5 : Int} {x6 : Int} : Prs (fun k => tb k (pth 211) (g10i3J3s x0 x1 x2 x3 x4 x5 x6)) (g10i3J3 A n kk lg10i3L2 lg10i3L2a x0 x1 x2 x3 x4 x5 x6) := by
  unfold g10i3J3
  exact st.g (pc (SxP07bpi _ pn (SxP07bpi _ pn (SxP07bpi _ (g10i3L5_go st hg10i3L2 hg10i3L2a n _ _ _ _ _ _ _) pn))) (by kernel_rfl))
theorem g10i3J10a_go {x0 : Int} {x1 : Int} {x2 : List Nat} {x3 : Int} {x4 : Int} : Prs (fun k => tb k (pth 7) (g10i3J10as x0 x1 x2 x3 x4)) (g10i3J10a A n kk x0 x1 x2 x3 x4) := by
  unfold g10i3J10a
  exact st.g (pc (SxP07bpi _ (SxP07bpi _ pn (SxP07bpi _ pn (SxP07bpi _ (pf _) pn))) (pf _)) (by kernel_rfl))
theorem g10i3L2_go (m : Nat) : ∀ (x0 x1 : Int) (x2 x3 : Int) (x4 : List Nat) (x5 x6 : Int), Prs (fun k => tb k (pth 52) (g10i3L2s x0 x1 x2 x3 x4 x5 x6)) (g10i3L2 A n kk m x0 x1 x2 x3 x4 x5 x6) := by
  induction m with
  | zero => intro x0 x1 x2 x3 x4 x5 x6; exact pn0
  | succ m ih =>
    intro x0 x1 x2 x3 x4 x5 x6; rw [g10i3L2]
    exact st.g (pc (SxP07bpi _ (g10i3J3_go st ih (g10i3L2a_go st m)) (g10i3J10a_go st)) (by kernel_rfl))
theorem g10i3_go {x0 : List Nat} {x1 : Int} {x2 : Int} : Prs (fun k => funN A gtys (g10i3O A) g10i3an g10i3cut (bodyOf Tryd.f32) g10i3res [(.yld 449), (pT 411 0), (pT 412 0), (pT 413 0)] [(448, ⟨[], 0, 0⟩), (410, ⟨[.one .nilp, .one .nils], 36, 1⟩), (411, ⟨[.one (.str x0)], 9, 1⟩), (412, ⟨[.one (.int .i64 x1)], 3, 1⟩), (413, ⟨[.one (.int .i64 x2)], 3, 1⟩)] kk (tb k)) (g10i3 A n kk x0 x1 x2) := by
  unfold g10i3
  exact pc (g10i3L2_go st n _ _ _ _ _ _ _) (by kernel_rfl)
end
def g10i3v (A : Ar) (x0 : List Nat) (x1 x2 : Int) : Option Heap := g10i3 A (10000000) (fun _ h => some (pick h [410, 411, 412, 413, 448, 500, 5002])) x0 x1 x2
def g10i3is0 (o : Option Heap) : Bool := match o with
  | some [(n0, ⟨[.one (.ptr n1 n2 none), .one (.sl n3 none _ n4)], n5, n6⟩), (n7, ⟨[.one (.str _)], n8, n9⟩), (n10, ⟨[.one (.int .i64 _)], n11, n12⟩), (n13, ⟨[.one (.int .i64 _)], n14, n15⟩), (n16, ⟨[], n17, n18⟩), (n19, ⟨[.nums .u8 _ _], n20, n21⟩)] => Nat.beq n0 410 && (Nat.beq n1 410 && (Nat.beq n2 0 && (Nat.beq n3 500 && (Nat.beq n4 1 && (Nat.beq n5 36 && (Nat.beq n6 1 && (Nat.beq n7 411 && (Nat.beq n8 9 && (Nat.beq n9 1 && (Nat.beq n10 412 && (Nat.beq n11 3 && (Nat.beq n12 1 && (Nat.beq n13 413 && (Nat.beq n14 3 && (Nat.beq n15 1 && (Nat.beq n16 448 && (Nat.beq n17 0 && (Nat.beq n18 0 && (Nat.beq n19 500 && (Nat.beq n20 5 && (Nat.beq n21 2)))))))))))))))))))))
  | _ => false
def g10i3g0_0 (o : Option Heap) : Nat := match o with
  | some [(_, ⟨[.one (.ptr _ _ none), .one (.sl _ none x _)], _, _⟩), (_, ⟨[.one (.str _)], _, _⟩), (_, ⟨[.one (.int .i64 _)], _, _⟩), (_, ⟨[.one (.int .i64 _)], _, _⟩), (_, ⟨[], _, _⟩), (_, ⟨[.nums .u8 _ _], _, _⟩)] => x
  | _ => 0
def g10i3g0_1 (o : Option Heap) : List Nat := match o with
  | some [(_, ⟨[.one (.ptr _ _ none), .one (.sl _ none _ _)], _, _⟩), (_, ⟨[.one (.str x)], _, _⟩), (_, ⟨[.one (.int .i64 _)], _, _⟩), (_, ⟨[.one (.int .i64 _)], _, _⟩), (_, ⟨[], _, _⟩), (_, ⟨[.nums .u8 _ _], _, _⟩)] => x
  | _ => []
def g10i3g0_2 (o : Option Heap) : Int := match o with
  | some [(_, ⟨[.one (.ptr _ _ none), .one (.sl _ none _ _)], _, _⟩), (_, ⟨[.one (.str _)], _, _⟩), (_, ⟨[.one (.int .i64 x)], _, _⟩), (_, ⟨[.one (.int .i64 _)], _, _⟩), (_, ⟨[], _, _⟩), (_, ⟨[.nums .u8 _ _], _, _⟩)] => x
  | _ => 0
def g10i3g0_3 (o : Option Heap) : Int := match o with
  | some [(_, ⟨[.one (.ptr _ _ none), .one (.sl _ none _ _)], _, _⟩), (_, ⟨[.one (.str _)], _, _⟩), (_, ⟨[.one (.int .i64 _)], _, _⟩), (_, ⟨[.one (.int .i64 x)], _, _⟩), (_, ⟨[], _, _⟩), (_, ⟨[.nums .u8 _ _], _, _⟩)] => x
  | _ => 0
def g10i3g0_4 (o : Option Heap) : Nat := match o with
  | some [(_, ⟨[.one (.ptr _ _ none), .one (.sl _ none _ _)], _, _⟩), (_, ⟨[.one (.str _)], _, _⟩), (_, ⟨[.one (.int .i64 _)], _, _⟩), (_, ⟨[.one (.int .i64 _)], _, _⟩), (_, ⟨[], _, _⟩), (_, ⟨[.nums .u8 x _], _, _⟩)] => x
  | _ => 0
def g10i3g0_5 (o : Option Heap) : List Nat := match o with
  | some [(_, ⟨[.one (.ptr _ _ none), .one (.sl _ none _ _)], _, _⟩), (_, ⟨[.one (.str _)], _, _⟩), (_, ⟨[.one (.int .i64 _)], _, _⟩), (_, ⟨[.one (.int .i64 _)], _, _⟩), (_, ⟨[], _, _⟩), (_, ⟨[.nums .u8 _ x], _, _⟩)] => x
  | _ => []
theorem g10i3is0_spec {o : Option Heap} (h : g10i3is0 o = true) : o = some [(410, ⟨[.one (.ptr 410 0 none), .one (.sl 500 none (g10i3g0_0 o) 1)], 36, 1⟩), (411, ⟨[.one (.str (g10i3g0_1 o))], 9, 1⟩), (412, ⟨[.one (.int .i64 (g10i3g0_2 o))], 3, 1⟩), (413, ⟨[.one (.int .i64 (g10i3g0_3 o))], 3, 1⟩), (448, ⟨[], 0, 0⟩), (500, ⟨[.nums .u8 (g10i3g0_4 o) (g10i3g0_5 o)], 5, 2⟩)] := by
  unfold g10i3is0 at h
  split at h
  · rename_i n0 n1 n2 n3 z4 n4 n5 n6 n7 z9 n8 n9 n10 z13 n11 n12 n13 z17 n14 n15 n16 n17 n18 n19 z24 z25 n20 n21
    simp only [Bool.and_eq_true] at h
    have en0 := beq_true h.1
    subst en0
    replace h := h.2
    have en1 := beq_true h.1
    subst en1
    replace h := h.2
    have en2 := beq_true h.1
    subst en2
    replace h := h.2
    have en3 := beq_true h.1
    subst en3
    replace h := h.2
    have en4 := beq_true h.1
    subst en4
    replace h := h.2
    have en5 := beq_true h.1
    subst en5
    replace h := h.2
    have en6 := beq_true h.1
    subst en6
    replace h := h.2
    have en7 := beq_true h.1
    subst en7
    replace h := h.2
    have en8 := beq_true h.1
    subst en8
    replace h := h.2
    have en9 := beq_true h.1
    subst en9
    replace h := h.2
    have en10 := beq_true h.1
    subst en10
    replace h := h.2
    have en11 := beq_true h.1
    subst en11
    replace h := h.2
    have en12 := beq_true h.1
    subst en12
    replace h := h.2
    have en13 := beq_true h.1
    subst en13
    replace h := h.2
    have en14 := beq_true h.1
    subst en14
    replace h := h.2
    have en15 := beq_true h.1
    subst en15
    replace h := h.2
    have en16 := beq_true h.1
    subst en16
    replace h := h.2
    have en17 := beq_true h.1
    subst en17
    replace h := h.2
    have en18 := beq_true h.1
    subst en18
    replace h := h.2
    have en19 := beq_true h.1
    subst en19
    replace h := h.2
    have en20 := beq_true h.1
    subst en20
    replace h := h.2
    have en21 := beq_true h
    subst en21
    rfl
  · cases h
def g10i3c0 (A : Ar) (x0 : List Nat) (x1 x2 : Int) : Bool := g10i3is0 (g10i3v A x0 x1 x2)
def g10i3r0_0 (A : Ar) (x0 : List Nat) (x1 x2 : Int) : Nat := g10i3g0_0 (g10i3v A x0 x1 x2)
def g10i3r0_1 (A : Ar) (x0 : List Nat) (x1 x2 : Int) : List Nat := g10i3g0_1 (g10i3v A x0 x1 x2)
def g10i3r0_2 (A : Ar) (x0 : List Nat) (x1 x2 : Int) : Int := g10i3g0_2 (g10i3v A x0 x1 x2)
def g10i3r0_3 (A : Ar) (x0 : List Nat) (x1 x2 : Int) : Int := g10i3g0_3 (g10i3v A x0 x1 x2)
def g10i3r0_4 (A : Ar) (x0 : List Nat) (x1 x2 : Int) : Nat := g10i3g0_4 (g10i3v A x0 x1 x2)
def g10i3r0_5 (A : Ar) (x0 : List Nat) (x1 x2 : Int) : List Nat := g10i3g0_5 (g10i3v A x0 x1 x2)
def g10i3is1 (o : Option Heap) : Bool := match o with
  | some [(n0, ⟨[.one (.ptr n1 n2 none), .one (.sl n3 none _ n4)], n5, n6⟩), (n7, ⟨[.one (.str _)], n8, n9⟩), (n10, ⟨[.one (.int .i64 _)], n11, n12⟩), (n13, ⟨[.one (.int .i64 _)], n14, n15⟩), (n16, ⟨[], n17, n18⟩), (n19, ⟨[.nums .u8 _ _], n20, n21⟩)] => Nat.beq n0 410 && (Nat.beq n1 410 && (Nat.beq n2 0 && (Nat.beq n3 5002 && (Nat.beq n4 1 && (Nat.beq n5 36 && (Nat.beq n6 1 && (Nat.beq n7 411 && (Nat.beq n8 9 && (Nat.beq n9 1 && (Nat.beq n10 412 && (Nat.beq n11 3 && (Nat.beq n12 1 && (Nat.beq n13 413 && (Nat.beq n14 3 && (Nat.beq n15 1 && (Nat.beq n16 448 && (Nat.beq n17 0 && (Nat.beq n18 0 && (Nat.beq n19 5002 && (Nat.beq n20 5 && (Nat.beq n21 2)))))))))))))))))))))
  | _ => false
def g10i3g1_0 (o : Option Heap) : Nat := match o with
  | some [(_, ⟨[.one (.ptr _ _ none), .one (.sl _ none x _)], _, _⟩), (_, ⟨[.one (.str _)], _, _⟩), (_, ⟨[.one (.int .i64 _)], _, _⟩), (_, ⟨[.one (.int .i64 _)], _, _⟩), (_, ⟨[], _, _⟩), (_, ⟨[.nums .u8 _ _], _, _⟩)] => x
  | _ => 0
def g10i3g1_1 (o : Option Heap) : List Nat := match o with
  | some [(_, ⟨[.one (.ptr _ _ none), .one (.sl _ none _ _)], _, _⟩), (_, ⟨[.one (.str x)], _, _⟩), (_, ⟨[.one (.int .i64 _)], _, _⟩), (_, ⟨[.one (.int .i64 _)], _, _⟩), (_, ⟨[], _, _⟩), (_, ⟨[.nums .u8 _ _], _, _⟩)] => x
  | _ => []
def g10i3g1_2 (o : Option Heap) : Int := match o with
  | some [(_, ⟨[.one (.ptr _ _ none), .one (.sl _ none _ _)], _, _⟩), (_, ⟨[.one (.str _)], _, _⟩), (_, ⟨[.one (.int .i64 x)], _, _⟩), (_, ⟨[.one (.int .i64 _)], _, _⟩), (_, ⟨[], _, _⟩), (_, ⟨[.nums .u8 _ _], _, _⟩)] => x
  | _ => 0
def g10i3g1_3 (o : Option Heap) : Int := match o with
  | some [(_, ⟨[.one (.ptr _ _ none), .one (.sl _ none _ _)], _, _⟩), (_, ⟨[.one (.str _)], _, _⟩), (_, ⟨[.one (.int .i64 _)], _, _⟩), (_, ⟨[.one (.int .i64 x)], _, _⟩), (_, ⟨[], _, _⟩), (_, ⟨[.nums .u8 _ _], _, _⟩)] => x
  | _ => 0
def g10i3g1_4 (o : Option Heap) : Nat := match o with
  | some [(_, ⟨[.one (.ptr _ _ none), .one (.sl _ none _ _)], _, _⟩), (_, ⟨[.one (.str _)], _, _⟩), (_, ⟨[.one (.int .i64 _)], _, _⟩), (_, ⟨[.one (.int .i64 _)], _, _⟩), (_, ⟨[], _, _⟩), (_, ⟨[.nums .u8 x _], _, _⟩)] => x
  | _ => 0
def g10i3g1_5 (o : Option Heap) : List Nat := match o with
  | some [(_, ⟨[.one (.ptr _ _ none), .one (.sl _ none _ _)], _, _⟩), (_, ⟨[.one (.str _)], _, _⟩), (_, ⟨[.one (.int .i64 _)], _, _⟩), (_, ⟨[.one (.int .i64 _)], _, _⟩), (_, ⟨[], _, _⟩), (_, ⟨[.nums .u8 _ x], _, _⟩)] => x
  | _ => []
theorem g10i3is1_spec {o : Option Heap} (h : g10i3is1 o = true) : o = some [(410, ⟨[.one (.ptr 410 0 none), .one (.sl 5002 none (g10i3g1_0 o) 1)], 36, 1⟩), (411, ⟨[.one (.str (g10i3g1_1 o))], 9, 1⟩), (412, ⟨[.one (.int .i64 (g10i3g1_2 o))], 3, 1⟩), (413, ⟨[.one (.int .i64 (g10i3g1_3 o))], 3, 1⟩), (448, ⟨[], 0, 0⟩), (5002, ⟨[.nums .u8 (g10i3g1_4 o) (g10i3g1_5 o)], 5, 2⟩)] := by
  unfold g10i3is1 at h
  split at h
  · rename_i n0 n1 n2 n3 z4 n4 n5 n6 n7 z9 n8 n9 n10 z13 n11 n12 n13 z17 n14 n15 n16 n17 n18 n19 z24 z25 n20 n21
    simp only [Bool.and_eq_true] at h
    have en0 := beq_true h.1
    subst en0
    replace h := h.2
    have en1 := beq_true h.1
    subst en1
    replace h := h.2
    have en2 := beq_true h.1
    subst en2
    replace h := h.2
    have en3 := beq_true h.1
    subst en3
    replace h := h.2
    have en4 := beq_true h.1
    subst en4
    replace h := h.2
    have en5 := beq_true h.1
    subst en5
    replace h := h.2
    have en6 := beq_true h.1
    subst en6
    replace h := h.2
    have en7 := beq_true h.1
    subst en7
    replace h := h.2
    have en8 := beq_true h.1
    subst en8
    replace h := h.2
    have en9 := beq_true h.1
    subst en9
    replace h := h.2
    have en10 := beq_true h.1
    subst en10
    replace h := h.2
    have en11 := beq_true h.1
    subst en11
    replace h := h.2
    have en12 := beq_true h.1
    subst en12
    replace h := h.2
    have en13 := beq_true h.1
    subst en13
    replace h := h.2
    have en14 := beq_true h.1
    subst en14
    replace h := h.2
    have en15 := beq_true h.1
    subst en15
    replace h := h.2
    have en16 := beq_true h.1
    subst en16
    replace h := h.2
    have en17 := beq_true h.1
    subst en17
    replace h := h.2
    have en18 := beq_true h.1
    subst en18
    replace h := h.2
    have en19 := beq_true h.1
    subst en19
    replace h := h.2
    have en20 := beq_true h.1
    subst en20
    replace h := h.2
    have en21 := beq_true h
    subst en21
    rfl
  · cases h
def g10i3c1 (A : Ar) (x0 : List Nat) (x1 x2 : Int) : Bool := g10i3is1 (g10i3v A x0 x1 x2)
def g10i3r1_0 (A : Ar) (x0 : List Nat) (x1 x2 : Int) : Nat := g10i3g1_0 (g10i3v A x0 x1 x2)
def g10i3r1_1 (A : Ar) (x0 : List Nat) (x1 x2 : Int) : List Nat := g10i3g1_1 (g10i3v A x0 x1 x2)
def g10i3r1_2 (A : Ar) (x0 : List Nat) (x1 x2 : Int) : Int := g10i3g1_2 (g10i3v A x0 x1 x2)
def g10i3r1_3 (A : Ar) (x0 : List Nat) (x1 x2 : Int) : Int := g10i3g1_3 (g10i3v A x0 x1 x2)
def g10i3r1_4 (A : Ar) (x0 : List Nat) (x1 x2 : Int) : Nat := g10i3g1_4 (g10i3v A x0 x1 x2)
def g10i3r1_5 (A : Ar) (x0 : List Nat) (x1 x2 : Int) : List Nat := g10i3g1_5 (g10i3v A x0 x1 x2)
def g10i3is2 (o : Option Heap) : Bool := match o with
  | some [(n0, ⟨[.one .nilp, .one .nils], n1, n2⟩), (n3, ⟨[.one (.str _)], n4, n5⟩), (n6, ⟨[.one (.int .i64 _)], n7, n8⟩), (n9, ⟨[.one (.int .i64 _)], n10, n11⟩), (n12, ⟨[], n13, n14⟩)] => Nat.beq n0 410 && (Nat.beq n1 36 && (Nat.beq n2 1 && (Nat.beq n3 411 && (Nat.beq n4 9 && (Nat.beq n5 1 && (Nat.beq n6 412 && (Nat.beq n7 3 && (Nat.beq n8 1 && (Nat.beq n9 413 && (Nat.beq n10 3 && (Nat.beq n11 1 && (Nat.beq n12 448 && (Nat.beq n13 0 && (Nat.beq n14 0))))))))))))))
  | _ => false
def g10i3g2_0 (o : Option Heap) : List Nat := match o with
  | some [(_, ⟨[.one .nilp, .one .nils], _, _⟩), (_, ⟨[.one (.str x)], _, _⟩), (_, ⟨[.one (.int .i64 _)], _, _⟩), (_, ⟨[.one (.int .i64 _)], _, _⟩), (_, ⟨[], _, _⟩)] => x
  | _ => []
def g10i3g2_1 (o : Option Heap) : Int := match o with
  | some [(_, ⟨[.one .nilp, .one .nils], _, _⟩), (_, ⟨[.one (.str _)], _, _⟩), (_, ⟨[.one (.int .i64 x)], _, _⟩), (_, ⟨[.one (.int .i64 _)], _, _⟩), (_, ⟨[], _, _⟩)] => x
  | _ => 0
def g10i3g2_2 (o : Option Heap) : Int := match o with
  | some [(_, ⟨[.one .nilp, .one .nils], _, _⟩), (_, ⟨[.one (.str _)], _, _⟩), (_, ⟨[.one (.int .i64 _)], _, _⟩), (_, ⟨[.one (.int .i64 x)], _, _⟩), (_, ⟨[], _, _⟩)] => x
  | _ => 0
theorem g10i3is2_spec {o : Option Heap} (h : g10i3is2 o = true) : o = some [(410, ⟨[.one .nilp, .one .nils], 36, 1⟩), (411, ⟨[.one (.str (g10i3g2_0 o))], 9, 1⟩), (412, ⟨[.one (.int .i64 (g10i3g2_1 o))], 3, 1⟩), (413, ⟨[.one (.int .i64 (g10i3g2_2 o))], 3, 1⟩), (448, ⟨[], 0, 0⟩)] := by
  unfold g10i3is2 at h
  split at h
  · rename_i n0 n1 n2 n3 z4 n4 n5 n6 z8 n7 n8 n9 z12 n10 n11 n12 n13 n14
    simp only [Bool.and_eq_true] at h
    have en0 := beq_true h.1
    subst en0
    replace h := h.2
    have en1 := beq_true h.1
    subst en1
    replace h := h.2
    have en2 := beq_true h.1
    subst en2
    replace h := h.2
    have en3 := beq_true h.1
    subst en3
    replace h := h.2
    have en4 := beq_true h.1
    subst en4
    replace h := h.2
    have en5 := beq_true h.1
    subst en5
    replace h := h.2
    have en6 := beq_true h.1
    subst en6
    replace h := h.2
    have en7 := beq_true h.1
    subst en7
    replace h := h.2
    have en8 := beq_true h.1
    subst en8
    replace h := h.2
    have en9 := beq_true h.1
    subst en9
    replace h := h.2
    have en10 := beq_true h.1
    subst en10
    replace h := h.2
    have en11 := beq_true h.1
    subst en11
    replace h := h.2
    have en12 := beq_true h.1
    subst en12
    replace h := h.2
    have en13 := beq_true h.1
    subst en13
    replace h := h.2
    have en14 := beq_true h
    subst en14
    rfl
  · cases h
def g10i3c2 (A : Ar) (x0 : List Nat) (x1 x2 : Int) : Bool := g10i3is2 (g10i3v A x0 x1 x2)
def g10i3r2_0 (A : Ar) (x0 : List Nat) (x1 x2 : Int) : List Nat := g10i3g2_0 (g10i3v A x0 x1 x2)
def g10i3r2_1 (A : Ar) (x0 : List Nat) (x1 x2 : Int) : Int := g10i3g2_1 (g10i3v A x0 x1 x2)
def g10i3r2_2 (A : Ar) (x0 : List Nat) (x1 x2 : Int) : Int := g10i3g2_2 (g10i3v A x0 x1 x2)
def g10i3F (F : List Nat → Int → Int → Option Heap) (sl : Slots) (caps : List V1) (h : Heap) : Option Heap := match sl, caps, h with
  | [(n0, .v (.cell (.ptr n1 n2 none))), (n3, .fn n4 [] [(.cell (.ptr n5 n6 none)), (.cell (.ptr n7 n8 none)), (.cell (.ptr n9 n10 none))])], [(.cell (.ptr n11 n12 none)), (.cell (.ptr n13 n14 none)), (.cell (.ptr n15 n16 none))], [(n17, ⟨[], n18, n19⟩), (n20, ⟨[.one .nilp, .one .nils], n21, n22⟩), (n23, ⟨[.one (.str x0)], n24, n25⟩), (n26, ⟨[.one (.int .i64 x1)], n27, n28⟩), (n29, ⟨[.one (.int .i64 x2)], n30, n31⟩)] => match Nat.beq n0 3 && (Nat.beq n1 410 && (Nat.beq n2 0 && (Nat.beq n3 6 && (Nat.beq n4 32 && (Nat.beq n5 411 && (Nat.beq n6 0 && (Nat.beq n7 412 && (Nat.beq n8 0 && (Nat.beq n9 413 && (Nat.beq n10 0 && (Nat.beq n11 411 && (Nat.beq n12 0 && (Nat.beq n13 412 && (Nat.beq n14 0 && (Nat.beq n15 413 && (Nat.beq n16 0 && (Nat.beq n17 448 && (Nat.beq n18 0 && (Nat.beq n19 0 && (Nat.beq n20 410 && (Nat.beq n21 36 && (Nat.beq n22 1 && (Nat.beq n23 411 && (Nat.beq n24 9 && (Nat.beq n25 1 && (Nat.beq n26 412 && (Nat.beq n27 3 && (Nat.beq n28 1 && (Nat.beq n29 413 && (Nat.beq n30 3 && (Nat.beq n31 1))))))))))))))))))))))))))))))) with
    | true => F x0 x1 x2
    | false => none
  | _, _, _ => none
def g10R3 (A : Ar) (v : AV) (sl : Slots) (h : Heap) : GL (Ex × Heap) := match v, sl, h with
  | .fn n11 [] [(.cell (.ptr n12 n13 none)), (.cell (.ptr n14 n15 none)), (.cell (.ptr n16 n17 none))], [(n0, .v (.cell (.ptr n1 n2 none))), (n3, .fn n4 [] [(.cell (.ptr n5 n6 none)), (.cell (.ptr n7 n8 none)), (.cell (.ptr n9 n10 none))])], [(n18, ⟨[.one .nilp, .one .nils], n19, n20⟩), (n21, ⟨[.one (.str x0)], n22, n23⟩), (n24, ⟨[.one (.int .i64 x1)], n25, n26⟩), (n27, ⟨[.one (.int .i64 x2)], n28, n29⟩)] => match Nat.beq n0 3 && (Nat.beq n1 410 && (Nat.beq n2 0 && (Nat.beq n3 6 && (Nat.beq n4 32 && (Nat.beq n5 411 && (Nat.beq n6 0 && (Nat.beq n7 412 && (Nat.beq n8 0 && (Nat.beq n9 413 && (Nat.beq n10 0 && (Nat.beq n11 32 && (Nat.beq n12 411 && (Nat.beq n13 0 && (Nat.beq n14 412 && (Nat.beq n15 0 && (Nat.beq n16 413 && (Nat.beq n17 0 && (Nat.beq n18 410 && (Nat.beq n19 36 && (Nat.beq n20 1 && (Nat.beq n21 411 && (Nat.beq n22 9 && (Nat.beq n23 1 && (Nat.beq n24 412 && (Nat.beq n25 3 && (Nat.beq n26 1 && (Nat.beq n27 413 && (Nat.beq n28 3 && (Nat.beq n29 1))))))))))))))))))))))))))))) with
    | true => [(g10i3c0 A x0 x1 x2, some (.normal, [(410, ⟨[.one (.ptr 410 0 none), .one (.sl 500 none (g10i3r0_0 A x0 x1 x2) 1)], 36, 1⟩), (411, ⟨[.one (.str (g10i3r0_1 A x0 x1 x2))], 9, 1⟩), (412, ⟨[.one (.int .i64 (g10i3r0_2 A x0 x1 x2))], 3, 1⟩), (413, ⟨[.one (.int .i64 (g10i3r0_3 A x0 x1 x2))], 3, 1⟩), (500, ⟨[.nums .u8 (g10i3r0_4 A x0 x1 x2) (g10i3r0_5 A x0 x1 x2)], 5, 2⟩)])),
    (g10i3c1 A x0 x1 x2, some (.normal, [(410, ⟨[.one (.ptr 410 0 none), .one (.sl 5002 none (g10i3r1_0 A x0 x1 x2) 1)], 36, 1⟩), (411, ⟨[.one (.str (g10i3r1_1 A x0 x1 x2))], 9, 1⟩), (412, ⟨[.one (.int .i64 (g10i3r1_2 A x0 x1 x2))], 3, 1⟩), (413, ⟨[.one (.int .i64 (g10i3r1_3 A x0 x1 x2))], 3, 1⟩), (5002, ⟨[.nums .u8 (g10i3r1_4 A x0 x1 x2) (g10i3r1_5 A x0 x1 x2)], 5, 2⟩)])),
    (g10i3c2 A x0 x1 x2, some (.normal, [(410, ⟨[.one .nilp, .one .nils], 36, 1⟩), (411, ⟨[.one (.str (g10i3r2_0 A x0 x1 x2))], 9, 1⟩), (412, ⟨[.one (.int .i64 (g10i3r2_1 A x0 x1 x2))], 3, 1⟩), (413, ⟨[.one (.int .i64 (g10i3r2_2 A x0 x1 x2))], 3, 1⟩)]))]
    | false => []
  | _, _, _ => []
theorem g10i3eq (F : List Nat → Int → Int → Option Heap) {x0 : List Nat} {x1 : Int} {x2 : Int} : rngF 32 (g10i3F F) (.fn 32 [] [(.cell (.ptr 411 0 none)), (.cell (.ptr 412 0 none)), (.cell (.ptr 413 0 none))]) [(3, (pT 410 0)), (6, (.fn 32 [] [(.cell (.ptr 411 0 none)), (.cell (.ptr 412 0 none)), (.cell (.ptr 413 0 none))]))] [(410, ⟨[.one .nilp, .one .nils], 36, 1⟩), (411, ⟨[.one (.str x0)], 9, 1⟩), (412, ⟨[.one (.int .i64 x1)], 3, 1⟩), (413, ⟨[.one (.int .i64 x2)], 3, 1⟩)] = rngK (F x0 x1 x2) := by kernel_rfl
theorem g10R3_sound {v : AV} {sl : Slots} {h : Heap} {r : Ex × Heap} (hl : pickG (g10R3 realA v sl h) = some r) : rngF 32 (g10i3F (g10i3v realA)) v sl h = some r := by
  unfold g10R3 at hl
  split at hl
  · rename_i n11 n12 n13 n14 n15 n16 n17 n0 n1 n2 n3 n4 n5 n6 n7 n8 n9 n10 n18 n19 n20 n21 x0 n22 n23 n24 x1 n25 n26 n27 x2 n28 n29
    split at hl
    case h_2 => cases hl
    rename_i hc0
    simp only [Bool.and_eq_true] at hc0
    have en0 := beq_true hc0.1
    subst en0
    replace hc0 := hc0.2
    have en1 := beq_true hc0.1
    subst en1
    replace hc0 := hc0.2
    have en2 := beq_true hc0.1
    subst en2
    replace hc0 := hc0.2
    have en3 := beq_true hc0.1
    subst en3
    replace hc0 := hc0.2
    have en4 := beq_true hc0.1
    subst en4
    replace hc0 := hc0.2
    have en5 := beq_true hc0.1
    subst en5
    replace hc0 := hc0.2
    have en6 := beq_true hc0.1
    subst en6
    replace hc0 := hc0.2
    have en7 := beq_true hc0.1
    subst en7
    replace hc0 := hc0.2
    have en8 := beq_true hc0.1
    subst en8
    replace hc0 := hc0.2
    have en9 := beq_true hc0.1
    subst en9
    replace hc0 := hc0.2
    have en10 := beq_true hc0.1
    subst en10
    replace hc0 := hc0.2
    have en11 := beq_true hc0.1
    subst en11
    replace hc0 := hc0.2
    have en12 := beq_true hc0.1
    subst en12
    replace hc0 := hc0.2
    have en13 := beq_true hc0.1
    subst en13
    replace hc0 := hc0.2
    have en14 := beq_true hc0.1
    subst en14
    replace hc0 := hc0.2
    have en15 := beq_true hc0.1
    subst en15
    replace hc0 := hc0.2
    have en16 := beq_true hc0.1
    subst en16
    replace hc0 := hc0.2
    have en17 := beq_true hc0.1
    subst en17
    replace hc0 := hc0.2
    have en18 := beq_true hc0.1
    subst en18
    replace hc0 := hc0.2
    have en19 := beq_true hc0.1
    subst en19
    replace hc0 := hc0.2
    have en20 := beq_true hc0.1
    subst en20
    replace hc0 := hc0.2
    have en21 := beq_true hc0.1
    subst en21
    replace hc0 := hc0.2
    have en22 := beq_true hc0.1
    subst en22
    replace hc0 := hc0.2
    have en23 := beq_true hc0.1
    subst en23
    replace hc0 := hc0.2
    have en24 := beq_true hc0.1
    subst en24
    replace hc0 := hc0.2
    have en25 := beq_true hc0.1
    subst en25
    replace hc0 := hc0.2
    have en26 := beq_true hc0.1
    subst en26
    replace hc0 := hc0.2
    have en27 := beq_true hc0.1
    subst en27
    replace hc0 := hc0.2
    have en28 := beq_true hc0.1
    subst en28
    replace hc0 := hc0.2
    have en29 := beq_true hc0
    subst en29
    refine (g10i3eq (g10i3v realA)).trans ?_
    rcases pickG_cons hl with ⟨hc, hl⟩ | hl
    · simp only [Option.some.injEq] at hl
      subst hl
      exact (congrArg rngK (g10i3is0_spec hc)).trans rfl
    rcases pickG_cons hl with ⟨hc, hl⟩ | hl
    · simp only [Option.some.injEq] at hl
      subst hl
      exact (congrArg rngK (g10i3is1_spec hc)).trans rfl
    rcases pickG_cons hl with ⟨hc, hl⟩ | hl
    · simp only [Option.some.injEq] at hl
      subst hl
      exact (congrArg rngK (g10i3is2_spec hc)).trans rfl
    cases hl
  · cases hl
theorem g10i3hit {sl : Slots} {caps : List V1} {h h2 : Heap} (hh : g10i3F (g10i3v realA) sl caps h = some h2) : caps.length + 1 ≤ Tryd.f32.ntmps ∧ ∃ m, funN realA gtys (g10i3U realA sl) g10i3an g10i3cut (bodyOf Tryd.f32) Tryd.f32.results.toList (.yld 449 :: vAV caps []) h (fun _ h => some (pick h [410, 411, 412, 413, 448, 500, 5002])) (goD realA gtys (g10i3U realA sl) g10i3an g10i3cut (bodyOf Tryd.f32) (finD gtys Tryd.f32.results.toList (fun _ h => some (pick h [410, 411, 412, 413, 448, 500, 5002]))) m) = some h2 := by
  unfold g10i3F at hh
  split at hh
  · rename_i n0 n1 n2 n3 n4 n5 n6 n7 n8 n9 n10 n11 n12 n13 n14 n15 n16 n17 n18 n19 n20 n21 n22 n23 x0 n24 n25 n26 x1 n27 n28 n29 x2 n30 n31
    split at hh
    case h_2 => cases hh
    rename_i hc0
    simp only [Bool.and_eq_true] at hc0
    have en0 := beq_true hc0.1
    subst en0
    replace hc0 := hc0.2
    have en1 := beq_true hc0.1
    subst en1
    replace hc0 := hc0.2
    have en2 := beq_true hc0.1
    subst en2
    replace hc0 := hc0.2
    have en3 := beq_true hc0.1
    subst en3
    replace hc0 := hc0.2
    have en4 := beq_true hc0.1
    subst en4
    replace hc0 := hc0.2
    have en5 := beq_true hc0.1
    subst en5
    replace hc0 := hc0.2
    have en6 := beq_true hc0.1
    subst en6
    replace hc0 := hc0.2
    have en7 := beq_true hc0.1
    subst en7
    replace hc0 := hc0.2
    have en8 := beq_true hc0.1
    subst en8
    replace hc0 := hc0.2
    have en9 := beq_true hc0.1
    subst en9
    replace hc0 := hc0.2
    have en10 := beq_true hc0.1
    subst en10
    replace hc0 := hc0.2
    have en11 := beq_true hc0.1
    subst en11
    replace hc0 := hc0.2
    have en12 := beq_true hc0.1
    subst en12
    replace hc0 := hc0.2
    have en13 := beq_true hc0.1
    subst en13
    replace hc0 := hc0.2
    have en14 := beq_true hc0.1
    subst en14
    replace hc0 := hc0.2
    have en15 := beq_true hc0.1
    subst en15
    replace hc0 := hc0.2
    have en16 := beq_true hc0.1
    subst en16
    replace hc0 := hc0.2
    have en17 := beq_true hc0.1
    subst en17
    replace hc0 := hc0.2
    have en18 := beq_true hc0.1
    subst en18
    replace hc0 := hc0.2
    have en19 := beq_true hc0.1
    subst en19
    replace hc0 := hc0.2
    have en20 := beq_true hc0.1
    subst en20
    replace hc0 := hc0.2
    have en21 := beq_true hc0.1
    subst en21
    replace hc0 := hc0.2
    have en22 := beq_true hc0.1
    subst en22
    replace hc0 := hc0.2
    have en23 := beq_true hc0.1
    subst en23
    replace hc0 := hc0.2
    have en24 := beq_true hc0.1
    subst en24
    replace hc0 := hc0.2
    have en25 := beq_true hc0.1
    subst en25
    replace hc0 := hc0.2
    have en26 := beq_true hc0.1
    subst en26
    replace hc0 := hc0.2
    have en27 := beq_true hc0.1
    subst en27
    replace hc0 := hc0.2
    have en28 := beq_true hc0.1
    subst en28
    replace hc0 := hc0.2
    have en29 := beq_true hc0.1
    subst en29
    replace hc0 := hc0.2
    have en30 := beq_true hc0.1
    subst en30
    replace hc0 := hc0.2
    have en31 := beq_true hc0
    subst en31
    exact ⟨Nat.le_of_ble_eq_true (by kernel_rfl), via_tb (fun _ st => g10i3_go st) hh⟩
  · cases hh
def g10BO (A : Ar) : Orc := orc3 22 32 9 3 3 (orcH [] [(23, ⟨[0, 1], none, (ho2 (g23o A) (g23a_o A))⟩), (24, ⟨[], none, (ho2 (g24o A) (ho2 (g24a_o A) (g24b_o A)))⟩), (25, ⟨[0, 1], none, (ho2 (g25o A) (g25a_o A))⟩), (26, ⟨[], none, (ho2 (g26o A) (g26a_o A))⟩)])
theorem g10BO_sound : OSound Tryd.prog (g10BO realA) := orc3_sound Bd07.box3 <| orcH_sound (fun f g hm args v hv => by
    cases hm) (fun f e hm args h v h' hv => by
    simp only [List.mem_cons, List.not_mem_nil, or_false, Prod.mk.injEq] at hm
    rcases hm with ⟨rfl, rfl⟩ | ⟨rfl, rfl⟩ | ⟨rfl, rfl⟩ | ⟨rfl, rfl⟩
    · exact (ho2_sound g23o_sound g23a_o_sound) _ _ _ _ hv
    · exact (ho2_sound g24o_sound (ho2_sound g24a_o_sound g24b_o_sound)) _ _ _ _ hv
    · exact (ho2_sound g25o_sound g25a_o_sound) _ _ _ _ hv
    · exact (ho2_sound g26o_sound g26a_o_sound) _ _ _ _ hv)
theorem g10BO_det : ODet (g10BO realA) := orc3_det <| orcH_det _ _
def g10W (A : Ar) (i : Nat) (v : AV) (sl : Slots) (h : Heap) : GL (Ex × Heap) := match Nat.beq i 3 with
  | true => g10R3 A v (pick sl [3, 6]) h
  | false => []
def g10O (A : Ar) : Orc := { g10BO A with rngg := g10W A, pb := 410 }
theorem g10O_sound : OSound Tryd.prog (g10O realA) := g10BO_sound
theorem g10O_det : ODet (g10O realA) := g10BO_det
theorem g10hR : ∀ N S ρ w, RngOk Tryd.prog (g10O realA) Fence.wide 0 N S ρ w ⟨Tryd.f10.ntmps, [], fun _ => undef, (g10O realA).pb, (by show 410 ≤ 500; decide), w.heap.size⟩ (rngs (bodyOf Tryd.f10)) := by
  intro N S ρ w
  rw [show rngs (bodyOf Tryd.f10) = [.rangeFunc (rfG (rfOf 0 (bodyOf Tryd.f10))) (rfPs (rfOf 0 (bodyOf Tryd.f10))) (rfAs (rfOf 0 (bodyOf Tryd.f10))) (rfBd (rfOf 0 (bodyOf Tryd.f10)))] from by kernel_rfl]
  exact rng_ok (O := g10O realA) mixed gtysOK (OU := fun sl => g10i3U realA (pick sl [3, 6])) (fun _ => g10i3BO_sound) (fun _ => g10i3BO_det) (fun _ => rfl) (fun _ _ _ _ _ => rfl) (E := [411, 412, 413, 448]) (np := 1) (bodyE := fun sl vs g => pickG (g10B3 realA (pick sl [3, 6]) vs g)) (fun _ => rfl) (fun _ _ _ => yRoundG_pick) (i0 := 3) (by kernel_rfl) (fun _ _ _ _ _ h => bodyH_pick [3, 6] (g10B3_sound h)) (by kernel_rfl) (nodupB_spec (by kernel_rfl)) (allLtB_spec (by kernel_rfl)) Tryd.func32 (ic := bodyOf Tryd.f32) rfl (by kernel_rfl) Tryd.call32 (itE := fun sl caps h => g10i3F (g10i3v realA) (pick sl [3, 6]) caps h) (an := g10i3an) (cut := g10i3cut) (bs := [410, 411, 412, 413, 448, 500, 5002]) (fun _ _ _ _ _ h => g10i3hit h) (fun _ _ _ _ h => g10R3_sound h) (show 410 ≤ 448 by decide) (Nat.le_refl _)
def g10an : Ann := [(0, ([0], [])), (1, ([0, 2], [])), (2, ([0, 2, 3], [2000])), (5, ([3], [410, 500, 5002, 7000])), (6, ([3], [410, 500])), (7, ([3], [410, 500])), (2000003, ([2, 3, 6], [410, 411, 412, 413, 2000, 3001, 3501, 3502])), (1000005, ([7000, 5002], [500, 500])), (3000003, ([2000, 3001, 3501, 3502], [410, 411, 412, 413]))]
def g10res : List ResultVar := [.tmp 2]
def g10cut : List Nat := [5]
noncomputable def g10N {R : Type} (A : Ar) (kk : AV → Heap → Option R) (t : List Bool → St → Option R) (p : List Bool) (s : St) : Option R := nodeN A gtys (g10O A) g10an g10cut t (bodyOf Tryd.f10) (finD gtys g10res kk) p s
def g10L5s (x0 x1 : Nat) (x2 : List Nat) : St := ⟨[(3, (pT 410 0))], [(410, ⟨[.one (.ptr 410 0 none), .one (.sl 500 none x0 1)], 36, 1⟩), (500, ⟨[.nums .u8 x1 x2], 5, 2⟩)]⟩
def g10L5 {R : Type} (A : Ar) (n : Nat) (kk : AV → Heap → Option R)  : Nat → Nat → Nat → List Nat → Option R
  | 0, _, _, _ => none
  | m + 1, x0, x1, x2 => match g24a_ok A x0 x1 x2 with
  | true => match A.ic .neq (A.ib .rem .i64 (g24a_r0 A x0 x1 x2) 4) 0 with
    | true => match g25ok A [61] (g24a_r1 A x0 x1 x2) (g24a_r2 A x0 x1 x2) (g24a_r3 A x0 x1 x2) with
      | true => g10L5 A n kk  m (g25r1 A [61] (g24a_r1 A x0 x1 x2) (g24a_r2 A x0 x1 x2) (g24a_r3 A x0 x1 x2)) (g25r2 A [61] (g24a_r1 A x0 x1 x2) (g24a_r2 A x0 x1 x2) (g24a_r3 A x0 x1 x2)) (g25r3 A [61] (g24a_r1 A x0 x1 x2) (g24a_r2 A x0 x1 x2) (g24a_r3 A x0 x1 x2))
      | false => none
    | false => match g26ok A (g24a_r1 A x0 x1 x2) (g24a_r2 A x0 x1 x2) (g24a_r3 A x0 x1 x2) with
      | true => kk (tS (g26r0 A (g24a_r1 A x0 x1 x2) (g24a_r2 A x0 x1 x2) (g24a_r3 A x0 x1 x2))) [(410, ⟨[.one (.ptr 410 0 none), .one (.sl 500 none (g26r1 A (g24a_r1 A x0 x1 x2) (g24a_r2 A x0 x1 x2) (g24a_r3 A x0 x1 x2)) 1)], 36, 1⟩), (500, ⟨[.nums .u8 (g26r2 A (g24a_r1 A x0 x1 x2) (g24a_r2 A x0 x1 x2) (g24a_r3 A x0 x1 x2)) (g26r3 A (g24a_r1 A x0 x1 x2) (g24a_r2 A x0 x1 x2) (g24a_r3 A x0 x1 x2))], 5, 0⟩)]
      | false => none
  | false => none
def g10J5s (x0 x1 : Nat) (x2 : List Nat) : St := ⟨[(3, (pT 410 0))], [(410, ⟨[.one (.ptr 410 0 none), .one (.sl 500 none x0 1)], 36, 1⟩), (500, ⟨[.nums .u8 x1 x2], 5, 2⟩)]⟩
def g10J5 {R : Type} (A : Ar) (n : Nat) (kk : AV → Heap → Option R)  (x0 x1 : Nat) (x2 : List Nat) : Option R :=
  g10L5 A n kk  n x0 x1 x2
def g10L5as  : St := ⟨[(3, (pT 410 0))], [(410, ⟨[.one .nilp, .one .nils], 36, 1⟩)]⟩
def g10L5a {R : Type} (A : Ar) (n : Nat) (kk : AV → Heap → Option R)  : Nat → Option R
  | 0 => none
  | m + 1 => match g24b_ok A with
  | true => match A.ic .neq (A.ib .rem .i64 (g24b_r0 A) 4) 0 with
    | true => match g25a_ok A [61] with
      | true => g10L5 A n kk  m (g25a_r1 A [61]) (g25a_r2 A [61]) (g25a_r3 A [61])
      | false => none
    | false => match g26a_ok A with
      | true => kk (tS (g26a_r0 A)) [(410, ⟨[.one .nilp, .one .nils], 36, 1⟩)]
      | false => none
  | false => none
def g10J5as  : St := ⟨[(3, (pT 410 0))], [(410, ⟨[.one .nilp, .one .nils], 36, 1⟩)]⟩
def g10J5a {R : Type} (A : Ar) (n : Nat) (kk : AV → Heap → Option R)   : Option R :=
  g10L5a A n kk  n 
def g10 {R : Type} (A : Ar) (n : Nat) (kk : AV → Heap → Option R) (x0 : List Nat) : Option R :=
  match g10i3c0 A x0 8 6 with
  | true => g10J5 A n kk  (g10i3r0_0 A x0 8 6) (g10i3r0_4 A x0 8 6) (g10i3r0_5 A x0 8 6)
  | false => match g10i3c1 A x0 8 6 with
    | true => g10J5 A n kk  (g10i3r1_0 A x0 8 6) (g10i3r1_4 A x0 8 6) (g10i3r1_5 A x0 8 6)
    | false => match g10i3c2 A x0 8 6 with
      | true => g10J5a A n kk  
      | false => none
section
variable {R : Type} {A : Ar} {n : Nat} {kk : AV → Heap → Option R} {tb : Nat → List Bool → St → Option R} (st : Stp (g10N A kk) tb)
include st
theorem g10L5_go (m : Nat) : ∀ (x0 x1 : Nat) (x2 : List Nat), Prs (fun k => tb k (pth 120) (g10L5s x0 x1 x2)) (g10L5 A n kk m x0 x1 x2) := by
  induction m with
  | zero => intro x0 x1 x2; exact pn0
  | succ m ih =>
    intro x0 x1 x2; rw [g10L5]
    exact st.g (pc (SxP07bpi _ (SxP07bpi _ (SxP07bpi _ (ih _ _ _) pn) (SxP07bpi _ (pf _) pn)) pn) (by kernel_rfl))
theorem g10J5_go {x0 : Nat} {x1 : Nat} {x2 : List Nat} : Prs (fun k => tb k (pth 15) (g10J5s x0 x1 x2)) (g10J5 A n kk x0 x1 x2) := by
  unfold g10J5
  exact st.g (pc (g10L5_go st n _ _ _) (by kernel_rfl))
theorem g10L5a_go (m : Nat) : Prs (fun k => tb k (pth 120) (g10L5as)) (g10L5a A n kk m) := by
  induction m with
  | zero => exact pn0
  | succ m ih =>
    rw [g10L5a]
    exact st.g (pc (SxP07bpi _ (SxP07bpi _ (SxP07bpi _ (g10L5_go st m _ _ _) pn) (SxP07bpi _ (pf _) pn)) pn) (by kernel_rfl))
theorem g10J5a_go  : Prs (fun k => tb k (pth 15) (g10J5as)) (g10J5a A n kk) := by
  unfold g10J5a
  exact st.g (pc (g10L5a_go st n) (by kernel_rfl))
theorem g10_go {x0 : List Nat} : Prs (fun k => funN A gtys (g10O A) g10an g10cut (bodyOf Tryd.f10) g10res [(tS x0)] [] kk (tb k)) (g10 A n kk x0) := by
  unfold g10
  exact pc (SxP07bpi _ (g10J5_go st) (SxP07bpi _ (g10J5_go st) (SxP07bpi _ (g10J5a_go st) pn))) (by kernel_rfl)
end
def g10is (o : Option (AV × Heap)) : Bool := match o with
  | some (.v (.cell (.str _)), []) => true
  | _ => false
def g10g0 (o : Option (AV × Heap)) : List Nat := match o with
  | some (.v (.cell (.str x)), []) => x
  | _ => []
theorem g10is_spec {o : Option (AV × Heap)} (h : g10is o = true) : o = some ((tS (g10g0 o)), []) := by
  unfold g10is at h
  split at h
  · rfl
  · cases h
def g10v (A : Ar) (x0 : List Nat) : Option (AV × Heap) := g10 A (10000000) (outR (outH [] none)) x0
def g10ok (A : Ar) (x0 : List Nat) : Bool := g10is (g10v A x0)
def g10r0 (A : Ar) (x0 : List Nat) : List Nat := g10g0 (g10v A x0)
theorem g10ok_spec {A : Ar} {x0} (h : g10ok A x0 = true) : g10v A x0 = some ((tS (g10r0 A x0)), []) := g10is_spec h
def g10o (A : Ar) (args : List AV) (h : Heap) : Option (Bool × AV × Heap) := match args, h with
  | [.v (.cell (.str x0))], [] => some (g10ok A x0, (tS (g10r0 A x0)), [])
  | _, _ => none
theorem g10o_sound : ∀ args h v h', g10o realA args h = some (true, v, h') → FnH Tryd.prog 10 args h v h' := by
  intro args h v h' hh
  unfold g10o at hh
  split at hh
  · rename_i x0
    simp only [Option.some.injEq, Prod.mk.injEq] at hh
    obtain ⟨hc, hv, hh⟩ := hh
    subst hv
    subst hh
    exact fnh_ofR mixed gtysOK g10O_sound g10O_det (an := g10an) (cut := g10cut) Tryd.func10 (c := bodyOf Tryd.f10) rfl (by kernel_rfl) Tryd.call10 rfl g10hR (Nat.le_of_ble_eq_true rfl) (k := (outH [] none)) (fun a b c => outH_sound a b c) (fun _ => (show g10v realA x0 = _ from g10ok_spec hc)) fun _ st => g10_go st
  · cases hh
attribute [local irreducible] g10ok g10r0
end Go.Sx
