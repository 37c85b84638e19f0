/- wire: readers and writers with an error. -/
import Derived.Test.YtloapdnklljaoaaSxN13
namespace Go.Sx
theorem h29_v (ok : Bool) (r e : Int) (s : List Nat)  : g29a_v realA ok r e s = some (bO (decide (wf1 ok r e = 0)), [(0, ⟨[.one (.int .i64 (wf1 ok r e)), .one (.str s)], 59, 1⟩)]) := by
  unfold g29a_v g29a_ wf1
  by_cases he : e = 0
  · subst he
    cases ok <;> rfl
  · rw [if_neg (fun h => he h.1), ar_eql, decide_eq_false he]
    simp only [g29a_J3, ar_eql, decide_eq_false he]
    rfl
theorem h29_ok (ok : Bool) (r e : Int) (s : List Nat)  : g29a_ok realA ok r e s = true := (congrArg g29a_is (h29_v ok r e s )).trans rfl
theorem h29_0 (ok : Bool) (r e : Int) (s : List Nat)  : g29a_r0 realA ok r e s = decide (wf1 ok r e = 0) := (congrArg g29a_g0 (h29_v ok r e s )).trans rfl
theorem h29_1 (ok : Bool) (r e : Int) (s : List Nat)  : g29a_r1 realA ok r e s = wf1 ok r e := (congrArg g29a_g1 (h29_v ok r e s )).trans rfl
theorem h29_2 (ok : Bool) (r e : Int) (s : List Nat)  : g29a_r2 realA ok r e s = s := (congrArg g29a_g2 (h29_v ok r e s )).trans rfl
theorem g18_v (s : List Nat)  : g18v realA s = some (pT 700 0, [(700, ⟨[.one (.int .i64 0), .one (.str s)], 59, 1⟩)]) := by
  rfl
theorem g18_ok (s : List Nat)  : g18ok realA s = true := (congrArg g18is (g18_v s )).trans rfl
theorem g18_0 (s : List Nat)  : g18r0 realA s = 0 := (congrArg g18g0 (g18_v s )).trans rfl
theorem g18_1 (s : List Nat)  : g18r1 realA s = s := (congrArg g18g1 (g18_v s )).trans rfl
theorem e13_v (t : List Nat) (e : Int) (n m : Nat) (l : List Nat) (he : e ≠ 0) : g13v realA t e n m l = some (.tup [], [(0, ⟨[.one (.int .i64 e), .one (.sl 501 none n 1)], 56, 1⟩), (501, ⟨[.nums .u8 m l], 5, 2⟩)]) := by
  unfold g13v g13
  simp only [ar_eql, decide_eq_false he]
  exact outW _ _ _ _ _ rfl
theorem e13_ok (t : List Nat) (e : Int) (n m : Nat) (l : List Nat) (he : e ≠ 0) : g13ok realA t e n m l = true := (congrArg g13is (e13_v t e n m l he)).trans rfl
theorem e13_0 (t : List Nat) (e : Int) (n m : Nat) (l : List Nat) (he : e ≠ 0) : g13r0 realA t e n m l = e := (congrArg g13g0 (e13_v t e n m l he)).trans rfl
theorem e13_1 (t : List Nat) (e : Int) (n m : Nat) (l : List Nat) (he : e ≠ 0) : g13r1 realA t e n m l = n := (congrArg g13g1 (e13_v t e n m l he)).trans rfl
theorem e13_2 (t : List Nat) (e : Int) (n m : Nat) (l : List Nat) (he : e ≠ 0) : g13r2 realA t e n m l = m := (congrArg g13g2 (e13_v t e n m l he)).trans rfl
theorem e13_3 (t : List Nat) (e : Int) (n m : Nat) (l : List Nat) (he : e ≠ 0) : g13r3 realA t e n m l = l := (congrArg g13g3 (e13_v t e n m l he)).trans rfl
theorem e11_v (x s e : Int) (n m : Nat) (l : List Nat) (he : e ≠ 0) : g11v realA x s e n m l = some (.tup [], [(0, ⟨[.one (.int .i64 e), .one (.sl 501 none n 1)], 56, 1⟩), (501, ⟨[.nums .u8 m l], 5, 2⟩)]) := by
  unfold g11v g11
  simp only [g29_ok, g29_0, g29_1, g29_2, g29_3, g29_4, wf1_err he, decide_eq_false he, Bool.not_false]
  split
  · split
    · exact outW _ _ _ _ _ rfl
    · exact outW _ _ _ _ _ rfl
  · exact outW _ _ _ _ _ rfl
theorem e11_ok (x s e : Int) (n m : Nat) (l : List Nat) (he : e ≠ 0) : g11ok realA x s e n m l = true := (congrArg g11is (e11_v x s e n m l he)).trans rfl
theorem e11_0 (x s e : Int) (n m : Nat) (l : List Nat) (he : e ≠ 0) : g11r0 realA x s e n m l = e := (congrArg g11g0 (e11_v x s e n m l he)).trans rfl
theorem e11_1 (x s e : Int) (n m : Nat) (l : List Nat) (he : e ≠ 0) : g11r1 realA x s e n m l = n := (congrArg g11g1 (e11_v x s e n m l he)).trans rfl
theorem e11_2 (x s e : Int) (n m : Nat) (l : List Nat) (he : e ≠ 0) : g11r2 realA x s e n m l = m := (congrArg g11g2 (e11_v x s e n m l he)).trans rfl
theorem e11_3 (x s e : Int) (n m : Nat) (l : List Nat) (he : e ≠ 0) : g11r3 realA x s e n m l = l := (congrArg g11g3 (e11_v x s e n m l he)).trans rfl
theorem e15_v (t : List Nat) (s e : Int) (n m : Nat) (l : List Nat) (he : e ≠ 0) : g15v realA t s e n m l = some (.tup [], [(0, ⟨[.one (.int .i64 e), .one (.sl 501 none n 1)], 56, 1⟩), (501, ⟨[.nums .u8 m l], 5, 2⟩)]) := by
  unfold g15v g15
  simp only [g15t0, g15t1, g15t2, g15t3, e11_ok _ _ _ _ _ _ he, e11_0 _ _ _ _ _ _ he, e11_1 _ _ _ _ _ _ he, e11_2 _ _ _ _ _ _ he, e11_3 _ _ _ _ _ _ he, e13_ok _ _ _ _ _ he, e13_0 _ _ _ _ _ he, e13_1 _ _ _ _ _ he, e13_2 _ _ _ _ _ he, e13_3 _ _ _ _ _ he]
  exact outW _ _ _ _ _ rfl
theorem e15_ok (t : List Nat) (s e : Int) (n m : Nat) (l : List Nat) (he : e ≠ 0) : g15ok realA t s e n m l = true := (congrArg g15is (e15_v t s e n m l he)).trans rfl
theorem e15_0 (t : List Nat) (s e : Int) (n m : Nat) (l : List Nat) (he : e ≠ 0) : g15r0 realA t s e n m l = e := (congrArg g15g0 (e15_v t s e n m l he)).trans rfl
theorem e15_1 (t : List Nat) (s e : Int) (n m : Nat) (l : List Nat) (he : e ≠ 0) : g15r1 realA t s e n m l = n := (congrArg g15g1 (e15_v t s e n m l he)).trans rfl
theorem e15_2 (t : List Nat) (s e : Int) (n m : Nat) (l : List Nat) (he : e ≠ 0) : g15r2 realA t s e n m l = m := (congrArg g15g2 (e15_v t s e n m l he)).trans rfl
theorem e15_3 (t : List Nat) (s e : Int) (n m : Nat) (l : List Nat) (he : e ≠ 0) : g15r3 realA t s e n m l = l := (congrArg g15g3 (e15_v t s e n m l he)).trans rfl
theorem e21_v (x e : Int) (s : List Nat) (he : e ≠ 0) : g21v realA x e s = some (tS [], [(0, ⟨[.one (.int .i64 e), .one (.str s)], 59, 1⟩)]) := by
  unfold g21v g21
  simp only [h29_ok, h29_0, h29_1, h29_2, wf1_err he, decide_eq_false he, Bool.not_false]
  rfl
theorem e21_ok (x e : Int) (s : List Nat) (he : e ≠ 0) : g21ok realA x e s = true := (congrArg g21is (e21_v x e s he)).trans rfl
theorem e21_0 (x e : Int) (s : List Nat) (he : e ≠ 0) : g21r0 realA x e s = [] := (congrArg g21g0 (e21_v x e s he)).trans rfl
theorem e21_1 (x e : Int) (s : List Nat) (he : e ≠ 0) : g21r1 realA x e s = e := (congrArg g21g1 (e21_v x e s he)).trans rfl
theorem e21_2 (x e : Int) (s : List Nat) (he : e ≠ 0) : g21r2 realA x e s = s := (congrArg g21g2 (e21_v x e s he)).trans rfl
theorem e19_v (x e : Int) (s : List Nat) (he : e ≠ 0) : g19v realA x e s = some (i6 0, [(0, ⟨[.one (.int .i64 e), .one (.str s)], 59, 1⟩)]) := by
  unfold g19v g19
  simp only [h29_ok, h29_0, h29_1, h29_2, wf1_err he, decide_eq_false he, Bool.not_false]
  split <;> rfl
theorem e19_ok (x e : Int) (s : List Nat) (he : e ≠ 0) : g19ok realA x e s = true := (congrArg g19is (e19_v x e s he)).trans rfl
theorem e19_0 (x e : Int) (s : List Nat) (he : e ≠ 0) : g19r0 realA x e s = 0 := (congrArg g19g0 (e19_v x e s he)).trans rfl
theorem e19_1 (x e : Int) (s : List Nat) (he : e ≠ 0) : g19r1 realA x e s = e := (congrArg g19g1 (e19_v x e s he)).trans rfl
theorem e19_2 (x e : Int) (s : List Nat) (he : e ≠ 0) : g19r2 realA x e s = s := (congrArg g19g2 (e19_v x e s he)).trans rfl
theorem e23_v (x e : Int) (s : List Nat) (he : e ≠ 0) : g23v realA x e s = some (tS [], [(0, ⟨[.one (.int .i64 e), .one (.str s)], 59, 1⟩)]) := by
  unfold g23v g23
  simp only [e19_ok _ _ _ he, e19_0 _ _ _ he, e19_1 _ _ _ he, e19_2 _ _ _ he, e21_ok _ _ _ he, e21_0 _ _ _ he, e21_1 _ _ _ he, e21_2 _ _ _ he]
  rfl
theorem e23_ok (x e : Int) (s : List Nat) (he : e ≠ 0) : g23ok realA x e s = true := (congrArg g23is (e23_v x e s he)).trans rfl
theorem e23_0 (x e : Int) (s : List Nat) (he : e ≠ 0) : g23r0 realA x e s = [] := (congrArg g23g0 (e23_v x e s he)).trans rfl
theorem e23_1 (x e : Int) (s : List Nat) (he : e ≠ 0) : g23r1 realA x e s = e := (congrArg g23g1 (e23_v x e s he)).trans rfl
theorem e23_2 (x e : Int) (s : List Nat) (he : e ≠ 0) : g23r2 realA x e s = s := (congrArg g23g2 (e23_v x e s he)).trans rfl
theorem e25_v (e : Int) (s : List Nat) (he : e ≠ 0) : g25v realA e s = some (i6 0, [(0, ⟨[.one (.int .i64 e), .one (.str s)], 59, 1⟩)]) := by
  unfold g25v g25
  simp only [ar_neq, decide_eq_false he, Bool.not_false]
  rfl
theorem e25_ok (e : Int) (s : List Nat) (he : e ≠ 0) : g25ok realA e s = true := (congrArg g25is (e25_v e s he)).trans rfl
theorem e25_0 (e : Int) (s : List Nat) (he : e ≠ 0) : g25r0 realA e s = 0 := (congrArg g25g0 (e25_v e s he)).trans rfl
theorem e25_1 (e : Int) (s : List Nat) (he : e ≠ 0) : g25r1 realA e s = e := (congrArg g25g1 (e25_v e s he)).trans rfl
theorem e25_2 (e : Int) (s : List Nat) (he : e ≠ 0) : g25r2 realA e s = s := (congrArg g25g2 (e25_v e s he)).trans rfl
theorem e27_v (e : Int) (s : List Nat) (he : e ≠ 0) : g27v realA e s = some (i6 e, [(0, ⟨[.one (.int .i64 e), .one (.str s)], 59, 1⟩)]) := by
  unfold g27v g27
  simp only [ar_eql, decide_eq_false he, g27J3]
  rfl
theorem e27_ok (e : Int) (s : List Nat) (he : e ≠ 0) : g27ok realA e s = true := (congrArg g27is (e27_v e s he)).trans rfl
theorem e27_0 (e : Int) (s : List Nat) (he : e ≠ 0) : g27r0 realA e s = e := (congrArg g27g0 (e27_v e s he)).trans rfl
theorem p21_v (x : Int) (s : List Nat) (hx : (s.length : Int) < x) : g21v realA x 0 s = some (tS [], [(0, ⟨[.one (.int .i64 2), .one (.str s)], 59, 1⟩)]) := by
  unfold g21v g21
  have h1 : ¬ x ≤ (s.length : Int) := by omega
  have h0 : decide ((2 : Int) = 0) = false := rfl
  simp only [h29_ok, h29_0, h29_1, h29_2, ar_geq, ar_leq, ar_ofN, decide_eq_true (show (0 : Int) ≤ x by omega), wf1_ok, decide_true, Bool.not_true, decide_eq_false h1, wf1_bad, h0, Bool.not_false]
  rfl
theorem p21_ok (x : Int) (s : List Nat) (hx : (s.length : Int) < x) : g21ok realA x 0 s = true := (congrArg g21is (p21_v x s hx)).trans rfl
theorem p21_1 (x : Int) (s : List Nat) (hx : (s.length : Int) < x) : g21r1 realA x 0 s = 2 := (congrArg g21g1 (p21_v x s hx)).trans rfl
theorem p21_2 (x : Int) (s : List Nat) (hx : (s.length : Int) < x) : g21r2 realA x 0 s = s := (congrArg g21g2 (p21_v x s hx)).trans rfl

theorem wnum_neg (l : List Nat) : wnum (-1) 2 0 l = (1, l) := by
  unfold wnum
  rw [if_pos rfl, if_neg (fun h => absurd h.1.2.2 (by decide))]
theorem g6_loop {R : Type} (kk : AV → Heap → Option R) (N n n4 n5 : Nat) (sz : Int) (a b c : List Int) (d : List (List Nat)) (s : List Nat) : ∀ (k m : Nat) (i : Nat), 10 - i = k → k < m → i ≤ 10 →
    g6L11 realA N kk m n sz true (i : Int) n4 n5 a b c d 1 0 0 [] 2 s = g6J17 realA N kk true n4 n5 a b c d 1 0 0 [] 2 s := by
  have e1 : (1 : Int) ≠ 0 := by decide
  have e2 : (2 : Int) ≠ 0 := by decide
  intro k
  induction k with
  | zero =>
    intro m i hk hm hi
    obtain ⟨m, rfl⟩ : ∃ q, m = q + 1 := ⟨m - 1, by omega⟩
    rw [g6L11]
    simp only [ar_lss, decide_eq_false (show ¬ (i : Int) < 10 by omega)]
    split <;> rfl
  | succ k ih =>
    intro m i hk hm hi
    obtain ⟨m, rfl⟩ : ∃ q, m = q + 1 := ⟨m - 1, by omega⟩
    rw [g6L11]
    by_cases hn : (i : Int) < (n : Int)
    · have hin : i < n := by omega
      have ha : realA.ib .add .i64 (i : Int) 1 = ((i + 1 : Nat) : Int) := by rw [ar_add (by omega)]; omega
      simp only [g6t0, g6t1, g6t2, g6t3, g6t4, g6t5, g6t6, ar_lss, ar_ofN, decide_eq_true hn, decide_eq_true (show (i : Int) < 10 by omega), g6J13, ar_negN, ar_toNN, ar_lt, decide_eq_true hin, e13_ok _ _ _ _ _ e1, e13_0 _ _ _ _ _ e1, e13_1 _ _ _ _ _ e1, e13_2 _ _ _ _ _ e1, e13_3 _ _ _ _ _ e1, e15_ok _ _ _ _ _ _ e1, e15_0 _ _ _ _ _ _ e1, e15_1 _ _ _ _ _ _ e1, e15_2 _ _ _ _ _ _ e1, e15_3 _ _ _ _ _ _ e1,
        e19_ok _ _ _ e2, e19_0 _ _ _ e2, e19_1 _ _ _ e2, e19_2 _ _ _ e2, e21_ok _ _ _ e2, e21_0 _ _ _ e2, e21_1 _ _ _ e2, e21_2 _ _ _ e2, e23_ok _ _ _ e2, e23_0 _ _ _ e2, e23_1 _ _ _ e2, e23_2 _ _ _ e2, e25_ok _ _ e2, e25_0 _ _ e2, e25_1 _ _ e2, e25_2 _ _ e2, ar_neq, ar_scne, decide_true, Bool.not_true, ha]
      exact ih m (i + 1) (by omega) (by omega) (by omega)
    · simp only [ar_lss, ar_ofN, decide_eq_false hn]
theorem law6 (n : Nat) (s : List Nat) (sz : Int) (n3 n4 : Nat) (a b c : List Int) (d : List (List Nat)) (hs : s.length ≤ 9223372036854775806) :
    g6ok realA n s sz n3 n4 a b c d = true ∧ g6r0 realA n s sz n3 n4 a b c d = true := by
  have e2 : (2 : Int) ≠ 0 := by decide
  have h1 : realA.ib .add .i64 (s.length : Int) 1 = ((s.length + 1 : Nat) : Int) := by rw [ar_add (by omega)]; omega
  have hx : (s.length : Int) < ((s.length + 1 : Nat) : Int) := by omega
  have z := g11_ok (-1) 2 0 [] (by simp)
  have z0 := g11_0 (-1) 2 0 [] (by simp)
  have z1 := g11_1 (-1) 2 0 [] (by simp)
  have z2 := g11_2 (-1) 2 0 [] (by simp)
  have z3 := g11_3 (-1) 2 0 [] (by simp)
  simp only [List.length_nil, wnum_neg] at z z0 z1 z2 z3
  have hv : g6v realA n s sz n3 n4 a b c d = some (bO true, [(0, ⟨[.recs n4 [.ints .i64 a, .ints .i64 b, .ints .i64 c, .strs d]], n3, 0⟩)]) := by
    unfold g6v g6
    have h0 : ([] : List Nat).take 0 = [] := rfl
    have hd : decide ((1 : Int) = 1) = true := rfl
    have hd2 : decide ((2 : Int) = 2) = true := rfl
    have h10 : ¬ (1 : Int) = 0 := by decide
    simp only [head13ok, head13r, Bool.not_true, g6J4, g9_ok, g9_0, g18_ok, g18_0, g18_1, g6J8, ar_ofN, z, z0, z1, z2, z3, h1, p21_ok _ _ hx, p21_1 _ _ hx, p21_2 _ _ hx]
    refine Eq.trans (g6_loop _ _ _ _ _ _ _ _ _ _ _ 10 100000 0 rfl (by omega) (by omega)) ?_
    unfold g6J17
    simp only [g17_ok, g17_0, g17_1, ar_sceq, ar_eql, h10, if_false, decide_true, e27_ok _ _ e2, e27_0 _ _ e2, hd, hd2]
    rfl
  exact ⟨(congrArg g6is hv).trans rfl, (congrArg g6g0 hv).trans rfl⟩
theorem law6o (n : Nat) (s : List Nat) (sz : Int) (n3 n4 : Nat) (a b c : List Int) (d : List (List Nat)) (_ : ∀ x ∈ a, (Lit.int .i64 x).wf = true) (_ : ∀ x ∈ b, (Lit.int .i64 x).wf = true) (_ : ∀ x ∈ c, (Lit.int .i64 x).wf = true) (_ : ∀ x ∈ d, (∀ b ∈ x, b < 256) ∧ x.length ≤ maxLen) (_ : ∀ x ∈ s, x < 256) (hs : s.length < 2 ^ 47) (_ : (Lit.int .i64 sz).wf = true) :
    g6ok realA n s sz n3 n4 a b c d = true ∧ g6r0 realA n s sz n3 n4 a b c d = true := law6 n s sz n3 n4 a b c d (by omega)
end Go.Sx
