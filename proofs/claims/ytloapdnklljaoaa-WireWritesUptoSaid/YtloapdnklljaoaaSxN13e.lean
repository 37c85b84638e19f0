import Derived.Test.YtloapdnklljaoaaSxN13d
import Derived.Test.YtloapdnklljaoaaSxR13c
namespace Go.Sx
theorem kind_v (a : List Int) (s : List Nat) : ∃ k, g10v realA a s = some (i6 k) := by
  unfold g10v g10
  by_cases h : a.getD 0 0 < 0
  · rw [ar_lss, decide_eq_true h]; exact ⟨_, rfl⟩
  · rw [ar_lss, decide_eq_false h]; exact ⟨_, rfl⟩
theorem g10is_some (y : Int) : g10is (some (i6 y)) = true := rfl
theorem kind_ok (a : List Int) (s : List Nat) : g10ok realA a s = true := by
  obtain ⟨k, h⟩ := kind_v a s
  exact (congrArg g10is h).trans (g10is_some _)
theorem j21 {R : Type} (N : Nat) (kk : AV → Heap → Option R) (lg : Nat → Bool → Int → Nat → Nat → List Int → List Int → List Int → List (List Nat) → Int → Nat → Nat → List Nat → List Nat → Int → Option R) (x0 : Nat) (x2 : Int) (x3 x4 : Nat) (x5 x6 x7 : List Int) (x8 : List (List Nat)) (e : Int) (l : List Nat) :
    g3J21 realA N kk lg x0 true x2 x3 x4 x5 x6 x7 x8 e l.length l.length l l e = lg x0 true (realA.ib .add .i64 x2 1) x3 x4 x5 x6 x7 x8 e l.length l.length l l e := by
  by_cases he : e = 0
  · subst he
    simp only [g3J21, g17_ok, g17_0, g17_1, g17_2, g17_3, g17_4, g17_5, ar_neq, ar_eql, ar_scne, decide_true, Bool.not_true, if_true, List.take_length]
  · simp only [g3J21, g17_ok, g17_0, g17_1, g17_2, g17_3, g17_4, g17_5, ar_neq, ar_eql, ar_scne, decide_true, Bool.not_true, if_neg he, decide_eq_false he, Bool.not_false]
theorem loop3 {R : Type} (N : Nat) (kk : AV → Heap → Option R) (x0 x3 x4 : Nat) (x5 x6 x7 : List Int) (x8 : List (List Nat)) (hs : ∀ u ∈ x8, u.length ≤ 2000000) :
    ∀ (m i : Nat) (e : Int) (l : List Nat), l.length ≤ 3000000 * i → i ≤ 20 → 20 - i < m →
      g3L9 realA N kk m x0 true (i : Int) x3 x4 x5 x6 x7 x8 e l.length l.length l l e = kk (bO true) [(0, ⟨[.recs x4 [.ints .i64 x5, .ints .i64 x6, .ints .i64 x7, .strs x8]], x3, 0⟩)] := by
  have hg : ∀ j, (x8.getD j []).length ≤ 2000000 := by
    intro j
    rw [List.getD_eq_getElem?_getD]
    cases e : x8[j]? with
    | none => exact Nat.zero_le _
    | some u => exact hs u (List.mem_of_getElem? e)
  intro m
  induction m with
  | zero => intro i e l _ _ h; omega
  | succ m ih =>
    intro i e l hl hi hm
    rw [g3L9, ar_lss, ar_ofN]
    by_cases h0 : (i : Int) < (x0 : Int)
    · rw [decide_eq_true h0, ar_lss]
      by_cases h1 : (i : Int) < 20
      · rw [decide_eq_true h1]
        have q : realA.ib .add .i64 (i : Int) 1 = ((i + 1 : Nat) : Int) := by rw [ar_add (by omega)]; rfl
        have hu := hg (realA.toN (i : Int))
        have a1 : l.length ≤ 100000000000 := by omega
        have a2 : l.length + (x8.getD (realA.toN (i : Int)) []).length ≤ 100000000000 := by omega
        have a3 : l.length + (x8.getD (realA.toN (i : Int)) []).length ≤ 10000000000 := by omega
        have a4 : l.length + (x8.getD (realA.toN (i : Int)) []).length ≤ 100000000000000 := by omega
        simp only [g3J11, g3t0, g3t1, g3t2, g3t3, g3t4, g3t5, g3t6, g3t7, g3t8, g3t9, g3t10, g3t11, ar_negN, ar_lt, ar_toNN, decide_eq_true (show i < x0 by omega)]
        rw [ar_toNN] at hu a2 a3 a4
        generalize x8.getD i [] = u at *
        generalize (([0, 0, 0].set 0 (x5.getD i 0)).set 1 (x6.getD i 0)).set 2 (x7.getD i 0) = p at *
        have ho : g10ok realA p u = true := kind_ok p u
        simp only [ho, ar_eql]
        by_cases k0 : g10r0 realA p u = 0
        · simp only [decide_eq_true k0, g11_ok _ _ _ l a1, r12_ok _ _ _ l a1, g11_0 _ _ _ l a1, g11_1 _ _ _ l a1, g11_2 _ _ _ l a1, g11_3 _ _ _ l a1, r12_0 _ _ _ l a1, r12_1 _ _ _ l a1]
          rw [j21, q]
          exact ih (i + 1) _ _ (by have := wnum_len (p.getD 1 0) (p.getD 2 0) e l; omega) (by omega) (by omega)
        · by_cases k1 : g10r0 realA p u = 1
          · simp only [decide_eq_false k0, decide_eq_true k1, g13_ok u _ l a4, r14_ok u l _ a2, g13_0 u _ l a4, g13_1 u _ l a4, g13_2 u _ l a4, g13_3 u _ l a4, r14_0 u l _ a2, r14_1 u l _ a2]
            rw [j21, q]
            exact ih (i + 1) _ _ (by have := wraw_len u e l; omega) (by omega) (by omega)
          · simp only [decide_eq_false k0, decide_eq_false k1, o15_ok u l _ _ a3, r16_ok u l _ _ a3, o15_0 u l _ _ a3, o15_1 u l _ _ a3, o15_2 u l _ _ a3, o15_3 u l _ _ a3, r16_0 u l _ _ a3, r16_1 u l _ _ a3]
            rw [j21, q]
            exact ih (i + 1) _ _ (by have := wopq_len u (p.getD 2 0) e l; omega) (by omega) (by omega)
      · rw [decide_eq_false h1]
    · rw [decide_eq_false h0]
theorem law3v (n x1 x2 : Nat) (a b c : List Int) (d : List (List Nat)) (hs : ∀ u ∈ d, u.length ≤ 2000000) : g3v realA n x1 x2 a b c d = some (bO true, [(0, ⟨[.recs x2 [.ints .i64 a, .ints .i64 b, .ints .i64 c, .strs d]], x1, 0⟩)]) := by
  unfold g3v g3
  simp only [head13ok, head13r, Bool.not_true, g3J4, g9_ok, g9_0, g3J8]
  have h := loop3 100000 (outH [0] none) n x1 x2 a b c d hs 100000 0 0 [] (by simp) (by omega) (by omega)
  exact h.trans rfl
theorem law3w (n x1 x2 : Nat) (a b c : List Int) (d : List (List Nat)) (hs : ∀ u ∈ d, u.length ≤ 2000000) : g3ok realA n x1 x2 a b c d = true ∧ g3r0 realA n x1 x2 a b c d = true :=
  ⟨(congrArg g3is (law3v n x1 x2 a b c d hs)).trans rfl, (congrArg g3g0 (law3v n x1 x2 a b c d hs)).trans rfl⟩
end Go.Sx
