import Derived.Test.YtloapdnklljaoaaSxN13c
namespace Go.Sx
theorem r12_loop {R : Type} (N : Nat) (kk : AV → Heap → Option R) (x e : Int) (size : Nat) (hs : size ≤ 7) : ∀ (d f : Nat) (B : List Nat), d ≤ size → d < f → B.length + d ≤ 1000000000000 →
    g12L4 realA N kk f x ((d : Int) - 1) B e = kk (.tup []) [(0, ⟨[.one (.str (B ++ nby x size (size - d))), .one (.int .i64 e)], 28, 1⟩)] := by
  intro d
  induction d with
  | zero =>
    intro f B _ hf _
    obtain ⟨f, rfl⟩ : ∃ q, f = q + 1 := ⟨f - 1, by omega⟩
    rw [g12L4, ar_geq, decide_eq_false (by omega), Nat.sub_zero, nby_end, List.append_nil]
  | succ d ih =>
    intro f B hd hf hB
    obtain ⟨f, rfl⟩ : ∃ q, f = q + 1 := ⟨f - 1, by omega⟩
    have e0 : ((d + 1 : Nat) : Int) - 1 = (d : Int) := by omega
    have e1 : realA.ib .sub .i64 (d : Int) 1 = (d : Int) - 1 := ar_sub (by omega)
    have e2 : realA.ib .mul .i64 8 (d : Int) = ((8 * d : Nat) : Int) := by rw [ar_mul (by omega)]; omega
    have e3 : realA.i2n .u8 (realA.ish .shr .i64 x (8 * d)) = (x / 2 ^ (8 * d) % 256).toNat := by rw [ar_shr (by omega)]; rfl
    have h2 : ∀ y : Nat, [y].take 1 = [y] := fun _ => rfl
    have h3 : ∀ y : Nat, B.length + [y].length ≤ 9223372036854775807 := fun y => by show B.length + 1 ≤ _; omega
    rw [g12L4, e0, ar_geq, decide_eq_true (show (0 : Int) ≤ (d : Int) by omega)]
    simp only [g12J6, e1, e2, ar_negN, ar_toNN, e3, h2, ar_le, decide_eq_true (h3 _)]
    rw [ih f _ (by omega) (by omega) (by rw [List.length_append]; show B.length + 1 + d ≤ _; omega), nby_step x size (size - (d + 1)) (by omega), show size - 1 - (size - (d + 1)) = d by omega, show size - (d + 1) + 1 = size - d by omega, List.append_assoc]
    rfl
theorem wnum_no {x s e : Int} {l : List Nat} (he : e = 0) (h : ¬ ((1 ≤ s ∧ s ≤ 7 ∧ 0 ≤ x) ∧ x < 2 ^ (8 * s.toNat))) : wnum x s e l = (1, l) := by unfold wnum; rw [if_pos he, if_neg h]
theorem wnum_yes {x s e : Int} {l : List Nat} (he : e = 0) (h : (1 ≤ s ∧ s ≤ 7 ∧ 0 ≤ x) ∧ x < 2 ^ (8 * s.toNat)) : wnum x s e l = (0, l ++ nby x s.toNat 0) := by unfold wnum; rw [if_pos he, if_pos h]
theorem wnum_err {x s e : Int} {l : List Nat} (he : e ≠ 0) : wnum x s e l = (e, l) := by unfold wnum; rw [if_neg he]
theorem shr_pos {x : Int} {c : Nat} (hx : 0 ≤ x) : (0 < x / 2 ^ c) ↔ 2 ^ c ≤ x := by
  have hp : (0 : Int) < 2 ^ c := Int.pow_pos (by decide)
  constructor
  · intro h
    rcases Int.lt_or_le x (2 ^ c) with q | q
    · rw [Int.ediv_eq_zero_of_lt hx q] at h; omega
    · exact q
  · intro h
    have := Int.ediv_le_ediv hp h
    rw [Int.ediv_self (by omega)] at this
    omega
theorem r12_v (x s e : Int) (B : List Nat) (hB : B.length ≤ 100000000000) : g12v realA x s B e = some (.tup [], [(0, ⟨[.one (.str (wnum x s e B).2), .one (.int .i64 (wnum x s e B).1)], 28, 1⟩)]) := by
  unfold g12v g12
  by_cases he : e = 0
  · rw [ar_neq, decide_eq_true he]
    simp only [Bool.not_true, g12J1, ar_lss, ar_gtr]
    by_cases h1 : s < 1
    · rw [decide_eq_true h1, wnum_no he (by omega)]; rfl
    · rw [decide_eq_false h1]
      by_cases h2 : 7 < s
      · rw [decide_eq_true h2, wnum_no he (by omega)]; rfl
      · rw [decide_eq_false h2]
        by_cases h3 : x < 0
        · rw [decide_eq_true h3, wnum_no he (by omega)]; rfl
        · rw [decide_eq_false h3]
          obtain ⟨n, rfl⟩ : ∃ n : Nat, s = n := ⟨s.toNat, by omega⟩
          have e2 : realA.ib .mul .i64 8 (n : Int) = ((8 * n : Nat) : Int) := by rw [ar_mul (by omega)]; omega
          have e4 : realA.ib .sub .i64 (n : Int) 1 = (n : Int) - 1 := ar_sub (by omega)
          simp only [e2, ar_negN, ar_toNN]
          rw [ar_shr (by omega)]
          by_cases h4 : (2 : Int) ^ (8 * n) ≤ x
          · rw [decide_eq_true ((shr_pos (by omega)).2 h4), wnum_no he (by rw [Int.toNat_natCast]; omega)]; rfl
          · rw [decide_eq_false (fun q => h4 ((shr_pos (by omega)).1 q)), wnum_yes he (by rw [Int.toNat_natCast]; omega)]
            simp only [g12J3, e4]
            rw [r12_loop 100000 _ x e n (by omega) n 100000 B (by omega) (by omega) (by omega), Nat.sub_self, he, Int.toNat_natCast]
            rfl
  · rw [ar_neq, decide_eq_false he, wnum_err he]; rfl
theorem r12_ok (x s e : Int) (B : List Nat) (hB : B.length ≤ 100000000000) : g12ok realA x s B e = true := (congrArg g12is (r12_v x s e B hB)).trans rfl
theorem r12_0 (x s e : Int) (B : List Nat) (hB : B.length ≤ 100000000000) : g12r0 realA x s B e = (wnum x s e B).2 := (congrArg g12g0 (r12_v x s e B hB)).trans rfl
theorem r12_1 (x s e : Int) (B : List Nat) (hB : B.length ≤ 100000000000) : g12r1 realA x s B e = (wnum x s e B).1 := (congrArg g12g1 (r12_v x s e B hB)).trans rfl
theorem r14_v (u B : List Nat) (e : Int) (hB : B.length + u.length ≤ 100000000000) : g14v realA u B e = some (.tup [], [(0, ⟨[.one (.str (wraw u e B).2), .one (.int .i64 (wraw u e B).1)], 28, 1⟩)]) := by
  unfold g14v g14
  by_cases he : e = 0
  · subst he
    rw [ar_eql, decide_eq_true rfl, ar_le, decide_eq_true (by omega)]; rfl
  · rw [ar_eql, decide_eq_false he]
    unfold wraw
    rw [if_neg he]; rfl
theorem r14_ok (u B : List Nat) (e : Int) (hB : B.length + u.length ≤ 100000000000) : g14ok realA u B e = true := (congrArg g14is (r14_v u B e hB)).trans rfl
theorem r14_0 (u B : List Nat) (e : Int) (hB : B.length + u.length ≤ 100000000000) : g14r0 realA u B e = (wraw u e B).2 := (congrArg g14g0 (r14_v u B e hB)).trans rfl
theorem r14_1 (u B : List Nat) (e : Int) (hB : B.length + u.length ≤ 100000000000) : g14r1 realA u B e = (wraw u e B).1 := (congrArg g14g1 (r14_v u B e hB)).trans rfl
theorem nby_len (x : Int) (s : Nat) : (nby x s 0).length = s := by unfold nby; simp
theorem wnum_len (x s e : Int) (l : List Nat) : (wnum x s e l).2.length ≤ l.length + 7 := by
  by_cases he : e = 0
  · by_cases h : (1 ≤ s ∧ s ≤ 7 ∧ 0 ≤ x) ∧ x < 2 ^ (8 * s.toNat)
    · rw [wnum_yes he h, List.length_append, nby_len]; omega
    · rw [wnum_no he h]; show l.length ≤ _; omega
  · rw [wnum_err he]; show l.length ≤ _; omega
theorem wraw_len (u : List Nat) (e : Int) (l : List Nat) : (wraw u e l).2.length ≤ l.length + u.length := by
  unfold wraw
  split
  · rw [List.length_append]; omega
  · show l.length ≤ _; omega
def wopq (u : List Nat) (s e : Int) (l : List Nat) : Int × List Nat := wraw u (wnum u.length s e l).1 (wnum u.length s e l).2
theorem wopq_len (u : List Nat) (s e : Int) (l : List Nat) : (wopq u s e l).2.length ≤ l.length + 7 + u.length := Nat.le_trans (wraw_len _ _ _) (by have := wnum_len u.length s e l; omega)
theorem r16_v (u B : List Nat) (s e : Int) (hB : B.length + u.length ≤ 10000000000) : g16v realA u s B e = some (.tup [], [(0, ⟨[.one (.str (wopq u s e B).2), .one (.int .i64 (wopq u s e B).1)], 28, 1⟩)]) := by
  unfold g16v g16
  have hl := wnum_len u.length s e B
  simp only [ar_ofN, r12_ok _ _ _ B (show B.length ≤ 100000000000 by omega), r12_0 _ _ _ B (show B.length ≤ 100000000000 by omega), r12_1 _ _ _ B (show B.length ≤ 100000000000 by omega), r14_ok u _ _ (show (wnum u.length s e B).2.length + u.length ≤ 100000000000 by omega), r14_0 u _ _ (show (wnum u.length s e B).2.length + u.length ≤ 100000000000 by omega), r14_1 u _ _ (show (wnum u.length s e B).2.length + u.length ≤ 100000000000 by omega)]
  rfl
theorem r16_ok (u B : List Nat) (s e : Int) (hB : B.length + u.length ≤ 10000000000) : g16ok realA u s B e = true := (congrArg g16is (r16_v u B s e hB)).trans rfl
theorem r16_0 (u B : List Nat) (s e : Int) (hB : B.length + u.length ≤ 10000000000) : g16r0 realA u s B e = (wopq u s e B).2 := (congrArg g16g0 (r16_v u B s e hB)).trans rfl
theorem r16_1 (u B : List Nat) (s e : Int) (hB : B.length + u.length ≤ 10000000000) : g16r1 realA u s B e = (wopq u s e B).1 := (congrArg g16g1 (r16_v u B s e hB)).trans rfl
theorem o15_v (u l : List Nat) (s e : Int) (hB : l.length + u.length ≤ 10000000000) : g15v realA u s e l.length l.length l = some (.tup [], [(0, ⟨[.one (.int .i64 (wopq u s e l).1), .one (.sl 501 none (wopq u s e l).2.length 1)], 56, 1⟩), (501, ⟨[.nums .u8 (wopq u s e l).2.length (wopq u s e l).2], 5, 2⟩)]) := by
  unfold g15v g15
  have hl := wnum_len u.length s e l
  have h1 : l.length ≤ 100000000000 := by omega
  have h2 : (wnum u.length s e l).2.length + u.length ≤ 100000000000000 := by omega
  simp only [g15t0, g15t1, g15t2, g15t3, ar_ofN, g11_ok _ _ _ l h1, g11_0 _ _ _ l h1, g11_1 _ _ _ l h1, g11_2 _ _ _ l h1, g11_3 _ _ _ l h1, g13_ok u _ _ h2, g13_0 u _ _ h2, g13_1 u _ _ h2, g13_2 u _ _ h2, g13_3 u _ _ h2]
  exact outW _ _ _ _ _ rfl
theorem o15_ok (u l : List Nat) (s e : Int) (hB : l.length + u.length ≤ 10000000000) : g15ok realA u s e l.length l.length l = true := (congrArg g15is (o15_v u l s e hB)).trans rfl
theorem o15_0 (u l : List Nat) (s e : Int) (hB : l.length + u.length ≤ 10000000000) : g15r0 realA u s e l.length l.length l = (wopq u s e l).1 := (congrArg g15g0 (o15_v u l s e hB)).trans rfl
theorem o15_1 (u l : List Nat) (s e : Int) (hB : l.length + u.length ≤ 10000000000) : g15r1 realA u s e l.length l.length l = (wopq u s e l).2.length := (congrArg g15g1 (o15_v u l s e hB)).trans rfl
theorem o15_2 (u l : List Nat) (s e : Int) (hB : l.length + u.length ≤ 10000000000) : g15r2 realA u s e l.length l.length l = (wopq u s e l).2.length := (congrArg g15g2 (o15_v u l s e hB)).trans rfl
theorem o15_3 (u l : List Nat) (s e : Int) (hB : l.length + u.length ≤ 10000000000) : g15r3 realA u s e l.length l.length l = (wopq u s e l).2 := (congrArg g15g3 (o15_v u l s e hB)).trans rfl
end Go.Sx
