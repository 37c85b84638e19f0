import Derived.Test.YtloapdnklljaoaaSxB13f
import Derived.Test.YtloapdnklljaoaaSxAr
namespace Go.Sx
theorem head13 : g8v realA = some (.v (.cell (.bool true))) := by kernel_rfl
theorem head13ok : g8ok realA = true := by unfold g8ok; rw [head13]; rfl
theorem head13r : g8r0 realA = true := by unfold g8r0; rw [head13]; rfl
def wf1 (ok : Bool) (r e : Int) : Int := if e = 0 ∧ ok = false then r else e
theorem g29_v (ok : Bool) (r e : Int) (n m : Nat) (l : List Nat) : g29v realA ok r e n m l = some (bO (decide (wf1 ok r e = 0)), [(0, ⟨[.one (.int .i64 (wf1 ok r e)), .one (.sl 1 none n 1)], 56, 1⟩), (1, ⟨[.nums .u8 m l], 5, 2⟩)]) := by
  unfold g29v g29 wf1
  by_cases he : e = 0
  · subst he
    cases ok <;> rfl
  · rw [if_neg (fun h => he h.1), ar_eql, decide_eq_false he]
    simp only [g29J3, ar_eql, decide_eq_false he]
    rfl
theorem g29_ok (ok : Bool) (r e : Int) (n m : Nat) (l : List Nat) : g29ok realA ok r e n m l = true := by unfold g29ok; rw [g29_v]; rfl
theorem g29_0 (ok : Bool) (r e : Int) (n m : Nat) (l : List Nat) : g29r0 realA ok r e n m l = decide (wf1 ok r e = 0) := by unfold g29r0; rw [g29_v]; rfl
theorem g29_1 (ok : Bool) (r e : Int) (n m : Nat) (l : List Nat) : g29r1 realA ok r e n m l = wf1 ok r e := by unfold g29r1; rw [g29_v]; rfl
theorem g29_2 (ok : Bool) (r e : Int) (n m : Nat) (l : List Nat) : g29r2 realA ok r e n m l = n := by unfold g29r2; rw [g29_v]; rfl
theorem g29_3 (ok : Bool) (r e : Int) (n m : Nat) (l : List Nat) : g29r3 realA ok r e n m l = m := by unfold g29r3; rw [g29_v]; rfl
theorem g29_4 (ok : Bool) (r e : Int) (n m : Nat) (l : List Nat) : g29r4 realA ok r e n m l = l := by unfold g29r4; rw [g29_v]; rfl
def nby (x : Int) (size i : Nat) : List Nat := ((List.range size).drop i).map fun j => (x / 2 ^ (8 * (size - 1 - j)) % 256).toNat
theorem nby_step (x : Int) (size i : Nat) (h : i < size) : nby x size i = (x / 2 ^ (8 * (size - 1 - i)) % 256).toNat :: nby x size (i + 1) := by
  unfold nby
  rw [List.drop_eq_getElem_cons (by simpa using h)]
  simp
theorem nby_end (x : Int) (size : Nat) : nby x size size = [] := by unfold nby; simp
theorem g11_loop {R : Type} (kk : AV → Heap → Option R) (N : Nat) (x e : Int) (size : Nat) (hs : size ≤ 7) : ∀ (d m i : Nat) (l : List Nat), size - i = d → i ≤ size → size - i < m → l.length + (size - i) ≤ 1000000000000 →
    g11L2 realA N kk m x size size i e l.length l.length l = kk (.tup []) [(0, ⟨[.one (.int .i64 e), .one (.sl 501 none (l ++ nby x size i).length 1)], 56, 1⟩), (501, ⟨[.nums .u8 (l ++ nby x size i).length (l ++ nby x size i)], 5, 2⟩)] := by
  intro d
  induction d with
  | zero =>
    intro m i l hd hi hm hl
    obtain ⟨m, rfl⟩ : ∃ k, m = k + 1 := ⟨m - 1, by omega⟩
    have e1 : i = size := by omega
    subst e1
    rw [g11L2, ar_lss, decide_eq_false (by omega)]
    simp only [nby_end, List.append_nil]
  | succ d ih =>
    intro m i l hd hi hm hl
    obtain ⟨m, rfl⟩ : ∃ k, m = k + 1 := ⟨m - 1, by omega⟩
    have e1 : realA.ib .mul .i64 8 (realA.ib .sub .i64 (realA.ib .sub .i64 (size : Int) 1) (i : Int)) = ((8 * (size - 1 - i) : Nat) : Int) := by
      rw [ar_sub (a := (size : Int)) (by omega), ar_sub (by omega), ar_mul (by omega)]; omega
    have e2 : realA.ib .add .i64 (i : Int) 1 = ((i + 1 : Nat) : Int) := by rw [ar_add (by omega)]; omega
    have e3 : realA.i2n .u8 (realA.ish .shr .i64 x (8 * (size - 1 - i))) = (x / 2 ^ (8 * (size - 1 - i)) % 256).toNat := by rw [ar_shr (by omega)]; rfl
    rw [g11L2, ar_lss, decide_eq_true (by omega)]
    simp only [g11J3]
    rw [e1]
    simp only [ar_negN, ar_toNN, e3, e2, ar_eq, ar_le, Nat.add_zero, decide_true]
    have h2 : [(x / 2 ^ (8 * (size - 1 - i)) % 256).toNat].take 1 = [(x / 2 ^ (8 * (size - 1 - i)) % 256).toNat] := rfl
    rw [h2]
    have h3 : (l ++ [(x / 2 ^ (8 * (size - 1 - i)) % 256).toNat]).length = l.length + 1 := by simp
    rw [decide_eq_true (by omega : (l ++ [(x / 2 ^ (8 * (size - 1 - i)) % 256).toNat]).length ≤ 140737488355328)]
    simp only []
    rw [ih m (i + 1) _ (by omega) (by omega) (by omega) (by omega), nby_step x size i (by omega), List.append_assoc]
    rfl
def wnum (x : Int) (s : Int) (e : Int) (l : List Nat) : Int × List Nat :=
  if e = 0 then if (1 ≤ s ∧ s ≤ 7 ∧ 0 ≤ x) ∧ x < 2 ^ (8 * s.toNat) then (0, l ++ nby x s.toNat 0) else (1, l) else (e, l)
def wraw (t : List Nat) (e : Int) (l : List Nat) : Int × List Nat := if e = 0 then (0, l ++ t) else (e, l)
theorem outW (e : Int) (n m : Nat) (l : List Nat) (v : AV) (hv : v = .tup []) : outH [0, 501] none v [(0, ⟨[.one (.int .i64 e), .one (.sl 501 none n 1)], 56, 1⟩), (501, ⟨[.nums .u8 m l], 5, 2⟩)] = some (.tup [], [(0, ⟨[.one (.int .i64 e), .one (.sl 501 none n 1)], 56, 1⟩), (501, ⟨[.nums .u8 m l], 5, 2⟩)]) := by
  subst hv; rfl
theorem wf1_bad {r e : Int} (h : e = 0) : wf1 false r e = r := if_pos ⟨h, rfl⟩
theorem wf1_err {ok : Bool} {r e : Int} (h : e ≠ 0) : wf1 ok r e = e := if_neg fun q => h q.1
theorem wf1_ok {r e : Int} : wf1 true r e = e := if_neg fun q => by cases q.2
theorem g11_v (x s e : Int) (l : List Nat) (hl : l.length ≤ 100000000000) : g11v realA x s e l.length l.length l = some (.tup [], [(0, ⟨[.one (.int .i64 (wnum x s e l).1), .one (.sl 501 none (wnum x s e l).2.length 1)], 56, 1⟩), (501, ⟨[.nums .u8 (wnum x s e l).2.length (wnum x s e l).2], 5, 2⟩)]) := by
  unfold g11v g11
  simp only [g29_ok, g29_0, g29_1, g29_2, g29_3, g29_4, ar_geq, ar_leq]
  by_cases he : e = 0
  · subst he
    by_cases h : 1 ≤ s ∧ s ≤ 7 ∧ 0 ≤ x
    · obtain ⟨h1, h2, h3⟩ := h
      obtain ⟨z, rfl⟩ : ∃ z : Nat, s = z := ⟨s.toNat, by omega⟩
      have e1 : realA.ib .mul .i64 8 (z : Int) = ((8 * z : Nat) : Int) := by rw [ar_mul (by omega)]; omega
      have e2 : realA.ish .shl .i64 1 (8 * z) = 2 ^ (8 * z) := by
        have h4 : (2 : Int) ^ (8 * z) ≤ 2 ^ 56 := by
          have : (2 : Nat) ^ (8 * z) ≤ 2 ^ 56 := Nat.pow_le_pow_right (by omega) (by omega)
          exact_mod_cast this
        have h5 : (0 : Int) < 2 ^ (8 * z) := Int.pow_pos (by omega)
        rw [ar_shl (by omega) (by omega), Int.one_mul]
      simp only [decide_eq_true h1, decide_eq_true h2, decide_eq_true h3, wf1_ok, decide_true, Bool.not_true, e1, ar_negN, ar_toNN, e2, ar_lss]
      by_cases h6 : x < 2 ^ (8 * z)
      · have hw : wnum x (z : Int) 0 l = (0, l ++ nby x z 0) := by
          unfold wnum
          rw [if_pos rfl, if_pos ⟨⟨h1, h2, h3⟩, h6⟩]
          rfl
        rw [hw]
        simp only [decide_eq_true h6, wf1_ok, decide_true, Bool.not_true, g11J1]
        exact (g11_loop _ 100000 x 0 z (by omega) z 100000 0 l (by omega) (by omega) (by omega) (by omega)).trans (outW _ _ _ _ _ rfl)
      · simp only [decide_eq_false h6, wf1_bad]
        have : decide ((1 : Int) = 0) = false := rfl
        simp only [this, Bool.not_false]
        have hw : wnum x (z : Int) 0 l = (1, l) := by
          unfold wnum
          rw [if_pos rfl, if_neg (fun q => h6 q.2)]
        rw [hw]
        exact outW _ _ _ _ _ rfl
    · have : wnum x s 0 l = (1, l) := by
        unfold wnum
        rw [if_pos rfl, if_neg (fun q => h q.1)]
      rw [this]
      by_cases h1 : 1 ≤ s
      · by_cases h2 : s ≤ 7
        · have h3 : ¬ 0 ≤ x := fun q => h ⟨h1, h2, q⟩
          simp only [decide_eq_true h1, decide_eq_true h2, decide_eq_false h3, wf1_bad]
          exact outW _ _ _ _ _ rfl
        · simp only [decide_eq_true h1, decide_eq_false h2, wf1_bad]
          exact outW _ _ _ _ _ rfl
      · simp only [decide_eq_false h1, wf1_bad]
        exact outW _ _ _ _ _ rfl
  · have : wnum x s e l = (e, l) := by
      unfold wnum
      rw [if_neg he]
    rw [this]
    simp only [wf1_err he, decide_eq_false he, Bool.not_false]
    split
    · split
      · exact outW _ _ _ _ _ rfl
      · exact outW _ _ _ _ _ rfl
    · exact outW _ _ _ _ _ rfl
theorem g11_ok (x s e : Int) (l : List Nat) (hl : l.length ≤ 100000000000) : g11ok realA x s e l.length l.length l = true := by unfold g11ok; rw [g11_v x s e l hl]; rfl
theorem g11_0 (x s e : Int) (l : List Nat) (hl : l.length ≤ 100000000000) : g11r0 realA x s e l.length l.length l = (wnum x s e l).1 := by unfold g11r0; rw [g11_v x s e l hl]; rfl
theorem g11_1 (x s e : Int) (l : List Nat) (hl : l.length ≤ 100000000000) : g11r1 realA x s e l.length l.length l = (wnum x s e l).2.length := by unfold g11r1; rw [g11_v x s e l hl]; rfl
theorem g11_2 (x s e : Int) (l : List Nat) (hl : l.length ≤ 100000000000) : g11r2 realA x s e l.length l.length l = (wnum x s e l).2.length := by unfold g11r2; rw [g11_v x s e l hl]; rfl
theorem g11_3 (x s e : Int) (l : List Nat) (hl : l.length ≤ 100000000000) : g11r3 realA x s e l.length l.length l = (wnum x s e l).2 := by unfold g11r3; rw [g11_v x s e l hl]; rfl
theorem g13_v (t : List Nat) (e : Int) (l : List Nat) (hl : l.length + t.length ≤ 100000000000000) : g13v realA t e l.length l.length l = some (.tup [], [(0, ⟨[.one (.int .i64 (wraw t e l).1), .one (.sl 501 none (wraw t e l).2.length 1)], 56, 1⟩), (501, ⟨[.nums .u8 (wraw t e l).2.length (wraw t e l).2], 5, 2⟩)]) := by
  unfold g13v g13
  by_cases he : e = 0
  · have hw : wraw t e l = (0, l ++ t) := if_pos he
    have h2 : (l ++ t).length ≤ 140737488355328 := by rw [List.length_append]; omega
    rw [hw, he]
    simp only [ar_eql, decide_true, ar_eq, Nat.add_zero, ar_le, decide_eq_true h2]
    rfl
  · have hw : wraw t e l = (e, l) := if_neg he
    rw [hw]
    simp only [ar_eql, decide_eq_false he]
    exact outW _ _ _ _ _ rfl
theorem g13_ok (t : List Nat) (e : Int) (l : List Nat) (hl : l.length + t.length ≤ 100000000000000) : g13ok realA t e l.length l.length l = true := by unfold g13ok; rw [g13_v t e l hl]; rfl
theorem g13_0 (t : List Nat) (e : Int) (l : List Nat) (hl : l.length + t.length ≤ 100000000000000) : g13r0 realA t e l.length l.length l = (wraw t e l).1 := by unfold g13r0; rw [g13_v t e l hl]; rfl
theorem g13_1 (t : List Nat) (e : Int) (l : List Nat) (hl : l.length + t.length ≤ 100000000000000) : g13r1 realA t e l.length l.length l = (wraw t e l).2.length := by unfold g13r1; rw [g13_v t e l hl]; rfl
theorem g13_2 (t : List Nat) (e : Int) (l : List Nat) (hl : l.length + t.length ≤ 100000000000000) : g13r2 realA t e l.length l.length l = (wraw t e l).2.length := by unfold g13r2; rw [g13_v t e l hl]; rfl
theorem g13_3 (t : List Nat) (e : Int) (l : List Nat) (hl : l.length + t.length ≤ 100000000000000) : g13r3 realA t e l.length l.length l = (wraw t e l).2 := by unfold g13r3; rw [g13_v t e l hl]; rfl
theorem g17_v (e : Int) (n : Nat) (l : List Nat) : g17v realA e n n l = some (.tup [.cell (.str (if e = 0 then l.take n else [])), .cell (.int .i64 e)], [(0, ⟨[.one (.int .i64 e), .one (.sl 501 none n 1)], 56, 1⟩), (501, ⟨[.nums .u8 n l], 5, 2⟩)]) := by
  unfold g17v g17
  by_cases he : e = 0
  · rw [if_pos he, he]; rfl
  · rw [if_neg he]
    simp only [ar_neq, decide_eq_false he, Bool.not_false]
    rfl
theorem g17_ok (e : Int) (n : Nat) (l : List Nat) : g17ok realA e n n l = true := by unfold g17ok; rw [g17_v]; rfl
theorem g17_0 (e : Int) (n : Nat) (l : List Nat) : g17r0 realA e n n l = if e = 0 then l.take n else [] := by unfold g17r0; rw [g17_v]; rfl
theorem g17_1 (e : Int) (n : Nat) (l : List Nat) : g17r1 realA e n n l = e := by unfold g17r1; rw [g17_v]; rfl
theorem g9_v : g9v realA = some (pT 700 0, [(700, ⟨[.one (.int .i64 0), .one .nils], 56, 1⟩)]) := by kernel_rfl
theorem g9_ok : g9ok realA = true := by unfold g9ok; rw [g9_v]; rfl
theorem g9_0 : g9r0 realA = 0 := by unfold g9r0; rw [g9_v]; rfl
end Go.Sx
