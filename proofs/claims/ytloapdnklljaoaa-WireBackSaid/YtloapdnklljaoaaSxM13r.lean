import Derived.Test.YtloapdnklljaoaaSxAr
import Derived.Test.YtloapdnklljaoaaSxB13f
namespace Go.Sx
def rRaw (n e : Int) (s : List Nat) : List Nat × Int × List Nat :=
  if e = 0 then (if n < 0 then ([], 1, s) else if (s.length : Int) < n then ([], 2, s) else (s.take n.toNat, 0, s.drop n.toNat)) else ([], e, s)
def bval (l : List Nat) (a : Nat) : Nat := l.foldl (fun n b => n * 256 + b) a
def rNum (z e : Int) (s : List Nat) : Int × Int × List Nat :=
  if e = 0 then (if z < 1 ∨ 7 < z then (0, 1, s) else if (s.length : Int) < z then (0, 2, s) else ((bval (s.take z.toNat) 0 : Nat), 0, s.drop z.toNat)) else (0, e, s)
theorem fineV (b : Bool) (k e : Int) (s : List Nat) : g29a_v realA b k e s = some (bO (decide ((if e = 0 then (if b = true then e else k) else e) = 0)), [(0, ⟨[.one (.int .i64 (if e = 0 then (if b = true then e else k) else e)), .one (.str s)], 59, 1⟩)]) := by
  unfold g29a_v g29a_
  rw [ar_eql]
  by_cases he : e = 0
  · rw [decide_eq_true he, if_pos he]
    cases b <;> rfl
  · rw [decide_eq_false he, if_neg he]
    rfl
theorem fine_ok (b : Bool) (k e : Int) (s : List Nat) : g29a_ok realA b k e s = true := (congrArg g29a_is (fineV b k e s)).trans rfl
theorem fine_0 (b : Bool) (k e : Int) (s : List Nat) : g29a_r0 realA b k e s = decide ((if e = 0 then (if b = true then e else k) else e) = 0) := (congrArg g29a_g0 (fineV b k e s)).trans rfl
theorem fine_1 (b : Bool) (k e : Int) (s : List Nat) : g29a_r1 realA b k e s = (if e = 0 then (if b = true then e else k) else e) := (congrArg g29a_g1 (fineV b k e s)).trans rfl
theorem fine_2 (b : Bool) (k e : Int) (s : List Nat) : g29a_r2 realA b k e s = s := (congrArg g29a_g2 (fineV b k e s)).trans rfl
theorem toN_of {n : Int} (h : ¬ n < 0) : realA.neg n = false ∧ realA.toN n = n.toNat := ⟨show decide (n < 0) = false from decide_eq_false h, rfl⟩
theorem raw_v (n e : Int) (s : List Nat) : g21v realA n e s = some (tS (rRaw n e s).1, [(0, ⟨[.one (.int .i64 (rRaw n e s).2.1), .one (.str (rRaw n e s).2.2)], 59, 1⟩)]) := by
  unfold g21v g21
  simp only [fine_ok, fine_0, fine_1, fine_2, g21t0, g21t1, g21t2]
  have eg : realA.ic .geq n 0 = decide (0 ≤ n) := rfl
  have el : realA.ic .leq n (realA.ofN s.length) = decide (n ≤ (s.length : Int)) := rfl
  rw [eg, el]
  by_cases he : e = 0
  · subst he
    by_cases hn : n < 0
    · rw [decide_eq_false (show ¬ 0 ≤ n by omega)]
      unfold rRaw
      rw [if_pos rfl, if_pos hn]
      rfl
    · rw [decide_eq_true (show 0 ≤ n by omega)]
      by_cases hl : (s.length : Int) < n
      · rw [decide_eq_false (show ¬ n ≤ (s.length : Int) by omega)]
        unfold rRaw
        rw [if_pos rfl, if_neg hn, if_pos hl]
        rfl
      · rw [decide_eq_true (show n ≤ (s.length : Int) by omega)]
        unfold rRaw
        rw [if_pos rfl, if_neg hn, if_neg hl]
        simp only [if_true, decide_true, Bool.not_true]
        unfold g21J3
        obtain ⟨t1, t2⟩ := toN_of hn
        rw [t1, t2, ar_le, decide_eq_true (show n.toNat ≤ s.length by omega), List.take_length]
        rfl
  · unfold rRaw
    simp only [if_neg he, decide_eq_false he, Bool.not_false]
    rfl
theorem raw_ok (n e : Int) (s : List Nat) : g21ok realA n e s = true := (congrArg g21is (raw_v n e s)).trans rfl
theorem raw_0 (n e : Int) (s : List Nat) : g21r0 realA n e s = (rRaw n e s).1 := (congrArg g21g0 (raw_v n e s)).trans rfl
theorem raw_1 (n e : Int) (s : List Nat) : g21r1 realA n e s = (rRaw n e s).2.1 := (congrArg g21g1 (raw_v n e s)).trans rfl
theorem raw_2 (n e : Int) (s : List Nat) : g21r2 realA n e s = (rRaw n e s).2.2 := (congrArg g21g2 (raw_v n e s)).trans rfl
theorem or8 (a b : Nat) (hb : b < 256) (ha : a < 1000000000000000000 / 256) : realA.ib .or .i64 (realA.ish .shl .i64 (a : Int) 8) (realA.ofN b) = ((a * 256 + b : Nat) : Int) := by
  rw [ar_shl (by decide) (by omega)]
  show IntKind.i64.wrap ((BitVec.ofInt 64 ((a : Int) * 2 ^ 8) ||| BitVec.ofInt 64 (b : Int)).toNat : Int) = _
  have e : (a : Int) * 2 ^ 8 = ((a * 256 : Nat) : Int) := by omega
  rw [e, BitVec.ofInt_natCast, BitVec.ofInt_natCast, BitVec.toNat_or, BitVec.toNat_ofNat, BitVec.toNat_ofNat, Nat.mod_eq_of_lt (by omega), Nat.mod_eq_of_lt (by omega)]
  have h := Nat.two_pow_add_eq_or_of_lt (i := 8) hb a
  rw [Nat.mul_comm a 256, ← h]
  exact wrap64 (by omega)
theorem bval_lt : ∀ (l : List Nat) (a : Nat), (∀ x ∈ l, x < 256) → bval l a < (a + 1) * 256 ^ l.length := by
  intro l
  induction l with
  | nil => intro a _; show a < (a + 1) * 1; omega
  | cons x l ih =>
    intro a h
    have h1 := ih (a * 256 + x) (fun y hy => h y (List.mem_cons_of_mem _ hy))
    have hx := h x List.mem_cons_self
    refine Nat.lt_of_lt_of_le h1 ?_
    rw [List.length_cons, Nat.pow_succ, Nat.mul_comm (256 ^ l.length) 256, ← Nat.mul_assoc]
    exact Nat.mul_le_mul_right _ (by omega)
theorem bval_snoc (l : List Nat) (b a : Nat) : bval (l ++ [b]) a = bval l a * 256 + b := by unfold bval; rw [List.foldl_append]; rfl
theorem take_snoc {l : List Nat} {i : Nat} (h : i < l.length) : l.take (i + 1) = l.take i ++ [l.getD i 0] := by
  rw [List.take_add_one, List.getElem?_eq_getElem h, List.getD_eq_getElem?_getD, List.getElem?_eq_getElem h]
  rfl
theorem bval_take {l : List Nat} (hl : ∀ x ∈ l, x < 256) {i : Nat} (hi : i ≤ 6) : bval (l.take i) 0 < 1000000000000000000 / 256 := by
  have h1 := bval_lt (l.take i) 0 (fun x hx => hl x (List.mem_of_mem_take hx))
  have h2 : (l.take i).length ≤ 6 := by rw [List.length_take]; omega
  have h3 : 256 ^ (l.take i).length ≤ 256 ^ 6 := Nat.pow_le_pow_right (by decide) h2
  have h4 : (256 : Nat) ^ 6 = 281474976710656 := rfl
  omega
theorem numLoop (N : Nat) (e : Int) (s l : List Nat) (hl : ∀ x ∈ l, x < 256) (h7 : l.length ≤ 7) (x6 : Nat) : ∀ (k m i : Nat), i + k = l.length →
    g19L5 realA N (outH [0] none) (m + k + 1) (bval (l.take i) 0 : Nat) l.length (l.length : Nat) (i : Nat) e s x6 l = some (i6 (bval l 0 : Nat), [(0, ⟨[.one (.int .i64 e), .one (.str s)], 59, 1⟩)]) := by
  intro k
  induction k with
  | zero =>
    intro m i hi
    rw [g19L5, ar_lss, decide_eq_false (by omega), List.take_of_length_le (by omega)]
    rfl
  | succ k ih =>
    intro m i hi
    rw [show m + (k + 1) + 1 = (m + k + 1) + 1 by omega, g19L5, ar_lss, decide_eq_true (by omega)]
    simp only []
    unfold g19J6
    have q : realA.ib .add .i64 (i : Int) 1 = ((i + 1 : Nat) : Int) := (ar_add (a := (i : Int)) (b := 1) (by omega)).trans (by omega)
    have hb : l.getD i 0 < 256 := by
      rw [List.getD_eq_getElem?_getD, List.getElem?_eq_getElem (by omega)]
      exact hl _ (List.getElem_mem (by omega))
    simp only [ar_negN, ar_toNN, ar_lt, decide_eq_true (show i < l.length by omega), q]
    rw [or8 _ _ hb (bval_take hl (by omega)), ← bval_snoc, ← take_snoc (by omega)]
    exact ih m (i + 1) (by omega)
theorem num_v (z e : Int) (s : List Nat) (hs : ∀ x ∈ s, x < 256) (hl : s.length < 9223372036854775808) : g19v realA z e s = some (i6 (rNum z e s).1, [(0, ⟨[.one (.int .i64 (rNum z e s).2.1), .one (.str (rNum z e s).2.2)], 59, 1⟩)]) := by
  have eg : realA.ic .geq z 1 = decide (1 ≤ z) := rfl
  have el : realA.ic .leq z 7 = decide (z ≤ 7) := rfl
  unfold g19v g19
  rw [eg, el]
  simp only [fine_ok, fine_0, fine_1, fine_2]
  by_cases he : e = 0
  · subst he
    by_cases h1 : 1 ≤ z
    · rw [decide_eq_true h1]
      by_cases h7 : z ≤ 7
      · rw [decide_eq_true h7]
        simp only [if_true, decide_true, Bool.not_true]
        unfold g19J3
        simp only [raw_ok, raw_0, raw_1, raw_2]
        unfold rNum
        rw [if_pos rfl, if_neg (by omega)]
        by_cases hz : (s.length : Int) < z
        · have hr : rRaw z 0 s = ([], 2, s) := by unfold rRaw; rw [if_pos rfl, if_neg (by omega), if_pos hz]
          rw [hr, if_pos hz]
          rfl
        · have hr : rRaw z 0 s = (s.take z.toNat, 0, s.drop z.toNat) := by unfold rRaw; rw [if_pos rfl, if_neg (by omega), if_neg hz]
          rw [hr, if_neg hz]
          simp only []
          have hll : (s.take z.toNat).length = z.toNat := by rw [List.length_take]; omega
          rw [ar_le, decide_eq_true (by omega), ar_ofN]
          exact numLoop 100000 0 (s.drop z.toNat) (s.take z.toNat) (fun x hx => hs x (List.mem_of_mem_take hx)) (by omega) _ (s.take z.toNat).length (99999 - (s.take z.toNat).length) 0 (by omega) |> fun h => by
            rw [show 99999 - (s.take z.toNat).length + (s.take z.toNat).length + 1 = 100000 by omega] at h
            exact h
      · have hr : rNum z 0 s = (0, 1, s) := by unfold rNum; rw [if_pos rfl, if_pos (by omega)]
        rw [decide_eq_false h7, hr]
        rfl
    · have hr : rNum z 0 s = (0, 1, s) := by unfold rNum; rw [if_pos rfl, if_pos (by omega)]
      rw [decide_eq_false h1, hr]
      rfl
  · unfold rNum
    simp only [if_neg he, decide_eq_false he, Bool.not_false]
    cases decide (1 ≤ z) <;> rfl
theorem num_ok (z e : Int) (s : List Nat) (hs : ∀ x ∈ s, x < 256) (hl : s.length < 9223372036854775808) : g19ok realA z e s = true := (congrArg g19is (num_v z e s hs hl)).trans rfl
theorem num_0 (z e : Int) (s : List Nat) (hs : ∀ x ∈ s, x < 256) (hl : s.length < 9223372036854775808) : g19r0 realA z e s = (rNum z e s).1 := (congrArg g19g0 (num_v z e s hs hl)).trans rfl
theorem num_1 (z e : Int) (s : List Nat) (hs : ∀ x ∈ s, x < 256) (hl : s.length < 9223372036854775808) : g19r1 realA z e s = (rNum z e s).2.1 := (congrArg g19g1 (num_v z e s hs hl)).trans rfl
theorem num_2 (z e : Int) (s : List Nat) (hs : ∀ x ∈ s, x < 256) (hl : s.length < 9223372036854775808) : g19r2 realA z e s = (rNum z e s).2.2 := (congrArg g19g2 (num_v z e s hs hl)).trans rfl
def rOpq (z e : Int) (s : List Nat) : List Nat × Int × List Nat := rRaw (rNum z e s).1 (rNum z e s).2.1 (rNum z e s).2.2
theorem opq_v (z e : Int) (s : List Nat) (hs : ∀ x ∈ s, x < 256) (hl : s.length < 9223372036854775808) : g23v realA z e s = some (tS (rOpq z e s).1, [(0, ⟨[.one (.int .i64 (rOpq z e s).2.1), .one (.str (rOpq z e s).2.2)], 59, 1⟩)]) := by
  unfold g23v g23
  simp only [num_ok z e s hs hl, num_0 z e s hs hl, num_1 z e s hs hl, num_2 z e s hs hl, raw_ok, raw_0, raw_1, raw_2]
  rfl
theorem opq_ok (z e : Int) (s : List Nat) (hs : ∀ x ∈ s, x < 256) (hl : s.length < 9223372036854775808) : g23ok realA z e s = true := (congrArg g23is (opq_v z e s hs hl)).trans rfl
theorem opq_0 (z e : Int) (s : List Nat) (hs : ∀ x ∈ s, x < 256) (hl : s.length < 9223372036854775808) : g23r0 realA z e s = (rOpq z e s).1 := (congrArg g23g0 (opq_v z e s hs hl)).trans rfl
theorem opq_1 (z e : Int) (s : List Nat) (hs : ∀ x ∈ s, x < 256) (hl : s.length < 9223372036854775808) : g23r1 realA z e s = (rOpq z e s).2.1 := (congrArg g23g1 (opq_v z e s hs hl)).trans rfl
theorem opq_2 (z e : Int) (s : List Nat) (hs : ∀ x ∈ s, x < 256) (hl : s.length < 9223372036854775808) : g23r2 realA z e s = (rOpq z e s).2.2 := (congrArg g23g2 (opq_v z e s hs hl)).trans rfl
theorem rest_v (e : Int) (s : List Nat) : g25v realA e s = some (i6 (if e = 0 then (s.length : Int) else 0), [(0, ⟨[.one (.int .i64 e), .one (.str s)], 59, 1⟩)]) := by
  unfold g25v g25
  rw [ar_neq]
  by_cases he : e = 0
  · rw [decide_eq_true he, if_pos he]; rfl
  · rw [decide_eq_false he, if_neg he]; rfl
theorem rest_ok (e : Int) (s : List Nat) : g25ok realA e s = true := (congrArg g25is (rest_v e s)).trans rfl
theorem rest_0 (e : Int) (s : List Nat) : g25r0 realA e s = (if e = 0 then (s.length : Int) else 0) := (congrArg g25g0 (rest_v e s)).trans rfl
theorem rest_1 (e : Int) (s : List Nat) : g25r1 realA e s = e := (congrArg g25g1 (rest_v e s)).trans rfl
theorem rest_2 (e : Int) (s : List Nat) : g25r2 realA e s = s := (congrArg g25g2 (rest_v e s)).trans rfl
theorem end_v (e : Int) (s : List Nat) : g27v realA e s = some (i6 (if e = 0 then (if s = [] then 0 else 2) else e), [(0, ⟨[.one (.int .i64 e), .one (.str s)], 59, 1⟩)]) := by
  unfold g27v g27
  rw [ar_eql]
  by_cases he : e = 0
  · rw [decide_eq_true he, if_pos he]
    cases s with
    | nil => rw [if_pos rfl, he]; rfl
    | cons x l => rw [if_neg (by simp)]; rfl
  · rw [decide_eq_false he, if_neg he]; rfl
theorem end_ok (e : Int) (s : List Nat) : g27ok realA e s = true := (congrArg g27is (end_v e s)).trans rfl
theorem end_0 (e : Int) (s : List Nat) : g27r0 realA e s = (if e = 0 then (if s = [] then 0 else 2) else e) := (congrArg g27g0 (end_v e s)).trans rfl
theorem new_v (s : List Nat) : g18ok realA s = true ∧ g18r0 realA s = 0 ∧ g18r1 realA s = s := ⟨rfl, rfl, rfl⟩
end Go.Sx
