import Derived.Test.YtloapdnklljaoaaSxAr
import Derived.Test.YtloapdnklljaoaaSxY13f
namespace Go.Sx
def rRaw (n e : Int) (s : List Nat) : List Nat × Int × List Nat :=
  if e = 0 then (if n < 0 then ([], 1, s) else if (s.length : Int) < n then ([], 2, s) else (s.take n.toNat, 0, s.drop n.toNat)) else ([], e, s)
def bval (l : List Nat) (a : Nat) : Nat := l.foldl (fun n b => n * 256 + b) a
def rNum (z e : Int) (s : List Nat) : Int × Int × List Nat :=
  if e = 0 then (if z < 1 ∨ 7 < z then (0, 1, s) else if (s.length : Int) < z then (0, 2, s) else ((bval (s.take z.toNat) 0 : Nat), 0, s.drop z.toNat)) else (0, e, s)
theorem fineV (b : Bool) (k e : Int) (s : List Nat) : g29a_v realA b k e s = some (bO (decide ((if e = 0 then (if b = true then e else k) else e) = 0)), [(0, ⟨[.one (.int .i64 (if e = 0 then (if b = true then e else k) else e)), .one (.str s)], 59, 1⟩)]) := by
  unfold g29a_v g29a_
  rw [ar_eql]
  by_cases he : e = 0
  · rw [decide_eq_true he, if_pos he]
    cases b <;> rfl
  · rw [decide_eq_false he, if_neg he]
    rfl
theorem fine_ok (b : Bool) (k e : Int) (s : List Nat) : g29a_ok realA b k e s = true := (congrArg g29a_is (fineV b k e s)).trans rfl
theorem fine_0 (b : Bool) (k e : Int) (s : List Nat) : g29a_r0 realA b k e s = decide ((if e = 0 then (if b = true then e else k) else e) = 0) := (congrArg g29a_g0 (fineV b k e s)).trans rfl
theorem fine_1 (b : Bool) (k e : Int) (s : List Nat) : g29a_r1 realA b k e s = (if e = 0 then (if b = true then e else k) else e) := (congrArg g29a_g1 (fineV b k e s)).trans rfl
theorem fine_2 (b : Bool) (k e : Int) (s : List Nat) : g29a_r2 realA b k e s = s := (congrArg g29a_g2 (fineV b k e s)).trans rfl
theorem toN_of {n : Int} (h : ¬ n < 0) : realA.neg n = false ∧ realA.toN n = n.toNat := ⟨show decide (n < 0) = false from decide_eq_false h, rfl⟩
theorem raw_v (n e : Int) (s : List Nat) : g21v realA n e s = some (tS (rRaw n e s).1, [(0, ⟨[.one (.int .i64 (rRaw n e s).2.1), .one (.str (rRaw n e s).2.2)], 59, 1⟩)]) := by
  unfold g21v g21
  simp only [fine_ok, fine_0, fine_1, fine_2, g21t0, g21t1, g21t2]
  have eg : realA.ic .geq n 0 = decide (0 ≤ n) := rfl
  have el : realA.ic .leq n (realA.ofN s.length) = decide (n ≤ (s.length : Int)) := rfl
  rw [eg, el]
  by_cases he : e = 0
  · subst he
    by_cases hn : n < 0
    · rw [decide_eq_false (show ¬ 0 ≤ n by omega)]
      unfold rRaw
      rw [if_pos rfl, if_pos hn]
      rfl
    · rw [decide_eq_true (show 0 ≤ n by omega)]
      by_cases hl : (s.length : Int) < n
      · rw [decide_eq_false (show ¬ n ≤ (s.length : Int) by omega)]
        unfold rRaw
        rw [if_pos rfl, if_neg hn, if_pos hl]
        rfl
      · rw [decide_eq_true (show n ≤ (s.length : Int) by omega)]
        unfold rRaw
        rw [if_pos rfl, if_neg hn, if_neg hl]
        simp only [if_true, decide_true, Bool.not_true]
        unfold g21J3
        obtain ⟨t1, t2⟩ := toN_of hn
        rw [t1, t2, ar_le, decide_eq_true (show n.toNat ≤ s.length by omega), List.take_length]
        rfl
  · unfold rRaw
    simp only [if_neg he, decide_eq_false he, Bool.not_false]
    rfl
theorem raw_ok (n e : Int) (s : List Nat) : g21ok realA n e s = true := (congrArg g21is (raw_v n e s)).trans rfl
theorem raw_0 (n e : Int) (s : List Nat) : g21r0 realA n e s = (rRaw n e s).1 := (congrArg g21g0 (raw_v n e s)).trans rfl
theorem raw_1 (n e : Int) (s : List Nat) : g21r1 realA n e s = (rRaw n e s).2.1 := (congrArg g21g1 (raw_v n e s)).trans rfl
theorem raw_2 (n e : Int) (s : List Nat) : g21r2 realA n e s = (rRaw n e s).2.2 := (congrArg g21g2 (raw_v n e s)).trans rfl
theorem or8 (a b : Nat) (hb : b < 256) (ha : a < 1000000000000000000 / 256) : realA.ib .or .i64 (realA.ish .shl .i64 (a : Int) 8) (realA.ofN b) = ((a * 256 + b : Nat) : Int) := by
  rw [ar_shl (by decide) (by omega)]
  show IntKind.i64.wrap ((BitVec.ofInt 64 ((a : Int) * 2 ^ 8) ||| BitVec.ofInt 64 (b : Int)).toNat : Int) = _
  have e : (a : Int) * 2 ^ 8 = ((a * 256 : Nat) : Int) := by omega
  rw [e, BitVec.ofInt_natCast, BitVec.ofInt_natCast, BitVec.toNat_or, BitVec.toNat_ofNat, BitVec.toNat_ofNat, Nat.mod_eq_of_lt (by omega), Nat.mod_eq_of_lt (by omega)]
  have h := Nat.two_pow_add_eq_or_of_lt (i := 8) hb a
  rw [Nat.mul_comm a 256, ← h]
  exact wrap64 (by omega)
theorem bval_lt : ∀ (l : List Nat) (a : Nat), (∀ x ∈ l, x < 256) → bval l a < (a + 1) * 256 ^ l.length := by
  intro l
  induction l with
  | nil => intro a _; show a < (a + 1) * 1; omega
  | cons x l ih =>
    intro a h
    have h1 := ih (a * 256 + x) (fun y hy => h y (List.mem_cons_of_mem _ hy))
    have hx := h x List.mem_cons_self
    refine Nat.lt_of_lt_of_le h1 ?_
    rw [List.length_cons, Nat.pow_succ, Nat.mul_comm (256 ^ l.length) 256, ← Nat.mul_assoc]
    exact Nat.mul_le_mul_right _ (by omega)
theorem bval_snoc (l : List Nat) (b a : Nat) : bval (l ++ [b]) a = bval l a * 256 + b := by unfold bval; rw [List.foldl_append]; rfl
theorem take_snoc {l : List Nat} {i : Nat} (h : i < l.length) : l.take (i + 1) = l.take i ++ [l.getD i 0] := by
  rw [List.take_add_one, List.getElem?_eq_getElem h, List.getD_eq_getElem?_getD, List.getElem?_eq_getElem h]
  rfl
theorem bval_take {l : List Nat} (hl : ∀ x ∈ l, x < 256) {i : Nat} (hi : i ≤ 6) : bval (l.take i) 0 < 1000000000000000000 / 256 := by
  have h1 := bval_lt (l.take i) 0 (fun x hx => hl x (List.mem_of_mem_take hx))
  have h2 : (l.take i).length ≤ 6 := by rw [List.length_take]; omega
  have h3 : 256 ^ (l.take i).length ≤ 256 ^ 6 := Nat.pow_le_pow_right (by decide) h2
  have h4 : (256 : Nat) ^ 6 = 281474976710656 := rfl
  omega
theorem numLoop (N : Nat) (e : Int) (s l : List Nat) (hl : ∀ x ∈ l, x < 256) (h7 : l.length ≤ 7) (x6 : Nat) : ∀ (k m i : Nat), i + k = l.length →
    g19L5 realA N (outH [0] none) (m + k + 1) (bval (l.take i) 0 : Nat) l.length (l.length : Nat) (i : Nat) e s x6 l = some (i6 (bval l 0 : Nat), [(0, ⟨[.one (.int .i64 e), .one (.str s)], 59, 1⟩)]) := by
  intro k
  induction k with
  | zero =>
    intro m i hi
    rw [g19L5, ar_lss, decide_eq_false (by omega), List.take_of_length_le (by omega)]
    rfl
  | succ k ih =>
    intro m i hi
    rw [show m + (k + 1) + 1 = (m + k + 1) + 1 by omega, g19L5, ar_lss, decide_eq_true (by omega)]
    simp only []
    unfold g19J6
    have q : realA.ib .add .i64 (i : Int) 1 = ((i + 1 : Nat) : Int) := (ar_add (a := (i : Int)) (b := 1) (by omega)).trans (by omega)
    have hb : l.getD i 0 < 256 := by
      rw [List.getD_eq_getElem?_getD, List.getElem?_eq_getElem (by omega)]
      exact hl _ (List.getElem_mem (by omega))
    simp only [ar_negN, ar_toNN, ar_lt, decide_eq_true (show i < l.length by omega), q]
    rw [or8 _ _ hb (bval_take hl (by omega)), ← bval_snoc, ← take_snoc (by omega)]
    exact ih m (i + 1) (by omega)
theorem numLoopR (N : Nat) (e : Int) (s : List Nat) (hs : ∀ x ∈ s, x < 256) (z : Nat) (h7 : z ≤ 7) (hz : z ≤ s.length) : ∀ (k m i : Nat), i + k = z →
    g20L9 realA N (outH [0] none) (m + k + 1) (z : Nat) (bval (s.take i) 0 : Nat) (i : Nat) s e = some (i6 (bval (s.take z) 0 : Nat), [(0, ⟨[.one (.str (s.drop z)), .one (.int .i64 e)], 42, 1⟩)]) := by
  intro k
  induction k with
  | zero =>
    intro m i hi
    obtain rfl : i = z := by omega
    rw [g20L9, ar_lss, decide_eq_false (by omega)]
    simp only []
    unfold g20J12
    rw [ar_negN, ar_toNN, ar_le, decide_eq_true hz, List.take_length]
    rfl
  | succ k ih =>
    intro m i hi
    rw [show m + (k + 1) + 1 = (m + k + 1) + 1 by omega, g20L9, ar_lss, decide_eq_true (by omega)]
    simp only []
    unfold g20J11
    have q : realA.ib .add .i64 (i : Int) 1 = ((i + 1 : Nat) : Int) := (ar_add (a := (i : Int)) (b := 1) (by omega)).trans (by omega)
    have hb : s.getD i 0 < 256 := by
      rw [List.getD_eq_getElem?_getD, List.getElem?_eq_getElem (by omega)]
      exact hs _ (List.getElem_mem (by omega))
    have hv := bval_take hs (i := i) (by omega)
    have q2 : realA.ib .add .i64 (realA.ib .mul .i64 ((bval (s.take i) 0 : Nat) : Int) 256) (realA.ofN (s.getD i 0)) = ((bval (s.take i) 0 * 256 + s.getD i 0 : Nat) : Int) := by
      rw [ar_ofN, ar_mul (by omega), ar_add (by omega)]
      omega
    simp only [ar_negN, ar_toNN, ar_lt, decide_eq_true (show i < s.length by omega), q, q2]
    rw [← bval_snoc, ← take_snoc (by omega)]
    exact ih m (i + 1) (by omega)
theorem num_v (z e : Int) (s : List Nat) (hs : ∀ x ∈ s, x < 256) (hl : s.length < 9223372036854775808) : g19v realA z e s = some (i6 (rNum z e s).1, [(0, ⟨[.one (.int .i64 (rNum z e s).2.1), .one (.str (rNum z e s).2.2)], 59, 1⟩)]) := by
  have eg : realA.ic .geq z 1 = decide (1 ≤ z) := rfl
  have el : realA.ic .leq z 7 = decide (z ≤ 7) := rfl
  unfold g19v g19
  rw [eg, el]
  simp only [fine_ok, fine_0, fine_1, fine_2]
  by_cases he : e = 0
  · subst he
    by_cases h1 : 1 ≤ z
    · rw [decide_eq_true h1]
      by_cases h7 : z ≤ 7
      · rw [decide_eq_true h7]
        simp only [if_true, decide_true, Bool.not_true]
        unfold g19J3
        simp only [raw_ok, raw_0, raw_1, raw_2]
        unfold rNum
        rw [if_pos rfl, if_neg (by omega)]
        by_cases hz : (s.length : Int) < z
        · have hr : rRaw z 0 s = ([], 2, s) := by unfold rRaw; rw [if_pos rfl, if_neg (by omega), if_pos hz]
          rw [hr, if_pos hz]
          rfl
        · have hr : rRaw z 0 s = (s.take z.toNat, 0, s.drop z.toNat) := by unfold rRaw; rw [if_pos rfl, if_neg (by omega), if_neg hz]
          rw [hr, if_neg hz]
          simp only []
          have hll : (s.take z.toNat).length = z.toNat := by rw [List.length_take]; omega
          rw [ar_le, decide_eq_true (by omega), ar_ofN]
          exact numLoop 100000 0 (s.drop z.toNat) (s.take z.toNat) (fun x hx => hs x (List.mem_of_mem_take hx)) (by omega) _ (s.take z.toNat).length (99999 - (s.take z.toNat).length) 0 (by omega) |> fun h => by
            rw [show 99999 - (s.take z.toNat).length + (s.take z.toNat).length + 1 = 100000 by omega] at h
            exact h
      · have hr : rNum z 0 s = (0, 1, s) := by unfold rNum; rw [if_pos rfl, if_pos (by omega)]
        rw [decide_eq_false h7, hr]
        rfl
    · have hr : rNum z 0 s = (0, 1, s) := by unfold rNum; rw [if_pos rfl, if_pos (by omega)]
      rw [decide_eq_false h1, hr]
      rfl
  · unfold rNum
    simp only [if_neg he, decide_eq_false he, Bool.not_false]
    cases decide (1 ≤ z) <;> rfl
theorem num_ok (z e : Int) (s : List Nat) (hs : ∀ x ∈ s, x < 256) (hl : s.length < 9223372036854775808) : g19ok realA z e s = true := (congrArg g19is (num_v z e s hs hl)).trans rfl
theorem num_0 (z e : Int) (s : List Nat) (hs : ∀ x ∈ s, x < 256) (hl : s.length < 9223372036854775808) : g19r0 realA z e s = (rNum z e s).1 := (congrArg g19g0 (num_v z e s hs hl)).trans rfl
theorem num_1 (z e : Int) (s : List Nat) (hs : ∀ x ∈ s, x < 256) (hl : s.length < 9223372036854775808) : g19r1 realA z e s = (rNum z e s).2.1 := (congrArg g19g1 (num_v z e s hs hl)).trans rfl
theorem num_2 (z e : Int) (s : List Nat) (hs : ∀ x ∈ s, x < 256) (hl : s.length < 9223372036854775808) : g19r2 realA z e s = (rNum z e s).2.2 := (congrArg g19g2 (num_v z e s hs hl)).trans rfl
theorem rraw_v (n e : Int) (s : List Nat) : g22v realA n s e = some (tS (rRaw n e s).1, [(0, ⟨[.one (.str (rRaw n e s).2.2), .one (.int .i64 (rRaw n e s).2.1)], 42, 1⟩)]) := by
  unfold g22v g22
  rw [ar_eql, ar_lss]
  by_cases he : e = 0
  · subst he
    rw [decide_eq_true rfl]
    by_cases hn : n < 0
    · rw [decide_eq_true hn]
      unfold rRaw
      rw [if_pos rfl, if_pos hn]
      rfl
    · rw [decide_eq_false hn]
      simp only []
      unfold g22J3
      rw [ar_eql, decide_eq_true rfl, ar_lss, ar_ofN]
      unfold rRaw
      rw [if_pos rfl, if_neg hn]
      by_cases hl : (s.length : Int) < n
      · rw [decide_eq_true hl, if_pos hl]
        rfl
      · rw [decide_eq_false hl, if_neg hl]
        simp only []
        unfold g22J5
        rw [ar_neq, decide_eq_true rfl]
        simp only [Bool.not_true]
        unfold g22J7
        obtain ⟨t1, t2⟩ := toN_of hn
        rw [t1, t2, ar_le, decide_eq_true (show n.toNat ≤ s.length by omega), List.take_length]
        rfl
  · rw [decide_eq_false he]
    simp only []
    unfold g22J3
    rw [ar_eql, decide_eq_false he]
    simp only []
    unfold g22J5
    rw [ar_neq, decide_eq_false he]
    unfold rRaw
    rw [if_neg he]
    rfl
theorem rraw_ok (n e : Int) (s : List Nat) : g22ok realA n s e = true := (congrArg g22is (rraw_v n e s)).trans rfl
theorem rraw_0 (n e : Int) (s : List Nat) : g22r0 realA n s e = (rRaw n e s).1 := (congrArg g22g0 (rraw_v n e s)).trans rfl
theorem rraw_1 (n e : Int) (s : List Nat) : g22r1 realA n s e = (rRaw n e s).2.2 := (congrArg g22g1 (rraw_v n e s)).trans rfl
theorem rraw_2 (n e : Int) (s : List Nat) : g22r2 realA n s e = (rRaw n e s).2.1 := (congrArg g22g2 (rraw_v n e s)).trans rfl
theorem rnum_v (z e : Int) (s : List Nat) (hs : ∀ x ∈ s, x < 256) : g20v realA z s e = some (i6 (rNum z e s).1, [(0, ⟨[.one (.str (rNum z e s).2.2), .one (.int .i64 (rNum z e s).2.1)], 42, 1⟩)]) := by
  have eg : realA.ic .gtr z 7 = decide (7 < z) := rfl
  unfold g20v g20
  rw [ar_eql, ar_lss, eg]
  have bad : ∀ k : Int, k ≠ 0 → g20J3 realA 100000 (outH [0] none) z s k = some (i6 0, [(0, ⟨[.one (.str s), .one (.int .i64 k)], 42, 1⟩)]) := by
    intro k hk
    unfold g20J3
    rw [ar_eql, decide_eq_false hk]
    simp only []
    unfold g20J5
    rw [ar_neq, decide_eq_false hk]
    rfl
  by_cases he : e = 0
  · subst he
    rw [decide_eq_true rfl]
    unfold rNum
    rw [if_pos rfl]
    by_cases h1 : z < 1
    · rw [decide_eq_true h1, if_pos (by omega)]
      exact bad 1 (by decide)
    · rw [decide_eq_false h1]
      by_cases h7 : 7 < z
      · rw [decide_eq_true h7, if_pos (by omega)]
        exact bad 1 (by decide)
      · rw [decide_eq_false h7, if_neg (by omega)]
        simp only []
        unfold g20J3
        rw [ar_eql, decide_eq_true rfl, ar_lss, ar_ofN]
        by_cases hl : (s.length : Int) < z
        · rw [decide_eq_true hl, if_pos hl]
          simp only []
          unfold g20J5
          rfl
        · rw [decide_eq_false hl, if_neg hl]
          simp only []
          unfold g20J5
          rw [ar_neq, decide_eq_true rfl]
          simp only [Bool.not_true]
          unfold g20J7
          have hz : ((z.toNat : Nat) : Int) = z := by omega
          have h := numLoopR 100000 0 s hs z.toNat (by omega) (by omega) z.toNat (99999 - z.toNat) 0 (by omega)
          rw [hz, show 99999 - z.toNat + z.toNat + 1 = 100000 by omega] at h
          exact h
  · rw [decide_eq_false he]
    unfold rNum
    rw [if_neg he]
    exact bad e he
theorem rnum_ok (z e : Int) (s : List Nat) (hs : ∀ x ∈ s, x < 256) : g20ok realA z s e = true := (congrArg g20is (rnum_v z e s hs)).trans rfl
theorem rnum_0 (z e : Int) (s : List Nat) (hs : ∀ x ∈ s, x < 256) : g20r0 realA z s e = (rNum z e s).1 := (congrArg g20g0 (rnum_v z e s hs)).trans rfl
theorem rnum_1 (z e : Int) (s : List Nat) (hs : ∀ x ∈ s, x < 256) : g20r1 realA z s e = (rNum z e s).2.2 := (congrArg g20g1 (rnum_v z e s hs)).trans rfl
theorem rnum_2 (z e : Int) (s : List Nat) (hs : ∀ x ∈ s, x < 256) : g20r2 realA z s e = (rNum z e s).2.1 := (congrArg g20g2 (rnum_v z e s hs)).trans rfl
def rOpq (z e : Int) (s : List Nat) : List Nat × Int × List Nat := rRaw (rNum z e s).1 (rNum z e s).2.1 (rNum z e s).2.2
theorem opq_v (z e : Int) (s : List Nat) (hs : ∀ x ∈ s, x < 256) (hl : s.length < 9223372036854775808) : g23v realA z e s = some (tS (rOpq z e s).1, [(0, ⟨[.one (.int .i64 (rOpq z e s).2.1), .one (.str (rOpq z e s).2.2)], 59, 1⟩)]) := by
  unfold g23v g23
  simp only [num_ok z e s hs hl, num_0 z e s hs hl, num_1 z e s hs hl, num_2 z e s hs hl, raw_ok, raw_0, raw_1, raw_2]
  rfl
theorem opq_ok (z e : Int) (s : List Nat) (hs : ∀ x ∈ s, x < 256) (hl : s.length < 9223372036854775808) : g23ok realA z e s = true := (congrArg g23is (opq_v z e s hs hl)).trans rfl
theorem opq_0 (z e : Int) (s : List Nat) (hs : ∀ x ∈ s, x < 256) (hl : s.length < 9223372036854775808) : g23r0 realA z e s = (rOpq z e s).1 := (congrArg g23g0 (opq_v z e s hs hl)).trans rfl
theorem opq_1 (z e : Int) (s : List Nat) (hs : ∀ x ∈ s, x < 256) (hl : s.length < 9223372036854775808) : g23r1 realA z e s = (rOpq z e s).2.1 := (congrArg g23g1 (opq_v z e s hs hl)).trans rfl
theorem opq_2 (z e : Int) (s : List Nat) (hs : ∀ x ∈ s, x < 256) (hl : s.length < 9223372036854775808) : g23r2 realA z e s = (rOpq z e s).2.2 := (congrArg g23g2 (opq_v z e s hs hl)).trans rfl
theorem ropq_v (z e : Int) (s : List Nat) (hs : ∀ x ∈ s, x < 256) : g24v realA z s e = some (tS (rOpq z e s).1, [(0, ⟨[.one (.str (rOpq z e s).2.2), .one (.int .i64 (rOpq z e s).2.1)], 42, 1⟩)]) := by
  unfold g24v g24
  simp only [rnum_ok z e s hs, rnum_0 z e s hs, rnum_1 z e s hs, rnum_2 z e s hs, rraw_ok, rraw_0, rraw_1, rraw_2]
  rfl
theorem ropq_ok (z e : Int) (s : List Nat) (hs : ∀ x ∈ s, x < 256) : g24ok realA z s e = true := (congrArg g24is (ropq_v z e s hs)).trans rfl
theorem ropq_0 (z e : Int) (s : List Nat) (hs : ∀ x ∈ s, x < 256) : g24r0 realA z s e = (rOpq z e s).1 := (congrArg g24g0 (ropq_v z e s hs)).trans rfl
theorem ropq_1 (z e : Int) (s : List Nat) (hs : ∀ x ∈ s, x < 256) : g24r1 realA z s e = (rOpq z e s).2.2 := (congrArg g24g1 (ropq_v z e s hs)).trans rfl
theorem ropq_2 (z e : Int) (s : List Nat) (hs : ∀ x ∈ s, x < 256) : g24r2 realA z s e = (rOpq z e s).2.1 := (congrArg g24g2 (ropq_v z e s hs)).trans rfl
theorem rest_v (e : Int) (s : List Nat) : g25v realA e s = some (i6 (if e = 0 then (s.length : Int) else 0), [(0, ⟨[.one (.int .i64 e), .one (.str s)], 59, 1⟩)]) := by
  unfold g25v g25
  rw [ar_neq]
  by_cases he : e = 0
  · rw [decide_eq_true he, if_pos he]; rfl
  · rw [decide_eq_false he, if_neg he]; rfl
theorem rest_ok (e : Int) (s : List Nat) : g25ok realA e s = true := (congrArg g25is (rest_v e s)).trans rfl
theorem rest_0 (e : Int) (s : List Nat) : g25r0 realA e s = (if e = 0 then (s.length : Int) else 0) := (congrArg g25g0 (rest_v e s)).trans rfl
theorem rest_1 (e : Int) (s : List Nat) : g25r1 realA e s = e := (congrArg g25g1 (rest_v e s)).trans rfl
theorem rest_2 (e : Int) (s : List Nat) : g25r2 realA e s = s := (congrArg g25g2 (rest_v e s)).trans rfl
theorem rrest_v (e : Int) (s : List Nat) : g26v realA s e = some (i6 (if e = 0 then (s.length : Int) else 0), [(0, ⟨[.one (.str s), .one (.int .i64 e)], 42, 1⟩)]) := by
  unfold g26v g26
  rw [ar_neq]
  by_cases he : e = 0
  · rw [decide_eq_true he, if_pos he]; rfl
  · rw [decide_eq_false he, if_neg he]; rfl
theorem rrest_ok (e : Int) (s : List Nat) : g26ok realA s e = true := (congrArg g26is (rrest_v e s)).trans rfl
theorem rrest_0 (e : Int) (s : List Nat) : g26r0 realA s e = (if e = 0 then (s.length : Int) else 0) := (congrArg g26g0 (rrest_v e s)).trans rfl
theorem rrest_1 (e : Int) (s : List Nat) : g26r1 realA s e = s := (congrArg g26g1 (rrest_v e s)).trans rfl
theorem rrest_2 (e : Int) (s : List Nat) : g26r2 realA s e = e := (congrArg g26g2 (rrest_v e s)).trans rfl
theorem end_v (e : Int) (s : List Nat) : g27v realA e s = some (i6 (if e = 0 then (if s = [] then 0 else 2) else e), [(0, ⟨[.one (.int .i64 e), .one (.str s)], 59, 1⟩)]) := by
  unfold g27v g27
  rw [ar_eql]
  by_cases he : e = 0
  · rw [decide_eq_true he, if_pos he]
    cases s with
    | nil => rw [if_pos rfl, he]; rfl
    | cons x l => rw [if_neg (by simp)]; rfl
  · rw [decide_eq_false he, if_neg he]; rfl
theorem end_ok (e : Int) (s : List Nat) : g27ok realA e s = true := (congrArg g27is (end_v e s)).trans rfl
theorem end_0 (e : Int) (s : List Nat) : g27r0 realA e s = (if e = 0 then (if s = [] then 0 else 2) else e) := (congrArg g27g0 (end_v e s)).trans rfl
theorem rend_v (e : Int) (s : List Nat) : g28v realA s e = some (i6 (if e = 0 then (if s = [] then 0 else 2) else e), [(0, ⟨[.one (.str s), .one (.int .i64 e)], 42, 1⟩)]) := by
  unfold g28v g28
  rw [ar_eql]
  by_cases he : e = 0
  · rw [decide_eq_true he, if_pos he]
    cases s with
    | nil => rw [if_pos rfl, he]; rfl
    | cons x l => rw [if_neg (by simp)]; rfl
  · rw [decide_eq_false he, if_neg he]; rfl
theorem rend_ok (e : Int) (s : List Nat) : g28ok realA s e = true := (congrArg g28is (rend_v e s)).trans rfl
theorem rend_0 (e : Int) (s : List Nat) : g28r0 realA s e = (if e = 0 then (if s = [] then 0 else 2) else e) := (congrArg g28g0 (rend_v e s)).trans rfl
theorem new_v (s : List Nat) : g18ok realA s = true ∧ g18r0 realA s = 0 ∧ g18r1 realA s = s := ⟨rfl, rfl, rfl⟩
theorem kind_v (a b c : Int) (s : List Nat) : ∃ k, g10v realA a b c s = some (i6 k) := by
  unfold g10v g10
  by_cases h : a < 0
  · rw [ar_lss, decide_eq_true h]; exact ⟨_, rfl⟩
  · rw [ar_lss, decide_eq_false h]; exact ⟨_, rfl⟩
theorem kind_ok (a b c : Int) (s : List Nat) : g10ok realA a b c s = true := by
  obtain ⟨k, h⟩ := kind_v a b c s
  exact (congrArg g10is h).trans rfl
theorem rRaw_bytes {n e : Int} {s : List Nat} (hs : ∀ x ∈ s, x < 256) : (∀ x ∈ (rRaw n e s).2.2, x < 256) ∧ (rRaw n e s).2.2.length ≤ s.length := by
  unfold rRaw
  repeat' split
  all_goals first
    | exact ⟨hs, Nat.le_refl _⟩
    | exact ⟨fun x hx => hs x (List.mem_of_mem_drop hx), by rw [List.length_drop]; omega⟩
theorem rNum_bytes {n e : Int} {s : List Nat} (hs : ∀ x ∈ s, x < 256) : (∀ x ∈ (rNum n e s).2.2, x < 256) ∧ (rNum n e s).2.2.length ≤ s.length := by
  unfold rNum
  repeat' split
  all_goals first
    | exact ⟨hs, Nat.le_refl _⟩
    | exact ⟨fun x hx => hs x (List.mem_of_mem_drop hx), by rw [List.length_drop]; omega⟩
theorem j19 {R : Type} (N : Nat) (kk : AV → Heap → Option R) (lg : Nat → Bool → Int → Nat → Nat → List Int → List Int → List Int → List (List Nat) → Int → List Nat → List Nat → Int → Option R) (x0 : Nat) (x1 : Bool) (x2 : Int) (x4 x5 : Nat) (x6 x7 x8 : List Int) (x9 : List (List Nat)) (e : Int) (s : List Nat) :
    g4J19 realA N kk lg x0 x1 x2 true x4 x5 x6 x7 x8 x9 e s s e = lg x0 x1 (realA.ib .add .i64 x2 1) x4 x5 x6 x7 x8 x9 e s s e := by
  unfold g4J19
  simp only [rest_ok, rest_0, rest_1, rest_2, rrest_ok, rrest_0, rrest_1, rrest_2, ar_neq, decide_true, Bool.not_true]
theorem loop4 {R : Type} (N : Nat) (kk : AV → Heap → Option R) (Z : R) (x0 x3 x4 : Nat) (x5 x6 x7 : List Int) (x8 : List (List Nat)) (hZ : ∀ e s, kk (bO true) [(0, ⟨[.recs x4 [.ints .i64 x5, .ints .i64 x6, .ints .i64 x7, .strs x8]], x3, 0⟩), (5001, ⟨[.one (.int .i64 (g27r1 realA e s)), .one (.str (g27r2 realA e s))], 59, 1⟩), (6002, ⟨[.one (.str (g28r1 realA s e)), .one (.int .i64 (g28r2 realA s e))], 42, 1⟩)] = some Z) :
    ∀ (m i : Nat) (e : Int) (s : List Nat), (∀ x ∈ s, x < 256) → s.length < 9223372036854775808 → i ≤ 20 → 20 - i < m →
      g4L9 realA N kk m x0 true (i : Int) x3 x4 x5 x6 x7 x8 e s s e = some Z := by
  have fin : ∀ (e : Int) (s : List Nat), g4J21 realA N kk true x3 x4 x5 x6 x7 x8 e s s e = some Z := by
    intro e s
    unfold g4J21
    simp only [end_ok, rend_ok, end_0, rend_0, ar_eql, decide_true]
    exact hZ _ _
  intro m
  induction m with
  | zero => intro i e s _ _ _ h; omega
  | succ m ih =>
    intro i e s hs hl hi hm
    rw [g4L9, ar_lss, ar_ofN]
    by_cases h0 : (i : Int) < (x0 : Int)
    · rw [decide_eq_true h0, ar_lss]
      by_cases h1 : (i : Int) < 20
      · rw [decide_eq_true h1]
        have q : realA.ib .add .i64 (i : Int) 1 = ((i + 1 : Nat) : Int) := (ar_add (a := (i : Int)) (b := 1) (by omega)).trans (by omega)
        simp only []
        unfold g4J11
        simp only [ar_negN, ar_lt, ar_toNN, decide_eq_true (show i < x0 by omega), kind_ok, ar_eql]
        generalize g10r0 realA (x5.getD i 0) (x6.getD i 0) (x7.getD i 0) (x8.getD i []) = kd
        generalize x6.getD i 0 = n
        generalize x7.getD i 0 = z
        obtain ⟨b1, b2⟩ := rNum_bytes (n := z) (e := e) hs
        by_cases k0 : kd = 0
        · simp only [decide_eq_true k0, num_ok z e s hs hl, num_0 z e s hs hl, num_1 z e s hs hl, num_2 z e s hs hl, rnum_ok z e s hs, rnum_0 z e s hs, rnum_1 z e s hs, rnum_2 z e s hs, decide_true]
          rw [j19, q]
          exact ih (i + 1) _ _ b1 (by omega) (by omega) (by omega)
        · by_cases k1 : kd = 1
          · simp only [decide_eq_false k0, decide_eq_true k1, raw_ok, raw_0, raw_1, raw_2, rraw_ok, rraw_0, rraw_1, rraw_2, ar_sceq, decide_true]
            rw [j19, q]
            obtain ⟨c1, c2⟩ := rRaw_bytes (n := n) (e := e) hs
            exact ih (i + 1) _ _ c1 (by omega) (by omega) (by omega)
          · simp only [decide_eq_false k0, decide_eq_false k1, opq_ok z e s hs hl, opq_0 z e s hs hl, opq_1 z e s hs hl, opq_2 z e s hs hl, ropq_ok z e s hs, ropq_0 z e s hs, ropq_1 z e s hs, ropq_2 z e s hs, ar_sceq, decide_true]
            rw [j19, q]
            obtain ⟨c1, c2⟩ := rRaw_bytes (n := (rNum z e s).1) (e := (rNum z e s).2.1) b1
            exact ih (i + 1) _ _ c1 (by show (rRaw _ _ _).2.2.length < _; omega) (by omega) (by omega)
      · rw [decide_eq_false h1]
        exact fin e s
    · rw [decide_eq_false h0]
      exact fin e s
theorem ex13 : g8v realA = some (bO true) := by kernel_rfl
theorem g8is_some (y : Bool) : g8is (some (bO y)) = true := rfl
theorem g8g0_some (y : Bool) : g8g0 (some (bO y)) = y := rfl
theorem ex13ok : g8ok realA = true := (congrArg g8is ex13).trans (g8is_some _)
theorem ex13r : g8r0 realA = true := (congrArg g8g0 ex13).trans (g8g0_some _)
theorem g4Start {R : Type} (A : Ar) (n : Nat) (kk : AV → Heap → Option R) (s u : List Nat) (x1 x2 x3 : Nat) (x4 x5 x6 : List Int) (x7 : List (List Nat)) (e : Int) (h1 : g8ok A = true) (h2 : g8r0 A = true) (h3 : g18ok A s = true) (h4 : g18r0 A s = e) (h5 : g18r1 A s = u) : g4 A n kk s x1 x2 x3 x4 x5 x6 x7 = g4L9 A n kk n x1 true 0 x2 x3 x4 x5 x6 x7 e u s 0 := by
  unfold g4
  simp only [h1, h2, Bool.not_true]
  unfold g4J4
  simp only [h3, h4, h5]
  rfl
theorem law4v (s : List Nat) (n n3 n4 : Nat) (a b c : List Int) (d : List (List Nat)) (hs : ∀ x ∈ s, x < 256) (hl : s.length < 2 ^ 47) :
    g4v realA s n n3 n4 a b c d = some (bO true, [(0, ⟨[.recs n4 [.ints .i64 a, .ints .i64 b, .ints .i64 c, .strs d]], n3, 0⟩)]) := by
  unfold g4v
  rw [g4Start realA 100000 (outH [0] none) s s n n3 n4 a b c d 0 ex13ok ex13r (new_v s).1 (new_v s).2.1 (new_v s).2.2]
  exact loop4 100000 (outH [0] none) _ n n3 n4 a b c d (fun e s => rfl) 100000 0 0 s hs (Nat.lt_trans hl (by decide)) (by decide) (by decide)
theorem law4o (s : List Nat) (n n3 n4 : Nat) (a b c : List Int) (d : List (List Nat)) (hs : ∀ x ∈ s, x < 256) (hl : s.length < 2 ^ 47) (_ : ∀ x ∈ a, (Lit.int .i64 x).wf = true) (_ : ∀ x ∈ b, (Lit.int .i64 x).wf = true) (_ : ∀ x ∈ c, (Lit.int .i64 x).wf = true) (_ : ∀ x ∈ d, (∀ b ∈ x, b < 256) ∧ x.length ≤ maxLen) :
    g4ok realA s n n3 n4 a b c d = true ∧ g4r0 realA s n n3 n4 a b c d = true := by
  have e := law4v s n n3 n4 a b c d hs hl
  exact ⟨(congrArg g4is e).trans rfl, (congrArg g4g0 e).trans rfl⟩
end Go.Sx
