/- sum512: what is written, and its sum. -/
import Derived.Test.YtaiehobmadflkaaSxN02d
import Derived.Test.YtaiehobmadflkaaSxR02c
namespace Go.Sx
theorem pl_0 (b : List Nat) : pl b 0 = [0, 0, 0, 0, 0, 0, 0, 0, 0, 0, 0, 0, 0, 0, 0, 0, 0, 0, 0, 0, 0, 0, 0, 0, 0, 0, 0, 0, 0, 0, 0, 0, 0, 0, 0, 0, 0, 0, 0, 0, 0, 0, 0, 0, 0, 0, 0, 0, 0, 0, 0, 0, 0, 0, 0, 0, 0, 0, 0, 0, 0, 0, 0, 0, 0, 0, 0, 0, 0, 0, 0, 0, 0, 0, 0, 0, 0, 0, 0, 0] := by kernel_rfl
theorem outB (x : List Nat) (n : Nat) (tot : Int) (m : Nat) (l : List Nat) (z : Blk) : outH [0, 1] none (.tup []) [(0, ⟨[.nums .u64 88 x, .one (.sl 1 none n 1), .one (.int .i64 tot)], 45, 1⟩), (1, ⟨[.nums .u8 m l], 5, 2⟩), (14004, z)] = some (.tup [], [(0, ⟨[.nums .u64 88 x, .one (.sl 1 none n 1), .one (.int .i64 tot)], 45, 1⟩), (1, ⟨[.nums .u8 m l], 5, 2⟩)]) := rfl
theorem outBs (x : List Nat) (o n : Nat) (tot : Int) (m : Nat) (l : List Nat) (z : Blk) : outH [0, 1] none (.tup []) [(0, ⟨[.nums .u64 88 x, .one (.sl 1 (some o) n 1), .one (.int .i64 tot)], 45, 1⟩), (1, ⟨[.nums .u8 m l], 5, 2⟩), (14004, z)] = some (.tup [], [(0, ⟨[.nums .u64 88 x, .one (.sl 1 (some o) n 1), .one (.int .i64 tot)], 45, 1⟩), (1, ⟨[.nums .u8 m l], 5, 2⟩)]) := rfl
theorem b20_v (H : List Nat) (n : Nat) (tot : Int) (m : Nat) (l : List Nat) (hH : H.length = 8) : g20v realA 128 (H ++ K80) n tot m l = some (.tup [], [(0, ⟨[.nums .u64 88 (comp H l ++ K80), .one (.sl 1 none n 1), .one (.int .i64 tot)], 45, 1⟩), (1, ⟨[.nums .u8 m l], 5, 2⟩)]) := by
  unfold g20v g20
  have h := c20_load 100000 (outH [0, 1] none) H 128 n tot m l hH (by omega) rfl 128 0 100000 rfl (by omega)
  rw [pl_0] at h
  exact h.trans (outB _ _ _ _ _ _)
theorem b20_ok (H : List Nat) (n : Nat) (tot : Int) (m : Nat) (l : List Nat) (hH : H.length = 8) : g20ok realA 128 (H ++ K80) n tot m l = true := (congrArg g20is (b20_v H n tot m l hH)).trans rfl
theorem b20_0 (H : List Nat) (n : Nat) (tot : Int) (m : Nat) (l : List Nat) (hH : H.length = 8) : g20r0 realA 128 (H ++ K80) n tot m l = comp H l ++ K80 := (congrArg g20g0 (b20_v H n tot m l hH)).trans rfl
theorem b20_1 (H : List Nat) (n : Nat) (tot : Int) (m : Nat) (l : List Nat) (hH : H.length = 8) : g20r1 realA 128 (H ++ K80) n tot m l = n := (congrArg g20g1 (b20_v H n tot m l hH)).trans rfl
theorem b20_2 (H : List Nat) (n : Nat) (tot : Int) (m : Nat) (l : List Nat) (hH : H.length = 8) : g20r2 realA 128 (H ++ K80) n tot m l = tot := (congrArg g20g2 (b20_v H n tot m l hH)).trans rfl
theorem b20_3 (H : List Nat) (n : Nat) (tot : Int) (m : Nat) (l : List Nat) (hH : H.length = 8) : g20r3 realA 128 (H ++ K80) n tot m l = m := (congrArg g20g3 (b20_v H n tot m l hH)).trans rfl
theorem b20_4 (H : List Nat) (n : Nat) (tot : Int) (m : Nat) (l : List Nat) (hH : H.length = 8) : g20r4 realA 128 (H ++ K80) n tot m l = l := (congrArg g20g4 (b20_v H n tot m l hH)).trans rfl
theorem d20_v (p : Nat) (H : List Nat) (o n : Nat) (tot : Int) (m : Nat) (l : List Nat) (hH : H.length = 8) : g20a_v realA p 128 (H ++ K80) o n tot m l = some (.tup [], [(0, ⟨[.nums .u64 88 (comp H (l.drop p) ++ K80), .one (.sl 1 (some o) n 1), .one (.int .i64 tot)], 45, 1⟩), (1, ⟨[.nums .u8 m l], 5, 2⟩)]) := by
  unfold g20a_v g20a_
  have h := d20_load 100000 (outH [0, 1] none) H p 128 o n tot m l hH (by omega) rfl 128 0 100000 rfl (by omega)
  rw [pl_0] at h
  exact h.trans (outBs _ _ _ _ _ _ _)
theorem d20_ok (p : Nat) (H : List Nat) (o n : Nat) (tot : Int) (m : Nat) (l : List Nat) (hH : H.length = 8) : g20a_ok realA p 128 (H ++ K80) o n tot m l = true := (congrArg g20a_is (d20_v p H o n tot m l hH)).trans rfl
theorem d20_0 (p : Nat) (H : List Nat) (o n : Nat) (tot : Int) (m : Nat) (l : List Nat) (hH : H.length = 8) : g20a_r0 realA p 128 (H ++ K80) o n tot m l = comp H (l.drop p) ++ K80 := (congrArg g20a_g0 (d20_v p H o n tot m l hH)).trans rfl
theorem d20_1 (p : Nat) (H : List Nat) (o n : Nat) (tot : Int) (m : Nat) (l : List Nat) (hH : H.length = 8) : g20a_r1 realA p 128 (H ++ K80) o n tot m l = o := (congrArg g20a_g1 (d20_v p H o n tot m l hH)).trans rfl
theorem d20_2 (p : Nat) (H : List Nat) (o n : Nat) (tot : Int) (m : Nat) (l : List Nat) (hH : H.length = 8) : g20a_r2 realA p 128 (H ++ K80) o n tot m l = n := (congrArg g20a_g2 (d20_v p H o n tot m l hH)).trans rfl
theorem d20_3 (p : Nat) (H : List Nat) (o n : Nat) (tot : Int) (m : Nat) (l : List Nat) (hH : H.length = 8) : g20a_r3 realA p 128 (H ++ K80) o n tot m l = tot := (congrArg g20a_g3 (d20_v p H o n tot m l hH)).trans rfl
theorem d20_4 (p : Nat) (H : List Nat) (o n : Nat) (tot : Int) (m : Nat) (l : List Nat) (hH : H.length = 8) : g20a_r4 realA p 128 (H ++ K80) o n tot m l = m := (congrArg g20a_g4 (d20_v p H o n tot m l hH)).trans rfl
theorem d20_5 (p : Nat) (H : List Nat) (o n : Nat) (tot : Int) (m : Nat) (l : List Nat) (hH : H.length = 8) : g20a_r5 realA p 128 (H ++ K80) o n tot m l = l := (congrArg g20a_g5 (d20_v p H o n tot m l hH)).trans rfl

/-- so many blocks -/
def feedN : Nat → List Nat → List Nat → List Nat
  | 0, H, _ => H
  | k + 1, H, l => feedN k (comp H l) (l.drop 128)
theorem feedN_len (k : Nat) : ∀ (H l : List Nat), H.length = 8 → (feedN k H l).length = 8 := by
  induction k with
  | zero => exact fun H l h => h
  | succ k ih => exact fun H l h => ih _ _ (comp_len _ _)
def feed (H l : List Nat) : List Nat := feedN (l.length / 128) H l
theorem feed_len (H l : List Nat) (h : H.length = 8) : (feed H l).length = 8 := feedN_len _ _ _ h

theorem outw12 (x : List Nat) (n : Nat) (tot : Int) (m : Nat) (l : List Nat) : outN [501, 600] [0, 501] none (.tup []) [(0, ⟨[.nums .u64 88 x, .one (.sl 501 none n 1), .one (.int .i64 tot)], 45, 1⟩), (501, ⟨[.nums .u8 m l], 5, 2⟩)] = some (.tup [], [(0, ⟨[.nums .u64 88 x, .one (.sl 501 (some 0) n 1), .one (.int .i64 tot)], 45, 1⟩), (501, ⟨[.nums .u8 m l], 5, 2⟩)]) := rfl
theorem outw12s (x : List Nat) (o n : Nat) (tot : Int) (m : Nat) (l : List Nat) : outN [501, 600] [0, 501] none (.tup []) [(0, ⟨[.nums .u64 88 x, .one (.sl 501 (some o) n 1), .one (.int .i64 tot)], 45, 1⟩), (501, ⟨[.nums .u8 m l], 5, 2⟩)] = some (.tup [], [(0, ⟨[.nums .u64 88 x, .one (.sl 501 (some o) n 1), .one (.int .i64 tot)], 45, 1⟩), (501, ⟨[.nums .u8 m l], 5, 2⟩)]) := rfl
theorem w12_more {R : Type} (N : Nat) (kk : AV → Heap → Option R) (tot : Int) (l : List Nat) : ∀ (k n f : Nat) (H : List Nat) (o : Nat), H.length = 8 → o + n = l.length → n / 128 = k → k < f →
    g12L2a realA N kk f (H ++ K80) o n tot l.length l = kk (.tup []) [(0, ⟨[.nums .u64 88 (feedN k H (l.drop o) ++ K80), .one (.sl 501 (some (o + 128 * k)) (n - 128 * k) 1), .one (.int .i64 tot)], 45, 1⟩), (501, ⟨[.nums .u8 l.length l], 5, 2⟩)] := by
  intro k
  induction k with
  | zero =>
    intro n f H o hH hon hk hf
    obtain ⟨f, rfl⟩ : ∃ q, f = q + 1 := ⟨f - 1, by omega⟩
    rw [g12L2a, ar_geq, ar_ofN, decide_eq_false (by omega)]
    rfl
  | succ k ih =>
    intro n f H o hH hon hk hf
    obtain ⟨f, rfl⟩ : ∃ q, f = q + 1 := ⟨f - 1, by omega⟩
    rw [g12L2a, ar_geq, ar_ofN, decide_eq_true (show (128 : Int) ≤ (n : Int) by omega)]
    simp only [g12J3a, ar_le, decide_eq_true (show 128 ≤ n by omega), d20_ok _ _ _ _ _ _ _ hH, d20_0 _ _ _ _ _ _ _ hH, d20_1 _ _ _ _ _ _ _ hH, d20_2 _ _ _ _ _ _ _ hH, d20_3 _ _ _ _ _ _ _ hH, d20_4 _ _ _ _ _ _ _ hH, d20_5 _ _ _ _ _ _ _ hH]
    rw [ih (n - 128) f _ (o + 128) (comp_len _ _) (by omega) (by omega) (by omega), feedN, List.drop_drop, show o + 128 + 128 * k = o + 128 * (k + 1) by omega, show n - 128 - 128 * k = n - 128 * (k + 1) by omega]

theorem w12_big {R : Type} (N f : Nat) (kk : AV → Heap → Option R) (H : List Nat) (tot : Int) (q : List Nat) (hq : 128 ≤ q.length) : g12L2 realA N kk (f + 1) (H ++ K80) q.length tot q.length q = g12J3 realA N kk (g12L2a realA N kk f) (H ++ K80) q.length tot q.length q := by
  rw [g12L2, ar_geq, ar_ofN, decide_eq_true (show (128 : Int) ≤ (q.length : Int) by omega)]
theorem w12_small {R : Type} (N f : Nat) (kk : AV → Heap → Option R) (H : List Nat) (tot : Int) (q : List Nat) (hq : ¬ 128 ≤ q.length) : g12L2 realA N kk (f + 1) (H ++ K80) q.length tot q.length q = kk (.tup []) [(0, ⟨[.nums .u64 88 (H ++ K80), .one (.sl 501 none q.length 1), .one (.int .i64 tot)], 45, 1⟩), (501, ⟨[.nums .u8 q.length q], 5, 2⟩)] := by
  rw [g12L2, ar_geq, ar_ofN, decide_eq_false (show ¬ (128 : Int) ≤ (q.length : Int) by omega)]
theorem w12_v (s H : List Nat) (o n : Nat) (tot : Int) (l : List Nat) (hH : H.length = 8) (hon : o + n = l.length) (ht : 0 ≤ tot ∧ tot ≤ 9223372036000000000) (hl : l.length + s.length ≤ 10000000) : g12v realA s (H ++ K80) o n tot l.length l = some (.tup [], [(0, ⟨[.nums .u64 88 (feed H (l.drop o ++ s) ++ K80), .one (.sl 501 (some (128 * ((l.drop o ++ s).length / 128))) ((l.drop o ++ s).length - 128 * ((l.drop o ++ s).length / 128)) 1), .one (.int .i64 (tot + s.length))], 45, 1⟩), (501, ⟨[.nums .u8 (l.drop o ++ s).length (l.drop o ++ s)], 5, 2⟩)]) := by
  unfold g12v g12
  have e1 : realA.ib .add .i64 tot (s.length : Int) = tot + s.length := ar_add (by omega)
  have hb : (l.drop o ++ s).length ≤ 140737488355328 := by rw [List.length_append, List.length_drop]; omega
  have hb2 : (l.drop o ++ s).length ≤ 10000000 := by rw [List.length_append, List.length_drop]; omega
  simp only [ar_eq, decide_eq_true (show o + n = l.length + 0 by omega), ar_le, decide_eq_true hb, ar_ofN, e1]
  generalize l.drop o ++ s = q at *
  by_cases hq : 128 ≤ q.length
  · refine (w12_big 100000 99999 _ H (tot + s.length) q hq).trans ?_
    simp only [g12J3, ar_le, decide_eq_true hq, b20_ok _ _ _ _ _ hH, b20_0 _ _ _ _ _ hH, b20_1 _ _ _ _ _ hH, b20_2 _ _ _ _ _ hH, b20_3 _ _ _ _ _ hH, b20_4 _ _ _ _ _ hH]
    rw [w12_more 100000 _ _ q ((q.length - 128) / 128) (q.length - 128) 99999 _ 128 (comp_len _ _) (by omega) rfl (by omega), outw12s]
    have e2 : q.length / 128 = (q.length - 128) / 128 + 1 := by omega
    unfold feed
    rw [e2, feedN, show 128 + 128 * ((q.length - 128) / 128) = 128 * ((q.length - 128) / 128 + 1) by omega, show q.length - 128 - 128 * ((q.length - 128) / 128) = q.length - 128 * ((q.length - 128) / 128 + 1) by omega]
  · refine (w12_small 100000 99999 _ H (tot + s.length) q hq).trans ?_
    have e2 : q.length / 128 = 0 := by omega
    unfold feed
    rw [e2]
    exact outw12 _ _ _ _ _
theorem w12_ok (s H : List Nat) (o n : Nat) (tot : Int) (l : List Nat) (hH : H.length = 8) (hon : o + n = l.length) (ht : 0 ≤ tot ∧ tot ≤ 9223372036000000000) (hl : l.length + s.length ≤ 10000000) : g12ok realA s (H ++ K80) o n tot l.length l = true := (congrArg g12is (w12_v s H o n tot l hH hon ht hl)).trans rfl
theorem w12_0 (s H : List Nat) (o n : Nat) (tot : Int) (l : List Nat) (hH : H.length = 8) (hon : o + n = l.length) (ht : 0 ≤ tot ∧ tot ≤ 9223372036000000000) (hl : l.length + s.length ≤ 10000000) : g12r0 realA s (H ++ K80) o n tot l.length l = feed H (l.drop o ++ s) ++ K80 := (congrArg g12g0 (w12_v s H o n tot l hH hon ht hl)).trans rfl
theorem w12_1 (s H : List Nat) (o n : Nat) (tot : Int) (l : List Nat) (hH : H.length = 8) (hon : o + n = l.length) (ht : 0 ≤ tot ∧ tot ≤ 9223372036000000000) (hl : l.length + s.length ≤ 10000000) : g12r1 realA s (H ++ K80) o n tot l.length l = 128 * ((l.drop o ++ s).length / 128) := (congrArg g12g1 (w12_v s H o n tot l hH hon ht hl)).trans rfl
theorem w12_2 (s H : List Nat) (o n : Nat) (tot : Int) (l : List Nat) (hH : H.length = 8) (hon : o + n = l.length) (ht : 0 ≤ tot ∧ tot ≤ 9223372036000000000) (hl : l.length + s.length ≤ 10000000) : g12r2 realA s (H ++ K80) o n tot l.length l = (l.drop o ++ s).length - 128 * ((l.drop o ++ s).length / 128) := (congrArg g12g2 (w12_v s H o n tot l hH hon ht hl)).trans rfl
theorem w12_3 (s H : List Nat) (o n : Nat) (tot : Int) (l : List Nat) (hH : H.length = 8) (hon : o + n = l.length) (ht : 0 ≤ tot ∧ tot ≤ 9223372036000000000) (hl : l.length + s.length ≤ 10000000) : g12r3 realA s (H ++ K80) o n tot l.length l = tot + s.length := (congrArg g12g3 (w12_v s H o n tot l hH hon ht hl)).trans rfl
theorem w12_4 (s H : List Nat) (o n : Nat) (tot : Int) (l : List Nat) (hH : H.length = 8) (hon : o + n = l.length) (ht : 0 ≤ tot ∧ tot ≤ 9223372036000000000) (hl : l.length + s.length ≤ 10000000) : g12r4 realA s (H ++ K80) o n tot l.length l = (l.drop o ++ s).length := (congrArg g12g4 (w12_v s H o n tot l hH hon ht hl)).trans rfl
theorem w12_5 (s H : List Nat) (o n : Nat) (tot : Int) (l : List Nat) (hH : H.length = 8) (hon : o + n = l.length) (ht : 0 ≤ tot ∧ tot ≤ 9223372036000000000) (hl : l.length + s.length ≤ 10000000) : g12r5 realA s (H ++ K80) o n tot l.length l = l.drop o ++ s := (congrArg g12g5 (w12_v s H o n tot l hH hon ht hl)).trans rfl

theorem outv12 (x : List Nat) (n : Nat) (tot : Int) (m : Nat) (l : List Nat) : outN [501, 600] [0, 600] none (.tup []) [(0, ⟨[.nums .u64 88 x, .one (.sl 600 none n 1), .one (.int .i64 tot)], 45, 1⟩), (600, ⟨[.nums .u8 m l], 5, 2⟩)] = some (.tup [], [(0, ⟨[.nums .u64 88 x, .one (.sl 600 (some 0) n 1), .one (.int .i64 tot)], 45, 1⟩), (600, ⟨[.nums .u8 m l], 5, 2⟩)]) := rfl
theorem outv12s (x : List Nat) (o n : Nat) (tot : Int) (m : Nat) (l : List Nat) : outN [501, 600] [0, 600] none (.tup []) [(0, ⟨[.nums .u64 88 x, .one (.sl 600 (some o) n 1), .one (.int .i64 tot)], 45, 1⟩), (600, ⟨[.nums .u8 m l], 5, 2⟩)] = some (.tup [], [(0, ⟨[.nums .u64 88 x, .one (.sl 600 (some o) n 1), .one (.int .i64 tot)], 45, 1⟩), (600, ⟨[.nums .u8 m l], 5, 2⟩)]) := rfl
theorem v12_more {R : Type} (N : Nat) (kk : AV → Heap → Option R) (tot : Int) (l : List Nat) : ∀ (k n f : Nat) (H : List Nat) (o : Nat), H.length = 8 → o + n = l.length → n / 128 = k → k < f →
    g12a_L2a realA N kk f (H ++ K80) o n tot l.length l = kk (.tup []) [(0, ⟨[.nums .u64 88 (feedN k H (l.drop o) ++ K80), .one (.sl 600 (some (o + 128 * k)) (n - 128 * k) 1), .one (.int .i64 tot)], 45, 1⟩), (600, ⟨[.nums .u8 l.length l], 5, 2⟩)] := by
  intro k
  induction k with
  | zero =>
    intro n f H o hH hon hk hf
    obtain ⟨f, rfl⟩ : ∃ q, f = q + 1 := ⟨f - 1, by omega⟩
    rw [g12a_L2a, ar_geq, ar_ofN, decide_eq_false (by omega)]
    rfl
  | succ k ih =>
    intro n f H o hH hon hk hf
    obtain ⟨f, rfl⟩ : ∃ q, f = q + 1 := ⟨f - 1, by omega⟩
    rw [g12a_L2a, ar_geq, ar_ofN, decide_eq_true (show (128 : Int) ≤ (n : Int) by omega)]
    simp only [g12a_J3a, ar_le, decide_eq_true (show 128 ≤ n by omega), d20_ok _ _ _ _ _ _ _ hH, d20_0 _ _ _ _ _ _ _ hH, d20_1 _ _ _ _ _ _ _ hH, d20_2 _ _ _ _ _ _ _ hH, d20_3 _ _ _ _ _ _ _ hH, d20_4 _ _ _ _ _ _ _ hH, d20_5 _ _ _ _ _ _ _ hH]
    rw [ih (n - 128) f _ (o + 128) (comp_len _ _) (by omega) (by omega) (by omega), feedN, List.drop_drop, show o + 128 + 128 * k = o + 128 * (k + 1) by omega, show n - 128 - 128 * k = n - 128 * (k + 1) by omega]

theorem v12_big {R : Type} (N f : Nat) (kk : AV → Heap → Option R) (H : List Nat) (tot : Int) (q : List Nat) (hq : 128 ≤ q.length) : g12a_L2 realA N kk (f + 1) (H ++ K80) q.length tot q.length q = g12a_J3 realA N kk (g12a_L2a realA N kk f) (H ++ K80) q.length tot q.length q := by
  rw [g12a_L2, ar_geq, ar_ofN, decide_eq_true (show (128 : Int) ≤ (q.length : Int) by omega)]
theorem v12_small {R : Type} (N f : Nat) (kk : AV → Heap → Option R) (H : List Nat) (tot : Int) (q : List Nat) (hq : ¬ 128 ≤ q.length) : g12a_L2 realA N kk (f + 1) (H ++ K80) q.length tot q.length q = kk (.tup []) [(0, ⟨[.nums .u64 88 (H ++ K80), .one (.sl 600 none q.length 1), .one (.int .i64 tot)], 45, 1⟩), (600, ⟨[.nums .u8 q.length q], 5, 2⟩)] := by
  rw [g12a_L2, ar_geq, ar_ofN, decide_eq_false (show ¬ (128 : Int) ≤ (q.length : Int) by omega)]
theorem v12_v (s H : List Nat) (o n : Nat) (tot : Int) (l : List Nat) (hH : H.length = 8) (hon : o + n = l.length) (ht : 0 ≤ tot ∧ tot ≤ 9223372036000000000) (hl : l.length + s.length ≤ 10000000) : g12a_v realA s (H ++ K80) o n tot l.length l = some (.tup [], [(0, ⟨[.nums .u64 88 (feed H (l.drop o ++ s) ++ K80), .one (.sl 600 (some (128 * ((l.drop o ++ s).length / 128))) ((l.drop o ++ s).length - 128 * ((l.drop o ++ s).length / 128)) 1), .one (.int .i64 (tot + s.length))], 45, 1⟩), (600, ⟨[.nums .u8 (l.drop o ++ s).length (l.drop o ++ s)], 5, 2⟩)]) := by
  unfold g12a_v g12a_
  have e1 : realA.ib .add .i64 tot (s.length : Int) = tot + s.length := ar_add (by omega)
  have hb : (l.drop o ++ s).length ≤ 140737488355328 := by rw [List.length_append, List.length_drop]; omega
  have hb2 : (l.drop o ++ s).length ≤ 10000000 := by rw [List.length_append, List.length_drop]; omega
  simp only [ar_eq, decide_eq_true (show o + n = l.length + 0 by omega), ar_le, decide_eq_true hb, ar_ofN, e1]
  generalize l.drop o ++ s = q at *
  by_cases hq : 128 ≤ q.length
  · refine (v12_big 100000 99999 _ H (tot + s.length) q hq).trans ?_
    simp only [g12a_J3, ar_le, decide_eq_true hq, b20_ok _ _ _ _ _ hH, b20_0 _ _ _ _ _ hH, b20_1 _ _ _ _ _ hH, b20_2 _ _ _ _ _ hH, b20_3 _ _ _ _ _ hH, b20_4 _ _ _ _ _ hH]
    rw [v12_more 100000 _ _ q ((q.length - 128) / 128) (q.length - 128) 99999 _ 128 (comp_len _ _) (by omega) rfl (by omega), outv12s]
    have e2 : q.length / 128 = (q.length - 128) / 128 + 1 := by omega
    unfold feed
    rw [e2, feedN, show 128 + 128 * ((q.length - 128) / 128) = 128 * ((q.length - 128) / 128 + 1) by omega, show q.length - 128 - 128 * ((q.length - 128) / 128) = q.length - 128 * ((q.length - 128) / 128 + 1) by omega]
  · refine (v12_small 100000 99999 _ H (tot + s.length) q hq).trans ?_
    have e2 : q.length / 128 = 0 := by omega
    unfold feed
    rw [e2]
    exact outv12 _ _ _ _ _
theorem v12_ok (s H : List Nat) (o n : Nat) (tot : Int) (l : List Nat) (hH : H.length = 8) (hon : o + n = l.length) (ht : 0 ≤ tot ∧ tot ≤ 9223372036000000000) (hl : l.length + s.length ≤ 10000000) : g12a_ok realA s (H ++ K80) o n tot l.length l = true := (congrArg g12a_is (v12_v s H o n tot l hH hon ht hl)).trans rfl
theorem v12_0 (s H : List Nat) (o n : Nat) (tot : Int) (l : List Nat) (hH : H.length = 8) (hon : o + n = l.length) (ht : 0 ≤ tot ∧ tot ≤ 9223372036000000000) (hl : l.length + s.length ≤ 10000000) : g12a_r0 realA s (H ++ K80) o n tot l.length l = feed H (l.drop o ++ s) ++ K80 := (congrArg g12a_g0 (v12_v s H o n tot l hH hon ht hl)).trans rfl
end Go.Sx
