import Derived.Test.YtloapdnklljaoaaSxM13
import Derived.Test.YtloapdnklljaoaaSxM13r
namespace Go.Sx
theorem wnum_yes {x s e : Int} {l : List Nat} (he : e = 0) (h : (1 ≤ s ∧ s ≤ 7 ∧ 0 ≤ x) ∧ x < 2 ^ (8 * s.toNat)) : wnum x s e l = (0, l ++ nby x s.toNat 0) := by unfold wnum; rw [if_pos he, if_pos h]
theorem wnum_no {x s e : Int} {l : List Nat} (he : e = 0) (h : ¬ ((1 ≤ s ∧ s ≤ 7 ∧ 0 ≤ x) ∧ x < 2 ^ (8 * s.toNat))) : wnum x s e l = (1, l) := by unfold wnum; rw [if_pos he, if_neg h]
theorem wnum_err {x s e : Int} {l : List Nat} (he : e ≠ 0) : wnum x s e l = (e, l) := by unfold wnum; rw [if_neg he]
theorem nby_len (x : Int) (s : Nat) : (nby x s 0).length = s := by unfold nby; simp
theorem wnum_len (x s e : Int) (l : List Nat) : (wnum x s e l).2.length ≤ l.length + 7 := by
  by_cases he : e = 0
  · by_cases h : (1 ≤ s ∧ s ≤ 7 ∧ 0 ≤ x) ∧ x < 2 ^ (8 * s.toNat)
    · rw [wnum_yes he h, List.length_append, nby_len]; omega
    · rw [wnum_no he h]; show l.length ≤ _; omega
  · rw [wnum_err he]; show l.length ≤ _; omega
def wopq (u : List Nat) (s e : Int) (l : List Nat) : Int × List Nat := wraw u (wnum u.length s e l).1 (wnum u.length s e l).2
theorem o15_v (u l : List Nat) (s e : Int) (hB : l.length + u.length ≤ 10000000000) : g15v realA u s e l.length l.length l = some (.tup [], [(0, ⟨[.one (.int .i64 (wopq u s e l).1), .one (.sl 501 none (wopq u s e l).2.length 1)], 56, 1⟩), (501, ⟨[.nums .u8 (wopq u s e l).2.length (wopq u s e l).2], 5, 2⟩)]) := by
  unfold g15v g15
  have hl := wnum_len u.length s e l
  have h1 : l.length ≤ 100000000000 := by omega
  have h2 : (wnum u.length s e l).2.length + u.length ≤ 100000000000000 := by omega
  simp only [g15t0, g15t1, g15t2, g15t3, ar_ofN, g11_ok _ _ _ l h1, g11_0 _ _ _ l h1, g11_1 _ _ _ l h1, g11_2 _ _ _ l h1, g11_3 _ _ _ l h1, g13_ok u _ _ h2, g13_0 u _ _ h2, g13_1 u _ _ h2, g13_2 u _ _ h2, g13_3 u _ _ h2]
  exact outW _ _ _ _ _ rfl
theorem o15_ok (u l : List Nat) (s e : Int) (hB : l.length + u.length ≤ 10000000000) : g15ok realA u s e l.length l.length l = true := (congrArg g15is (o15_v u l s e hB)).trans rfl
theorem o15_0 (u l : List Nat) (s e : Int) (hB : l.length + u.length ≤ 10000000000) : g15r0 realA u s e l.length l.length l = (wopq u s e l).1 := (congrArg g15g0 (o15_v u l s e hB)).trans rfl
theorem o15_1 (u l : List Nat) (s e : Int) (hB : l.length + u.length ≤ 10000000000) : g15r1 realA u s e l.length l.length l = (wopq u s e l).2.length := (congrArg g15g1 (o15_v u l s e hB)).trans rfl
theorem o15_2 (u l : List Nat) (s e : Int) (hB : l.length + u.length ≤ 10000000000) : g15r2 realA u s e l.length l.length l = (wopq u s e l).2.length := (congrArg g15g2 (o15_v u l s e hB)).trans rfl
theorem o15_3 (u l : List Nat) (s e : Int) (hB : l.length + u.length ≤ 10000000000) : g15r3 realA u s e l.length l.length l = (wopq u s e l).2 := (congrArg g15g3 (o15_v u l s e hB)).trans rfl
theorem nby_lt (x : Int) (s i : Nat) : ∀ y ∈ nby x s i, y < 256 := by
  intro y hy
  unfold nby at hy
  obtain ⟨j, _, rfl⟩ := List.mem_map.1 hy
  have h1 := Int.emod_lt_of_pos (x / 2 ^ (8 * (s - 1 - j))) (show (0 : Int) < 256 by decide)
  have h2 := Int.emod_nonneg (x / 2 ^ (8 * (s - 1 - j))) (show (256 : Int) ≠ 0 by decide)
  omega
theorem bval_nby (n z : Nat) : ∀ (d i a : Nat), i + d = z → bval (nby n z i) a = a * 256 ^ d + n % 256 ^ d := by
  intro d
  induction d with
  | zero =>
    intro i a h
    have : i = z := by omega
    subst this
    rw [nby_end, Nat.pow_zero, Nat.mod_one]
    show a = _
    omega
  | succ d ih =>
    intro i a h
    rw [nby_step _ _ _ (by omega)]
    have e : ((n : Int) / 2 ^ (8 * (z - 1 - i)) % 256).toNat = n / 256 ^ d % 256 := by
      have e1 : z - 1 - i = d := by omega
      have e2 : (2 : Int) ^ (8 * d) = ((256 ^ d : Nat) : Int) := by
        rw [Int.pow_mul, show (2 : Int) ^ 8 = ((256 : Nat) : Int) by decide, ← Int.natCast_pow]
      rw [e1, e2, show (256 : Int) = ((256 : Nat) : Int) from rfl, ← Int.natCast_ediv, ← Int.natCast_emod, Int.toNat_natCast]
    rw [e]
    show bval (nby n z (i + 1)) (a * 256 + n / 256 ^ d % 256) = _
    rw [ih (i + 1) _ (by omega), Nat.pow_succ, Nat.mod_mul, Nat.add_mul]
    have : n / 256 ^ d % 256 * 256 ^ d = 256 ^ d * (n / 256 ^ d % 256) := Nat.mul_comm _ _
    have : a * 256 * 256 ^ d = a * (256 ^ d * 256) := by rw [Nat.mul_assoc, Nat.mul_comm 256]
    omega
abbrev PQ : Type := Int × Int × Int × List Nat
structure GoodQ (q : PQ) : Prop where
  k : q.1 = 0 ∨ q.1 = 1 ∨ q.1 = 2
  n : ∃ n : Nat, q.2.1 = n ∧ n < 16777216
  z : ∃ z : Nat, q.2.2.1 = z ∧ 3 ≤ z ∧ z ≤ 7
  s : ∀ x ∈ q.2.2.2, x < 256
  l : q.2.2.2.length ≤ 300
def encQ (q : PQ) : List Nat := if q.1 = 0 then nby q.2.1 q.2.2.1.toNat 0 else if q.1 = 1 then q.2.2.2 else nby q.2.2.2.length q.2.2.1.toNat 0 ++ q.2.2.2
def encs (Q : List PQ) : List Nat := Q.flatMap encQ
theorem encQ_len {q : PQ} (h : GoodQ q) : (encQ q).length ≤ 310 := by
  obtain ⟨z, hz, _, hz7⟩ := h.z
  have := h.l
  unfold encQ
  split
  · rw [nby_len]; omega
  · split
    · omega
    · rw [List.length_append, nby_len]; omega
theorem encs_len (Q : List PQ) (h : ∀ q ∈ Q, GoodQ q) : (encs Q).length ≤ 310 * Q.length := by
  induction Q with
  | nil => simp [encs]
  | cons q Q ih =>
    have h1 := ih fun x hx => h x (List.mem_cons_of_mem _ hx)
    have h2 := encQ_len (h q List.mem_cons_self)
    simp only [encs, List.flatMap_cons, List.length_append, List.length_cons] at h1 ⊢
    omega
theorem encs_lt (Q : List PQ) (h : ∀ q ∈ Q, GoodQ q) : ∀ x ∈ encs Q, x < 256 := by
  intro x hx
  obtain ⟨q, hq, hx⟩ := List.mem_flatMap.1 hx
  unfold encQ at hx
  split at hx
  · exact nby_lt _ _ _ x hx
  · split at hx
    · exact (h q hq).s x hx
    · rcases List.mem_append.1 hx with hx | hx
      · exact nby_lt _ _ _ x hx
      · exact (h q hq).s x hx
theorem encs_snoc (Q : List PQ) (q : PQ) : encs (Q ++ [q]) = encs Q ++ encQ q := by simp [encs]
theorem and24 (a : Int) : ∃ n : Nat, realA.ib .and .i64 a 16777215 = (n : Int) ∧ n < 16777216 := by
  have h : (BitVec.ofInt 64 a &&& BitVec.ofInt 64 16777215).toNat ≤ 16777215 := by
    rw [BitVec.toNat_and]
    exact Nat.and_le_right
  refine ⟨(BitVec.ofInt 64 a &&& BitVec.ofInt 64 16777215).toNat, ?_, by omega⟩
  exact wrap64 (x := (((BitVec.ofInt 64 a &&& BitVec.ofInt 64 16777215).toNat : Nat) : Int)) (by omega)
theorem kind_3 (a b c : Int) (s : List Nat) (ha : -9223372036854775808 ≤ a ∧ a < 9223372036854775808) : ∃ k : Int, g10ok realA a b c s = true ∧ g10r0 realA a b c s = k ∧ (k = 0 ∨ k = 1 ∨ k = 2) := by
  have main : ∃ k : Int, g10v realA a b c s = some (i6 k) ∧ (k = 0 ∨ k = 1 ∨ k = 2) := by
    unfold g10v g10
    by_cases h : a < 0
    · rw [ar_lss, decide_eq_true h]
      refine ⟨_, rfl, ?_⟩
      rw [ar_add (by omega), ar_sub (by omega), ar_rem (by omega)]
      omega
    · rw [ar_lss, decide_eq_false h]
      refine ⟨_, rfl, ?_⟩
      rw [ar_rem (by omega)]
      omega
  obtain ⟨k, h1, h2⟩ := main
  exact ⟨k, (congrArg g10is h1).trans rfl, (congrArg g10g0 h1).trans rfl, h2⟩
theorem clip13 (a : List Nat) : realA.neg (realA.mn (realA.ofN a.length) 300) = false ∧ realA.le (realA.toN (realA.mn (realA.ofN a.length) 300)) a.length = true ∧ (a.take (realA.toN (realA.mn (realA.ofN a.length) 300))).drop 0 = a.take 300 := by
  rw [ar_mn, ar_ofN, ar_neg, ar_toN, ar_le]
  refine ⟨decide_eq_false (by omega), decide_eq_true (by omega), ?_⟩
  show a.take _ = _
  by_cases h : a.length ≤ 300
  · rw [List.take_of_length_le h, List.take_of_length_le (by omega)]
  · rw [show (min (a.length : Int) 300).toNat = 300 by omega]
theorem pow24 {z : Nat} (h : 3 ≤ z) : (16777216 : Int) ≤ 2 ^ (8 * z) := by
  have h1 : (2 : Nat) ^ 24 ≤ 2 ^ (8 * z) := Nat.pow_le_pow_right (by omega) (by omega)
  have h2 : ((2 ^ (8 * z) : Nat) : Int) = 2 ^ (8 * z) := Int.natCast_pow 2 (8 * z)
  have h3 : (2 : Nat) ^ 24 = 16777216 := by decide
  omega
theorem wnum_ok {n z : Nat} (hn : n < 16777216) (h3 : 3 ≤ z) (h7 : z ≤ 7) (l : List Nat) : wnum n z 0 l = (0, l ++ nby n z 0) := by
  have := pow24 h3
  unfold wnum
  rw [if_pos rfl, if_pos ⟨⟨by omega, by omega, by omega⟩, by rw [Int.toNat_natCast]; omega⟩, Int.toNat_natCast]
theorem writeLoop {R : Type} (N : Nat) (kk : AV → Heap → Option R) (x0 : Nat) (more : List Nat) (x5 x6 : Nat) (x7 x8 x9 : List Int) (x10 : List (List Nat)) (h7 : ∀ x ∈ x7, -9223372036854775808 ≤ x ∧ x < 9223372036854775808) (h10 : ∀ s ∈ x10, ∀ x ∈ s, x < 256) : ∀ (k m : Nat) (Q : List PQ), Q.length + k = min x0 20 → (∀ q ∈ Q, GoodQ q) →
    ∃ Q' : List PQ, Q'.length ≤ 20 ∧ (∀ q ∈ Q', GoodQ q) ∧
    g5L9 realA N kk (m + k + 1) x0 more true Q.length (Q.length : Int) x5 x6 x7 x8 x9 x10 0 (encs Q).length (encs Q).length (encs Q) Q.length (Q.map (·.1)) (Q.map (·.2.1)) (Q.map (·.2.2.1)) (Q.map (·.2.2.2)) = g5J23 realA N kk more true Q'.length x5 x6 x7 x8 x9 x10 0 (encs Q').length (encs Q').length (encs Q') Q'.length (Q'.map (·.1)) (Q'.map (·.2.1)) (Q'.map (·.2.2.1)) (Q'.map (·.2.2.2)) := by
  intro k
  induction k with
  | zero =>
    intro m Q hk hQ
    refine ⟨Q, by omega, hQ, ?_⟩
    rw [g5L9, ar_lss, ar_ofN, ar_lss]
    by_cases h : (Q.length : Int) < x0
    · rw [decide_eq_true h, decide_eq_false (by omega)]
    · rw [decide_eq_false h]
  | succ k ih =>
    intro m Q hk hQ
    have ha : -9223372036854775808 ≤ x7.getD Q.length 0 ∧ x7.getD Q.length 0 < 9223372036854775808 := by
      rw [List.getD_eq_getElem?_getD]
      cases h : x7[Q.length]? with
      | none => exact ⟨by decide, by decide⟩
      | some y => exact h7 y (List.mem_of_getElem? h)
    have hb : ∀ x ∈ (x10.getD Q.length []).take 300, x < 256 := by
      intro x hx
      have hx := List.mem_of_mem_take hx
      rw [List.getD_eq_getElem?_getD] at hx
      cases h : x10[Q.length]? with
      | none => rw [h] at hx; cases hx
      | some y => rw [h] at hx; exact h10 y (List.mem_of_getElem? h) x hx
    obtain ⟨kd, k1, k2, k3⟩ := kind_3 (x7.getD Q.length 0) (x8.getD Q.length 0) (x9.getD Q.length 0) (x10.getD Q.length []) ha
    obtain ⟨n, n1, n2⟩ := and24 (x8.getD Q.length 0)
    obtain ⟨c1, c2, c3⟩ := clip13 (x10.getD Q.length [])
    have z1 : realA.ib .add .i64 3 (realA.ib .rem .i64 (Q.length : Int) 5) = ((3 + Q.length % 5 : Nat) : Int) := by
      rw [ar_rem (by omega), ar_add (by omega)]; omega
    have q1 : realA.ib .add .i64 (Q.length : Int) 1 = ((Q.length + 1 : Nat) : Int) := (ar_add (by omega)).trans (by omega)
    have gq : GoodQ (kd, (n : Int), ((3 + Q.length % 5 : Nat) : Int), (x10.getD Q.length []).take 300) := ⟨k3, ⟨n, rfl, n2⟩, ⟨_, rfl, by omega, by omega⟩, hb, by rw [List.length_take]; omega⟩
    have hl := encs_len Q hQ
    obtain ⟨Q', r1, r2, r3⟩ := ih m (Q ++ [(kd, (n : Int), ((3 + Q.length % 5 : Nat) : Int), (x10.getD Q.length []).take 300)]) (by rw [List.length_append]; simp; omega) (fun q hq => by
      rcases List.mem_append.1 hq with h | h
      · exact hQ q h
      · rw [List.mem_singleton.1 h]; exact gq)
    refine ⟨Q', r1, r2, Eq.trans ?_ r3⟩
    have sl : ((x10.getD Q.length []).take 300).length ≤ 300 := by rw [List.length_take]; omega
    rw [show m + (k + 1) + 1 = (m + k + 1) + 1 by omega, g5L9, ar_lss, ar_ofN, ar_lss, decide_eq_true (by omega), decide_eq_true (by omega)]
    simp only []
    unfold g5J11
    simp only [g5t0, g5t1, g5t2, g5t3, ar_negN, ar_toNN, ar_lt, decide_eq_true (show Q.length < x0 by omega), k1, k2, n1, c1, c2, c3, ar_eq, Nat.add_zero, decide_true, ar_le, decide_eq_true (show (Q.length + 1) * 40 ≤ 140737488355328 by omega), z1, q1, ar_eql]
    generalize (x10.getD Q.length []).take 300 = s at *
    have lw := wnum_ok (n := n) (z := 3 + Q.length % 5) n2 (by omega) (by omega) (encs Q)
    have lo : wopq s ((3 + Q.length % 5 : Nat) : Int) 0 (encs Q) = (0, encs Q ++ (nby s.length (3 + Q.length % 5) 0 ++ s)) := by
      unfold wopq
      rw [wnum_ok (n := s.length) (z := 3 + Q.length % 5) (by omega) (by omega) (by omega) (encs Q)]
      unfold wraw
      rw [if_pos rfl, List.append_assoc]
    have lr : wraw s 0 (encs Q) = (0, encs Q ++ s) := if_pos rfl
    rw [encs_snoc, List.map_append, List.map_append, List.map_append, List.map_append]
    simp only [List.map_cons, List.map_nil, List.length_append, List.length_cons, List.length_nil, Nat.zero_add]
    rcases k3 with rfl | rfl | rfl
    · have e : encQ ((0 : Int), (n : Int), ((3 + Q.length % 5 : Nat) : Int), s) = nby n (3 + Q.length % 5) 0 := by
        unfold encQ; rw [if_pos rfl, Int.toNat_natCast]
      rw [e]
      simp only [decide_true, g11_ok _ _ _ (encs Q) (show (encs Q).length ≤ 100000000000 by omega), g11_0 _ _ _ (encs Q) (show (encs Q).length ≤ 100000000000 by omega), g11_1 _ _ _ (encs Q) (show (encs Q).length ≤ 100000000000 by omega), g11_2 _ _ _ (encs Q) (show (encs Q).length ≤ 100000000000 by omega), g11_3 _ _ _ (encs Q) (show (encs Q).length ≤ 100000000000 by omega), lw, List.length_append]
    · have e : encQ ((1 : Int), (n : Int), ((3 + Q.length % 5 : Nat) : Int), s) = s := by
        unfold encQ; rw [if_neg (show ¬ (1 : Int) = 0 by decide), if_pos rfl]
      have hs : (encs Q).length + s.length ≤ 100000000000000 := by omega
      rw [e]
      simp only [show decide ((1 : Int) = 0) = false from rfl, decide_true, g13_ok s _ (encs Q) hs, g13_0 s _ (encs Q) hs, g13_1 s _ (encs Q) hs, g13_2 s _ (encs Q) hs, g13_3 s _ (encs Q) hs, lr, List.length_append]
    · have e : encQ ((2 : Int), (n : Int), ((3 + Q.length % 5 : Nat) : Int), s) = nby s.length (3 + Q.length % 5) 0 ++ s := by
        unfold encQ; rw [if_neg (show ¬ (2 : Int) = 0 by decide), if_neg (show ¬ (2 : Int) = 1 by decide), Int.toNat_natCast]
      have hs : (encs Q).length + s.length ≤ 10000000000 := by omega
      rw [e]
      simp only [show decide ((2 : Int) = 0) = false from rfl, show decide ((2 : Int) = 1) = false from rfl, o15_ok s (encs Q) _ _ hs, o15_0 s (encs Q) _ _ hs, o15_1 s (encs Q) _ _ hs, o15_2 s (encs Q) _ _ hs, o15_3 s (encs Q) _ _ hs, lo, List.length_append]
theorem take_len_app (a b : List Nat) : (a ++ b).take a.length = a ∧ (a ++ b).drop a.length = b := ⟨by rw [List.take_append_of_le_length (Nat.le_refl _), List.take_length], by rw [List.drop_append_of_le_length (Nat.le_refl _), List.drop_length, List.nil_append]⟩
theorem rNum_back {n z : Nat} (hn : n < 256 ^ z) (h1 : 1 ≤ z) (h7 : z ≤ 7) (rest : List Nat) : rNum (z : Int) 0 (nby n z 0 ++ rest) = ((n : Int), 0, rest) := by
  have hl := nby_len (n : Int) z
  obtain ⟨t1, t2⟩ := take_len_app (nby n z 0) rest
  rw [hl] at t1 t2
  unfold rNum
  rw [if_pos rfl, if_neg (by omega), if_neg (by rw [List.length_append, hl]; omega), Int.toNat_natCast, t1, t2, bval_nby n z z 0 0 (by omega), Nat.zero_mul, Nat.zero_add, Nat.mod_eq_of_lt hn]
theorem rRaw_back (s rest : List Nat) : rRaw (s.length : Int) 0 (s ++ rest) = (s, 0, rest) := by
  obtain ⟨t1, t2⟩ := take_len_app s rest
  unfold rRaw
  rw [if_pos rfl, if_neg (by omega), if_neg (by rw [List.length_append]; omega), Int.toNat_natCast, t1, t2]
theorem pow24n {z : Nat} (h : 3 ≤ z) : 16777216 ≤ 256 ^ z := by
  have h1 : (256 : Nat) ^ 3 ≤ 256 ^ z := Nat.pow_le_pow_right (by omega) h
  have h3 : (256 : Nat) ^ 3 = 16777216 := by decide
  omega
theorem rOpq_back {s : List Nat} {z : Nat} (hs : s.length ≤ 300) (h3 : 3 ≤ z) (h7 : z ≤ 7) (rest : List Nat) : rOpq (z : Int) 0 ((nby s.length z 0 ++ s) ++ rest) = (s, 0, rest) := by
  have := pow24n h3
  unfold rOpq
  rw [List.append_assoc, rNum_back (by omega) (by omega) h7]
  exact rRaw_back s rest
theorem readLoop {R : Type} (N : Nat) (kk : AV → Heap → Option R) (more : List Nat) (hm : ∀ x ∈ more, x < 256) (hml : more.length < 2 ^ 47) (x4 x5 : Nat) (x6 x7 x8 : List Int) (x9 : List (List Nat)) (Q : List PQ) (hQ : ∀ q ∈ Q, GoodQ q) (hl : Q.length ≤ 20) : ∀ (k m i : Nat), i + k = Q.length →
    g5L28 realA N kk (m + k + 1) more true Q.length (i : Int) x4 x5 x6 x7 x8 x9 Q.length (Q.map (·.1)) (Q.map (·.2.1)) (Q.map (·.2.2.1)) (Q.map (·.2.2.2)) 0 (encs (Q.drop i) ++ more) = g5J33 realA N kk more true x4 x5 x6 x7 x8 x9 0 more := by
  intro k
  induction k with
  | zero =>
    intro m i hi
    rw [g5L28, ar_lss, ar_ofN, decide_eq_false (by omega), List.drop_of_length_le (by omega)]
    rfl
  | succ k ih =>
    intro m i hi
    have hlt : i < Q.length := by omega
    obtain ⟨q, hq⟩ : ∃ q, Q[i]? = some q := ⟨_, List.getElem?_eq_getElem hlt⟩
    have gq := hQ q (List.mem_of_getElem? hq)
    have d1 : (Q.map (·.1)).getD i 0 = q.1 := by rw [List.getD_eq_getElem?_getD, List.getElem?_map, hq]; rfl
    have d2 : (Q.map (·.2.1)).getD i 0 = q.2.1 := by rw [List.getD_eq_getElem?_getD, List.getElem?_map, hq]; rfl
    have d3 : (Q.map (·.2.2.1)).getD i 0 = q.2.2.1 := by rw [List.getD_eq_getElem?_getD, List.getElem?_map, hq]; rfl
    have d4 : (Q.map (·.2.2.2)).getD i [] = q.2.2.2 := by rw [List.getD_eq_getElem?_getD, List.getElem?_map, hq]; rfl
    have dd : encs (Q.drop i) ++ more = encQ q ++ (encs (Q.drop (i + 1)) ++ more) := by
      have : Q.drop i = q :: Q.drop (i + 1) := by
        rw [List.drop_eq_getElem_cons hlt]
        congr 1
        rw [List.getElem?_eq_getElem hlt] at hq
        exact Option.some.inj hq
      rw [this, encs, List.flatMap_cons, List.append_assoc]
      rfl
    have rb : ∀ x ∈ encs (Q.drop (i + 1)) ++ more, x < 256 := by
      intro x hx
      rcases List.mem_append.1 hx with hx | hx
      · exact encs_lt _ (fun q hq => hQ q (List.mem_of_mem_drop hq)) x hx
      · exact hm x hx
    have rl : (encs (Q.drop (i + 1)) ++ more).length < 2 ^ 48 := by
      have := encs_len (Q.drop (i + 1)) (fun q hq => hQ q (List.mem_of_mem_drop hq))
      rw [List.length_drop] at this
      rw [List.length_append]
      omega
    have q1 : realA.ib .add .i64 (i : Int) 1 = ((i + 1 : Nat) : Int) := (ar_add (by omega)).trans (by omega)
    rw [← ih m (i + 1) (by omega)]
    rw [show m + (k + 1) + 1 = (m + k + 1) + 1 by omega, g5L28, ar_lss, ar_ofN, decide_eq_true (by omega)]
    simp only []
    unfold g5J30
    rw [dd]
    generalize encs (Q.drop (i + 1)) ++ more = rest at *
    obtain ⟨n, n1, n2⟩ := gq.n
    obtain ⟨z, z1, z3, z7⟩ := gq.z
    have gl := gq.l
    have gs := gq.s
    have gk := gq.k
    obtain ⟨kd, qn, qz, s⟩ := q
    simp only at d1 d2 d3 d4 n1 z1 gl gs gk
    subst n1; subst z1
    have e24 := pow24n z3
    simp only [ar_negN, ar_toNN, ar_lt, decide_eq_true hlt, d1, d2, d3, d4, ar_eql, ar_neq, ar_scne, ar_ofN, q1]
    rcases gk with rfl | rfl | rfl
    · have e : encQ ((0 : Int), (n : Int), (z : Int), s) = nby n z 0 := by
        unfold encQ; rw [if_pos rfl, Int.toNat_natCast]
      have eb : ∀ x ∈ nby (n : Int) z 0 ++ rest, x < 256 := fun x hx => (List.mem_append.1 hx).elim (nby_lt _ _ _ x) (rb x)
      have el : (nby (n : Int) z 0 ++ rest).length < 9223372036854775808 := by rw [List.length_append, nby_len]; omega
      rw [e]
      simp only [decide_true, num_ok _ _ _ eb el, num_0 _ _ _ eb el, num_1 _ _ _ eb el, num_2 _ _ _ eb el, rNum_back (show n < 256 ^ z by omega) (by omega) z7 rest, Bool.not_true, show decide ((0 : Int) = 1) = false from rfl, show decide ((0 : Int) = 2) = false from rfl]
    · have e : encQ ((1 : Int), (n : Int), (z : Int), s) = s := by
        unfold encQ; rw [if_neg (show ¬ (1 : Int) = 0 by decide), if_pos rfl]
      rw [e]
      simp only [show decide ((1 : Int) = 0) = false from rfl, decide_true, raw_ok, raw_0, raw_1, raw_2, rRaw_back, Bool.not_true, show decide ((1 : Int) = 2) = false from rfl]
    · have e : encQ ((2 : Int), (n : Int), (z : Int), s) = nby s.length z 0 ++ s := by
        unfold encQ; rw [if_neg (show ¬ (2 : Int) = 0 by decide), if_neg (show ¬ (2 : Int) = 1 by decide), Int.toNat_natCast]
      have eb : ∀ x ∈ (nby (s.length : Int) z 0 ++ s) ++ rest, x < 256 := fun x hx => (List.mem_append.1 hx).elim (fun h => (List.mem_append.1 h).elim (nby_lt _ _ _ x) (gs x)) (rb x)
      have el : ((nby (s.length : Int) z 0 ++ s) ++ rest).length < 9223372036854775808 := by rw [List.length_append, List.length_append, nby_len]; omega
      rw [e]
      simp only [show decide ((2 : Int) = 0) = false from rfl, show decide ((2 : Int) = 1) = false from rfl, decide_true, opq_ok _ _ _ eb el, opq_0 _ _ _ eb el, opq_1 _ _ _ eb el, opq_2 _ _ _ eb el, rOpq_back gl z3 z7, Bool.not_true]
theorem g5Start {R : Type} (A : Ar) (n : Nat) (kk : AV → Heap → Option R) (x0 : Nat) (x1 : List Nat) (x2 x3 : Nat) (x4 x5 x6 : List Int) (x7 : List (List Nat)) (h1 : g8ok A = true) (h2 : g8r0 A = true) (h3 : g9ok A = true) (h4 : g9r0 A = 0) : g5 A n kk x0 x1 x2 x3 x4 x5 x6 x7 = g5L9 A n kk n x0 x1 true 0 0 x2 x3 x4 x5 x6 x7 0 0 0 [] 0 [] [] [] [] := by
  unfold g5
  simp only [h1, h2, Bool.not_true]
  unfold g5J4
  simp only [h3, h4]
  rfl
theorem end5 {R : Type} (N : Nat) (kk : AV → Heap → Option R) (Z : R) (more : List Nat) (x4 x5 : Nat) (x6 x7 x8 : List Int) (x9 : List (List Nat)) (hZ : ∀ e s, kk (bO true) [(0, ⟨[.recs x5 [.ints .i64 x6, .ints .i64 x7, .ints .i64 x8, .strs x9]], x4, 0⟩), (25003, ⟨[.one (.int .i64 e), .one (.str s)], 59, 1⟩)] = some Z) : g5J33 realA N kk more true x4 x5 x6 x7 x8 x9 0 more = some Z := by
  unfold g5J33
  simp only [rest_ok, rest_0, rest_1, rest_2, if_pos, ar_eql, ar_ofN, decide_true, end_ok, end_0, ar_sceq]
  rw [← hZ (g27r1 realA 0 more) (g27r2 realA 0 more)]
  congr 2
  by_cases h : more = []
  · rw [if_pos h, decide_eq_true h]; rfl
  · rw [if_neg h, decide_eq_false h]; rfl
theorem law5N {R : Type} (m : Nat) (kk : AV → Heap → Option R) (Z : R) (x0 : Nat) (more : List Nat) (hm : ∀ x ∈ more, x < 256) (hml : more.length < 2 ^ 47) (x5 x6 : Nat) (x7 x8 x9 : List Int) (x10 : List (List Nat)) (h7 : ∀ x ∈ x7, -9223372036854775808 ≤ x ∧ x < 9223372036854775808) (h10 : ∀ s ∈ x10, ∀ x ∈ s, x < 256)
    (hZ : ∀ e s, kk (bO true) [(0, ⟨[.recs x6 [.ints .i64 x7, .ints .i64 x8, .ints .i64 x9, .strs x10]], x5, 0⟩), (25003, ⟨[.one (.int .i64 e), .one (.str s)], 59, 1⟩)] = some Z) : g5L9 realA (m + 41) kk (m + 41) x0 more true 0 0 x5 x6 x7 x8 x9 x10 0 0 0 [] 0 [] [] [] [] = some Z := by
  obtain ⟨Q, r1, r2, r3⟩ := writeLoop (m + 41) kk x0 more x5 x6 x7 x8 x9 x10 h7 h10 (min x0 20) (m + 40 - min x0 20) [] (by simp) (by simp)
  rw [show m + 40 - min x0 20 + min x0 20 + 1 = m + 41 by omega] at r3
  refine Eq.trans r3 ?_
  unfold g5J23
  have hl := encs_len Q r2
  have t0 : (encs Q).take (encs Q).length = encs Q := List.take_length
  obtain ⟨n1, n2, n3⟩ := new_v (encs Q ++ more)
  simp only [g17_ok, g17_0, g17_1, if_pos, t0, ar_le, decide_eq_true (show (encs Q).length + more.length ≤ 9223372036854775807 by omega), n1, n2, n3, ar_neq, decide_true, Bool.not_true]
  unfold g5J27
  have rd := readLoop (m + 41) kk more hm hml x5 x6 x7 x8 x9 x10 Q r2 r1 Q.length (m + 40 - Q.length) 0 (by omega)
  rw [show m + 40 - Q.length + Q.length + 1 = m + 41 by omega] at rd
  exact (rd.trans (end5 (m + 41) kk Z more x5 x6 x7 x8 x9 x10 hZ))
theorem law5v (more : List Nat) (n n2 n3 : Nat) (a b c : List Int) (d : List (List Nat)) (hm : ∀ x ∈ more, x < 256) (hml : more.length < 2 ^ 47) (ha : ∀ x ∈ a, -9223372036854775808 ≤ x ∧ x < 9223372036854775808) (hd : ∀ s ∈ d, ∀ x ∈ s, x < 256) :
    g5v realA n more n2 n3 a b c d = some (bO true, [(0, ⟨[.recs n3 [.ints .i64 a, .ints .i64 b, .ints .i64 c, .strs d]], n2, 0⟩)]) :=
  (g5Start realA 100000 (outH [0] none) n more n2 n3 a b c d head13ok head13r g9_ok g9_0).trans (law5N 99959 (outH [0] none) _ n more hm hml n2 n3 a b c d ha hd (fun e s => rfl))
theorem wfI64 {x : Int} (h : (Lit.int .i64 x).wf = true) : -9223372036854775808 ≤ x ∧ x < 9223372036854775808 := by
  have : (-9223372036854775808 ≤ x ∧ x ≤ 9223372036854775807) := by simpa [Lit.wf, IntKind.min, IntKind.max, IntKind.signed, IntKind.bits] using h
  omega
theorem law5o (n : Nat) (s : List Nat) (n2 n3 : Nat) (a b c : List Int) (d : List (List Nat)) (ha : ∀ x ∈ a, (Lit.int .i64 x).wf = true) (_ : ∀ x ∈ b, (Lit.int .i64 x).wf = true) (_ : ∀ x ∈ c, (Lit.int .i64 x).wf = true) (hd : ∀ x ∈ d, (∀ b ∈ x, b < 256) ∧ x.length ≤ maxLen) (hs : ∀ x ∈ s, x < 256) (hl : s.length < 2 ^ 47) :
    g5ok realA n s n2 n3 a b c d = true ∧ g5r0 realA n s n2 n3 a b c d = true := by
  have e := law5v s n n2 n3 a b c d hs hl (fun x hx => wfI64 (ha x hx)) (fun s hs => (hd s hs).1)
  exact ⟨(congrArg g5is e).trans rfl, (congrArg g5g0 e).trans rfl⟩
end Go.Sx
