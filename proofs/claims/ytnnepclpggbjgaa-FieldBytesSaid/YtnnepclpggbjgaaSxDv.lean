import Derived.Test.YtnnepclpggbjgaaSxLe
import Derived.Test.YtnnepclpggbjgaaSxS03Z
import Derived.Test.YtnnepclpggbjgaaSxN03b
namespace Go.Sx
theorem byteW (w0 w1 w2 w3 : Nat) (h0 : w0 < 18446744073709551616) (h1 : w1 < 18446744073709551616) (h2 : w2 < 18446744073709551616) (h3 : w3 < 18446744073709551616) (j : Nat) (hj : j < 32) :
    [w0, w1, w2, w3].getD (j / 8) 0 / 2 ^ (8 * (j % 8)) % 256 = v64 w0 w1 w2 w3 / 256 ^ j % 256 := by
  unfold v64
  have : j = 0 ∨ j = 1 ∨ j = 2 ∨ j = 3 ∨ j = 4 ∨ j = 5 ∨ j = 6 ∨ j = 7 ∨ j = 8 ∨ j = 9 ∨ j = 10 ∨ j = 11 ∨ j = 12 ∨ j = 13 ∨ j = 14 ∨ j = 15 ∨ j = 16 ∨ j = 17 ∨ j = 18 ∨ j = 19 ∨ j = 20 ∨ j = 21 ∨ j = 22 ∨ j = 23 ∨ j = 24 ∨ j = 25 ∨ j = 26 ∨ j = 27 ∨ j = 28 ∨ j = 29 ∨ j = 30 ∨ j = 31 := by omega
  rcases this with h | h | h | h | h | h | h | h | h | h | h | h | h | h | h | h | h | h | h | h | h | h | h | h | h | h | h | h | h | h | h | h <;> subst h <;> simp only [Nat.reduceDiv, Nat.reduceMod, Nat.reduceMul, Nat.reducePow, List.getD_cons_zero, List.getD_cons_succ] <;> omega
def bl (X n : Nat) : List Nat := (List.range n).map fun i => X / 256 ^ i % 256
theorem bl_len (X n : Nat) : (bl X n).length = n := by simp [bl]
theorem bl_succ (X n : Nat) : bl X n ++ [X / 256 ^ n % 256] = bl X (n + 1) := by unfold bl; rw [List.range_succ, List.map_append]; rfl
theorem eqT {a b : Nat} (h : a = b) : realA.eq a b = true := show decide (a = b) = true from decide_eq_true h
theorem leT {a b : Nat} (h : a ≤ b) : realA.le a b = true := show decide (a ≤ b) = true from decide_eq_true h
theorem mulIg {a b : Int} (h : -9223372036854775808 ≤ a * b ∧ a * b < 9223372036854775808) : realA.ib .mul .i64 a b = a * b := wrap64 h
theorem bInner (n m i X x : Nat) (w : List Nat) (lg : Nat → List Nat → Int → Nat → List Nat → Option AV) (hi : i < 4) (hx : ∀ k, k < 8 → x / 2 ^ (8 * k) % 256 = X / 256 ^ (8 * i + k) % 256) :
    ∀ (r k : Nat), k + r = 8 → g33L7 realA n (fun v _ => some v) lg (m + r + 1) (8 * i + k) x w i k (8 * i + k) (bl X (8 * i + k)) = lg (8 * (i + 1)) w ((i + 1 : Nat) : Int) (8 * (i + 1)) (bl X (8 * (i + 1))) := by
  intro r
  induction r with
  | zero =>
    intro k hk
    have : k = 8 := by omega
    subst this
    have e1 : realA.ib .add .i64 (i : Int) 1 = ((i + 1 : Nat) : Int) := addN 1 (by omega)
    rw [g33L7, lssF (by omega)]
    simp only []
    rw [e1, show 8 * i + 8 = 8 * (i + 1) by omega]
  | succ r ih =>
    intro k hk
    have e1 : realA.ib .mul .i64 8 (k : Int) = ((8 * k : Nat) : Int) := by rw [mulIg (by omega)]; omega
    have e2 : realA.ib .add .i64 (k : Int) 1 = ((k + 1 : Nat) : Int) := addN 1 (by omega)
    have e3 : realA.n2n .u8 (realA.nsh .shr .u64 x (8 * k)) = X / 256 ^ (8 * i + k) % 256 := hx k (by omega)
    have e4 : ∀ y : Nat, [y].take 1 = [y] := fun y => rfl
    rw [show m + (r + 1) + 1 = (m + r + 1) + 1 from by omega, g33L7, lssT (show (k : Int) < 8 by omega)]
    simp only [g33J8, e1, negN, toNN, e3, e4, bl_succ, eqT (show 8 * i + k = 8 * i + k + 0 from rfl), bl_len, leT (show 8 * i + k + 1 ≤ 140737488355328 by omega), e2]
    exact ih (k + 1) (by omega)
theorem bOuter (N w0 w1 w2 w3 : Nat) (h0 : w0 < 18446744073709551616) (h1 : w1 < 18446744073709551616) (h2 : w2 < 18446744073709551616) (h3 : w3 < 18446744073709551616) : ∀ (r i m : Nat), i + r = 4 →
    g33L4 realA (N + 9) (fun v _ => some v) (m + r + 1) (8 * i) [w0, w1, w2, w3] i (8 * i) (bl (v64 w0 w1 w2 w3) (8 * i)) = some (.v (.cell (.str (bl (v64 w0 w1 w2 w3) 32)))) := by
  intro r
  induction r with
  | zero =>
    intro i m hi
    have : i = 4 := by omega
    subst this
    rw [g33L4, lssF (by omega)]
    simp only []
    rw [List.take_of_length_le (by rw [bl_len]; omega)]
  | succ r ih =>
    intro i m hi
    rw [show m + (r + 1) + 1 = (m + r + 1) + 1 from by omega, g33L4, lssT (show (i : Int) < 4 by omega)]
    simp only [g33J5, negN, toNN, ltT (show i < 4 by omega)]
    have hx : ∀ k, k < 8 → [w0, w1, w2, w3].getD i 0 / 2 ^ (8 * k) % 256 = v64 w0 w1 w2 w3 / 256 ^ (8 * i + k) % 256 := by
      intro k hk
      have := byteW w0 w1 w2 w3 h0 h1 h2 h3 (8 * i + k) (by omega)
      rw [show (8 * i + k) / 8 = i by omega, show (8 * i + k) % 8 = k by omega] at this
      exact this
    exact (bInner (N + 9) N i (v64 w0 w1 w2 w3) ([w0, w1, w2, w3].getD i 0) [w0, w1, w2, w3] (g33L4 realA (N + 9) (fun v _ => some v) (m + r + 1)) (by omega) hx 8 0 rfl).trans (ih (i + 1) m (by omega))
theorem g33Shape (A : Ar) (n : Nat) (a l w : List Nat) (k1 : g37ok A a = true) (k2 : g37r0 A a = l) (k3 : g38ok A l = true) (k4 : g38r0 A l = w) (e1 : A.le 0 32 = true) (e2 : A.le 32 140737488355328 = true) :
    g33 A n (fun v _ => some v) a = g33L4 A n (fun v _ => some v) n 0 w 0 0 [] := by
  unfold g33
  rw [k1, k2, k3, k4, e1, e2]
  rfl
theorem bytesOk {a : List Nat} (ha : W4 a) : g33ok realA a = true ∧ g33r0 realA a = le32 (num a % PP) := by
  obtain ⟨k1, x1, y1⟩ := load4 ha
  obtain ⟨k4, y4⟩ := store5 x1
  rw [fm_congr y1] at y4
  obtain ⟨w0, w1, w2, w3, ew, h0, h1, h2, h3⟩ := fm_W4 (num a)
  have hv : v64 w0 w1 w2 w3 = num a % PP := by
    have := num_fm (num a)
    rw [ew] at this
    exact this
  have e : g33v realA a = some (.v (.cell (.str (le32 (num a % PP))))) := by
    refine (g33Shape realA 100000 a _ _ k1 rfl k4 y4 (leT (by decide)) (leT (by decide))).trans ?_
    rw [ew]
    have := bOuter 99991 w0 w1 w2 w3 h0 h1 h2 h3 4 0 99995 rfl
    rw [hv] at this
    exact this
  exact ⟨by unfold g33ok; rw [e]; rfl, by unfold g33r0; rw [e]; rfl⟩
/-- one word of eight bytes -/
theorem mInner (n m i : Nat) (s : List Nat) (hs : ∀ x ∈ s, x < 256) (hl : s.length = 32) (d : List Nat) (lg : List Nat → Int → List Nat → List Nat → Option AV) (hi : i < 4) :
    ∀ (r k : Nat) (w : List Nat), k + r = 8 → w.length = 4 → w.getD i 0 = leval ((s.drop (8 * i)).take k) →
      g29L8 realA n (fun v _ => some v) lg (m + r + 1) s i i k d w = lg s ((i + 1 : Nat) : Int) d (w.set i (leval ((s.drop (8 * i)).take 8))) := by
  intro r
  induction r with
  | zero =>
    intro k w hk hw hv
    have : k = 8 := by omega
    subst this
    have e1 : realA.ib .add .i64 (i : Int) 1 = ((i + 1 : Nat) : Int) := addN 1 (by omega)
    rw [g29L8, lssF (by omega)]
    simp only []
    rw [e1, ← hv]
    congr 1
    rw [List.getD_eq_getElem?_getD, List.getElem?_eq_getElem (by omega)]
    simp
  | succ r ih =>
    intro k w hk hw hv
    have e1 : realA.ib .mul .i64 8 (k : Int) = ((8 * k : Nat) : Int) := by rw [mulIg (by omega)]; omega
    have e1' : realA.ib .mul .i64 8 (i : Int) = ((8 * i : Nat) : Int) := by rw [mulIg (by omega)]; omega
    have e2 : realA.ib .add .i64 (k : Int) 1 = ((k + 1 : Nat) : Int) := addN 1 (by omega)
    have e3 : realA.ib .add .i64 ((8 * i : Nat) : Int) (k : Int) = ((8 * i + k : Nat) : Int) := addN k (by omega)
    have hb := getD_lt hs (8 * i + k)
    have hlt : leval ((s.drop (8 * i)).take k) < 256 ^ k := by
      have h := leval_lt (l := (s.drop (8 * i)).take k) (fun x hx => hs x (List.mem_of_mem_drop (List.mem_of_mem_take hx)))
      have hlen : ((s.drop (8 * i)).take k).length = k := by rw [List.length_take, List.length_drop]; omega
      rwa [hlen] at h
    have ht : (s.drop (8 * i)).take (k + 1) = (s.drop (8 * i)).take k ++ [s.getD (8 * i + k) 0] := by
      rw [List.take_add_one, List.getElem?_drop, List.getElem?_eq_getElem (by omega), List.getD_eq_getElem?_getD, List.getElem?_eq_getElem (by omega)]
      rfl
    have hnew : leval ((s.drop (8 * i)).take (k + 1)) = leval ((s.drop (8 * i)).take k) + 256 ^ k * s.getD (8 * i + k) 0 := by
      have hlen : ((s.drop (8 * i)).take k).length = k := by rw [List.length_take, List.length_drop]; omega
      rw [ht, leval_append, hlen]
      simp only [leval, Nat.mul_zero, Nat.add_zero]
    have e4 : realA.nb .or .u64 (w.getD i 0) (realA.nsh .shl .u64 (s.getD (8 * i + k) 0) (8 * k)) = leval ((s.drop (8 * i)).take (k + 1)) := by
      show (w.getD i 0) ||| (s.getD (8 * i + k) 0 * 2 ^ (8 * k) % 2 ^ 64) = _
      have hk7 : 2 ^ (8 * k) * 256 ≤ 2 ^ 64 := by
        rw [show (256 : Nat) = 2 ^ 8 from rfl, ← Nat.pow_add]
        exact Nat.pow_le_pow_right (by omega) (by omega)
      have hsm : s.getD (8 * i + k) 0 * 2 ^ (8 * k) < 2 ^ 64 := by
        refine Nat.lt_of_lt_of_le ?_ hk7
        rw [Nat.mul_comm]
        exact Nat.mul_lt_mul_of_pos_left hb (Nat.two_pow_pos _)
      rw [Nat.mod_eq_of_lt hsm, Nat.mul_comm, Nat.or_comm, hv, hnew, show (256 : Nat) ^ k = 2 ^ (8 * k) by rw [Nat.pow_mul]]
      rw [orlo (8 * k) _ _ (by rw [Nat.pow_mul]; exact hlt), Nat.add_comm]
    rw [show m + (r + 1) + 1 = (m + r + 1) + 1 from by omega, g29L8, lssT (show (k : Int) < 8 by omega)]
    simp only [g29J9, negN, toNN, e1, e1', e2, e3, ltT hi, ltT (show 8 * i + k < s.length by omega), e4]
    have := ih (k + 1) (w.set i (leval ((s.drop (8 * i)).take (k + 1)))) (by omega) (by simp [hw]) (by rw [getD_set_same _ _ _ (by omega)])
    rw [List.set_set] at this
    exact this
theorem chunk_lt (s : List Nat) (hs : ∀ x ∈ s, x < 256) (i : Nat) : leval ((s.drop (8 * i)).take 8) < 18446744073709551616 := by
  have h := leval_lt (l := (s.drop (8 * i)).take 8) (fun x hx => hs x (List.mem_of_mem_drop (List.mem_of_mem_take hx)))
  have h2 : 256 ^ ((s.drop (8 * i)).take 8).length ≤ 256 ^ 8 := Nat.pow_le_pow_right (by omega) (by rw [List.length_take]; omega)
  exact Nat.lt_of_lt_of_le h h2
theorem leval_split (s : List Nat) (k : Nat) (h : k ≤ s.length) : leval s = leval (s.take k) + 256 ^ k * leval (s.drop k) := by
  have e := leval_append (s.take k) (s.drop k)
  rw [List.take_append_drop, List.length_take, Nat.min_eq_left h] at e
  exact e
theorem chunks (s : List Nat) (hl : s.length = 32) : leval s = v64 (leval ((s.drop (8 * 0)).take 8)) (leval ((s.drop (8 * 1)).take 8)) (leval ((s.drop (8 * 2)).take 8)) (leval ((s.drop (8 * 3)).take 8)) := by
  have h0 := leval_split s 8 (by omega)
  have h1 := leval_split (s.drop 8) 8 (by rw [List.length_drop]; omega)
  have h2 := leval_split (s.drop 16) 8 (by rw [List.length_drop]; omega)
  have h3 := leval_split (s.drop 24) 8 (by rw [List.length_drop]; omega)
  rw [List.drop_drop] at h1 h2 h3
  have h4 : s.drop (24 + 8) = [] := List.drop_of_length_le (by omega)
  rw [h4] at h3
  simp only [Nat.reduceAdd, Nat.reducePow, Nat.reduceMul, List.drop_zero, leval] at *
  unfold v64
  omega
theorem mOuter (N : Nat) (s : List Nat) (hs : ∀ x ∈ s, x < 256) (hl : s.length = 32) (d : List Nat) (lg : List Nat → List Nat → Option AV) : ∀ (m i : Nat) (w : List Nat), i < 4 → w.length = 4 → w.getD i 0 = 0 →
    g29L5 realA (N + 9) (fun v _ => some v) (m + 1) s i d w = g29L5 realA (N + 9) (fun v _ => some v) m s ((i + 1 : Nat) : Int) d (w.set i (leval ((s.drop (8 * i)).take 8))) := by
  intro m i w hi hw hz
  rw [g29L5, lssT (show (i : Int) < 4 by omega)]
  simp only [g29J6]
  exact mInner (N + 9) N i s hs hl d (g29L5 realA (N + 9) (fun v _ => some v) m) hi 8 0 w rfl hw hz
theorem ofNat32 {n : Nat} (h : n = 32) : realA.ic .neq (realA.ofN n) 32 = false := by rw [h]; rfl
theorem ofNat32' {n : Nat} (h : n ≠ 32) : realA.ic .neq (realA.ofN n) 32 = true := by
  show (!(decide ((n : Int) = 32))) = true
  rw [decide_eq_false (by omega)]
  rfl
theorem j13 (n : Nat) (d : List Nat) {w : List Nat} (hw : W4 w) : g29J13 realA n (fun v _ => some v) d w = (match decide (num w < PP) with
    | true => some (.tup [.agg [.nums .u64 4 w], .cell (.bool true)])
    | false => some (.tup [.agg [.nums .u64 4 [0, 0, 0, 0]], .cell (.bool false)])) := by
  obtain ⟨k1, k2⟩ := rightOk hw
  unfold g29J13
  rw [k1, k2]
  cases decide (num w < PP) <;> rfl
theorem makeE {s : List Nat} (hs : ∀ x ∈ s, x < 256) (hl : s.length = 32) : g29v realA s = (match decide (leval s < PP) with
    | true => some (.tup [.agg [.nums .u64 4 (fe (leval s))], .cell (.bool true)])
    | false => some (.tup [.agg [.nums .u64 4 [0, 0, 0, 0]], .cell (.bool false)])) := by
  have c := chunks s hl
  have b0 := chunk_lt s hs 0
  have b1 := chunk_lt s hs 1
  have b2 := chunk_lt s hs 2
  have b3 := chunk_lt s hs 3
  have o0 := mOuter 99991 s hs hl [0, 0, 0, 0] (fun _ _ => none) 99999 0 [0, 0, 0, 0] (by decide) rfl rfl
  have o1 := mOuter 99991 s hs hl [0, 0, 0, 0] (fun _ _ => none) 99998 1 [leval ((s.drop (8 * 0)).take 8), 0, 0, 0] (by decide) rfl rfl
  have o2 := mOuter 99991 s hs hl [0, 0, 0, 0] (fun _ _ => none) 99997 2 [leval ((s.drop (8 * 0)).take 8), leval ((s.drop (8 * 1)).take 8), 0, 0] (by decide) rfl rfl
  have o3 := mOuter 99991 s hs hl [0, 0, 0, 0] (fun _ _ => none) 99996 3 [leval ((s.drop (8 * 0)).take 8), leval ((s.drop (8 * 1)).take 8), leval ((s.drop (8 * 2)).take 8), 0] (by decide) rfl rfl
  generalize leval ((s.drop (8 * 0)).take 8) = w0 at *
  generalize leval ((s.drop (8 * 1)).take 8) = w1 at *
  generalize leval ((s.drop (8 * 2)).take 8) = w2 at *
  generalize leval ((s.drop (8 * 3)).take 8) = w3 at *
  have hw : W4 [w0, w1, w2, w3] := ⟨w0, w1, w2, w3, rfl, b0, b1, b2, b3⟩
  have hn : num [w0, w1, w2, w3] = leval s := c.symm
  have hf : fe (leval s) = [w0, w1, w2, w3] := by rw [← hn]; exact fe_num hw
  have fin := j13 100000 [0, 0, 0, 0] hw
  rw [hn] at fin
  rw [hf, ← fin]
  unfold g29v
  have st : g29 realA 100000 (fun v _ => some v) s = g29L5 realA (99991 + 9) (fun v _ => some v) (99999 + 1) s ((0 : Nat) : Int) [0, 0, 0, 0] [0, 0, 0, 0] := by
    unfold g29
    rw [ofNat32 hl]
    rfl
  refine st.trans (o0.trans (o1.trans (o2.trans (o3.trans ?_))))
  generalize 99991 = N
  rw [show (99996 : Nat) = 99995 + 1 from rfl]
  generalize 99995 = M
  rw [g29L5]
  rfl
theorem makeOk {s : List Nat} (hs : ∀ x ∈ s, x < 256) : g29ok realA s = true ∧ ((s.length = 32 ∧ leval s < PP ∧ g29r0 realA s = fe (leval s) ∧ g29r1 realA s = true) ∨ (¬ (s.length = 32 ∧ leval s < PP) ∧ g29r0 realA s = [0, 0, 0, 0] ∧ g29r1 realA s = false)) := by
  by_cases hl : s.length = 32
  · have e := makeE hs hl
    by_cases hv : leval s < PP
    · rw [decide_eq_true hv] at e
      exact ⟨by unfold g29ok; rw [e]; rfl, .inl ⟨hl, hv, by unfold g29r0; rw [e]; rfl, by unfold g29r1; rw [e]; rfl⟩⟩
    · rw [decide_eq_false hv] at e
      exact ⟨by unfold g29ok; rw [e]; rfl, .inr ⟨fun h => hv h.2, by unfold g29r0; rw [e]; rfl, by unfold g29r1; rw [e]; rfl⟩⟩
  · have e : g29v realA s = some (.tup [.agg [.nums .u64 4 [0, 0, 0, 0]], .cell (.bool false)]) := by
      unfold g29v
      generalize 100000 = n
      unfold g29
      rw [ofNat32' hl]
    exact ⟨by unfold g29ok; rw [e]; rfl, .inr ⟨fun h => hl h.1, by unfold g29r0; rw [e]; rfl, by unfold g29r1; rw [e]; rfl⟩⟩
end Go.Sx
/- Sx, part Dv: numbers as digits of 32 bits, the least first. -/
namespace Go.Sx
def dv : List Nat → Nat
  | [] => 0
  | x :: r => x + 4294967296 * dv r
def DD : Nat := 4294967296
theorem dv_lt {l : List Nat} (h : ∀ x ∈ l, x < 4294967296) : dv l < DD ^ l.length := by
  induction l with
  | nil => simp [dv]
  | cons x r ih =>
    have h1 := ih fun y hy => h y (List.mem_cons_of_mem _ hy)
    have h2 := h x (List.mem_cons_self ..)
    simp only [dv, List.length_cons, Nat.pow_succ]
    unfold DD at *
    omega
theorem dv_append (a b : List Nat) : dv (a ++ b) = dv a + DD ^ a.length * dv b := by
  induction a with
  | nil => simp [dv]
  | cons x r ih =>
    simp only [List.cons_append, dv, ih, List.length_cons, Nat.pow_succ, DD]
    grind
theorem dv_split (l : List Nat) (k : Nat) (h : k ≤ l.length) : dv l = dv (l.take k) + DD ^ k * dv (l.drop k) := by
  have e := dv_append (l.take k) (l.drop k)
  rw [List.take_append_drop, List.length_take, Nat.min_eq_left h] at e
  exact e
theorem dv_take_succ (l : List Nat) (k : Nat) (h : k < l.length) : dv (l.take (k + 1)) = dv (l.take k) + DD ^ k * l.getD k 0 := by
  have : l.take (k + 1) = l.take k ++ [l.getD k 0] := by
    rw [List.take_add_one, List.getD_eq_getElem?_getD, List.getElem?_eq_getElem h]
    rfl
  rw [this, dv_append, List.length_take, Nat.min_eq_left (by omega)]
  simp only [dv, Nat.mul_zero, Nat.add_zero]
theorem dv_drop (l : List Nat) (k : Nat) (h : k < l.length) : dv (l.drop k) = l.getD k 0 + 4294967296 * dv (l.drop (k + 1)) := by
  rw [List.drop_eq_getElem_cons h, dv, List.getD_eq_getElem?_getD, List.getElem?_eq_getElem h]
  rfl
theorem take_set_same (l : List Nat) (i y : Nat) : (l.set i y).take i = l.take i := List.take_set_of_le (Nat.le_refl i)
theorem dv_take_set (l : List Nat) (i y : Nat) (h : i < l.length) : dv ((l.set i y).take (i + 1)) = dv (l.take i) + DD ^ i * y := by
  rw [dv_take_succ _ _ (by simpa using h), take_set_same, List.getD_eq_getElem?_getD, List.getElem?_set_self h]
  rfl
theorem getD_ltD {l : List Nat} (h : ∀ x ∈ l, x < 4294967296) (j : Nat) : l.getD j 0 < 4294967296 := by
  by_cases hj : j < l.length
  · rw [List.getD_eq_getElem?_getD, List.getElem?_eq_getElem hj]
    exact h _ (List.getElem_mem _)
  · rw [List.getD_eq_getElem?_getD, List.getElem?_eq_none (by omega)]
    exact Nat.zero_lt_succ _
theorem set_ltD {l : List Nat} (h : ∀ x ∈ l, x < 4294967296) {y : Nat} (hy : y < 4294967296) (j : Nat) : ∀ x ∈ l.set j y, x < 4294967296 := fun x hx => (List.mem_or_eq_of_mem_set hx).elim (h x) (fun e => e ▸ hy)
def N8 (l : List Nat) : Prop := l.length = 8 ∧ ∀ x ∈ l, x < 4294967296
theorem N8_lt {l : List Nat} (h : N8 l) : dv l < 115792089237316195423570985008687907853269984665640564039457584007913129639936 := by
  have := dv_lt h.2
  rw [h.1] at this
  exact this
theorem N8_zero : N8 [0, 0, 0, 0, 0, 0, 0, 0] := ⟨rfl, by decide⟩
end Go.Sx
