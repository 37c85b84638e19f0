import Derived.Test.YtllahodhfohhpaaSxP14b
import Derived.Test.YtllahodhfohhpaaSxAr
import Derived.Test.YtllahodhfohhpaaSxPl
namespace Go.Sx
set_option linter.unusedSectionVars false
set_option linter.unusedVariables false

def beN : Nat → Nat → List Nat
  | 0, _ => []
  | f + 1, n => if n = 0 then [] else beN f (n / 256) ++ [n % 256]
theorem beN_succ (f n : Nat) (h : n ≠ 0) : beN (f + 1) n = beN f (n / 256) ++ [n % 256] := by rw [beN, if_neg h]
def lenB (n : Nat) : List Nat := if n < 128 then [n] else (128 + (beN 8 n).length) :: beN 8 n

theorem n14_J7 (N : Nat) (acc : List Nat) (h : acc.length < 100) : g19J7 realA N (fun v _ => some v) acc.length acc.length acc = some (.v (.cell (.str ((128 + acc.length) :: acc)))) := by
  unfold g19J7
  have e : realA.ib .add .i64 128 (realA.ofN acc.length) = ((128 + acc.length : Nat) : Int) := by
    rw [ar_ofN, ar_add (by omega)]; omega
  rw [e, ar_i2nN, Nat.mod_eq_of_lt (by omega : 128 + acc.length < 256), ar_le]
  have e2 : decide ((([128 + acc.length].take 1).length + (acc.take acc.length).length) ≤ 9223372036854775807) = true := decide_eq_true (by simp; omega)
  rw [e2]
  simp
theorem n14_L4a (N : Nat) : ∀ (f m n : Nat) (acc : List Nat), n < 256 ^ f → f + 1 ≤ m → acc.length + f < 100 → g19L4a realA N (fun v _ => some v) m (n : Int) acc.length acc.length acc = some (.v (.cell (.str ((128 + (beN f n ++ acc).length) :: (beN f n ++ acc))))) := by
  intro f
  induction f with
  | zero =>
    intro m n acc h1 h2 h3
    obtain ⟨m, rfl⟩ : ∃ m', m = m' + 1 := ⟨m - 1, by omega⟩
    have : n = 0 := by simpa using h1
    subst this
    rw [g19L4a, ar_gtr, decide_eq_false (by simp)]
    simpa [beN] using n14_J7 N acc (by omega)
  | succ f ih =>
    intro m n acc h1 h2 h3
    obtain ⟨m, rfl⟩ : ∃ m', m = m' + 1 := ⟨m - 1, by omega⟩
    rw [g19L4a, ar_gtr]
    by_cases hn : n = 0
    · subst hn
      rw [decide_eq_false (by simp)]
      simpa [beN] using n14_J7 N acc (by omega)
    · rw [decide_eq_true (by omega)]
      simp only
      unfold g19J6a
      have e1 : realA.ish .shr .i64 (n : Int) 8 = ((n / 256 : Nat) : Int) := by
        rw [ar_shr (by decide)]
        show (n : Int) / 256 = ((n / 256 : Nat) : Int)
        omega
      rw [e1, ar_i2nN, List.take_length, ar_le, ar_eq, decide_eq_true (rfl : 1 = 1)]
      have hl : ([n % 256] ++ acc).length ≤ 140737488355328 := by simp; omega
      rw [decide_eq_true hl]
      simp only
      rw [ih m (n / 256) ([n % 256] ++ acc) (by rw [Nat.pow_succ] at h1; omega) (by omega) (by simp; omega)]
      rw [beN_succ f n hn]
      simp
theorem n14_J3 (N n : Nat) (hN : 100 ≤ N) (h : n < 256 ^ 8) : g19J3 realA N (fun v _ => some v) (n : Int) = some (.v (.cell (.str ((128 + (beN 8 n).length) :: beN 8 n)))) := by
  unfold g19J3
  obtain ⟨N, rfl⟩ : ∃ N', N = N' + 1 := ⟨N - 1, by omega⟩
  rw [g19L4, ar_gtr]
  by_cases hn : n = 0
  · subst hn
    rw [decide_eq_false (by simp)]
    exact n14_J7 (N + 1) [] (by simp)
  · rw [decide_eq_true (by omega)]
    simp only
    unfold g19J6
    have e1 : realA.ish .shr .i64 (n : Int) 8 = ((n / 256 : Nat) : Int) := by
      rw [ar_shr (by decide)]
      show (n : Int) / 256 = ((n / 256 : Nat) : Int)
      omega
    rw [e1, ar_i2nN, List.take_nil, ar_le, ar_eq, decide_eq_true (rfl : 1 = 1)]
    have hl : ([n % 256] ++ ([] : List Nat)).length ≤ 140737488355328 := by simp
    rw [decide_eq_true hl]
    simp only
    rw [n14_L4a (N + 1) 7 N (n / 256) ([n % 256] ++ []) (by have : n < 256 ^ 7 * 256 := h; omega) (by omega) (by simp)]
    rw [beN_succ 7 n hn]
    simp
theorem n14_len (n : Nat) (h : n < 256 ^ 8) : g19v realA (n : Int) = some (.v (.cell (.str (lenB n)))) := by
  unfold g19v
  generalize hN : 100000 = N
  unfold g19
  rw [ar_lss]
  unfold lenB
  by_cases h1 : n < 128
  · rw [decide_eq_true (by omega), if_pos h1, ar_i2nN, Nat.mod_eq_of_lt (by omega)]
    rfl
  · rw [decide_eq_false (by omega), if_neg h1]
    exact n14_J3 N n (by omega) h
theorem n14_ok (n : Nat) (h : n < 256 ^ 8) : g19ok realA (n : Int) = true := (congrArg g19is (n14_len n h)).trans rfl
theorem n14_r (n : Nat) (h : n < 256 ^ 8) : g19r0 realA (n : Int) = lenB n := (congrArg g19g0 (n14_len n h)).trans rfl
end Go.Sx
namespace Go.Sx
set_option linter.unusedSectionVars false
set_option linter.unusedVariables false

def bval (l : List Nat) (a : Nat) : Nat := l.foldl (fun n b => n * 256 + b) a
theorem or8 (a b : Nat) (hb : b < 256) (ha : a < 1000000000000000000 / 256) : realA.ib .or .i64 (realA.ish .shl .i64 (a : Int) 8) (realA.ofN b) = ((a * 256 + b : Nat) : Int) := by
  rw [ar_shl (by decide) (by omega)]
  show IntKind.i64.wrap ((BitVec.ofInt 64 ((a : Int) * 2 ^ 8) ||| BitVec.ofInt 64 (b : Int)).toNat : Int) = _
  have e : (a : Int) * 2 ^ 8 = ((a * 256 : Nat) : Int) := by omega
  rw [e, BitVec.ofInt_natCast, BitVec.ofInt_natCast, BitVec.toNat_or, BitVec.toNat_ofNat, BitVec.toNat_ofNat, Nat.mod_eq_of_lt (by omega), Nat.mod_eq_of_lt (by omega)]
  have h := Nat.two_pow_add_eq_or_of_lt (i := 8) hb a
  rw [Nat.mul_comm a 256, ← h]
  exact wrap64 (by omega)
theorem and31 (n : Nat) : realA.ib .and .i64 (n : Int) 31 = ((n % 32 : Nat) : Int) := by
  show IntKind.wrap .i64 ((BitVec.ofInt 64 (n : Int) &&& BitVec.ofInt 64 31).toNat : Int) = _
  have e : (BitVec.ofInt 64 (n : Int) &&& BitVec.ofInt 64 31).toNat = n % 32 := by
    rw [BitVec.toNat_and]
    have h1 : (BitVec.ofInt 64 31).toNat = 31 := by decide
    have h2 : (BitVec.ofInt 64 (n : Int)).toNat = n % 2 ^ 64 := by simp [BitVec.ofInt_natCast]
    rw [h1, h2, show (31 : Nat) = 2 ^ 5 - 1 from rfl, Nat.and_two_pow_sub_one_eq_mod]
    omega
  rw [e]
  exact wrap64 (by omega)
theorem nand31 (n : Nat) : realA.nb .and .u8 n 31 = n % 32 := Nat.and_two_pow_sub_one_eq_mod n 5

def nx : Option (Nat × List Nat × List Nat) → AV
  | none => .tup [.agg [.one (.int .i64 0), .one (.str []), .one (.str [])], .cell (.int .i64 2)]
  | some (t, x, y) => .tup [.agg [.one (.int .i64 (t : Int)), .one (.str x), .one (.str y)], .cell (.int .i64 0)]
def tailP (s : List Nat) (n z : Nat) : Option (Nat × List Nat × List Nat) :=
  if lenB n = (s.take (1 + z)).drop 1 ∧ n ≤ s.length - (1 + z) then some (s.getD 0 0, (s.drop (1 + z)).take n, (s.drop (1 + z)).drop n) else none
def nextP (s : List Nat) : Option (Nat × List Nat × List Nat) :=
  if s.length < 2 then none else if s.getD 0 0 % 32 = 31 then none
  else if s.getD 1 0 < 128 then tailP s (s.getD 1 0) 1
  else if 132 ≤ s.getD 1 0 then none else if s.length ≤ s.getD 1 0 - 127 then none
  else tailP s (bval ((s.take (1 + (s.getD 1 0 - 127))).drop 2) 0) (s.getD 1 0 - 127)

theorem n14_tail (N : Nat) (s : List Nat) (n z : Nat) (hz : z ≤ 4) (hs : 1 + z ≤ s.length) (hl : s.length < 140737488355328) (hn : n < 256 ^ 7) : g8J14 realA N (fun v _ => some v) s (n : Int) (z : Int) 0 [] [] = some (nx (tailP s n z)) := by
  unfold g8J14
  have e : realA.ib .add .i64 1 (z : Int) = ((1 + z : Nat) : Int) := by rw [ar_add (by omega)]; omega
  have hn8 : n < 256 ^ 8 := by omega
  rw [e, ar_negN, ar_toNN, ar_le, decide_eq_true hs, n14_ok n hn8, n14_r n hn8, ar_le, decide_eq_true (by omega : 1 ≤ 1 + z), ar_scne, List.take_length, ar_ofN, ar_lss, List.length_drop]
  simp only
  unfold tailP
  by_cases h1 : lenB n = (s.take (1 + z)).drop 1
  · rw [decide_eq_true h1]
    simp only [Bool.not_true]
    by_cases h2 : n ≤ s.length - (1 + z)
    · rw [decide_eq_false (by omega), if_pos ⟨h1, h2⟩]
      simp only
      unfold g8J17
      rw [ar_negN, ar_toNN, ar_le, List.length_drop, decide_eq_true h2, List.take_of_length_le (l := s.drop (1 + z)) (i := s.length - (1 + z)) (by rw [List.length_drop]; exact Nat.le_refl _)]
      have h0 : Nat.blt 0 s.length = true := by rw [Nat.blt_eq]; omega
      rw [h0]
      simp [nx, ar_ofN]
    · rw [decide_eq_true (by omega), if_neg (fun q => h2 q.2)]
      rfl
  · rw [decide_eq_false h1, if_neg (fun q => h1 q.1)]
    rfl
theorem bval_snoc (l : List Nat) (b a : Nat) : bval (l ++ [b]) a = bval l a * 256 + b := by unfold bval; rw [List.foldl_append]; rfl
theorem take_snoc {l : List Nat} {i : Nat} (h : i < l.length) : l.take (i + 1) = l.take i ++ [l.getD i 0] := by
  rw [List.take_add_one, List.getElem?_eq_getElem h, List.getD_eq_getElem?_getD, List.getElem?_eq_getElem h]
  rfl
theorem bval_lt : ∀ (l : List Nat) (a : Nat), (∀ x ∈ l, x < 256) → bval l a < (a + 1) * 256 ^ l.length := by
  intro l
  induction l with
  | nil => intro a _; show a < (a + 1) * 1; omega
  | cons x l ih =>
    intro a h
    have h1 := ih (a * 256 + x) (fun y hy => h y (List.mem_cons_of_mem _ hy))
    have hx := h x List.mem_cons_self
    refine Nat.lt_of_lt_of_le h1 ?_
    rw [List.length_cons, Nat.pow_succ, Nat.mul_comm (256 ^ l.length) 256, ← Nat.mul_assoc]
    exact Nat.mul_le_mul_right _ (by omega)
theorem bval_take {l : List Nat} (hl : ∀ x ∈ l, x < 256) {i : Nat} (hi : i ≤ 6) : bval (l.take i) 0 < 256 ^ 6 := by
  have h1 := bval_lt (l.take i) 0 (fun x hx => hl x (List.mem_of_mem_take hx))
  have h2 : (l.take i).length ≤ 6 := by rw [List.length_take]; omega
  have h3 : 256 ^ (l.take i).length ≤ 256 ^ 6 := Nat.pow_le_pow_right (by decide) h2
  omega
theorem n14_L10 (N : Nat) (s l : List Nat) (z : Nat) (hz : z ≤ 4) (hs : 1 + z ≤ s.length) (hsl : s.length < 140737488355328) (hl : ∀ x ∈ l, x < 256) (hlen : l.length ≤ 4) : ∀ (d i m : Nat), i + d = l.length → d + 1 ≤ m → g8L10 realA N (fun v _ => some v) m s (bval (l.take i) 0 : Nat) (z : Int) l.length (l.length : Nat) (i : Nat) 0 [] [] l.length l = some (nx (tailP s (bval l 0) z)) := by
  intro d
  induction d with
  | zero =>
    intro i m h1 h2
    obtain ⟨m, rfl⟩ : ∃ m', m = m' + 1 := ⟨m - 1, by omega⟩
    rw [g8L10, ar_lss, decide_eq_false (by omega)]
    simp only
    rw [List.take_of_length_le (by omega)]
    refine n14_tail N s _ z hz hs hsl ?_
    have := bval_take hl (i := l.length) (by omega)
    rw [List.take_length] at this
    omega
  | succ d ih =>
    intro i m h1 h2
    obtain ⟨m, rfl⟩ : ∃ m', m = m' + 1 := ⟨m - 1, by omega⟩
    rw [g8L10, ar_lss, decide_eq_true (by omega)]
    simp only
    unfold g8J11
    have hb : l.getD i 0 < 256 := getD_lt hl i
    have ht := bval_take hl (i := i) (by omega)
    rw [ar_negN, ar_toNN, ar_lt, decide_eq_true (show i < l.length by omega), or8 _ _ hb (by omega), ar_add (by omega)]
    simp only
    have := ih (i + 1) m (by omega) (by omega)
    rw [take_snoc (by omega), bval_snoc] at this
    exact this
theorem n14_next (s : List Nat) (hs : ∀ x ∈ s, x < 256) (hl : s.length < 140737488355328) : g8v realA s = some (nx (nextP s)) := by
  unfold g8v
  generalize hN : 100000 = N
  unfold g8 nextP
  rw [ar_ofN, ar_lss]
  by_cases h1 : s.length < 2
  · rw [decide_eq_true (by omega), if_pos h1]
    rfl
  · rw [decide_eq_false (by omega), if_neg h1]
    have hb0 : Nat.blt 0 s.length = true := by rw [Nat.blt_eq]; omega
    have hb1 : Nat.blt 1 s.length = true := by rw [Nat.blt_eq]; omega
    simp only [hb0]
    rw [nand31, ar_neql]
    by_cases h2 : s.getD 0 0 % 32 = 31
    · rw [decide_eq_true h2, if_pos h2]
      rfl
    · rw [decide_eq_false h2, if_neg h2]
      simp only
      unfold g8J3
      rw [hb1]
      simp only
      have hc := getD_lt hs 1
      rw [ar_ofN, ar_ofN, ar_geq]
      by_cases h3 : s.getD 1 0 < 128
      · rw [decide_eq_false (by omega), if_pos h3]
        exact n14_tail N s _ 1 (by omega) (by omega) hl (by omega)
      · have e : realA.ib .add .i64 1 (realA.ib .sub .i64 ((s.getD 1 0 : Nat) : Int) 128) = ((s.getD 1 0 - 127 : Nat) : Int) := by
          rw [ar_sub (by omega), ar_add (by omega)]; omega
        rw [decide_eq_true (by omega), if_neg h3, e, ar_gtr, ar_leq]
        simp only
        by_cases h4 : 132 ≤ s.getD 1 0
        · rw [decide_eq_true (by omega), if_pos h4]
          rfl
        · rw [decide_eq_false (by omega), if_neg h4]
          simp only
          by_cases h5 : s.length ≤ s.getD 1 0 - 127
          · rw [decide_eq_true (by omega), if_pos h5]
            rfl
          · rw [decide_eq_false (by omega), if_neg h5]
            simp only
            unfold g8J8
            have e2 : realA.ib .add .i64 1 ((s.getD 1 0 - 127 : Nat) : Int) = ((1 + (s.getD 1 0 - 127) : Nat) : Int) := by
              rw [ar_add (by omega)]; omega
            have hlen : ((s.take (1 + (s.getD 1 0 - 127))).drop 2).length = (s.getD 1 0 - 127) - 1 := by
              rw [List.length_drop, List.length_take]; omega
            rw [e2, ar_negN, ar_toNN, ar_le, decide_eq_true (by omega), ar_le, decide_eq_true (by omega), ar_le, decide_eq_true (by omega), ar_ofN]
            simp only
            have := n14_L10 N s ((s.take (1 + (s.getD 1 0 - 127))).drop 2) (s.getD 1 0 - 127) (by omega) (by omega) hl (fun x hx => hs x (List.mem_of_mem_take (List.mem_of_mem_drop hx))) (by omega) ((s.take (1 + (s.getD 1 0 - 127))).drop 2).length 0 N (by omega) (by omega)
            exact this
end Go.Sx
namespace Go.Sx
set_option linter.unusedSectionVars false
set_option linter.unusedVariables false
theorem lenB_1 {n : Nat} (h : n < 128) : lenB n = [n] := if_pos h
theorem beN_0 (f : Nat) : beN f 0 = [] := by cases f <;> rfl
theorem lenB_2 {n : Nat} (h : 128 ≤ n) (h2 : n < 256) : lenB n = [129, n] := by
  unfold lenB
  have e : beN 8 n = [n] := by
    rw [beN_succ 7 n (by omega), show n / 256 = 0 by omega, beN_0, Nat.mod_eq_of_lt h2]; rfl
  rw [if_neg (by omega), e]; rfl
theorem lenB_3 {n : Nat} (h : 256 ≤ n) (h2 : n < 65536) : lenB n = [130, n / 256, n % 256] := by
  unfold lenB
  have e : beN 8 n = [n / 256, n % 256] := by
    rw [beN_succ 7 n (by omega), beN_succ 6 (n / 256) (by omega), show n / 256 / 256 = 0 by omega, beN_0, Nat.mod_eq_of_lt (show n / 256 < 256 by omega)]; rfl
  rw [if_neg (by omega), e]; rfl
theorem lenB_4 {n : Nat} (h : 65536 ≤ n) (h2 : n < 16777216) : lenB n = [131, n / 65536, n / 256 % 256, n % 256] := by
  unfold lenB
  have e : beN 8 n = [n / 65536, n / 256 % 256, n % 256] := by
    rw [beN_succ 7 n (by omega), beN_succ 6 (n / 256) (by omega), beN_succ 5 (n / 256 / 256) (by omega), show n / 256 / 256 / 256 = 0 by omega, beN_0, Nat.mod_eq_of_lt (show n / 256 / 256 < 256 by omega), show n / 256 / 256 = n / 65536 by omega]; rfl
  rw [if_neg (by omega), e]; rfl
theorem lenB_len {n : Nat} (h2 : n < 16777216) : (lenB n).length ≤ 4 := by
  by_cases h1 : n < 128
  · rw [lenB_1 h1]; simp
  · by_cases h3 : n < 256
    · rw [lenB_2 (by omega) h3]; simp
    · by_cases h4 : n < 65536
      · rw [lenB_3 (by omega) h4]; simp
      · rw [lenB_4 (by omega) h2]; simp
def wrapB (t : Int) (x : List Nat) : List Nat × Int :=
  if t < 0 then ([], 1) else if 255 < t then ([], 1) else if t % 32 = 31 then ([], 1) else if 16777216 ≤ x.length then ([], 9) else (t.toNat :: (lenB x.length ++ x), 0)
theorem n14_wrap (t : Int) (x : List Nat) : g10v realA t x = some (.tup [.cell (.str (wrapB t x).1), .cell (.int .i64 (wrapB t x).2)]) := by
  unfold g10v
  generalize 100000 = N
  unfold g10 wrapB
  rw [ar_lss, ar_gtr]
  by_cases h1 : t < 0
  · rw [decide_eq_true h1, if_pos h1]
  · rw [decide_eq_false h1, if_neg h1]
    simp only
    by_cases h2 : 255 < t
    · rw [decide_eq_true h2, if_pos h2]
    · rw [decide_eq_false h2, if_neg h2]
      simp only
      obtain ⟨n, rfl⟩ : ∃ n : Nat, t = n := ⟨t.toNat, by omega⟩
      rw [and31, ar_eql, ar_geq, ar_ofN]
      by_cases h3 : (n : Int) % 32 = 31
      · rw [decide_eq_true (by omega), if_pos h3]
      · rw [decide_eq_false (by omega), if_neg h3]
        simp only
        by_cases h4 : 16777216 ≤ x.length
        · rw [decide_eq_true (by omega), if_pos h4]
        · rw [decide_eq_false (by omega), if_neg h4]
          simp only
          unfold g10J5
          have hn8 : x.length < 256 ^ 8 := by omega
          have hl := lenB_len (n := x.length) (by omega)
          rw [ar_ofN, n14_ok _ hn8, n14_r _ hn8, ar_i2nN, Nat.mod_eq_of_lt (by omega : n < 256), ar_le, decide_eq_true (by simp; omega), ar_le, decide_eq_true (by simp; omega)]
          simp
theorem wrap_ok (t : Int) (x : List Nat) : g10ok realA t x = true := (congrArg g10is (n14_wrap t x)).trans rfl
theorem wrap_0 (t : Int) (x : List Nat) : g10r0 realA t x = (wrapB t x).1 := (congrArg g10g0 (n14_wrap t x)).trans rfl
theorem wrap_1 (t : Int) (x : List Nat) : g10r1 realA t x = (wrapB t x).2 := (congrArg g10g1 (n14_wrap t x)).trans rfl
def nx0 : Option (Nat × List Nat × List Nat) → Int
  | none => 0
  | some (t, _, _) => t
def nx1 : Option (Nat × List Nat × List Nat) → List Nat
  | none => []
  | some (_, x, _) => x
def nx2 : Option (Nat × List Nat × List Nat) → List Nat
  | none => []
  | some (_, _, y) => y
def nx3 : Option (Nat × List Nat × List Nat) → Int
  | none => 2
  | some _ => 0
theorem next_ok {s : List Nat} (hs : ∀ x ∈ s, x < 256) (hl : s.length < 140737488355328) : g8ok realA s = true := by
  refine (congrArg g8is (n14_next s hs hl)).trans ?_
  rcases nextP s with _ | ⟨a, b, c⟩ <;> rfl
theorem next_0 {s : List Nat} (hs : ∀ x ∈ s, x < 256) (hl : s.length < 140737488355328) : g8r0 realA s = nx0 (nextP s) := by
  refine (congrArg g8g0 (n14_next s hs hl)).trans ?_
  rcases nextP s with _ | ⟨a, b, c⟩ <;> rfl
theorem next_1 {s : List Nat} (hs : ∀ x ∈ s, x < 256) (hl : s.length < 140737488355328) : g8r1 realA s = nx1 (nextP s) := by
  refine (congrArg g8g1 (n14_next s hs hl)).trans ?_
  rcases nextP s with _ | ⟨a, b, c⟩ <;> rfl
theorem next_2 {s : List Nat} (hs : ∀ x ∈ s, x < 256) (hl : s.length < 140737488355328) : g8r2 realA s = nx2 (nextP s) := by
  refine (congrArg g8g2 (n14_next s hs hl)).trans ?_
  rcases nextP s with _ | ⟨a, b, c⟩ <;> rfl
theorem next_3 {s : List Nat} (hs : ∀ x ∈ s, x < 256) (hl : s.length < 140737488355328) : g8r3 realA s = nx3 (nextP s) := by
  refine (congrArg g8g3 (n14_next s hs hl)).trans ?_
  rcases nextP s with _ | ⟨a, b, c⟩ <;> rfl
end Go.Sx
namespace Go.Sx
set_option linter.unusedSectionVars false
set_option linter.unusedVariables false
end Go.Sx
namespace Go.Sx
set_option linter.unusedSectionVars false
open Go.Proofs
set_option linter.unusedVariables false
set_option maxRecDepth 100000
theorem SxP14hpi {R : Type} (c : Bool) {f1 f2 : Nat → Option R} {a1 a2 : Option R} (h1 : Prs f1 a1) (h2 : Prs f2 a2) : Prs (fun k => match c with | true => f1 k | false => f2 k) (match c with | true => a1 | false => a2) := by cases c <;> assumption
attribute [local irreducible] g8ok g8r0 g8r1 g8r2 g8r3 g10ok g10r0 g10r1 g12ok g12r0 g12r1 g12r2 g12r3 g12r4 g12r5 g7ok g7r0
def g9O (A : Ar) : Orc := orcOf []
theorem g9O_sound : OSound Try.prog (g9O realA) := orc_sound fun f g hm args v hv => by
  cases hm
theorem g9O_det : ODet (g9O realA) := orc_det _
def g9an : Ann := [(0, ([0], [])), (1, ([0, 2], [1000])), (2, ([2], [1000])), (3, ([0, 2], [1000])), (4, ([0, 2, 4], [1000])), (5, ([0, 2, 4, 5], [1000])), (6, ([0, 2, 4], [1000])), (7, ([0, 2, 6], [1000])), (8, ([2], [1000])), (9, ([0, 2, 6], [1000])), (10, ([0, 2, 4, 6], [1000])), (11, ([0, 2, 4, 6, 7], [1000])), (12, ([0, 2, 4, 6, 7], [1000])), (13, ([0, 2, 4, 6, 7], [1000])), (14, ([0, 2, 4, 6], [1000])), (15, ([2], [1000])), (16, ([0, 2, 4, 6], [1000])), (17, ([0, 2, 4, 5], [1000])), (18, ([2], [1000])), (19, ([0, 2, 4, 5], [1000]))]
def g9res : List ResultVar := [.cell 2 28, .tmp 3]
def g9cut : List Nat := [3, 9, 13, 14, 17, 19]
noncomputable def g9N {R : Type} (A : Ar) (kk : AV → Heap → Option R) (t : List Bool → St → Option R) (p : List Bool) (s : St) : Option R := nodeN A gtys (g9O A) g9an g9cut t (bodyOf Try.f9) (finD gtys g9res kk) p s
def g9J13s (x0 : List Nat) (x1 x2 : Int) (x3 x4 : Int) (x5 x6 : List Nat) : St := ⟨[(0, (tS x0)), (2, (pT 1000 0)), (4, (i6 x1)), (6, (i6 x2)), (7, (i6 x3))], [(1000, ⟨[.one (.int .i64 x4), .one (.str x5), .one (.str x6)], 28, 1⟩)]⟩
def g9J13 {R : Type} (A : Ar) (n : Nat) (kk : AV → Heap → Option R) (lg9L11 : List Nat → Int → Int → Int → Int → List Nat → List Nat → Option R) (x0 : List Nat) (x1 x2 : Int) (x3 x4 : Int) (x5 x6 : List Nat) : Option R :=
  match A.neg (A.ib .add .i64 2 x3) with
  | true => none
  | false => match A.lt (A.toN (A.ib .add .i64 2 x3)) x0.length with
    | true => lg9L11 x0 (A.ib .add .i64 (A.ib .mul .i64 x1 256) (A.ofN (x0.getD (A.toN (A.ib .add .i64 2 x3)) 0))) x2 (A.ib .add .i64 x3 1) x4 x5 x6
    | false => none
def g9J19s (x0 : List Nat) (x1 x2 x3 : Int) (x4 x5 : List Nat) : St := ⟨[(0, (tS x0)), (2, (pT 1000 0)), (4, (i6 x1)), (5, (i6 x2))], [(1000, ⟨[.one (.int .i64 x3), .one (.str x4), .one (.str x5)], 28, 1⟩)]⟩
def g9J19 {R : Type} (A : Ar) (n : Nat) (kk : AV → Heap → Option R)  (x0 : List Nat) (x1 x2 x3 : Int) (x4 x5 : List Nat) : Option R :=
  match Nat.blt 0 x0.length with
  | true => match A.neg (A.ib .add .i64 x2 x1) with
    | true => none
    | false => match A.le (A.toN (A.ib .add .i64 x2 x1)) x0.length with
      | true => match A.neg x2 with
        | true => none
        | false => match A.le (A.toN x2) (A.toN (A.ib .add .i64 x2 x1)) with
          | true => match A.neg (A.ib .add .i64 x2 x1) with
            | true => none
            | false => match A.le (A.toN (A.ib .add .i64 x2 x1)) x0.length with
              | true => kk (.tup [(.agg [.one (.int .i64 (A.ofN (x0.getD 0 0))), .one (.str ((x0.take (A.toN (A.ib .add .i64 x2 x1))).drop (A.toN x2))), .one (.str ((x0.take x0.length).drop (A.toN (A.ib .add .i64 x2 x1))))]), (.cell (.bool true))]) [(1000, ⟨[.one (.int .i64 (A.ofN (x0.getD 0 0))), .one (.str ((x0.take (A.toN (A.ib .add .i64 x2 x1))).drop (A.toN x2))), .one (.str ((x0.take x0.length).drop (A.toN (A.ib .add .i64 x2 x1))))], 28, 1⟩)]
              | false => none
          | false => none
      | false => none
  | false => none
def g9J17s (x0 : List Nat) (x1 x2 x3 : Int) (x4 x5 : List Nat) : St := ⟨[(0, (tS x0)), (2, (pT 1000 0)), (4, (i6 x1)), (5, (i6 x2))], [(1000, ⟨[.one (.int .i64 x3), .one (.str x4), .one (.str x5)], 28, 1⟩)]⟩
def g9J17 {R : Type} (A : Ar) (n : Nat) (kk : AV → Heap → Option R)  (x0 : List Nat) (x1 x2 x3 : Int) (x4 x5 : List Nat) : Option R :=
  match A.ic .lss (A.ofN x0.length) (A.ib .add .i64 x2 x1) with
  | true => kk (.tup [(.agg [.one (.int .i64 0), .one (.str []), .one (.str [])]), (.cell (.bool false))]) [(1000, ⟨[.one (.int .i64 0), .one (.str []), .one (.str [])], 28, 1⟩)]
  | false => g9J19 A n kk  x0 x1 x2 x3 x4 x5
def g9J14s (x0 : List Nat) (x1 x2 x3 : Int) (x4 x5 : List Nat) : St := ⟨[(0, (tS x0)), (2, (pT 1000 0)), (4, (i6 x1)), (6, (i6 x2))], [(1000, ⟨[.one (.int .i64 x3), .one (.str x4), .one (.str x5)], 28, 1⟩)]⟩
def g9J14 {R : Type} (A : Ar) (n : Nat) (kk : AV → Heap → Option R)  (x0 : List Nat) (x1 x2 x3 : Int) (x4 x5 : List Nat) : Option R :=
  match A.ic .lss x1 128 with
  | true => kk (.tup [(.agg [.one (.int .i64 0), .one (.str []), .one (.str [])]), (.cell (.bool false))]) [(1000, ⟨[.one (.int .i64 0), .one (.str []), .one (.str [])], 28, 1⟩)]
  | false => match A.ic .gtr x2 1 with
    | true => match A.neg (A.ib .mul .i64 8 (A.ib .sub .i64 x2 1)) with
      | true => none
      | false => match A.ic .lss x1 (A.ish .shl .i64 1 (A.toN (A.ib .mul .i64 8 (A.ib .sub .i64 x2 1)))) with
        | true => kk (.tup [(.agg [.one (.int .i64 0), .one (.str []), .one (.str [])]), (.cell (.bool false))]) [(1000, ⟨[.one (.int .i64 0), .one (.str []), .one (.str [])], 28, 1⟩)]
        | false => g9J17 A n kk  x0 x1 (A.ib .add .i64 2 x2) x3 x4 x5
    | false => g9J17 A n kk  x0 x1 (A.ib .add .i64 2 x2) x3 x4 x5
def g9L11s (x0 : List Nat) (x1 x2 : Int) (x3 x4 : Int) (x5 x6 : List Nat) : St := ⟨[(0, (tS x0)), (2, (pT 1000 0)), (4, (i6 x1)), (6, (i6 x2)), (7, (i6 x3))], [(1000, ⟨[.one (.int .i64 x4), .one (.str x5), .one (.str x6)], 28, 1⟩)]⟩
def g9L11 {R : Type} (A : Ar) (n : Nat) (kk : AV → Heap → Option R)  : Nat → List Nat → Int → Int → Int → Int → List Nat → List Nat → Option R
  | 0, _, _, _, _, _, _, _ => none
  | m + 1, x0, x1, x2, x3, x4, x5, x6 => match A.ic .lss x3 x2 with
  | true => g9J13 A n kk (g9L11 A n kk  m) x0 x1 x2 x3 x4 x5 x6
  | false => g9J14 A n kk  x0 x1 x2 x4 x5 x6
def g9J9s (x0 : List Nat) (x1 x2 : Int) (x3 x4 : List Nat) : St := ⟨[(0, (tS x0)), (2, (pT 1000 0)), (6, (i6 x1))], [(1000, ⟨[.one (.int .i64 x2), .one (.str x3), .one (.str x4)], 28, 1⟩)]⟩
def g9J9 {R : Type} (A : Ar) (n : Nat) (kk : AV → Heap → Option R)  (x0 : List Nat) (x1 x2 : Int) (x3 x4 : List Nat) : Option R :=
  g9L11 A n kk  n x0 0 x1 0 x2 x3 x4
def g9J3s (x0 : List Nat) (x1 : Int) (x2 x3 : List Nat) : St := ⟨[(0, (tS x0)), (2, (pT 1000 0))], [(1000, ⟨[.one (.int .i64 x1), .one (.str x2), .one (.str x3)], 28, 1⟩)]⟩
def g9J3 {R : Type} (A : Ar) (n : Nat) (kk : AV → Heap → Option R)  (x0 : List Nat) (x1 : Int) (x2 x3 : List Nat) : Option R :=
  match Nat.blt 1 x0.length with
  | true => match A.ic .geq (A.ofN (x0.getD 1 0)) 128 with
    | true => match A.ic .lss (A.ib .sub .i64 (A.ofN (x0.getD 1 0)) 128) 1 with
      | true => kk (.tup [(.agg [.one (.int .i64 0), .one (.str []), .one (.str [])]), (.cell (.bool false))]) [(1000, ⟨[.one (.int .i64 0), .one (.str []), .one (.str [])], 28, 1⟩)]
      | false => match A.ic .gtr (A.ib .sub .i64 (A.ofN (x0.getD 1 0)) 128) 3 with
        | true => kk (.tup [(.agg [.one (.int .i64 0), .one (.str []), .one (.str [])]), (.cell (.bool false))]) [(1000, ⟨[.one (.int .i64 0), .one (.str []), .one (.str [])], 28, 1⟩)]
        | false => match A.ic .lss (A.ofN x0.length) (A.ib .add .i64 2 (A.ib .sub .i64 (A.ofN (x0.getD 1 0)) 128)) with
          | true => kk (.tup [(.agg [.one (.int .i64 0), .one (.str []), .one (.str [])]), (.cell (.bool false))]) [(1000, ⟨[.one (.int .i64 0), .one (.str []), .one (.str [])], 28, 1⟩)]
          | false => g9J9 A n kk  x0 (A.ib .sub .i64 (A.ofN (x0.getD 1 0)) 128) x1 x2 x3
    | false => g9J17 A n kk  x0 (A.ofN (x0.getD 1 0)) 2 x1 x2 x3
  | false => none
def g9 {R : Type} (A : Ar) (n : Nat) (kk : AV → Heap → Option R) (a : List Nat) : Option R :=
  match A.ic .lss (A.ofN a.length) 2 with
  | true => kk (.tup [(.agg [.one (.int .i64 0), .one (.str []), .one (.str [])]), (.cell (.bool false))]) [(1000, ⟨[.one (.int .i64 0), .one (.str []), .one (.str [])], 28, 1⟩)]
  | false => match Nat.blt 0 a.length with
    | true => match A.nc .eql (A.nb .rem .u8 (a.getD 0 0) 32) 31 with
      | true => kk (.tup [(.agg [.one (.int .i64 0), .one (.str []), .one (.str [])]), (.cell (.bool false))]) [(1000, ⟨[.one (.int .i64 0), .one (.str []), .one (.str [])], 28, 1⟩)]
      | false => g9J3 A n kk  a 0 [] []
    | false => none
section
variable {R : Type} {A : Ar} {n : Nat} {kk : AV → Heap → Option R} {tb : Nat → List Bool → St → Option R} (st : Stp (g9N A kk) tb)
include st
theorem g9J13_go {lg9L11 : List Nat → Int → Int → Int → Int → List Nat → List Nat → Option R} (hg9L11 : ∀ (x0 : List Nat) (x1 x2 : Int) (x3 x4 : Int) (x5 x6 : List Nat), Prs (fun k => tb k (pth 32116) (g9L11s x0 x1 x2 x3 x4 x5 x6)) (lg9L11 x0 x1 x2 x3 x4 x5 x6)) {x0 : List Nat} {x1 : Int} {x2 : Int} {x3 : Int} {x4 : Int} {x5 : List Nat} {x6 : List Nat} : Prs (fun k => tb k (pth 64233) (g9J13s x0 x1 x2 x3 x4 x5 x6)) (g9J13 A n kk lg9L11 x0 x1 x2 x3 x4 x5 x6) := by
  unfold g9J13
  exact st.g (pc (SxP14hpi _ pn (SxP14hpi _ (hg9L11 _ _ _ _ _ _ _) pn)) (by kernel_rfl))
theorem g9J19_go {x0 : List Nat} {x1 : Int} {x2 : Int} {x3 : Int} {x4 : List Nat} {x5 : List Nat} : Prs (fun k => tb k (pth 127) (g9J19s x0 x1 x2 x3 x4 x5)) (g9J19 A n kk x0 x1 x2 x3 x4 x5) := by
  unfold g9J19
  exact st.g (pc (SxP14hpi _ (SxP14hpi _ pn (SxP14hpi _ (SxP14hpi _ pn (SxP14hpi _ (SxP14hpi _ pn (SxP14hpi _ (pf _) pn)) pn)) pn)) pn) (by kernel_rfl))
theorem g9J17_go {x0 : List Nat} {x1 : Int} {x2 : Int} {x3 : Int} {x4 : List Nat} {x5 : List Nat} : Prs (fun k => tb k (pth 63) (g9J17s x0 x1 x2 x3 x4 x5)) (g9J17 A n kk x0 x1 x2 x3 x4 x5) := by
  unfold g9J17
  exact st.g (pc (SxP14hpi _ (pf _) (g9J19_go st)) (by kernel_rfl))
theorem g9J14_go {x0 : List Nat} {x1 : Int} {x2 : Int} {x3 : Int} {x4 : List Nat} {x5 : List Nat} : Prs (fun k => tb k (pth 4015) (g9J14s x0 x1 x2 x3 x4 x5)) (g9J14 A n kk x0 x1 x2 x3 x4 x5) := by
  unfold g9J14
  exact st.g (pc (SxP14hpi _ (pf _) (SxP14hpi _ (SxP14hpi _ pn (SxP14hpi _ (pf _) (g9J17_go st))) (g9J17_go st))) (by kernel_rfl))
theorem g9L11_go (m : Nat) : ∀ (x0 : List Nat) (x1 x2 : Int) (x3 x4 : Int) (x5 x6 : List Nat), Prs (fun k => tb k (pth 32116) (g9L11s x0 x1 x2 x3 x4 x5 x6)) (g9L11 A n kk m x0 x1 x2 x3 x4 x5 x6) := by
  induction m with
  | zero => intro x0 x1 x2 x3 x4 x5 x6; exact pn0
  | succ m ih =>
    intro x0 x1 x2 x3 x4 x5 x6; rw [g9L11]
    exact st.g (pc (SxP14hpi _ (g9J13_go st ih) (g9J14_go st)) (by kernel_rfl))
theorem g9J9_go {x0 : List Nat} {x1 : Int} {x2 : Int} {x3 : List Nat} {x4 : List Nat} : Prs (fun k => tb k (pth 1003) (g9J9s x0 x1 x2 x3 x4)) (g9J9 A n kk x0 x1 x2 x3 x4) := by
  unfold g9J9
  exact st.g (pc (g9L11_go st n _ _ _ _ _ _ _) (by kernel_rfl))
theorem g9J3_go {x0 : List Nat} {x1 : Int} {x2 : List Nat} {x3 : List Nat} : Prs (fun k => tb k (pth 7) (g9J3s x0 x1 x2 x3)) (g9J3 A n kk x0 x1 x2 x3) := by
  unfold g9J3
  exact st.g (pc (SxP14hpi _ (SxP14hpi _ (SxP14hpi _ (pf _) (SxP14hpi _ (pf _) (SxP14hpi _ (pf _) (g9J9_go st)))) (g9J17_go st)) pn) (by kernel_rfl))
theorem g9_go {a : List Nat} : Prs (fun k => funN A gtys (g9O A) g9an g9cut (bodyOf Try.f9) g9res [(tS a)] [] kk (tb k)) (g9 A n kk a) := by
  unfold g9
  exact pc (SxP14hpi _ (pf _) (SxP14hpi _ (SxP14hpi _ (pf _) (g9J3_go st)) pn)) (by kernel_rfl)
end
def g9is (o : Option AV) : Bool := match o with
  | some (.tup [.agg [.one (.int .i64 _), .one (.str _), .one (.str _)], .cell (.bool _)]) => true
  | _ => false
def g9g0 (o : Option AV) : Int := match o with
  | some (.tup [.agg [.one (.int .i64 x), .one (.str _), .one (.str _)], .cell (.bool _)]) => x
  | _ => 0
def g9g1 (o : Option AV) : List Nat := match o with
  | some (.tup [.agg [.one (.int .i64 _), .one (.str x), .one (.str _)], .cell (.bool _)]) => x
  | _ => []
def g9g2 (o : Option AV) : List Nat := match o with
  | some (.tup [.agg [.one (.int .i64 _), .one (.str _), .one (.str x)], .cell (.bool _)]) => x
  | _ => []
def g9g3 (o : Option AV) : Bool := match o with
  | some (.tup [.agg [.one (.int .i64 _), .one (.str _), .one (.str _)], .cell (.bool x)]) => x
  | _ => false
theorem g9is_spec {o : Option AV} (h : g9is o = true) : o = some (.tup [.agg [.one (.int .i64 (g9g0 o)), .one (.str (g9g1 o)), .one (.str (g9g2 o))], .cell (.bool (g9g3 o))]) := by
  unfold g9is at h
  split at h
  · rfl
  · cases h
def g9v (A : Ar) (a : List Nat) : Option AV := g9 A (100000) (fun v _ => some v) a
def g9ok (A : Ar) (a : List Nat) : Bool := g9is (g9v A a)
def g9r0 (A : Ar) (a : List Nat) : Int := g9g0 (g9v A a)
def g9r1 (A : Ar) (a : List Nat) : List Nat := g9g1 (g9v A a)
def g9r2 (A : Ar) (a : List Nat) : List Nat := g9g2 (g9v A a)
def g9r3 (A : Ar) (a : List Nat) : Bool := g9g3 (g9v A a)
theorem g9ok_spec {A : Ar} {a} (h : g9ok A a = true) : g9v A a = some (.tup [.agg [.one (.int .i64 (g9r0 A a)), .one (.str (g9r1 A a)), .one (.str (g9r2 A a))], .cell (.bool (g9r3 A a))]) := g9is_spec h
def g9o (A : Ar) (args : List AV) : Option (Bool × AV) := match args with
  | [.v (.cell (.str a))] => some (g9ok A a, .tup [.agg [.one (.int .i64 (g9r0 A a)), .one (.str (g9r1 A a)), .one (.str (g9r2 A a))], .cell (.bool (g9r3 A a))])
  | _ => none
theorem g9o_sound : ∀ args v, g9o realA args = some (true, v) → Fn1 Try.prog 9 args v := by
  intro args v h
  unfold g9o at h
  split at h
  · rename_i a
    simp only [Option.some.injEq, Prod.mk.injEq] at h
    obtain ⟨hc, h⟩ := h
    subst h
    · skip
      exact fn1_ofG mixed gtysOK g9O_sound g9O_det (an := g9an) (cut := g9cut) Try.func9 (c := bodyOf Try.f9) rfl (by kernel_rfl) Try.call9 (Nat.le_of_ble_eq_true rfl) (fun b => rfl) (fun _ => (show g9v realA a = _ from g9ok_spec hc)) fun _ st => g9_go st
  · cases h
attribute [local irreducible] g9ok g9r0 g9r1 g9r2 g9r3
def g11O (A : Ar) : Orc := orcOf []
theorem g11O_sound : OSound Try.prog (g11O realA) := orc_sound fun f g hm args v hv => by
  cases hm
theorem g11O_det : ODet (g11O realA) := orc_det _
def g11an : Ann := [(0, ([0, 1], [])), (1, ([0, 1], [])), (2, ([], [])), (3, ([0, 1], [])), (4, ([0, 1, 6], [])), (5, ([1, 6, 7], [5002])), (6, ([1, 6, 7], [5002])), (7, ([], [])), (8, ([1, 6, 7], [5002])), (9, ([1, 6, 7], [5002])), (10, ([1, 6, 7], [5002])), (11, ([1, 6, 7], [5002])), (12, ([1, 6, 7], [5002])), (13, ([1, 6, 7], [5002])), (14, ([1, 7], [5002]))]
def g11res : List ResultVar := [.tmp 4, .tmp 5]
def g11cut : List Nat := [3, 14]
noncomputable def g11N {R : Type} (A : Ar) (kk : AV → Heap → Option R) (t : List Bool → St → Option R) (p : List Bool) (s : St) : Option R := nodeN A gtys (g11O A) g11an g11cut t (bodyOf Try.f11) (finD gtys g11res kk) p s
def g11J14s (x0 : List Nat) (x1 x2 : Nat) (x3 : List Nat) : St := ⟨[(1, (tS x0)), (7, (sL 5002 none x1 1))], [(5002, ⟨[.nums .u8 x2 x3], 5, 2⟩)]⟩
def g11J14 {R : Type} (A : Ar) (n : Nat) (kk : AV → Heap → Option R)  (x0 : List Nat) (x1 x2 : Nat) (x3 : List Nat) : Option R :=
  match A.le ((x3.take x1).length + x0.length) 9223372036854775807 with
  | true => kk (.tup [(.cell (.str ((x3.take x1) ++ x0))), (.cell (.int .i64 0))]) [(5002, ⟨[.nums .u8 x2 x3], 5, 2⟩)]
  | false => none
def g11J3s (x0 : Int) (x1 : List Nat) : St := ⟨[(0, (i6 x0)), (1, (tS x1))], []⟩
def g11J3 {R : Type} (A : Ar) (n : Nat) (kk : AV → Heap → Option R)  (x0 : Int) (x1 : List Nat) : Option R :=
  match A.ic .geq (A.ofN x1.length) 16777216 with
  | true => kk (.tup [(.cell (.str [])), (.cell (.int .i64 9))]) []
  | false => match A.ic .geq (A.ofN x1.length) 65536 with
    | true => match A.eq 1 1 with
      | true => match A.le (([A.i2n .u8 x0] ++ ([131, A.i2n .u8 (A.ish .shr .i64 (A.ofN x1.length) 16), A.i2n .u8 (A.ish .shr .i64 (A.ofN x1.length) 8), A.i2n .u8 (A.ofN x1.length)].take 4)).length) 140737488355328 with
        | true => g11J14 A n kk  x1 (([A.i2n .u8 x0] ++ ([131, A.i2n .u8 (A.ish .shr .i64 (A.ofN x1.length) 16), A.i2n .u8 (A.ish .shr .i64 (A.ofN x1.length) 8), A.i2n .u8 (A.ofN x1.length)].take 4)).length) (([A.i2n .u8 x0] ++ ([131, A.i2n .u8 (A.ish .shr .i64 (A.ofN x1.length) 16), A.i2n .u8 (A.ish .shr .i64 (A.ofN x1.length) 8), A.i2n .u8 (A.ofN x1.length)].take 4)).length) ([A.i2n .u8 x0] ++ ([131, A.i2n .u8 (A.ish .shr .i64 (A.ofN x1.length) 16), A.i2n .u8 (A.ish .shr .i64 (A.ofN x1.length) 8), A.i2n .u8 (A.ofN x1.length)].take 4))
        | false => none
      | false => none
    | false => match A.ic .geq (A.ofN x1.length) 256 with
      | true => match A.eq 1 1 with
        | true => match A.le (([A.i2n .u8 x0] ++ ([130, A.i2n .u8 (A.ish .shr .i64 (A.ofN x1.length) 8), A.i2n .u8 (A.ofN x1.length)].take 3)).length) 140737488355328 with
          | true => g11J14 A n kk  x1 (([A.i2n .u8 x0] ++ ([130, A.i2n .u8 (A.ish .shr .i64 (A.ofN x1.length) 8), A.i2n .u8 (A.ofN x1.length)].take 3)).length) (([A.i2n .u8 x0] ++ ([130, A.i2n .u8 (A.ish .shr .i64 (A.ofN x1.length) 8), A.i2n .u8 (A.ofN x1.length)].take 3)).length) ([A.i2n .u8 x0] ++ ([130, A.i2n .u8 (A.ish .shr .i64 (A.ofN x1.length) 8), A.i2n .u8 (A.ofN x1.length)].take 3))
          | false => none
        | false => none
      | false => match A.ic .geq (A.ofN x1.length) 128 with
        | true => match A.eq 1 1 with
          | true => match A.le (([A.i2n .u8 x0] ++ ([129, A.i2n .u8 (A.ofN x1.length)].take 2)).length) 140737488355328 with
            | true => g11J14 A n kk  x1 (([A.i2n .u8 x0] ++ ([129, A.i2n .u8 (A.ofN x1.length)].take 2)).length) (([A.i2n .u8 x0] ++ ([129, A.i2n .u8 (A.ofN x1.length)].take 2)).length) ([A.i2n .u8 x0] ++ ([129, A.i2n .u8 (A.ofN x1.length)].take 2))
            | false => none
          | false => none
        | false => match A.eq 1 1 with
          | true => match A.le (([A.i2n .u8 x0] ++ ([A.i2n .u8 (A.ofN x1.length)].take 1)).length) 140737488355328 with
            | true => g11J14 A n kk  x1 (([A.i2n .u8 x0] ++ ([A.i2n .u8 (A.ofN x1.length)].take 1)).length) (([A.i2n .u8 x0] ++ ([A.i2n .u8 (A.ofN x1.length)].take 1)).length) ([A.i2n .u8 x0] ++ ([A.i2n .u8 (A.ofN x1.length)].take 1))
            | false => none
          | false => none
def g11 {R : Type} (A : Ar) (n : Nat) (kk : AV → Heap → Option R) (a : Int) (b : List Nat) : Option R :=
  match A.ic .lss a 0 with
  | true => kk (.tup [(.cell (.str [])), (.cell (.int .i64 1))]) []
  | false => match A.ic .gtr a 255 with
    | true => kk (.tup [(.cell (.str [])), (.cell (.int .i64 1))]) []
    | false => match A.ic .eql (A.ib .rem .i64 a 32) 31 with
      | true => kk (.tup [(.cell (.str [])), (.cell (.int .i64 1))]) []
      | false => g11J3 A n kk  a b
section
variable {R : Type} {A : Ar} {n : Nat} {kk : AV → Heap → Option R} {tb : Nat → List Bool → St → Option R} (st : Stp (g11N A kk) tb)
include st
theorem g11J14_go {x0 : List Nat} {x1 : Nat} {x2 : Nat} {x3 : List Nat} : Prs (fun k => tb k (pth 63) (g11J14s x0 x1 x2 x3)) (g11J14 A n kk x0 x1 x2 x3) := by
  unfold g11J14
  exact st.g (pc (SxP14hpi _ (pf _) pn) (by kernel_rfl))
theorem g11J3_go {x0 : Int} {x1 : List Nat} : Prs (fun k => tb k (pth 7) (g11J3s x0 x1)) (g11J3 A n kk x0 x1) := by
  unfold g11J3
  exact st.g (pc (SxP14hpi _ (pf _) (SxP14hpi _ (SxP14hpi _ (SxP14hpi _ (g11J14_go st) pn) pn) (SxP14hpi _ (SxP14hpi _ (SxP14hpi _ (g11J14_go st) pn) pn) (SxP14hpi _ (SxP14hpi _ (SxP14hpi _ (g11J14_go st) pn) pn) (SxP14hpi _ (SxP14hpi _ (g11J14_go st) pn) pn))))) (by kernel_rfl))
theorem g11_go {a : Int} {b : List Nat} : Prs (fun k => funN A gtys (g11O A) g11an g11cut (bodyOf Try.f11) g11res [(i6 a), (tS b)] [] kk (tb k)) (g11 A n kk a b) := by
  unfold g11
  exact pc (SxP14hpi _ (pf _) (SxP14hpi _ (pf _) (SxP14hpi _ (pf _) (g11J3_go st)))) (by kernel_rfl)
end
def g11is (o : Option AV) : Bool := match o with
  | some (.tup [.cell (.str _), .cell (.int .i64 _)]) => true
  | _ => false
def g11g0 (o : Option AV) : List Nat := match o with
  | some (.tup [.cell (.str x), .cell (.int .i64 _)]) => x
  | _ => []
def g11g1 (o : Option AV) : Int := match o with
  | some (.tup [.cell (.str _), .cell (.int .i64 x)]) => x
  | _ => 0
theorem g11is_spec {o : Option AV} (h : g11is o = true) : o = some (.tup [.cell (.str (g11g0 o)), .cell (.int .i64 (g11g1 o))]) := by
  unfold g11is at h
  split at h
  · rfl
  · cases h
def g11v (A : Ar) (a : Int) (b : List Nat) : Option AV := g11 A (100000) (fun v _ => some v) a b
def g11ok (A : Ar) (a : Int) (b : List Nat) : Bool := g11is (g11v A a b)
def g11r0 (A : Ar) (a : Int) (b : List Nat) : List Nat := g11g0 (g11v A a b)
def g11r1 (A : Ar) (a : Int) (b : List Nat) : Int := g11g1 (g11v A a b)
theorem g11ok_spec {A : Ar} {a b} (h : g11ok A a b = true) : g11v A a b = some (.tup [.cell (.str (g11r0 A a b)), .cell (.int .i64 (g11r1 A a b))]) := g11is_spec h
def g11o (A : Ar) (args : List AV) : Option (Bool × AV) := match args with
  | [.v (.cell (.int .i64 a)), .v (.cell (.str b))] => some (g11ok A a b, .tup [.cell (.str (g11r0 A a b)), .cell (.int .i64 (g11r1 A a b))])
  | _ => none
theorem g11o_sound : ∀ args v, g11o realA args = some (true, v) → Fn1 Try.prog 11 args v := by
  intro args v h
  unfold g11o at h
  split at h
  · rename_i a b
    simp only [Option.some.injEq, Prod.mk.injEq] at h
    obtain ⟨hc, h⟩ := h
    subst h
    · skip
      exact fn1_ofG mixed gtysOK g11O_sound g11O_det (an := g11an) (cut := g11cut) Try.func11 (c := bodyOf Try.f11) rfl (by kernel_rfl) Try.call11 (Nat.le_of_ble_eq_true rfl) (fun b => rfl) (fun _ => (show g11v realA a b = _ from g11ok_spec hc)) fun _ st => g11_go st
  · cases h
attribute [local irreducible] g11ok g11r0 g11r1
def g13O (A : Ar) : Orc := orcOf [(9, g9o A)]
theorem g13O_sound : OSound Try.prog (g13O realA) := orc_sound fun f g hm args v hv => by
  simp only [List.mem_cons, List.not_mem_nil, or_false, Prod.mk.injEq] at hm
  rcases hm with ⟨rfl, rfl⟩
  · exact g9o_sound _ _ hv
theorem g13O_det : ODet (g13O realA) := orc_det _
def g13an : Ann := [(0, ([0], [])), (1, ([0], [])), (2, ([0, 4], [2000])), (3, ([0, 4], [2000])), (4, ([4, 5, 6], [2000, 4005])), (5, ([], [])), (6, ([4, 5], [2000, 4005])), (7, ([], [])), (8, ([4, 5], [2000, 4005])), (9, ([4, 5], [2000, 4005])), (10, ([4], [2000]))]
def g13res : List ResultVar := [.tmp 2, .tmp 3]
def g13cut : List Nat := [3, 6, 8]
noncomputable def g13N {R : Type} (A : Ar) (kk : AV → Heap → Option R) (t : List Bool → St → Option R) (p : List Bool) (s : St) : Option R := nodeN A gtys (g13O A) g13an g13cut t (bodyOf Try.f13) (finD gtys g13res kk) p s
def g13J8s (x0 x1 : Nat) (x2 : List Int) (x3 : List (List Nat)) (x4 : List (List Nat)) (x5 : Int) (x6 x7 : List Nat) : St := ⟨[(4, (sL 2000 none x0 3)), (5, (pT 4005 0))], [(2000, ⟨[.recs x1 [.ints .i64 x2, .strs x3, .strs x4]], 28, 2⟩), (4005, ⟨[.one (.int .i64 x5), .one (.str x6), .one (.str x7)], 28, 1⟩)]⟩
def g13J8 {R : Type} (A : Ar) (n : Nat) (kk : AV → Heap → Option R) (lg13L2 : List Nat → Nat → Nat → List Int → List (List Nat) → List (List Nat) → Option R) (x0 x1 : Nat) (x2 : List Int) (x3 : List (List Nat)) (x4 : List (List Nat)) (x5 : Int) (x6 x7 : List Nat) : Option R :=
  match A.eq (x0 * 3) ((x1 * 3) + 0) with
  | true => match A.le ((x1 + 1) * 40) 140737488355328 with
    | true => lg13L2 x7 (x1 + 1) (x1 + 1) (x2 ++ [x5]) (x3 ++ [x6]) (x4 ++ [x7])
    | false => none
  | false => none
def g13J6s (x0 x1 : Nat) (x2 : List Int) (x3 : List (List Nat)) (x4 : List (List Nat)) (x5 : Int) (x6 x7 : List Nat) : St := ⟨[(4, (sL 2000 none x0 3)), (5, (pT 4005 0))], [(2000, ⟨[.recs x1 [.ints .i64 x2, .strs x3, .strs x4]], 28, 2⟩), (4005, ⟨[.one (.int .i64 x5), .one (.str x6), .one (.str x7)], 28, 1⟩)]⟩
def g13J6 {R : Type} (A : Ar) (n : Nat) (kk : AV → Heap → Option R) (lg13L2 : List Nat → Nat → Nat → List Int → List (List Nat) → List (List Nat) → Option R) (x0 x1 : Nat) (x2 : List Int) (x3 : List (List Nat)) (x4 : List (List Nat)) (x5 : Int) (x6 x7 : List Nat) : Option R :=
  match A.ic .eql (A.ofN x0) 100 with
  | true => kk (.tup [(.cell (.sl 8000 none 0 3)), (.cell (.int .i64 9))]) [(8000, ⟨[.recs 0 [.ints .i64 [], .strs [], .strs []]], 28, 2⟩)]
  | false => g13J8 A n kk lg13L2 x0 x1 x2 x3 x4 x5 x6 x7
def g13J3s (x0 : List Nat) (x1 x2 : Nat) (x3 : List Int) (x4 : List (List Nat)) (x5 : List (List Nat)) : St := ⟨[(0, (tS x0)), (4, (sL 2000 none x1 3))], [(2000, ⟨[.recs x2 [.ints .i64 x3, .strs x4, .strs x5]], 28, 2⟩)]⟩
def g13J3 {R : Type} (A : Ar) (n : Nat) (kk : AV → Heap → Option R) (lg13L2 : List Nat → Nat → Nat → List Int → List (List Nat) → List (List Nat) → Option R) (x0 : List Nat) (x1 x2 : Nat) (x3 : List Int) (x4 : List (List Nat)) (x5 : List (List Nat)) : Option R :=
  match g9ok A x0 with
  | true => match !(g9r3 A x0) with
    | true => kk (.tup [(.cell (.sl 6000 none 0 3)), (.cell (.int .i64 2))]) [(6000, ⟨[.recs 0 [.ints .i64 [], .strs [], .strs []]], 28, 2⟩)]
    | false => g13J6 A n kk lg13L2 x1 x2 x3 x4 x5 (g9r0 A x0) (g9r1 A x0) (g9r2 A x0)
  | false => none
def g13L2s (x0 : List Nat) (x1 x2 : Nat) (x3 : List Int) (x4 : List (List Nat)) (x5 : List (List Nat)) : St := ⟨[(0, (tS x0)), (4, (sL 2000 none x1 3))], [(2000, ⟨[.recs x2 [.ints .i64 x3, .strs x4, .strs x5]], 28, 2⟩)]⟩
def g13L2 {R : Type} (A : Ar) (n : Nat) (kk : AV → Heap → Option R)  : Nat → List Nat → Nat → Nat → List Int → List (List Nat) → List (List Nat) → Option R
  | 0, _, _, _, _, _, _ => none
  | m + 1, x0, x1, x2, x3, x4, x5 => match A.sc .neq x0 [] with
  | true => g13J3 A n kk (g13L2 A n kk  m) x0 x1 x2 x3 x4 x5
  | false => kk (.tup [(.cell (.sl 2000 none x1 3)), (.cell (.int .i64 0))]) [(2000, ⟨[.recs x2 [.ints .i64 x3, .strs x4, .strs x5]], 28, 2⟩)]
def g13 {R : Type} (A : Ar) (n : Nat) (kk : AV → Heap → Option R) (x0 : List Nat) : Option R :=
  g13L2 A n kk  n x0 0 0 [] [] []
section
variable {R : Type} {A : Ar} {n : Nat} {kk : AV → Heap → Option R} {tb : Nat → List Bool → St → Option R} (st : Stp (g13N A kk) tb)
include st
theorem g13J8_go {lg13L2 : List Nat → Nat → Nat → List Int → List (List Nat) → List (List Nat) → Option R} (hg13L2 : ∀ (x0 : List Nat) (x1 x2 : Nat) (x3 : List Int) (x4 : List (List Nat)) (x5 : List (List Nat)), Prs (fun k => tb k (pth 56) (g13L2s x0 x1 x2 x3 x4 x5)) (lg13L2 x0 x1 x2 x3 x4 x5)) {x0 : Nat} {x1 : Nat} {x2 : List Int} {x3 : List (List Nat)} {x4 : List (List Nat)} {x5 : Int} {x6 : List Nat} {x7 : List Nat} : Prs (fun k => tb k (pth 1815) (g13J8s x0 x1 x2 x3 x4 x5 x6 x7)) (g13J8 A n kk lg13L2 x0 x1 x2 x3 x4 x5 x6 x7) := by
  unfold g13J8
  exact st.g (pc (SxP14hpi _ (SxP14hpi _ (hg13L2 _ _ _ _ _ _) pn) pn) (by kernel_rfl))
theorem g13J6_go {lg13L2 : List Nat → Nat → Nat → List Int → List (List Nat) → List (List Nat) → Option R} (hg13L2 : ∀ (x0 : List Nat) (x1 x2 : Nat) (x3 : List Int) (x4 : List (List Nat)) (x5 : List (List Nat)), Prs (fun k => tb k (pth 56) (g13L2s x0 x1 x2 x3 x4 x5)) (lg13L2 x0 x1 x2 x3 x4 x5)) {x0 : Nat} {x1 : Nat} {x2 : List Int} {x3 : List (List Nat)} {x4 : List (List Nat)} {x5 : Int} {x6 : List Nat} {x7 : List Nat} : Prs (fun k => tb k (pth 907) (g13J6s x0 x1 x2 x3 x4 x5 x6 x7)) (g13J6 A n kk lg13L2 x0 x1 x2 x3 x4 x5 x6 x7) := by
  unfold g13J6
  exact st.g (pc (SxP14hpi _ (pf _) (g13J8_go st hg13L2)) (by kernel_rfl))
theorem g13J3_go {lg13L2 : List Nat → Nat → Nat → List Int → List (List Nat) → List (List Nat) → Option R} (hg13L2 : ∀ (x0 : List Nat) (x1 x2 : Nat) (x3 : List Int) (x4 : List (List Nat)) (x5 : List (List Nat)), Prs (fun k => tb k (pth 56) (g13L2s x0 x1 x2 x3 x4 x5)) (lg13L2 x0 x1 x2 x3 x4 x5)) {x0 : List Nat} {x1 : Nat} {x2 : Nat} {x3 : List Int} {x4 : List (List Nat)} {x5 : List (List Nat)} : Prs (fun k => tb k (pth 113) (g13J3s x0 x1 x2 x3 x4 x5)) (g13J3 A n kk lg13L2 x0 x1 x2 x3 x4 x5) := by
  unfold g13J3
  exact st.g (pc (SxP14hpi _ (SxP14hpi _ (pf _) (g13J6_go st hg13L2)) pn) (by kernel_rfl))
theorem g13L2_go (m : Nat) : ∀ (x0 : List Nat) (x1 x2 : Nat) (x3 : List Int) (x4 : List (List Nat)) (x5 : List (List Nat)), Prs (fun k => tb k (pth 56) (g13L2s x0 x1 x2 x3 x4 x5)) (g13L2 A n kk m x0 x1 x2 x3 x4 x5) := by
  induction m with
  | zero => intro x0 x1 x2 x3 x4 x5; exact pn0
  | succ m ih =>
    intro x0 x1 x2 x3 x4 x5; rw [g13L2]
    exact st.g (pc (SxP14hpi _ (g13J3_go st ih) (pf _)) (by kernel_rfl))
theorem g13_go {x0 : List Nat} : Prs (fun k => funN A gtys (g13O A) g13an g13cut (bodyOf Try.f13) g13res [(tS x0)] [] kk (tb k)) (g13 A n kk x0) := by
  unfold g13
  exact pc (g13L2_go st n _ _ _ _ _ _) (by kernel_rfl)
end
def g13is (o : Option (AV × Heap)) : Bool := match o with
  | some (.tup [(.cell (.sl n0 none _ n1)), (.cell (.int .i64 _))], [(n2, ⟨[.recs _ [.ints .i64 _, .strs _, .strs _]], n3, n4⟩)]) => Nat.beq n0 700 && (Nat.beq n1 3 && (Nat.beq n2 700 && (Nat.beq n3 28 && (Nat.beq n4 2))))
  | _ => false
def g13g0 (o : Option (AV × Heap)) : Nat := match o with
  | some (.tup [(.cell (.sl _ none x _)), (.cell (.int .i64 _))], [(_, ⟨[.recs _ [.ints .i64 _, .strs _, .strs _]], _, _⟩)]) => x
  | _ => 0
def g13g1 (o : Option (AV × Heap)) : Int := match o with
  | some (.tup [(.cell (.sl _ none _ _)), (.cell (.int .i64 x))], [(_, ⟨[.recs _ [.ints .i64 _, .strs _, .strs _]], _, _⟩)]) => x
  | _ => 0
def g13g2 (o : Option (AV × Heap)) : Nat := match o with
  | some (.tup [(.cell (.sl _ none _ _)), (.cell (.int .i64 _))], [(_, ⟨[.recs x [.ints .i64 _, .strs _, .strs _]], _, _⟩)]) => x
  | _ => 0
def g13g3 (o : Option (AV × Heap)) : List Int := match o with
  | some (.tup [(.cell (.sl _ none _ _)), (.cell (.int .i64 _))], [(_, ⟨[.recs _ [.ints .i64 x, .strs _, .strs _]], _, _⟩)]) => x
  | _ => []
def g13g4 (o : Option (AV × Heap)) : List (List Nat) := match o with
  | some (.tup [(.cell (.sl _ none _ _)), (.cell (.int .i64 _))], [(_, ⟨[.recs _ [.ints .i64 _, .strs x, .strs _]], _, _⟩)]) => x
  | _ => []
def g13g5 (o : Option (AV × Heap)) : List (List Nat) := match o with
  | some (.tup [(.cell (.sl _ none _ _)), (.cell (.int .i64 _))], [(_, ⟨[.recs _ [.ints .i64 _, .strs _, .strs x]], _, _⟩)]) => x
  | _ => []
theorem g13is_spec {o : Option (AV × Heap)} (h : g13is o = true) : o = some ((.tup [(.cell (.sl 700 none (g13g0 o) 3)), (.cell (.int .i64 (g13g1 o)))]), [(700, ⟨[.recs (g13g2 o) [.ints .i64 (g13g3 o), .strs (g13g4 o), .strs (g13g5 o)]], 28, 2⟩)]) := by
  unfold g13is at h
  split at h
  · rename_i n0 z1 n1 z3 n2 z5 z6 z7 z8 n3 n4
    simp only [Bool.and_eq_true] at h
    have en0 := beq_true h.1
    subst en0
    replace h := h.2
    have en1 := beq_true h.1
    subst en1
    replace h := h.2
    have en2 := beq_true h.1
    subst en2
    replace h := h.2
    have en3 := beq_true h.1
    subst en3
    replace h := h.2
    have en4 := beq_true h
    subst en4
    rfl
  · cases h
def g13v (A : Ar) (x0 : List Nat) : Option (AV × Heap) := g13 A (100000) (outH [] none) x0
def g13ok (A : Ar) (x0 : List Nat) : Bool := g13is (g13v A x0)
def g13r0 (A : Ar) (x0 : List Nat) : Nat := g13g0 (g13v A x0)
def g13r1 (A : Ar) (x0 : List Nat) : Int := g13g1 (g13v A x0)
def g13r2 (A : Ar) (x0 : List Nat) : Nat := g13g2 (g13v A x0)
def g13r3 (A : Ar) (x0 : List Nat) : List Int := g13g3 (g13v A x0)
def g13r4 (A : Ar) (x0 : List Nat) : List (List Nat) := g13g4 (g13v A x0)
def g13r5 (A : Ar) (x0 : List Nat) : List (List Nat) := g13g5 (g13v A x0)
theorem g13ok_spec {A : Ar} {x0} (h : g13ok A x0 = true) : g13v A x0 = some ((.tup [(.cell (.sl 700 none (g13r0 A x0) 3)), (.cell (.int .i64 (g13r1 A x0)))]), [(700, ⟨[.recs (g13r2 A x0) [.ints .i64 (g13r3 A x0), .strs (g13r4 A x0), .strs (g13r5 A x0)]], 28, 2⟩)]) := g13is_spec h
def g13o (A : Ar) (args : List AV) (h : Heap) : Option (Bool × AV × Heap) := match args, h with
  | [.v (.cell (.str x0))], [] => some (g13ok A x0, (.tup [(.cell (.sl 700 none (g13r0 A x0) 3)), (.cell (.int .i64 (g13r1 A x0)))]), [(700, ⟨[.recs (g13r2 A x0) [.ints .i64 (g13r3 A x0), .strs (g13r4 A x0), .strs (g13r5 A x0)]], 28, 2⟩)])
  | _, _ => none
theorem g13o_sound : ∀ args h v h', g13o realA args h = some (true, v, h') → FnH Try.prog 13 args h v h' := by
  intro args h v h' hh
  unfold g13o at hh
  split at hh
  · rename_i x0
    simp only [Option.some.injEq, Prod.mk.injEq] at hh
    obtain ⟨hc, hv, hh⟩ := hh
    subst hv
    subst hh
    exact fnh_ofG mixed gtysOK g13O_sound g13O_det (an := g13an) (cut := g13cut) Try.func13 (c := bodyOf Try.f13) rfl (by kernel_rfl) Try.call13 (Nat.le_of_ble_eq_true rfl) (pins := []) (nilr := none) (fun _ => (show g13v realA x0 = _ from g13ok_spec hc)) fun _ st => g13_go st
  · cases hh
attribute [local irreducible] g13ok g13r0 g13r1 g13r2 g13r3 g13r4 g13r5
def g3O (A : Ar) : Orc := orcH [(7, g7o A), (8, g8o A), (9, g9o A), (10, g10o A), (11, g11o A)] [(12, ⟨[], none, (g12o A)⟩), (13, ⟨[], none, (g13o A)⟩)]
theorem g3O_sound : OSound Try.prog (g3O realA) := orcH_sound (fun f g hm args v hv => by
    simp only [List.mem_cons, List.not_mem_nil, or_false, Prod.mk.injEq] at hm
    rcases hm with ⟨rfl, rfl⟩ | ⟨rfl, rfl⟩ | ⟨rfl, rfl⟩ | ⟨rfl, rfl⟩ | ⟨rfl, rfl⟩
    · exact g7o_sound _ _ hv
    · exact g8o_sound _ _ hv
    · exact g9o_sound _ _ hv
    · exact g10o_sound _ _ hv
    · exact g11o_sound _ _ hv) (fun f e hm args h v h' hv => by
    simp only [List.mem_cons, List.not_mem_nil, or_false, Prod.mk.injEq] at hm
    rcases hm with ⟨rfl, rfl⟩ | ⟨rfl, rfl⟩
    · exact g12o_sound _ _ _ _ hv
    · exact g13o_sound _ _ _ _ hv)
theorem g3O_det : ODet (g3O realA) := orcH_det _ _
def g3an : Ann := [(0, ([0, 1, 2], [])), (1, ([0, 1, 2], [])), (2, ([0, 1, 2, 7], [])), (3, ([], [])), (4, ([0, 1, 2, 7], [])), (5, ([0, 1, 2, 7, 8, 9], [5005])), (6, ([0, 1, 2, 7, 8, 9, 10, 11], [5005, 6005])), (7, ([0, 1, 2, 7, 8, 9, 10, 11, 12, 13], [5005, 6005])), (8, ([0, 7, 8, 9, 10, 11, 12, 13, 14, 15], [5005, 6005])), (9, ([0, 7, 8, 9, 10, 11, 12, 13, 14, 15, 16, 17], [5005, 6005, 9001])), (10, ([7, 8, 9, 10, 11, 12, 13, 14, 15, 16, 17, 18, 19], [5005, 6005, 9001, 10001])), (11, ([], [])), (12, ([7, 8, 9, 10, 11, 12, 13, 14, 15, 16, 17, 18, 19], [5005, 6005, 9001, 10001])), (13, ([7, 8, 9, 10, 11, 12, 13, 14, 15, 16, 17, 18, 19, 20], [5005, 6005, 9001, 10001])), (14, ([7, 8, 9, 10, 11, 12, 13, 14, 15, 16, 17, 18, 19, 20], [5005, 6005, 9001, 10001])), (15, ([7, 8, 9, 10, 11, 12, 13, 14, 15, 16, 17, 18, 19, 20], [5005, 6005, 9001, 10001])), (16, ([], [])), (17, ([7, 8, 9, 10, 11, 12, 13, 14, 15, 17, 19], [5005, 6005]))]
def g3res : List ResultVar := [.tmp 6]
def g3cut : List Nat := [4, 12, 15, 17]
noncomputable def g3N {R : Type} (A : Ar) (kk : AV → Heap → Option R) (t : List Bool → St → Option R) (p : List Bool) (s : St) : Option R := nodeN A gtys (g3O A) g3an g3cut t (bodyOf Try.f3) (finD gtys g3res kk) p s
def g3J15s (x0 : Bool) (x1 : Int) (x2 : Bool) (x3 : List Nat) (x4 : Int) (x5 : List Nat) (x6 : Int) (x7 : Nat) (x8 : Int) (x9 : Nat) (x10 x11 x12 : Int) (x13 x14 : List Nat) (x15 : Int) (x16 x17 : List Nat) (x18 : Nat) (x19 : List Int) (x20 : List (List Nat)) (x21 : List (List Nat)) (x22 : Nat) (x23 : List Int) (x24 : List (List Nat)) (x25 : List (List Nat)) : St := ⟨[(7, (bO x0)), (8, (pT 5005 0)), (9, (i6 x1)), (10, (pT 6005 0)), (11, (bO x2)), (12, (tS x3)), (13, (i6 x4)), (14, (tS x5)), (15, (i6 x6)), (16, (sL 9001 none x7 3)), (17, (i6 x8)), (18, (sL 10001 none x9 3)), (19, (i6 x10)), (20, (i6 x11))], [(5005, ⟨[.one (.int .i64 x12), .one (.str x13), .one (.str x14)], 24, 1⟩), (6005, ⟨[.one (.int .i64 x15), .one (.str x16), .one (.str x17)], 28, 1⟩), (9001, ⟨[.recs x18 [.ints .i64 x19, .strs x20, .strs x21]], 24, 2⟩), (10001, ⟨[.recs x22 [.ints .i64 x23, .strs x24, .strs x25]], 28, 2⟩)]⟩
def g3J15 {R : Type} (A : Ar) (n : Nat) (kk : AV → Heap → Option R) (lg3L13 : Bool → Int → Bool → List Nat → Int → List Nat → Int → Nat → Int → Nat → Int → Int → Int → List Nat → List Nat → Int → List Nat → List Nat → Nat → List Int → List (List Nat) → List (List Nat) → Nat → List Int → List (List Nat) → List (List Nat) → Option R) (x0 : Bool) (x1 : Int) (x2 : Bool) (x3 : List Nat) (x4 : Int) (x5 : List Nat) (x6 : Int) (x7 : Nat) (x8 : Int) (x9 : Nat) (x10 x11 x12 : Int) (x13 x14 : List Nat) (x15 : Int) (x16 x17 : List Nat) (x18 : Nat) (x19 : List Int) (x20 : List (List Nat)) (x21 : List (List Nat)) (x22 : Nat) (x23 : List Int) (x24 : List (List Nat)) (x25 : List (List Nat)) : Option R :=
  match A.neg x11 with
  | true => none
  | false => match A.lt (A.toN x11) x7 with
    | true => match A.neg x11 with
      | true => none
      | false => match A.lt (A.toN x11) x9 with
        | true => match A.ic .neq (x19.getD (A.toN x11) 0) (x23.getD (A.toN x11) 0) with
          | true => kk (bO false) []
          | false => match A.neg x11 with
            | true => none
            | false => match A.lt (A.toN x11) x7 with
              | true => match A.neg x11 with
                | true => none
                | false => match A.lt (A.toN x11) x9 with
                  | true => match A.sc .neq (x20.getD (A.toN x11) []) (x24.getD (A.toN x11) []) with
                    | true => kk (bO false) []
                    | false => match A.neg x11 with
                      | true => none
                      | false => match A.lt (A.toN x11) x7 with
                        | true => match A.neg x11 with
                          | true => none
                          | false => match A.lt (A.toN x11) x9 with
                            | true => match A.sc .neq (x21.getD (A.toN x11) []) (x25.getD (A.toN x11) []) with
                              | true => kk (bO false) []
                              | false => lg3L13 x0 x1 x2 x3 x4 x5 x6 x7 x8 x9 x10 (A.ib .add .i64 x11 1) x12 x13 x14 x15 x16 x17 x18 x19 x20 x21 x22 x23 x24 x25
                            | false => none
                        | false => none
                  | false => none
              | false => none
        | false => none
    | false => none
def g3J17s (x0 : Bool) (x1 : Int) (x2 : Bool) (x3 : List Nat) (x4 : Int) (x5 : List Nat) (x6 x7 : Int) (x8 x9 : Int) (x10 x11 : List Nat) (x12 : Int) (x13 x14 : List Nat) : St := ⟨[(7, (bO x0)), (8, (pT 5005 0)), (9, (i6 x1)), (10, (pT 6005 0)), (11, (bO x2)), (12, (tS x3)), (13, (i6 x4)), (14, (tS x5)), (15, (i6 x6)), (17, (i6 x7)), (19, (i6 x8))], [(5005, ⟨[.one (.int .i64 x9), .one (.str x10), .one (.str x11)], 24, 1⟩), (6005, ⟨[.one (.int .i64 x12), .one (.str x13), .one (.str x14)], 28, 1⟩)]⟩
def g3J17 {R : Type} (A : Ar) (n : Nat) (kk : AV → Heap → Option R)  (x0 : Bool) (x1 : Int) (x2 : Bool) (x3 : List Nat) (x4 : Int) (x5 : List Nat) (x6 x7 : Int) (x8 x9 : Int) (x10 x11 : List Nat) (x12 : Int) (x13 x14 : List Nat) : Option R :=
  match x0 with
  | true => match A.ic .eql x9 x12 with
    | true => match A.sc .eql x10 x13 with
      | true => match A.sc .eql x11 x14 with
        | true => match x2 with
          | true => match A.ic .eql x1 0 with
            | true => match A.sc .eql x3 x5 with
              | true => match A.ic .eql x4 x6 with
                | true => kk (bO (A.ic .eql x7 x8)) [(5005, ⟨[.one (.int .i64 x9), .one (.str x10), .one (.str x11)], 24, 1⟩), (6005, ⟨[.one (.int .i64 x12), .one (.str x13), .one (.str x14)], 28, 1⟩)]
                | false => kk (bO false) [(5005, ⟨[.one (.int .i64 x9), .one (.str x10), .one (.str x11)], 24, 1⟩), (6005, ⟨[.one (.int .i64 x12), .one (.str x13), .one (.str x14)], 28, 1⟩)]
              | false => kk (bO false) [(5005, ⟨[.one (.int .i64 x9), .one (.str x10), .one (.str x11)], 24, 1⟩), (6005, ⟨[.one (.int .i64 x12), .one (.str x13), .one (.str x14)], 28, 1⟩)]
            | false => match !x2 with
              | true => match A.ic .eql x1 2 with
                | true => match A.sc .eql x3 x5 with
                  | true => match A.ic .eql x4 x6 with
                    | true => kk (bO (A.ic .eql x7 x8)) [(5005, ⟨[.one (.int .i64 x9), .one (.str x10), .one (.str x11)], 24, 1⟩), (6005, ⟨[.one (.int .i64 x12), .one (.str x13), .one (.str x14)], 28, 1⟩)]
                    | false => kk (bO false) [(5005, ⟨[.one (.int .i64 x9), .one (.str x10), .one (.str x11)], 24, 1⟩), (6005, ⟨[.one (.int .i64 x12), .one (.str x13), .one (.str x14)], 28, 1⟩)]
                  | false => kk (bO false) [(5005, ⟨[.one (.int .i64 x9), .one (.str x10), .one (.str x11)], 24, 1⟩), (6005, ⟨[.one (.int .i64 x12), .one (.str x13), .one (.str x14)], 28, 1⟩)]
                | false => kk (bO false) [(5005, ⟨[.one (.int .i64 x9), .one (.str x10), .one (.str x11)], 24, 1⟩), (6005, ⟨[.one (.int .i64 x12), .one (.str x13), .one (.str x14)], 28, 1⟩)]
              | false => kk (bO false) [(5005, ⟨[.one (.int .i64 x9), .one (.str x10), .one (.str x11)], 24, 1⟩), (6005, ⟨[.one (.int .i64 x12), .one (.str x13), .one (.str x14)], 28, 1⟩)]
          | false => match !x2 with
            | true => match A.ic .eql x1 2 with
              | true => match A.sc .eql x3 x5 with
                | true => match A.ic .eql x4 x6 with
                  | true => kk (bO (A.ic .eql x7 x8)) [(5005, ⟨[.one (.int .i64 x9), .one (.str x10), .one (.str x11)], 24, 1⟩), (6005, ⟨[.one (.int .i64 x12), .one (.str x13), .one (.str x14)], 28, 1⟩)]
                  | false => kk (bO false) [(5005, ⟨[.one (.int .i64 x9), .one (.str x10), .one (.str x11)], 24, 1⟩), (6005, ⟨[.one (.int .i64 x12), .one (.str x13), .one (.str x14)], 28, 1⟩)]
                | false => kk (bO false) [(5005, ⟨[.one (.int .i64 x9), .one (.str x10), .one (.str x11)], 24, 1⟩), (6005, ⟨[.one (.int .i64 x12), .one (.str x13), .one (.str x14)], 28, 1⟩)]
              | false => kk (bO false) [(5005, ⟨[.one (.int .i64 x9), .one (.str x10), .one (.str x11)], 24, 1⟩), (6005, ⟨[.one (.int .i64 x12), .one (.str x13), .one (.str x14)], 28, 1⟩)]
            | false => kk (bO false) [(5005, ⟨[.one (.int .i64 x9), .one (.str x10), .one (.str x11)], 24, 1⟩), (6005, ⟨[.one (.int .i64 x12), .one (.str x13), .one (.str x14)], 28, 1⟩)]
        | false => kk (bO false) [(5005, ⟨[.one (.int .i64 x9), .one (.str x10), .one (.str x11)], 24, 1⟩), (6005, ⟨[.one (.int .i64 x12), .one (.str x13), .one (.str x14)], 28, 1⟩)]
      | false => kk (bO false) [(5005, ⟨[.one (.int .i64 x9), .one (.str x10), .one (.str x11)], 24, 1⟩), (6005, ⟨[.one (.int .i64 x12), .one (.str x13), .one (.str x14)], 28, 1⟩)]
    | false => kk (bO false) [(5005, ⟨[.one (.int .i64 x9), .one (.str x10), .one (.str x11)], 24, 1⟩), (6005, ⟨[.one (.int .i64 x12), .one (.str x13), .one (.str x14)], 28, 1⟩)]
  | false => kk (bO false) [(5005, ⟨[.one (.int .i64 x9), .one (.str x10), .one (.str x11)], 24, 1⟩), (6005, ⟨[.one (.int .i64 x12), .one (.str x13), .one (.str x14)], 28, 1⟩)]
def g3L13s (x0 : Bool) (x1 : Int) (x2 : Bool) (x3 : List Nat) (x4 : Int) (x5 : List Nat) (x6 : Int) (x7 : Nat) (x8 : Int) (x9 : Nat) (x10 x11 x12 : Int) (x13 x14 : List Nat) (x15 : Int) (x16 x17 : List Nat) (x18 : Nat) (x19 : List Int) (x20 : List (List Nat)) (x21 : List (List Nat)) (x22 : Nat) (x23 : List Int) (x24 : List (List Nat)) (x25 : List (List Nat)) : St := ⟨[(7, (bO x0)), (8, (pT 5005 0)), (9, (i6 x1)), (10, (pT 6005 0)), (11, (bO x2)), (12, (tS x3)), (13, (i6 x4)), (14, (tS x5)), (15, (i6 x6)), (16, (sL 9001 none x7 3)), (17, (i6 x8)), (18, (sL 10001 none x9 3)), (19, (i6 x10)), (20, (i6 x11))], [(5005, ⟨[.one (.int .i64 x12), .one (.str x13), .one (.str x14)], 24, 1⟩), (6005, ⟨[.one (.int .i64 x15), .one (.str x16), .one (.str x17)], 28, 1⟩), (9001, ⟨[.recs x18 [.ints .i64 x19, .strs x20, .strs x21]], 24, 2⟩), (10001, ⟨[.recs x22 [.ints .i64 x23, .strs x24, .strs x25]], 28, 2⟩)]⟩
def g3L13 {R : Type} (A : Ar) (n : Nat) (kk : AV → Heap → Option R)  : Nat → Bool → Int → Bool → List Nat → Int → List Nat → Int → Nat → Int → Nat → Int → Int → Int → List Nat → List Nat → Int → List Nat → List Nat → Nat → List Int → List (List Nat) → List (List Nat) → Nat → List Int → List (List Nat) → List (List Nat) → Option R
  | 0, _, _, _, _, _, _, _, _, _, _, _, _, _, _, _, _, _, _, _, _, _, _, _, _, _, _ => none
  | m + 1, x0, x1, x2, x3, x4, x5, x6, x7, x8, x9, x10, x11, x12, x13, x14, x15, x16, x17, x18, x19, x20, x21, x22, x23, x24, x25 => match A.ic .lss x11 (A.ofN x7) with
  | true => g3J15 A n kk (g3L13 A n kk  m) x0 x1 x2 x3 x4 x5 x6 x7 x8 x9 x10 x11 x12 x13 x14 x15 x16 x17 x18 x19 x20 x21 x22 x23 x24 x25
  | false => g3J17 A n kk  x0 x1 x2 x3 x4 x5 x6 x8 x10 x12 x13 x14 x15 x16 x17
def g3J12s (x0 : Bool) (x1 : Int) (x2 : Bool) (x3 : List Nat) (x4 : Int) (x5 : List Nat) (x6 : Int) (x7 : Nat) (x8 : Int) (x9 : Nat) (x10 x11 : Int) (x12 x13 : List Nat) (x14 : Int) (x15 x16 : List Nat) (x17 : Nat) (x18 : List Int) (x19 : List (List Nat)) (x20 : List (List Nat)) (x21 : Nat) (x22 : List Int) (x23 : List (List Nat)) (x24 : List (List Nat)) : St := ⟨[(7, (bO x0)), (8, (pT 5005 0)), (9, (i6 x1)), (10, (pT 6005 0)), (11, (bO x2)), (12, (tS x3)), (13, (i6 x4)), (14, (tS x5)), (15, (i6 x6)), (16, (sL 9001 none x7 3)), (17, (i6 x8)), (18, (sL 10001 none x9 3)), (19, (i6 x10))], [(5005, ⟨[.one (.int .i64 x11), .one (.str x12), .one (.str x13)], 24, 1⟩), (6005, ⟨[.one (.int .i64 x14), .one (.str x15), .one (.str x16)], 28, 1⟩), (9001, ⟨[.recs x17 [.ints .i64 x18, .strs x19, .strs x20]], 24, 2⟩), (10001, ⟨[.recs x21 [.ints .i64 x22, .strs x23, .strs x24]], 28, 2⟩)]⟩
def g3J12 {R : Type} (A : Ar) (n : Nat) (kk : AV → Heap → Option R)  (x0 : Bool) (x1 : Int) (x2 : Bool) (x3 : List Nat) (x4 : Int) (x5 : List Nat) (x6 : Int) (x7 : Nat) (x8 : Int) (x9 : Nat) (x10 x11 : Int) (x12 x13 : List Nat) (x14 : Int) (x15 x16 : List Nat) (x17 : Nat) (x18 : List Int) (x19 : List (List Nat)) (x20 : List (List Nat)) (x21 : Nat) (x22 : List Int) (x23 : List (List Nat)) (x24 : List (List Nat)) : Option R :=
  g3L13 A n kk  n x0 x1 x2 x3 x4 x5 x6 x7 x8 x9 x10 0 x11 x12 x13 x14 x15 x16 x17 x18 x19 x20 x21 x22 x23 x24
def g3J4s (x0 : List Nat) (x1 : Int) (x2 : List Nat) (x3 : Bool) : St := ⟨[(0, (tS x0)), (1, (i6 x1)), (2, (tS x2)), (7, (bO x3))], []⟩
def g3J4 {R : Type} (A : Ar) (n : Nat) (kk : AV → Heap → Option R)  (x0 : List Nat) (x1 : Int) (x2 : List Nat) (x3 : Bool) : Option R :=
  match g8ok A x0 with
  | true => match g9ok A x0 with
    | true => match g10ok A x1 x2 with
      | true => match g11ok A x1 x2 with
        | true => match g12ok A x0 with
          | true => match g13ok A x0 with
            | true => match A.ic .neq (A.ofN (g12r0 A x0)) (A.ofN (g13r0 A x0)) with
              | true => kk (bO false) []
              | false => g3J12 A n kk  x3 (g8r3 A x0) (g9r3 A x0) (g10r0 A x1 x2) (g10r1 A x1 x2) (g11r0 A x1 x2) (g11r1 A x1 x2) (g12r0 A x0) (g12r1 A x0) (g13r0 A x0) (g13r1 A x0) (g8r0 A x0) (g8r1 A x0) (g8r2 A x0) (g9r0 A x0) (g9r1 A x0) (g9r2 A x0) (g12r2 A x0) (g12r3 A x0) (g12r4 A x0) (g12r5 A x0) (g13r2 A x0) (g13r3 A x0) (g13r4 A x0) (g13r5 A x0)
            | false => none
          | false => none
        | false => none
      | false => none
    | false => none
  | false => none
def g3 {R : Type} (A : Ar) (n : Nat) (kk : AV → Heap → Option R) (a : List Nat) (b : Int) (c : List Nat) : Option R :=
  match g7ok A with
  | true => match !(g7r0 A) with
    | true => kk (bO false) []
    | false => g3J4 A n kk  a b c (g7r0 A)
  | false => none
section
variable {R : Type} {A : Ar} {n : Nat} {kk : AV → Heap → Option R} {tb : Nat → List Bool → St → Option R} (st : Stp (g3N A kk) tb)
include st
theorem g3J15_go {lg3L13 : Bool → Int → Bool → List Nat → Int → List Nat → Int → Nat → Int → Nat → Int → Int → Int → List Nat → List Nat → Int → List Nat → List Nat → Nat → List Int → List (List Nat) → List (List Nat) → Nat → List Int → List (List Nat) → List (List Nat) → Option R} (hg3L13 : ∀ (x0 : Bool) (x1 : Int) (x2 : Bool) (x3 : List Nat) (x4 : Int) (x5 : List Nat) (x6 : Int) (x7 : Nat) (x8 : Int) (x9 : Nat) (x10 x11 x12 : Int) (x13 x14 : List Nat) (x15 : Int) (x16 x17 : List Nat) (x18 : Nat) (x19 : List Int) (x20 : List (List Nat)) (x21 : List (List Nat)) (x22 : Nat) (x23 : List Int) (x24 : List (List Nat)) (x25 : List (List Nat)), Prs (fun k => tb k (pth 32756) (g3L13s x0 x1 x2 x3 x4 x5 x6 x7 x8 x9 x10 x11 x12 x13 x14 x15 x16 x17 x18 x19 x20 x21 x22 x23 x24 x25)) (lg3L13 x0 x1 x2 x3 x4 x5 x6 x7 x8 x9 x10 x11 x12 x13 x14 x15 x16 x17 x18 x19 x20 x21 x22 x23 x24 x25)) {x0 : Bool} {x1 : Int} {x2 : Bool} {x3 : List Nat} {x4 : Int} {x5 : List Nat} {x6 : Int} {x7 : Nat} {x8 : Int} {x9 : Nat} {x10 : Int} {x11 : Int} {x12 : Int} {x13 : List Nat} {x14 : List Nat} {x15 : Int} {x16 : List Nat} {x17 : List Nat} {x18 : Nat} {x19 : List Int} {x20 : List (List Nat)} {x21 : List (List Nat)} {x22 : Nat} {x23 : List Int} {x24 : List (List Nat)} {x25 : List (List Nat)} : Prs (fun k => tb k (pth 65513) (g3J15s x0 x1 x2 x3 x4 x5 x6 x7 x8 x9 x10 x11 x12 x13 x14 x15 x16 x17 x18 x19 x20 x21 x22 x23 x24 x25)) (g3J15 A n kk lg3L13 x0 x1 x2 x3 x4 x5 x6 x7 x8 x9 x10 x11 x12 x13 x14 x15 x16 x17 x18 x19 x20 x21 x22 x23 x24 x25) := by
  unfold g3J15
  exact st.g (pc (SxP14hpi _ pn (SxP14hpi _ (SxP14hpi _ pn (SxP14hpi _ (SxP14hpi _ (pf _) (SxP14hpi _ pn (SxP14hpi _ (SxP14hpi _ pn (SxP14hpi _ (SxP14hpi _ (pf _) (SxP14hpi _ pn (SxP14hpi _ (SxP14hpi _ pn (SxP14hpi _ (SxP14hpi _ (pf _) (hg3L13 _ _ _ _ _ _ _ _ _ _ _ _ _ _ _ _ _ _ _ _ _ _ _ _ _ _)) pn)) pn))) pn)) pn))) pn)) pn)) (by kernel_rfl))
theorem g3J17_go {x0 : Bool} {x1 : Int} {x2 : Bool} {x3 : List Nat} {x4 : Int} {x5 : List Nat} {x6 : Int} {x7 : Int} {x8 : Int} {x9 : Int} {x10 : List Nat} {x11 : List Nat} {x12 : Int} {x13 : List Nat} {x14 : List Nat} : Prs (fun k => tb k (pth 4095) (g3J17s x0 x1 x2 x3 x4 x5 x6 x7 x8 x9 x10 x11 x12 x13 x14)) (g3J17 A n kk x0 x1 x2 x3 x4 x5 x6 x7 x8 x9 x10 x11 x12 x13 x14) := by
  unfold g3J17
  exact st.g (pc (SxP14hpi _ (SxP14hpi _ (SxP14hpi _ (SxP14hpi _ (SxP14hpi _ (SxP14hpi _ (SxP14hpi _ (SxP14hpi _ (pf _) (pf _)) (pf _)) (SxP14hpi _ (SxP14hpi _ (SxP14hpi _ (SxP14hpi _ (pf _) (pf _)) (pf _)) (pf _)) (pf _))) (SxP14hpi _ (SxP14hpi _ (SxP14hpi _ (SxP14hpi _ (pf _) (pf _)) (pf _)) (pf _)) (pf _))) (pf _)) (pf _)) (pf _)) (pf _)) (by kernel_rfl))
theorem g3L13_go (m : Nat) : ∀ (x0 : Bool) (x1 : Int) (x2 : Bool) (x3 : List Nat) (x4 : Int) (x5 : List Nat) (x6 : Int) (x7 : Nat) (x8 : Int) (x9 : Nat) (x10 x11 x12 : Int) (x13 x14 : List Nat) (x15 : Int) (x16 x17 : List Nat) (x18 : Nat) (x19 : List Int) (x20 : List (List Nat)) (x21 : List (List Nat)) (x22 : Nat) (x23 : List Int) (x24 : List (List Nat)) (x25 : List (List Nat)), Prs (fun k => tb k (pth 32756) (g3L13s x0 x1 x2 x3 x4 x5 x6 x7 x8 x9 x10 x11 x12 x13 x14 x15 x16 x17 x18 x19 x20 x21 x22 x23 x24 x25)) (g3L13 A n kk m x0 x1 x2 x3 x4 x5 x6 x7 x8 x9 x10 x11 x12 x13 x14 x15 x16 x17 x18 x19 x20 x21 x22 x23 x24 x25) := by
  induction m with
  | zero => intro x0 x1 x2 x3 x4 x5 x6 x7 x8 x9 x10 x11 x12 x13 x14 x15 x16 x17 x18 x19 x20 x21 x22 x23 x24 x25; exact pn0
  | succ m ih =>
    intro x0 x1 x2 x3 x4 x5 x6 x7 x8 x9 x10 x11 x12 x13 x14 x15 x16 x17 x18 x19 x20 x21 x22 x23 x24 x25; rw [g3L13]
    exact st.g (pc (SxP14hpi _ (g3J15_go st ih) (g3J17_go st)) (by kernel_rfl))
theorem g3J12_go {x0 : Bool} {x1 : Int} {x2 : Bool} {x3 : List Nat} {x4 : Int} {x5 : List Nat} {x6 : Int} {x7 : Nat} {x8 : Int} {x9 : Nat} {x10 : Int} {x11 : Int} {x12 : List Nat} {x13 : List Nat} {x14 : Int} {x15 : List Nat} {x16 : List Nat} {x17 : Nat} {x18 : List Int} {x19 : List (List Nat)} {x20 : List (List Nat)} {x21 : Nat} {x22 : List Int} {x23 : List (List Nat)} {x24 : List (List Nat)} : Prs (fun k => tb k (pth 2047) (g3J12s x0 x1 x2 x3 x4 x5 x6 x7 x8 x9 x10 x11 x12 x13 x14 x15 x16 x17 x18 x19 x20 x21 x22 x23 x24)) (g3J12 A n kk x0 x1 x2 x3 x4 x5 x6 x7 x8 x9 x10 x11 x12 x13 x14 x15 x16 x17 x18 x19 x20 x21 x22 x23 x24) := by
  unfold g3J12
  exact st.g (pc (g3L13_go st n _ _ _ _ _ _ _ _ _ _ _ _ _ _ _ _ _ _ _ _ _ _ _ _ _ _) (by kernel_rfl))
theorem g3J4_go {x0 : List Nat} {x1 : Int} {x2 : List Nat} {x3 : Bool} : Prs (fun k => tb k (pth 15) (g3J4s x0 x1 x2 x3)) (g3J4 A n kk x0 x1 x2 x3) := by
  unfold g3J4
  exact st.g (pc (SxP14hpi _ (SxP14hpi _ (SxP14hpi _ (SxP14hpi _ (SxP14hpi _ (SxP14hpi _ (SxP14hpi _ (pf _) (g3J12_go st)) pn) pn) pn) pn) pn) pn) (by kernel_rfl))
theorem g3_go {a : List Nat} {b : Int} {c : List Nat} : Prs (fun k => funN A gtys (g3O A) g3an g3cut (bodyOf Try.f3) g3res [(tS a), (i6 b), (tS c)] [] kk (tb k)) (g3 A n kk a b c) := by
  unfold g3
  exact pc (SxP14hpi _ (SxP14hpi _ (pf _) (g3J4_go st)) pn) (by kernel_rfl)
end
def g3is (o : Option AV) : Bool := match o with
  | some (.v (.cell (.bool _))) => true
  | _ => false
def g3g0 (o : Option AV) : Bool := match o with
  | some (.v (.cell (.bool x))) => x
  | _ => false
theorem g3is_spec {o : Option AV} (h : g3is o = true) : o = some (.v (.cell (.bool (g3g0 o)))) := by
  unfold g3is at h
  split at h
  · rfl
  · cases h
def g3v (A : Ar) (a : List Nat) (b : Int) (c : List Nat) : Option AV := g3 A (100000) (fun v _ => some v) a b c
def g3ok (A : Ar) (a : List Nat) (b : Int) (c : List Nat) : Bool := g3is (g3v A a b c)
def g3r0 (A : Ar) (a : List Nat) (b : Int) (c : List Nat) : Bool := g3g0 (g3v A a b c)
theorem g3ok_spec {A : Ar} {a b c} (h : g3ok A a b c = true) : g3v A a b c = some (.v (.cell (.bool (g3r0 A a b c)))) := g3is_spec h
def g3o (A : Ar) (args : List AV) : Option (Bool × AV) := match args with
  | [.v (.cell (.str a)), .v (.cell (.int .i64 b)), .v (.cell (.str c))] => some (g3ok A a b c, .v (.cell (.bool (g3r0 A a b c))))
  | _ => none
theorem g3o_sound : ∀ args v, g3o realA args = some (true, v) → Fn1 Try.prog 3 args v := by
  intro args v h
  unfold g3o at h
  split at h
  · rename_i a b c
    simp only [Option.some.injEq, Prod.mk.injEq] at h
    obtain ⟨hc, h⟩ := h
    subst h
    · skip
      exact fn1_ofG mixed gtysOK g3O_sound g3O_det (an := g3an) (cut := g3cut) Try.func3 (c := bodyOf Try.f3) rfl (by kernel_rfl) Try.call3 (Nat.le_of_ble_eq_true rfl) (fun b => rfl) (fun _ => (show g3v realA a b c = _ from g3ok_spec hc)) fun _ st => g3_go st
  · cases h
attribute [local irreducible] g3ok g3r0
end Go.Sx
namespace Go.Sx
set_option linter.unusedSectionVars false
set_option linter.unusedVariables false
def refTail (s : List Nat) (n at_ : Nat) : Option (Nat × List Nat × List Nat) :=
  if s.length < at_ + n then none else some (s.getD 0 0, (s.take (at_ + n)).drop at_, s.drop (at_ + n))
def refBig (s : List Nat) (n m : Nat) : Option (Nat × List Nat × List Nat) :=
  if n < 128 then none else if 1 < m ∧ n < 2 ^ (8 * (m - 1)) then none else refTail s n (2 + m)
def nextS (s : List Nat) : Option (Nat × List Nat × List Nat) :=
  if s.length < 2 then none else if s.getD 0 0 % 32 = 31 then none
  else if s.getD 1 0 < 128 then refTail s (s.getD 1 0) 2
  else if s.getD 1 0 - 128 < 1 then none else if 3 < s.getD 1 0 - 128 then none else if s.length < 2 + (s.getD 1 0 - 128) then none
  else refBig s (bval ((s.drop 2).take (s.getD 1 0 - 128)) 0) (s.getD 1 0 - 128)
theorem tail_ref {s : List Nat} {n z : Nat} (h : 1 + z ≤ s.length) (he : lenB n = (s.take (1 + z)).drop 1) : tailP s n z = refTail s n (1 + z) := by
  unfold tailP refTail
  by_cases h1 : s.length < 1 + z + n
  · rw [if_neg (fun q => by have := q.2; omega), if_pos h1]
  · rw [if_pos ⟨he, by omega⟩, if_neg h1]
    rw [List.drop_take, List.drop_drop, Nat.add_sub_cancel_left]
theorem tail_no {s : List Nat} {n z : Nat} (he : lenB n ≠ (s.take (1 + z)).drop 1) : tailP s n z = none := if_neg fun q => he q.1
theorem nextS_eq {s : List Nat} (hs : ∀ x ∈ s, x < 256) : nextP s = nextS s := by
  unfold nextP nextS
  by_cases h1 : s.length < 2
  · rw [if_pos h1, if_pos h1]
  · rw [if_neg h1, if_neg h1]
    by_cases h2 : s.getD 0 0 % 32 = 31
    · rw [if_pos h2, if_pos h2]
    · rw [if_neg h2, if_neg h2]
      obtain ⟨a, c, r, rfl⟩ : ∃ a c r, s = a :: c :: r := by
        match s, h1 with
        | a :: c :: r, _ => exact ⟨a, c, r, rfl⟩
        | [a], h => simp at h
        | [], h => simp at h
      have hc : c < 256 := hs c (by simp)
      have g1 : (a :: c :: r).getD 1 0 = c := rfl
      rw [g1]
      by_cases h3 : c < 128
      · rw [if_pos h3, if_pos h3]
        exact tail_ref (by simp) (by rw [lenB_1 h3]; simp)
      · rw [if_neg h3, if_neg h3]
        by_cases h4 : 132 ≤ c
        · rw [if_pos h4, if_neg (by omega), if_pos (by omega)]
        · rw [if_neg h4]
          by_cases h0 : c = 128
          · subst h0
            rw [if_neg (by simp), if_pos (by omega)]
            refine tail_no ?_
            simp [bval, lenB]
          · rw [if_neg (by omega : ¬ c - 128 < 1), if_neg (by omega : ¬ 3 < c - 128)]
            by_cases h5 : (a :: c :: r).length ≤ c - 127
            · rw [if_pos h5, if_pos (by omega)]
            · rw [if_neg h5, if_neg (by omega)]
              unfold refBig
              obtain rfl | rfl | rfl : c = 129 ∨ c = 130 ∨ c = 131 := by omega
              · obtain ⟨x, r, rfl⟩ : ∃ x q, r = x :: q := by
                  match r, h5 with
                  | x :: q, _ => exact ⟨x, q, rfl⟩
                  | [], h => simp at h
                have hx : x < 256 := hs x (by simp)
                have e1 : bval (((a :: 129 :: x :: r).take (1 + (129 - 127))).drop 2) 0 = x := by simp [bval]
                have e2 : bval (((a :: 129 :: x :: r).drop 2).take (129 - 128)) 0 = x := by simp [bval]
                rw [e1, e2]
                by_cases h6 : x < 128
                · rw [if_pos h6]
                  exact tail_no (by rw [lenB_1 h6]; simp)
                · rw [if_neg h6, if_neg (by omega)]
                  exact tail_ref (by simp) (by rw [lenB_2 (by omega) hx]; simp)
              · obtain ⟨x, y, r, rfl⟩ : ∃ x y q, r = x :: y :: q := by
                  match r, h5 with
                  | x :: y :: q, _ => exact ⟨x, y, q, rfl⟩
                  | [x], h => simp at h
                  | [], h => simp at h
                have hx : x < 256 := hs x (by simp)
                have hy : y < 256 := hs y (by simp)
                have e1 : bval (((a :: 130 :: x :: y :: r).take (1 + (130 - 127))).drop 2) 0 = x * 256 + y := by simp [bval]
                have e2 : bval (((a :: 130 :: x :: y :: r).drop 2).take (130 - 128)) 0 = x * 256 + y := by simp [bval]
                rw [e1, e2]
                by_cases h6 : x * 256 + y < 128
                · rw [if_pos h6]
                  exact tail_no (by rw [lenB_1 h6]; simp)
                · rw [if_neg h6]
                  by_cases h7 : x * 256 + y < 256
                  · rw [if_pos ⟨by omega, h7⟩]
                    exact tail_no (by rw [lenB_2 (by omega) h7]; simp)
                  · rw [if_neg (fun q => h7 q.2)]
                    exact tail_ref (by simp) (by rw [lenB_3 (by omega) (by omega)]; simp; omega)
              · obtain ⟨x, y, z, r, rfl⟩ : ∃ x y z q, r = x :: y :: z :: q := by
                  match r, h5 with
                  | x :: y :: z :: q, _ => exact ⟨x, y, z, q, rfl⟩
                  | [x, y], h => simp at h
                  | [x], h => simp at h
                  | [], h => simp at h
                have hx : x < 256 := hs x (by simp)
                have hy : y < 256 := hs y (by simp)
                have hz : z < 256 := hs z (by simp)
                have e1 : bval (((a :: 131 :: x :: y :: z :: r).take (1 + (131 - 127))).drop 2) 0 = (x * 256 + y) * 256 + z := by simp [bval]
                have e2 : bval (((a :: 131 :: x :: y :: z :: r).drop 2).take (131 - 128)) 0 = (x * 256 + y) * 256 + z := by simp [bval]
                rw [e1, e2]
                by_cases h6 : (x * 256 + y) * 256 + z < 128
                · rw [if_pos h6]
                  exact tail_no (by rw [lenB_1 h6]; simp)
                · rw [if_neg h6]
                  by_cases h7 : (x * 256 + y) * 256 + z < 65536
                  · rw [if_pos ⟨by omega, h7⟩]
                    by_cases h8 : (x * 256 + y) * 256 + z < 256
                    · exact tail_no (by rw [lenB_2 (by omega) h8]; simp)
                    · exact tail_no (by rw [lenB_3 (by omega) h7]; simp)
                  · rw [if_neg (fun q => h7 q.2)]
                    exact tail_ref (by simp) (by rw [lenB_4 (by omega) (by omega)]; simp; omega)
end Go.Sx
namespace Go.Sx
set_option linter.unusedSectionVars false
set_option linter.unusedVariables false
def nxr : Option (Nat × List Nat × List Nat) → AV
  | none => .tup [.agg [.one (.int .i64 0), .one (.str []), .one (.str [])], .cell (.bool false)]
  | some (t, x, y) => .tup [.agg [.one (.int .i64 (t : Int)), .one (.str x), .one (.str y)], .cell (.bool true)]
theorem f14_17 (N : Nat) (s : List Nat) (n at_ : Nat) (h2 : 2 ≤ s.length) (hn : n < 140737488355328) (ha : at_ < 100) (hl : s.length < 140737488355328) : g9J17 realA N (fun v _ => some v) s (n : Int) (at_ : Int) 0 [] [] = some (nxr (refTail s n at_)) := by
  unfold g9J17
  have e : realA.ib .add .i64 (at_ : Int) (n : Int) = ((at_ + n : Nat) : Int) := by rw [ar_add (by omega)]; omega
  rw [e, ar_ofN, ar_lss]
  unfold refTail
  by_cases h1 : s.length < at_ + n
  · rw [decide_eq_true (by omega), if_pos h1]
    rfl
  · rw [decide_eq_false (by omega), if_neg h1]
    simp only
    unfold g9J19
    have hb0 : Nat.blt 0 s.length = true := by rw [Nat.blt_eq]; omega
    rw [hb0, e, ar_negN, ar_negN, ar_toNN, ar_toNN, ar_le, decide_eq_true (by omega), ar_le, decide_eq_true (by omega), List.take_length]
    rfl
theorem f14_14 (N : Nat) (s : List Nat) (n m : Nat) (h2 : 2 ≤ s.length) (hn : n < 140737488355328) (hm : 1 ≤ m ∧ m ≤ 3) (hl : s.length < 140737488355328) : g9J14 realA N (fun v _ => some v) s (n : Int) (m : Int) 0 [] [] = some (nxr (refBig s n m)) := by
  unfold g9J14 refBig
  rw [ar_lss]
  by_cases h1 : n < 128
  · rw [decide_eq_true (by omega), if_pos h1]
    rfl
  · rw [decide_eq_false (by omega), if_neg h1]
    simp only
    have e : realA.ib .add .i64 2 (m : Int) = ((2 + m : Nat) : Int) := by rw [ar_add (by omega)]; omega
    have e2 : realA.ib .mul .i64 8 (realA.ib .sub .i64 (m : Int) 1) = ((8 * (m - 1) : Nat) : Int) := by
      rw [ar_sub (by omega), ar_mul (by omega)]; omega
    rw [e, e2, ar_gtr, ar_negN, ar_toNN]
    by_cases h3 : 1 < m
    · rw [decide_eq_true (by omega)]
      simp only
      have e3 : realA.ish .shl .i64 1 (8 * (m - 1)) = ((2 ^ (8 * (m - 1)) : Nat) : Int) := by
        obtain rfl | rfl : m = 2 ∨ m = 3 := by omega
        · rfl
        · rfl
      rw [e3, ar_lss]
      by_cases h4 : n < 2 ^ (8 * (m - 1))
      · rw [decide_eq_true (Int.ofNat_lt.2 h4), if_pos ⟨h3, h4⟩]
        rfl
      · rw [decide_eq_false (fun q => h4 (Int.ofNat_lt.1 q)), if_neg (fun q => h4 q.2)]
        exact f14_17 N s n (2 + m) h2 hn (by omega) hl
    · rw [decide_eq_false (by omega), if_neg (fun q => h3 q.1)]
      exact f14_17 N s n (2 + m) h2 hn (by omega) hl
theorem f14_11 (N : Nat) (s : List Nat) (M : Nat) (hs : ∀ x ∈ s, x < 256) (hM : 1 ≤ M ∧ M ≤ 3) (h2 : 2 + M ≤ s.length) (hl : s.length < 140737488355328) : ∀ (d i m : Nat), i + d = M → d + 1 ≤ m → g9L11 realA N (fun v _ => some v) m s (bval ((s.drop 2).take i) 0 : Nat) (M : Nat) (i : Nat) 0 [] [] = some (nxr (refBig s (bval ((s.drop 2).take M) 0) M)) := by
  intro d
  induction d with
  | zero =>
    intro i m h1 hm
    obtain ⟨m, rfl⟩ : ∃ m', m = m' + 1 := ⟨m - 1, by omega⟩
    rw [g9L11, ar_lss, decide_eq_false (by omega)]
    simp only
    have : i = M := by omega
    subst this
    refine f14_14 N s _ i (by omega) ?_ hM hl
    have h4 := bval_lt ((s.drop 2).take i) 0 (fun x hx => hs x (List.mem_of_mem_drop (List.mem_of_mem_take hx)))
    have h5 : ((s.drop 2).take i).length ≤ 3 := by rw [List.length_take]; omega
    have h6 : 256 ^ ((s.drop 2).take i).length ≤ 256 ^ 3 := Nat.pow_le_pow_right (by decide) h5
    omega
  | succ d ih =>
    intro i m h1 hm
    obtain ⟨m, rfl⟩ : ∃ m', m = m' + 1 := ⟨m - 1, by omega⟩
    rw [g9L11, ar_lss, decide_eq_true (by omega)]
    simp only
    unfold g9J13
    have hb : s.getD (2 + i) 0 < 256 := getD_lt hs (2 + i)
    have ht := bval_take (l := s.drop 2) (fun x hx => hs x (List.mem_of_mem_drop hx)) (i := i) (by omega)
    have e : realA.ib .add .i64 2 (i : Int) = ((2 + i : Nat) : Int) := by rw [ar_add (by omega)]; omega
    have e2 : realA.ib .add .i64 (realA.ib .mul .i64 ((bval ((s.drop 2).take i) 0 : Nat) : Int) 256) (realA.ofN (s.getD (2 + i) 0)) = ((bval ((s.drop 2).take i) 0 * 256 + s.getD (2 + i) 0 : Nat) : Int) := by
      rw [ar_ofN, ar_mul (by omega), ar_add (by omega)]; omega
    rw [e, ar_negN, ar_toNN, ar_lt, decide_eq_true (by omega), e2, ar_add (by omega)]
    simp only
    have := ih (i + 1) m (by omega) (by omega)
    rw [take_snoc (by rw [List.length_drop]; omega), bval_snoc, show (s.drop 2).getD i 0 = s.getD (2 + i) 0 by simp [List.getD_eq_getElem?_getD]] at this
    exact this
theorem f14_next (s : List Nat) (hs : ∀ x ∈ s, x < 256) (hl : s.length < 140737488355328) : g9v realA s = some (nxr (nextS s)) := by
  unfold g9v
  generalize hN : 100000 = N
  unfold g9 nextS
  rw [ar_ofN, ar_lss]
  by_cases h1 : s.length < 2
  · rw [decide_eq_true (by omega), if_pos h1]
    rfl
  · rw [decide_eq_false (by omega), if_neg h1]
    have hb0 : Nat.blt 0 s.length = true := by rw [Nat.blt_eq]; omega
    have hb1 : Nat.blt 1 s.length = true := by rw [Nat.blt_eq]; omega
    simp only [hb0]
    rw [ar_nrem, ar_neql]
    by_cases h2 : s.getD 0 0 % 32 = 31
    · rw [decide_eq_true h2, if_pos h2]
      rfl
    · rw [decide_eq_false h2, if_neg h2]
      simp only
      unfold g9J3
      rw [hb1]
      simp only
      have hc := getD_lt hs 1
      rw [ar_ofN, ar_ofN, ar_geq]
      by_cases h3 : s.getD 1 0 < 128
      · rw [decide_eq_false (by omega), if_pos h3]
        exact f14_17 N s _ 2 (by omega) (by omega) (by omega) hl
      · have e : realA.ib .sub .i64 ((s.getD 1 0 : Nat) : Int) 128 = ((s.getD 1 0 - 128 : Nat) : Int) := by
          rw [ar_sub (by omega)]; omega
        have e2 : realA.ib .add .i64 2 ((s.getD 1 0 - 128 : Nat) : Int) = ((2 + (s.getD 1 0 - 128) : Nat) : Int) := by
          rw [ar_add (by omega)]; omega
        rw [decide_eq_true (by omega), if_neg h3, e, e2, ar_lss, ar_gtr, ar_lss]
        simp only
        by_cases h4 : s.getD 1 0 - 128 < 1
        · rw [decide_eq_true (by omega), if_pos h4]
          rfl
        · rw [decide_eq_false (by omega), if_neg h4]
          simp only
          by_cases h5 : 3 < s.getD 1 0 - 128
          · rw [decide_eq_true (by omega), if_pos h5]
            rfl
          · rw [decide_eq_false (by omega), if_neg h5]
            simp only
            by_cases h6 : s.length < 2 + (s.getD 1 0 - 128)
            · rw [decide_eq_true (by omega), if_pos h6]
              rfl
            · rw [decide_eq_false (by omega), if_neg h6]
              simp only
              unfold g9J9
              exact f14_11 N s (s.getD 1 0 - 128) hs (by omega) (by omega) hl (s.getD 1 0 - 128) 0 N (by omega) (by omega)
theorem f14_wrap (t : Int) (x : List Nat) (hx : x.length < 140737488355328) : g11v realA t x = some (.tup [.cell (.str (wrapB t x).1), .cell (.int .i64 (wrapB t x).2)]) := by
  unfold g11v
  generalize 100000 = N
  unfold g11 wrapB
  rw [ar_lss, ar_gtr]
  by_cases h1 : t < 0
  · rw [decide_eq_true h1, if_pos h1]
  · rw [decide_eq_false h1, if_neg h1]
    simp only
    by_cases h2 : 255 < t
    · rw [decide_eq_true h2, if_pos h2]
    · rw [decide_eq_false h2, if_neg h2]
      simp only
      rw [ar_rem (by omega), ar_eql]
      by_cases h3 : t % 32 = 31
      · rw [decide_eq_true h3, if_pos h3]
      · rw [decide_eq_false h3, if_neg h3]
        simp only
        obtain ⟨n, rfl⟩ : ∃ n : Nat, t = n := ⟨t.toNat, by omega⟩
        unfold g11J3
        rw [ar_ofN, ar_geq]
        by_cases h4 : 16777216 ≤ x.length
        · rw [decide_eq_true (by omega), if_pos h4]
        · rw [decide_eq_false (by omega), if_neg h4]
          simp only
          have e16 : realA.ish .shr .i64 (x.length : Int) 16 = ((x.length / 65536 : Nat) : Int) := by
            rw [ar_shr (by decide)]; show (x.length : Int) / 65536 = _; omega
          have e8 : realA.ish .shr .i64 (x.length : Int) 8 = ((x.length / 256 : Nat) : Int) := by
            rw [ar_shr (by decide)]; show (x.length : Int) / 256 = _; omega
          have en : realA.i2n .u8 (n : Int) = n := by rw [ar_i2nN, Nat.mod_eq_of_lt (by omega)]
          rw [e16, e8, en, ar_i2nN, ar_i2nN, ar_i2nN, ar_geq, ar_geq, ar_geq, ar_eq, decide_eq_true (rfl : 1 = 1)]
          have fin : ∀ l : List Nat, l.length ≤ 10 → g11J14 realA N (fun v _ => some v) x l.length l.length l = some (.tup [.cell (.str (l ++ x)), .cell (.int .i64 0)]) := by
            intro l hl
            unfold g11J14
            rw [List.take_length, ar_le, decide_eq_true (by omega)]
          by_cases h5 : 65536 ≤ x.length
          · rw [decide_eq_true (by omega)]
            simp only
            rw [ar_le, decide_eq_true (by simp)]
            simp only
            refine (fin _ (by simp)).trans ?_
            rw [lenB_4 h5 (by omega), Nat.mod_eq_of_lt (by omega : x.length / 65536 < 256)]
            simp
          · rw [decide_eq_false (by omega)]
            simp only
            by_cases h6 : 256 ≤ x.length
            · rw [decide_eq_true (by omega)]
              simp only
              rw [ar_le, decide_eq_true (by simp)]
              simp only
              refine (fin _ (by simp)).trans ?_
              rw [lenB_3 h6 (by omega), Nat.mod_eq_of_lt (by omega : x.length / 256 < 256)]
              simp
            · rw [decide_eq_false (by omega)]
              simp only
              by_cases h7 : 128 ≤ x.length
              · rw [decide_eq_true (by omega)]
                simp only
                rw [ar_le, decide_eq_true (by simp)]
                simp only
                refine (fin _ (by simp)).trans ?_
                rw [lenB_2 h7 (by omega), Nat.mod_eq_of_lt (by omega : x.length < 256)]
                simp
              · rw [decide_eq_false (by omega)]
                simp only
                rw [ar_le, decide_eq_true (by simp)]
                simp only
                refine (fin _ (by simp)).trans ?_
                rw [lenB_1 (by omega), Nat.mod_eq_of_lt (by omega : x.length < 256)]
                simp
end Go.Sx
namespace Go.Sx
set_option linter.unusedSectionVars false
set_option linter.unusedVariables false
def prt : Nat → List Nat → List Int → List (List Nat) → List (List Nat) → (List Int × List (List Nat) × List (List Nat)) × Int
  | 0, _, _, _, _ => (([], [], []), 0)
  | f + 1, s, a, b, c => if s = [] then ((a, b, c), 0) else match nextP s with
    | none => (([], [], []), 2)
    | some (t, x, y) => if a.length = 100 then (([], [], []), 9) else prt f y (a ++ [(t : Int)]) (b ++ [x]) (c ++ [y])
def pout (ty : Nat) (r : (List Int × List (List Nat) × List (List Nat)) × Int) : AV × Heap :=
  (.tup [.cell (.sl 700 none r.1.1.length 3), .cell (.int .i64 r.2)], [(700, ⟨[.recs r.1.1.length [.ints .i64 r.1.1, .strs r.1.2.1, .strs r.1.2.2]], ty, 2⟩)])
theorem tail_rest {s : List Nat} {n z t : Nat} {x y : List Nat} (h : tailP s n z = some (t, x, y)) : ∃ k, y = s.drop k := by
  unfold tailP at h
  split at h
  · simp only [Option.some.injEq, Prod.mk.injEq] at h
    exact ⟨_, by rw [← h.2.2, List.drop_drop]⟩
  · cases h
theorem next_rest {s : List Nat} {t : Nat} {x y : List Nat} (h : nextP s = some (t, x, y)) : ∃ k, y = s.drop k := by
  unfold nextP at h
  split at h
  · cases h
  · split at h
    · cases h
    · split at h
      · exact tail_rest h
      · split at h
        · cases h
        · split at h
          · cases h
          · exact tail_rest h
theorem g9_ok {s : List Nat} (hs : ∀ x ∈ s, x < 256) (hl : s.length < 140737488355328) : g9ok realA s = true := by
  refine (congrArg g9is (f14_next s hs hl)).trans ?_
  rcases nextS s with _ | ⟨a, b, c⟩ <;> rfl
theorem g9_v {s : List Nat} (hs : ∀ x ∈ s, x < 256) (hl : s.length < 140737488355328) : g9r0 realA s = nx0 (nextP s) ∧ g9r1 realA s = nx1 (nextP s) ∧ g9r2 realA s = nx2 (nextP s) ∧ g9r3 realA s = (nextP s).isSome := by
  unfold g9r0 g9r1 g9r2 g9r3
  rw [f14_next s hs hl, nextS_eq hs]
  rcases nextS s with _ | ⟨a, b, c⟩ <;> exact ⟨rfl, rfl, rfl, rfl⟩
theorem p13 (N : Nat) : ∀ (d m : Nat) (s : List Nat) (a : List Int) (b c : List (List Nat)), a.length + d = 100 → d + 2 ≤ m → (∀ x ∈ s, x < 256) → s.length < 140737488355328 → g13L2 realA N (outH [] none) m s a.length a.length a b c = some (pout 28 (prt (d + 1) s a b c)) := by
  intro d
  induction d with
  | zero =>
    intro m s a b c h1 h2 hs hl
    obtain ⟨m, rfl⟩ : ∃ m', m = m' + 1 := ⟨m - 1, by omega⟩
    rw [g13L2, ar_scne]
    unfold prt
    by_cases he : s = []
    · rw [decide_eq_true he, if_pos he]
      rfl
    · rw [decide_eq_false he, if_neg he]
      simp only [Bool.not_false]
      unfold g13J3
      obtain ⟨e0, e1, e2, e3⟩ := g9_v hs hl
      rw [g9_ok hs hl, e0, e1, e2, e3]
      cases hn : nextP s with
      | none => rfl
      | some p =>
        obtain ⟨t, x, y⟩ := p
        simp only [Option.isSome, Bool.not_true]
        unfold g13J6
        rw [ar_ofN, ar_eql, decide_eq_true (by omega), if_pos (by omega)]
        rfl
  | succ d ih =>
    intro m s a b c h1 h2 hs hl
    obtain ⟨m, rfl⟩ : ∃ m', m = m' + 1 := ⟨m - 1, by omega⟩
    rw [g13L2, ar_scne]
    unfold prt
    by_cases he : s = []
    · rw [decide_eq_true he, if_pos he]
      rfl
    · rw [decide_eq_false he, if_neg he]
      simp only [Bool.not_false]
      unfold g13J3
      obtain ⟨e0, e1, e2, e3⟩ := g9_v hs hl
      rw [g9_ok hs hl, e0, e1, e2, e3]
      cases hn : nextP s with
      | none => rfl
      | some p =>
        obtain ⟨t, x, y⟩ := p
        simp only [Option.isSome, Bool.not_true]
        unfold g13J6
        rw [ar_ofN, ar_eql, decide_eq_false (by omega), if_neg (by omega)]
        simp only [nx0, nx1, nx2]
        unfold g13J8
        rw [ar_eq, decide_eq_true (by omega), ar_le, decide_eq_true (by omega)]
        simp only
        obtain ⟨k, rfl⟩ := next_rest hn
        have := ih m (s.drop k) (a ++ [(t : Int)]) (b ++ [x]) (c ++ [s.drop k]) (by simp; omega) (by omega) (fun z hz => hs z (List.mem_of_mem_drop hz)) (by rw [List.length_drop]; omega)
        rw [List.length_append] at this
        exact this
theorem g13_v {s : List Nat} (hs : ∀ x ∈ s, x < 256) (hl : s.length < 140737488355328) : g13v realA s = some (pout 28 (prt 101 s [] [] [])) := by
  unfold g13v
  generalize hN : 100000 = N
  unfold g13
  exact p13 N 100 N s [] [] [] rfl (by omega) hs hl
theorem b3a_e (t : Int) (x y : List Nat) (e x0 : Int) (n : Nat) (a : List Int) (b c : List (List Nat)) (he : e ≠ 0) : g12b3a_v realA t x y e x0 n n a b c = some (.ret, [(410, ⟨[.one .nils], 35, 1⟩), (411, ⟨[.one (.int .i64 e)], 25, 1⟩), (412, ⟨[.one (.sl 500 none n 3)], 35, 1⟩), (500, ⟨[.recs n [.ints .i64 a, .strs b, .strs c]], 24, 2⟩)]) := by
  unfold g12b3a_v g12b3a_
  rw [ar_neq, decide_eq_false he]
  rfl
theorem b3a_l (t : Int) (x y : List Nat) (x0 : Int) (a : List Int) (b c : List (List Nat)) : g12b3a_v realA t x y 0 x0 100 100 a b c = some (.ret, [(410, ⟨[.one .nils], 35, 1⟩), (411, ⟨[.one (.int .i64 9)], 25, 1⟩), (412, ⟨[.one (.sl 500 none 100 3)], 35, 1⟩), (500, ⟨[.recs 100 [.ints .i64 a, .strs b, .strs c]], 24, 2⟩)]) := rfl
theorem b3a_k (t : Int) (x y : List Nat) (x0 : Int) (n : Nat) (a : List Int) (b c : List (List Nat)) (hn : n < 100) : g12b3a_v realA t x y 0 x0 n n a b c = some (.normal, [(410, ⟨[.one .nils], 35, 1⟩), (411, ⟨[.one (.int .i64 x0)], 25, 1⟩), (412, ⟨[.one (.sl 500 none (n + 1) 3)], 35, 1⟩), (500, ⟨[.recs (n + 1) [.ints .i64 (a ++ [t]), .strs (b ++ [x]), .strs (c ++ [y])]], 24, 2⟩)]) := by
  unfold g12b3a_v g12b3a_
  rw [ar_neq, decide_eq_true (rfl : (0 : Int) = 0)]
  simp only [Bool.not_true]
  unfold g12b3a_J7
  rw [ar_ofN, ar_eql, decide_eq_false (by omega)]
  simp only
  unfold g12b3a_J9
  rw [ar_eq, decide_eq_true (by omega), ar_le, decide_eq_true (by omega)]
theorem b3_e (t : Int) (x y : List Nat) (e x0 : Int) (he : e ≠ 0) : g12b3v realA t x y e x0 = some (.ret, [(410, ⟨[.one .nils], 35, 1⟩), (411, ⟨[.one (.int .i64 e)], 25, 1⟩), (412, ⟨[.one .nils], 35, 1⟩)]) := by
  unfold g12b3v g12b3
  rw [ar_neq, decide_eq_false he]
  rfl
theorem b3_k (t : Int) (x y : List Nat) (x0 : Int) : g12b3v realA t x y 0 x0 = some (.normal, [(410, ⟨[.one .nils], 35, 1⟩), (411, ⟨[.one (.int .i64 x0)], 25, 1⟩), (412, ⟨[.one (.sl 10003 none 1 3)], 35, 1⟩), (10003, ⟨[.recs 1 [.ints .i64 [t], .strs [x], .strs [y]]], 24, 2⟩)]) := rfl
end Go.Sx
namespace Go.Sx
set_option linter.unusedSectionVars false
set_option linter.unusedVariables false
abbrev K14 : AV → Heap → Option Heap := fun _ h => some (pick h [410, 411, 412, 413, 448, 500, 10003])
def okH (id : Nat) (x0 : Int) (r : List Int × List (List Nat) × List (List Nat)) : Heap := [(410, ⟨[.one .nils], 35, 1⟩), (411, ⟨[.one (.int .i64 x0)], 25, 1⟩), (412, ⟨[.one (.sl id none r.1.length 3)], 35, 1⟩), (413, ⟨[.one (.str [])], 9, 1⟩), (448, ⟨[], 0, 0⟩), (id, ⟨[.recs r.1.length [.ints .i64 r.1, .strs r.2.1, .strs r.2.2]], 24, 2⟩)]
def errH (e : Int) (n : Nat) (s : List Nat) (z : Nat) (a : List Int) (b c : List (List Nat)) : Heap := [(410, ⟨[.one .nils], 35, 1⟩), (411, ⟨[.one (.int .i64 e)], 25, 1⟩), (412, ⟨[.one (.sl 500 none n 3)], 35, 1⟩), (413, ⟨[.one (.str s)], 9, 1⟩), (448, ⟨[], 1, 0⟩), (500, ⟨[.recs z [.ints .i64 a, .strs b, .strs c]], 24, 2⟩)]
def Ends (x0 : Int) (r : (List Int × List (List Nat) × List (List Nat)) × Int) (o : Option Heap) : Prop := (r.2 = 0 ∧ o = some (okH 500 x0 r.1)) ∨ (r.2 ≠ 0 ∧ r.1 = ([], [], []) ∧ ∃ n s z a b c, o = some (errH r.2 n s z a b c))
theorem j1a_none (N : Nat) (f : Int → Nat → List Nat → Nat → List Int → List (List Nat) → List (List Nat) → Option Heap) (x0 : Int) (n : Nat) (s : List Nat) (a : List Int) (b c : List (List Nat)) (hs : ∀ x ∈ s, x < 256) (hl : s.length < 140737488355328) (hn : nextP s = none) : g12i3J1a realA N K14 f x0 n s n a b c = some (errH 2 n s n a b c) := by
  unfold g12i3J1a
  rw [next_ok hs hl, next_0 hs hl, next_1 hs hl, next_2 hs hl, next_3 hs hl, hn]
  simp only [nx0, nx1, nx2, nx3]
  have hv := b3a_e 0 [] [] 2 x0 n a b c (by decide)
  simp only [g12b3a_c0, g12b3a_c1, g12b3a_r1_0, g12b3a_r1_1, g12b3a_r1_2, g12b3a_r1_3, g12b3a_r1_4, g12b3a_r1_5, hv]
  rfl
theorem j1a_many (N : Nat) (f : Int → Nat → List Nat → Nat → List Int → List (List Nat) → List (List Nat) → Option Heap) (x0 : Int) (s : List Nat) (a : List Int) (b c : List (List Nat)) (hs : ∀ x ∈ s, x < 256) (hl : s.length < 140737488355328) {t : Nat} {x y : List Nat} (hn : nextP s = some (t, x, y)) : g12i3J1a realA N K14 f x0 100 s 100 a b c = some (errH 9 100 s 100 a b c) := by
  unfold g12i3J1a
  rw [next_ok hs hl, next_0 hs hl, next_1 hs hl, next_2 hs hl, next_3 hs hl, hn]
  simp only [nx0, nx1, nx2, nx3]
  have hv := b3a_l (t : Int) x y x0 a b c
  simp only [g12b3a_c0, g12b3a_c1, g12b3a_r1_0, g12b3a_r1_1, g12b3a_r1_2, g12b3a_r1_3, g12b3a_r1_4, g12b3a_r1_5, hv]
  rfl
theorem j1a_some (N : Nat) (f : Int → Nat → List Nat → Nat → List Int → List (List Nat) → List (List Nat) → Option Heap) (x0 : Int) (n : Nat) (s : List Nat) (a : List Int) (b c : List (List Nat)) (hs : ∀ x ∈ s, x < 256) (hl : s.length < 140737488355328) {t : Nat} {x y : List Nat} (hn : nextP s = some (t, x, y)) (h : n < 100) : g12i3J1a realA N K14 f x0 n s n a b c = f x0 (n + 1) y (n + 1) (a ++ [(t : Int)]) (b ++ [x]) (c ++ [y]) := by
  unfold g12i3J1a
  rw [next_ok hs hl, next_0 hs hl, next_1 hs hl, next_2 hs hl, next_3 hs hl, hn]
  simp only [nx0, nx1, nx2, nx3]
  have hv := b3a_k (t : Int) x y x0 n a b c h
  simp only [g12b3a_c0, g12b3a_c1, g12b3a_r0_0, g12b3a_r0_1, g12b3a_r0_2, g12b3a_r0_3, g12b3a_r0_4, g12b3a_r0_5, hv]
  rw [ar_neq, decide_eq_true (rfl : (0 : Int) = 0)]
  rfl
theorem l0b (N : Nat) : ∀ (d m : Nat) (s : List Nat) (x0 : Int) (a : List Int) (b c : List (List Nat)), a.length + d = 100 → d + 2 ≤ m → (∀ x ∈ s, x < 256) → s.length < 140737488355328 → Ends x0 (prt (d + 1) s a b c) (g12i3L0b realA N K14 m x0 a.length s a.length a b c) := by
  intro d
  induction d with
  | zero =>
    intro m s x0 a b c h1 h2 hs hl
    obtain ⟨m, rfl⟩ : ∃ m', m = m' + 1 := ⟨m - 1, by omega⟩
    rw [g12i3L0b, ar_scne]
    unfold prt
    by_cases he : s = []
    · subst he
      rw [decide_eq_true rfl, if_pos rfl]
      exact .inl ⟨rfl, rfl⟩
    · rw [decide_eq_false he, if_neg he]
      simp only [Bool.not_false]
      cases hn : nextP s with
      | none => exact .inr ⟨by simp, rfl, _, _, _, _, _, _, j1a_none N _ x0 _ s a b c hs hl hn⟩
      | some p =>
        obtain ⟨t, x, y⟩ := p
        have ha : a.length = 100 := by omega
        simp only [ha, if_pos]
        exact .inr ⟨by simp, rfl, _, _, _, _, _, _, j1a_many N _ x0 s a b c hs hl hn⟩
  | succ d ih =>
    intro m s x0 a b c h1 h2 hs hl
    obtain ⟨m, rfl⟩ : ∃ m', m = m' + 1 := ⟨m - 1, by omega⟩
    rw [g12i3L0b, ar_scne]
    unfold prt
    by_cases he : s = []
    · subst he
      rw [decide_eq_true rfl, if_pos rfl]
      exact .inl ⟨rfl, rfl⟩
    · rw [decide_eq_false he, if_neg he]
      simp only [Bool.not_false]
      cases hn : nextP s with
      | none => exact .inr ⟨by simp, rfl, _, _, _, _, _, _, j1a_none N _ x0 _ s a b c hs hl hn⟩
      | some p =>
        obtain ⟨t, x, y⟩ := p
        simp only
        rw [if_neg (by omega), j1a_some N _ x0 _ s a b c hs hl hn (by omega)]
        obtain ⟨k, rfl⟩ := next_rest hn
        have := ih m (s.drop k) x0 (a ++ [(t : Int)]) (b ++ [x]) (c ++ [s.drop k]) (by simp; omega) (by omega) (fun z hz => hs z (List.mem_of_mem_drop hz)) (by rw [List.length_drop]; omega)
        rw [List.length_append] at this
        exact this
end Go.Sx
namespace Go.Sx
set_option linter.unusedSectionVars false
set_option linter.unusedVariables false
theorem g20_v (s : List Nat) : g20ok realA s = true ∧ g20r0 realA s = s := ⟨rfl, rfl⟩
def okN (x0 : Int) : Heap := [(410, ⟨[.one .nils], 35, 1⟩), (411, ⟨[.one (.int .i64 x0)], 25, 1⟩), (412, ⟨[.one .nils], 35, 1⟩), (413, ⟨[.one (.str [])], 9, 1⟩), (448, ⟨[], 0, 0⟩)]
def errN (e : Int) (s : List Nat) : Heap := [(410, ⟨[.one .nils], 35, 1⟩), (411, ⟨[.one (.int .i64 e)], 25, 1⟩), (412, ⟨[.one .nils], 35, 1⟩), (413, ⟨[.one (.str s)], 9, 1⟩), (448, ⟨[], 1, 0⟩)]
theorem l0a (N m : Nat) (s : List Nat) (x0 : Int) (a : List Int) (b c : List (List Nat)) (h1 : a.length = 1) (h2 : 110 ≤ m) (hs : ∀ x ∈ s, x < 256) (hl : s.length < 140737488355328) : Ends x0 (prt (99 + 1) s a b c) (g12i3L0a realA N K14 m x0 a.length s a.length a b c) ∨ (s = [] ∧ g12i3L0a realA N K14 m x0 a.length s a.length a b c = some (okH 10003 x0 (a, b, c))) := by
  obtain ⟨m, rfl⟩ : ∃ m', m = m' + 1 := ⟨m - 1, by omega⟩
  have hb := l0b N 99 (m + 1) s x0 a b c (by omega) (by omega) hs hl
  by_cases he : s = []
  · subst he
    refine .inr ⟨rfl, ?_⟩
    rw [g12i3L0a, ar_scne, decide_eq_true rfl]
    rfl
  · refine .inl ?_
    rw [g12i3L0b, ar_scne, decide_eq_false he] at hb
    rw [g12i3L0a, ar_scne, decide_eq_false he]
    exact hb
theorem j1_none (N : Nat) (f : Int → Nat → List Nat → Nat → List Int → List (List Nat) → List (List Nat) → Option Heap) (x0 : Int) (s : List Nat) (hs : ∀ x ∈ s, x < 256) (hl : s.length < 140737488355328) (hn : nextP s = none) : g12i3J1 realA N K14 f x0 s = some (errN 2 s) := by
  unfold g12i3J1
  rw [next_ok hs hl, next_0 hs hl, next_1 hs hl, next_2 hs hl, next_3 hs hl, hn]
  simp only [nx0, nx1, nx2, nx3]
  have hv := b3_e 0 [] [] 2 x0 (by decide)
  simp only [g12b3c0, g12b3c1, g12b3r1_0, hv]
  rfl
theorem j1_some (N : Nat) (f : Int → Nat → List Nat → Nat → List Int → List (List Nat) → List (List Nat) → Option Heap) (x0 : Int) (s : List Nat) (hs : ∀ x ∈ s, x < 256) (hl : s.length < 140737488355328) {t : Nat} {x y : List Nat} (hn : nextP s = some (t, x, y)) : g12i3J1 realA N K14 f x0 s = f x0 1 y 1 [(t : Int)] [x] [y] := by
  unfold g12i3J1
  rw [next_ok hs hl, next_0 hs hl, next_1 hs hl, next_2 hs hl, next_3 hs hl, hn]
  simp only [nx0, nx1, nx2, nx3]
  have hv := b3_k (t : Int) x y x0
  simp only [g12b3c0, g12b3c1, g12b3r0_0, g12b3r0_1, g12b3r0_2, g12b3r0_3, g12b3r0_4, g12b3r0_5, hv]
  rw [ar_neq, decide_eq_true (rfl : (0 : Int) = 0)]
  rfl
theorem it_v {s : List Nat} (hs : ∀ x ∈ s, x < 256) (hl : s.length < 140737488355328) : (prt 101 s [] [] [] = (([], [], []), 0) ∧ g12i3v realA 0 s = some (okN 0)) ∨ (∃ e, prt 101 s [] [] [] = (([], [], []), e) ∧ g12i3v realA 0 s = some (errN e s)) ∨ Ends 0 (prt 101 s [] [] []) (g12i3v realA 0 s) ∨ (∃ r, prt 101 s [] [] [] = (r, 0) ∧ g12i3v realA 0 s = some (okH 10003 0 r)) := by
  unfold g12i3v
  have hN : (100000 : Nat) = 99900 + 99 + 1 := rfl
  generalize hM : 99900 = M at hN
  rw [hN]
  have hM2 : 90000 ≤ M := by omega
  clear hN hM
  unfold g12i3
  rw [g12i3L0, ar_scne]
  by_cases he : s = []
  · subst he
    rw [decide_eq_true rfl]
    exact .inl ⟨rfl, rfl⟩
  · have hp : prt 101 s [] [] [] = match nextP s with
      | none => (([], [], []), 2)
      | some (t, x, y) => prt 100 y [(t : Int)] [x] [y] := by
      show prt (100 + 1) s [] [] [] = _
      rw [prt, if_neg he]
      rfl
    rw [decide_eq_false he]
    simp only [Bool.not_false]
    cases hn : nextP s with
    | none =>
      rw [hn] at hp
      exact .inr (.inl ⟨2, hp, j1_none _ _ 0 s hs hl hn⟩)
    | some p =>
      obtain ⟨t, x, y⟩ := p
      rw [hn] at hp
      simp only at hp
      rw [j1_some _ _ 0 s hs hl hn, hp]
      obtain ⟨k, rfl⟩ := next_rest hn
      rcases l0a (M + 99 + 1) (M + 99) (s.drop k) 0 [(t : Int)] [x] [s.drop k] rfl (by omega) (fun z hz => hs z (List.mem_of_mem_drop hz)) (by rw [List.length_drop]; omega) with h | ⟨h1, h2⟩
      · exact .inr (.inr (.inl h))
      · refine .inr (.inr (.inr ⟨([(t : Int)], [x], [s.drop k]), ?_, h2⟩))
        rw [h1]
        rfl
end Go.Sx
namespace Go.Sx
set_option linter.unusedSectionVars false
open Go.Proofs
set_option linter.unusedVariables false
theorem p12_0 {s : List Nat} (h : g12i3v realA 0 s = some (okN 0)) : g12v realA s = some (pout 24 (([], [], []), 0)) := by
  unfold g12v g12
  rw [(g20_v s).1, (g20_v s).2]
  simp only [g12i3c0, g12i3c1, g12i3c2, g12i3c3, g12i3c4, h]
  kernel_rfl
theorem p12_1 {s s' : List Nat} {e : Int} (h : g12i3v realA 0 s = some (errN e s')) : g12v realA s = some (pout 24 (([], [], []), e)) := by
  unfold g12v g12
  rw [(g20_v s).1, (g20_v s).2]
  simp only [g12i3c0, g12i3c1, g12i3c2, g12i3c3, g12i3r3_0, g12i3r3_1, h]
  kernel_rfl
theorem p12_2 {s : List Nat} {r : List Int × List (List Nat) × List (List Nat)} (h : g12i3v realA 0 s = some (okH 500 0 r)) : g12v realA s = some (pout 24 (r, 0)) := by
  unfold g12v g12
  rw [(g20_v s).1, (g20_v s).2]
  simp only [g12i3c0, g12i3r0_1, g12i3r0_3, g12i3r0_4, g12i3r0_5, g12i3r0_6, h]
  kernel_rfl
theorem p12_3 {s : List Nat} {r : List Int × List (List Nat) × List (List Nat)} (h : g12i3v realA 0 s = some (okH 10003 0 r)) : g12v realA s = some (pout 24 (r, 0)) := by
  unfold g12v g12
  rw [(g20_v s).1, (g20_v s).2]
  simp only [g12i3c0, g12i3c1, g12i3c2, g12i3r2_1, g12i3r2_3, g12i3r2_4, g12i3r2_5, g12i3r2_6, h]
  kernel_rfl
theorem p12_4 {s s' : List Nat} {e : Int} {n z : Nat} {a : List Int} {b c : List (List Nat)} (h : g12i3v realA 0 s = some (errH e n s' z a b c)) : g12v realA s = some (pout 24 (([], [], []), e)) := by
  unfold g12v g12
  rw [(g20_v s).1, (g20_v s).2]
  simp only [g12i3c0, g12i3c1, g12i3r1_0, g12i3r1_1, g12i3r1_2, g12i3r1_3, g12i3r1_4, g12i3r1_5, g12i3r1_6, h]
  kernel_rfl
theorem g12_v {s : List Nat} (hs : ∀ x ∈ s, x < 256) (hl : s.length < 140737488355328) : g12v realA s = some (pout 24 (prt 101 s [] [] [])) := by
  rcases it_v hs hl with ⟨h1, h2⟩ | ⟨e, h1, h2⟩ | h | ⟨r, h1, h2⟩
  · rw [h1]; exact p12_0 h2
  · rw [h1]; exact p12_1 h2
  · rcases h with ⟨h1, h2⟩ | ⟨h1, h3, n, s', z, a, b, c, h2⟩
    · rw [p12_2 h2]
      rw [← h1]
    · rw [p12_4 h2]
      rw [← h3]
  · rw [h1]; exact p12_3 h2
end Go.Sx
namespace Go.Sx
set_option linter.unusedSectionVars false
set_option maxRecDepth 100000
theorem ex14ok : g7ok realA = true := by kernel_rfl
theorem ex14r : g7r0 realA = true := by kernel_rfl
end Go.Sx
namespace Go.Sx
set_option linter.unusedSectionVars false
set_option linter.unusedVariables false
theorem ic_self (a : Int) : realA.ic .eql a a = true := decide_eq_true rfl
theorem sc_self (a : List Nat) : realA.sc .eql a a = true := by rw [ar_sceq]; exact decide_eq_true rfl
theorem icn_self (a : Int) : realA.ic .neq a a = false := by rw [ar_neq, decide_eq_true rfl]; rfl
theorem scn_self (a : List Nat) : realA.sc .neq a a = false := by rw [ar_scne, decide_eq_true rfl]; rfl
theorem prt_len : ∀ (f : Nat) (s : List Nat) (a : List Int) (b c : List (List Nat)), (prt f s a b c).1.1.length ≤ a.length + f := by
  intro f
  induction f with
  | zero => intro s a b c; exact Nat.zero_le _
  | succ f ih =>
    intro s a b c
    unfold prt
    split
    · simp
    · split
      · simp
      · split
        · simp
        · rename_i t x y _ _
          have := ih y (a ++ [(t : Int)]) (b ++ [x]) (c ++ [y])
          rw [List.length_append] at this
          simp at this ⊢
          omega
theorem m14_cmp {R : Type} (N : Nat) (kk : AV → Heap → Option R) (x0 : Bool) (x1 : Int) (x2 : Bool) (x3 : List Nat) (x4 : Int) (x5 : List Nat) (x6 : Int) (n : Nat) (x8 : Int) (x10 x12 : Int) (x13 x14 : List Nat) (x15 : Int) (x16 x17 : List Nat) (z z' : Nat) (a : List Int) (b c : List (List Nat)) (hn : n < 1000) : ∀ (d i m : Nat), i + d = n → d + 1 ≤ m →
    g3L13 realA N kk m x0 x1 x2 x3 x4 x5 x6 n x8 n x10 (i : Nat) x12 x13 x14 x15 x16 x17 z a b c z' a b c = g3J17 realA N kk x0 x1 x2 x3 x4 x5 x6 x8 x10 x12 x13 x14 x15 x16 x17 := by
  intro d
  induction d with
  | zero =>
    intro i m h1 h2
    obtain ⟨m, rfl⟩ : ∃ m', m = m' + 1 := ⟨m - 1, by omega⟩
    rw [g3L13, ar_ofN, ar_lss, decide_eq_false (by omega)]
  | succ d ih =>
    intro i m h1 h2
    obtain ⟨m, rfl⟩ : ∃ m', m = m' + 1 := ⟨m - 1, by omega⟩
    rw [g3L13, ar_ofN, ar_lss, decide_eq_true (by omega)]
    simp only
    unfold g3J15
    rw [ar_negN, ar_toNN, ar_lt, decide_eq_true (by omega), icn_self, scn_self, scn_self, ar_add (by omega)]
    exact ih (i + 1) m (by omega) (by omega)
theorem g12_all {s : List Nat} (hs : ∀ x ∈ s, x < 256) (hl : s.length < 140737488355328) : g12ok realA s = true ∧ g12r0 realA s = (prt 101 s [] [] []).1.1.length ∧ g12r1 realA s = (prt 101 s [] [] []).2 ∧ g12r3 realA s = (prt 101 s [] [] []).1.1 ∧ g12r4 realA s = (prt 101 s [] [] []).1.2.1 ∧ g12r5 realA s = (prt 101 s [] [] []).1.2.2 := by
  unfold g12ok g12r0 g12r1 g12r3 g12r4 g12r5
  rw [g12_v hs hl]
  exact ⟨rfl, rfl, rfl, rfl, rfl, rfl⟩
theorem g13_all {s : List Nat} (hs : ∀ x ∈ s, x < 256) (hl : s.length < 140737488355328) : g13ok realA s = true ∧ g13r0 realA s = (prt 101 s [] [] []).1.1.length ∧ g13r1 realA s = (prt 101 s [] [] []).2 ∧ g13r3 realA s = (prt 101 s [] [] []).1.1 ∧ g13r4 realA s = (prt 101 s [] [] []).1.2.1 ∧ g13r5 realA s = (prt 101 s [] [] []).1.2.2 := by
  unfold g13ok g13r0 g13r1 g13r3 g13r4 g13r5
  rw [g13_v hs hl]
  exact ⟨rfl, rfl, rfl, rfl, rfl, rfl⟩
theorem g11_all (t : Int) (x : List Nat) (hx : x.length < 140737488355328) : g11ok realA t x = true ∧ g11r0 realA t x = (wrapB t x).1 ∧ g11r1 realA t x = (wrapB t x).2 := by
  unfold g11ok g11r0 g11r1
  rw [f14_wrap t x hx]
  exact ⟨rfl, rfl, rfl⟩
theorem law3m (s : List Nat) (hs : ∀ x ∈ s, x < 256) (hl : s.length < 140737488355328) (t : Int) (x : List Nat) (hx : x.length < 140737488355328) : g3v realA s t x = some (.v (.cell (.bool true))) := by
  unfold g3v
  have hN : (100000 : Nat) = 99900 + 100 := rfl
  generalize hM : 99900 = M at hN
  rw [hN]
  have hM2 : 90000 ≤ M := by omega
  clear hN hM
  unfold g3
  rw [ex14ok, ex14r]
  simp only [Bool.not_true]
  unfold g3J4
  obtain ⟨e0, e1, e2, e3⟩ := g9_v hs hl
  obtain ⟨a0, a1, a2, a3, a4, a5⟩ := g12_all hs hl
  obtain ⟨b0, b1, b2, b3, b4, b5⟩ := g13_all hs hl
  obtain ⟨c0, c1, c2⟩ := g11_all t x hx
  have hlen := prt_len 101 s [] [] []
  rw [next_ok hs hl, g9_ok hs hl, wrap_ok, c0, a0, b0, a1, b1, icn_self, next_0 hs hl, next_1 hs hl, next_2 hs hl, next_3 hs hl, e0, e1, e2, e3, wrap_0, wrap_1, c1, c2, a2, a3, a4, a5, b2, b3, b4, b5]
  simp only
  unfold g3J12
  have hc := m14_cmp (R := AV) (M + 100) (fun v _ => some v) true (nx3 (nextP s)) (nextP s).isSome (wrapB t x).1 (wrapB t x).2 (wrapB t x).1 (wrapB t x).2 (prt 101 s [] [] []).1.1.length (prt 101 s [] [] []).2 (prt 101 s [] [] []).2 (nx0 (nextP s)) (nx1 (nextP s)) (nx2 (nextP s)) (nx0 (nextP s)) (nx1 (nextP s)) (nx2 (nextP s)) (g12r2 realA s) (g13r2 realA s) (prt 101 s [] [] []).1.1 (prt 101 s [] [] []).1.2.1 (prt 101 s [] [] []).1.2.2 (by simp at hlen; omega) (prt 101 s [] [] []).1.1.length 0 (M + 100) (by omega) (by simp at hlen; omega)
  rw [show ((0 : Nat) : Int) = 0 from rfl] at hc
  rw [hc]
  unfold g3J17
  rw [ic_self, sc_self, sc_self, sc_self, ic_self, ic_self]
  cases nextP s with
  | none => rfl
  | some p => rfl
theorem law3 (a : List Nat) (ha : ∀ x ∈ a, x < 256) (hl : a.length < 2 ^ 47) (t : Int) (ht : (Lit.int .i64 t).wf = true) (c : List Nat) (hc : ∀ x ∈ c, x < 256) (hcl : c.length < 2 ^ 47) :
    g3o realA [.v (.cell (.str a)), .v (.cell (.int .i64 t)), .v (.cell (.str c))] = some (true, .v (.cell (.bool true))) := by
  have e : g3v realA a t c = some (.v (.cell (.bool true))) := law3m a ha hl t c hcl
  have e1 : g3ok realA a t c = true := (congrArg g3is e).trans rfl
  have e2 : g3r0 realA a t c = true := (congrArg g3g0 e).trans rfl
  show some (g3ok realA a t c, AV.v (.cell (.bool (g3r0 realA a t c)))) = _
  rw [e1, e2]
end Go.Sx
