import Derived.Test.YtllahodhfohhpaaSxP14b
import Derived.Test.YtllahodhfohhpaaSxAr
import Derived.Test.YtllahodhfohhpaaSxPl
import Derived.Test.YtllahodhfohhpaaSxLs
namespace Go.Sx
set_option linter.unusedSectionVars false
set_option linter.unusedVariables false

def beN : Nat → Nat → List Nat
  | 0, _ => []
  | f + 1, n => if n = 0 then [] else beN f (n / 256) ++ [n % 256]
theorem beN_succ (f n : Nat) (h : n ≠ 0) : beN (f + 1) n = beN f (n / 256) ++ [n % 256] := by rw [beN, if_neg h]
def lenB (n : Nat) : List Nat := if n < 128 then [n] else (128 + (beN 8 n).length) :: beN 8 n

theorem n14_J7 (N : Nat) (acc : List Nat) (h : acc.length < 100) : g19J7 realA N (fun v _ => some v) acc.length acc.length acc = some (.v (.cell (.str ((128 + acc.length) :: acc)))) := by
  unfold g19J7
  have e : realA.ib .add .i64 128 (realA.ofN acc.length) = ((128 + acc.length : Nat) : Int) := by
    rw [ar_ofN, ar_add (by omega)]; omega
  rw [e, ar_i2nN, Nat.mod_eq_of_lt (by omega : 128 + acc.length < 256), ar_le]
  have e2 : decide ((([128 + acc.length].take 1).length + (acc.take acc.length).length) ≤ 9223372036854775807) = true := decide_eq_true (by simp; omega)
  rw [e2]
  simp
theorem n14_L4a (N : Nat) : ∀ (f m n : Nat) (acc : List Nat), n < 256 ^ f → f + 1 ≤ m → acc.length + f < 100 → g19L4a realA N (fun v _ => some v) m (n : Int) acc.length acc.length acc = some (.v (.cell (.str ((128 + (beN f n ++ acc).length) :: (beN f n ++ acc))))) := by
  intro f
  induction f with
  | zero =>
    intro m n acc h1 h2 h3
    obtain ⟨m, rfl⟩ : ∃ m', m = m' + 1 := ⟨m - 1, by omega⟩
    have : n = 0 := by simpa using h1
    subst this
    rw [g19L4a, ar_gtr, decide_eq_false (by simp)]
    simpa [beN] using n14_J7 N acc (by omega)
  | succ f ih =>
    intro m n acc h1 h2 h3
    obtain ⟨m, rfl⟩ : ∃ m', m = m' + 1 := ⟨m - 1, by omega⟩
    rw [g19L4a, ar_gtr]
    by_cases hn : n = 0
    · subst hn
      rw [decide_eq_false (by simp)]
      simpa [beN] using n14_J7 N acc (by omega)
    · rw [decide_eq_true (by omega)]
      simp only
      unfold g19J6a
      have e1 : realA.ish .shr .i64 (n : Int) 8 = ((n / 256 : Nat) : Int) := by
        rw [ar_shr (by decide)]
        show (n : Int) / 256 = ((n / 256 : Nat) : Int)
        omega
      rw [e1, ar_i2nN, List.take_length, ar_le, ar_eq, decide_eq_true (rfl : 1 = 1)]
      have hl : ([n % 256] ++ acc).length ≤ 140737488355328 := by simp; omega
      rw [decide_eq_true hl]
      simp only
      rw [ih m (n / 256) ([n % 256] ++ acc) (by rw [Nat.pow_succ] at h1; omega) (by omega) (by simp; omega)]
      rw [beN_succ f n hn]
      simp
theorem n14_J3 (N n : Nat) (hN : 100 ≤ N) (h : n < 256 ^ 8) : g19J3 realA N (fun v _ => some v) (n : Int) = some (.v (.cell (.str ((128 + (beN 8 n).length) :: beN 8 n)))) := by
  unfold g19J3
  obtain ⟨N, rfl⟩ : ∃ N', N = N' + 1 := ⟨N - 1, by omega⟩
  rw [g19L4, ar_gtr]
  by_cases hn : n = 0
  · subst hn
    rw [decide_eq_false (by simp)]
    exact n14_J7 (N + 1) [] (by simp)
  · rw [decide_eq_true (by omega)]
    simp only
    unfold g19J6
    have e1 : realA.ish .shr .i64 (n : Int) 8 = ((n / 256 : Nat) : Int) := by
      rw [ar_shr (by decide)]
      show (n : Int) / 256 = ((n / 256 : Nat) : Int)
      omega
    rw [e1, ar_i2nN, List.take_nil, ar_le, ar_eq, decide_eq_true (rfl : 1 = 1)]
    have hl : ([n % 256] ++ ([] : List Nat)).length ≤ 140737488355328 := by simp
    rw [decide_eq_true hl]
    simp only
    rw [n14_L4a (N + 1) 7 N (n / 256) ([n % 256] ++ []) (by have : n < 256 ^ 7 * 256 := h; omega) (by omega) (by simp)]
    rw [beN_succ 7 n hn]
    simp
theorem n14_len (n : Nat) (h : n < 256 ^ 8) : g19v realA (n : Int) = some (.v (.cell (.str (lenB n)))) := by
  unfold g19v
  generalize hN : 100000 = N
  unfold g19
  rw [ar_lss]
  unfold lenB
  by_cases h1 : n < 128
  · rw [decide_eq_true (by omega), if_pos h1, ar_i2nN, Nat.mod_eq_of_lt (by omega)]
    rfl
  · rw [decide_eq_false (by omega), if_neg h1]
    exact n14_J3 N n (by omega) h
theorem n14_ok (n : Nat) (h : n < 256 ^ 8) : g19ok realA (n : Int) = true := (congrArg g19is (n14_len n h)).trans rfl
theorem n14_r (n : Nat) (h : n < 256 ^ 8) : g19r0 realA (n : Int) = lenB n := (congrArg g19g0 (n14_len n h)).trans rfl
end Go.Sx
namespace Go.Sx
set_option linter.unusedSectionVars false
set_option linter.unusedVariables false

def bval (l : List Nat) (a : Nat) : Nat := l.foldl (fun n b => n * 256 + b) a
theorem or8 (a b : Nat) (hb : b < 256) (ha : a < 1000000000000000000 / 256) : realA.ib .or .i64 (realA.ish .shl .i64 (a : Int) 8) (realA.ofN b) = ((a * 256 + b : Nat) : Int) := by
  rw [ar_shl (by decide) (by omega)]
  show IntKind.i64.wrap ((BitVec.ofInt 64 ((a : Int) * 2 ^ 8) ||| BitVec.ofInt 64 (b : Int)).toNat : Int) = _
  have e : (a : Int) * 2 ^ 8 = ((a * 256 : Nat) : Int) := by omega
  rw [e, BitVec.ofInt_natCast, BitVec.ofInt_natCast, BitVec.toNat_or, BitVec.toNat_ofNat, BitVec.toNat_ofNat, Nat.mod_eq_of_lt (by omega), Nat.mod_eq_of_lt (by omega)]
  have h := Nat.two_pow_add_eq_or_of_lt (i := 8) hb a
  rw [Nat.mul_comm a 256, ← h]
  exact wrap64 (by omega)
theorem and31 (n : Nat) : realA.ib .and .i64 (n : Int) 31 = ((n % 32 : Nat) : Int) := by
  show IntKind.wrap .i64 ((BitVec.ofInt 64 (n : Int) &&& BitVec.ofInt 64 31).toNat : Int) = _
  have e : (BitVec.ofInt 64 (n : Int) &&& BitVec.ofInt 64 31).toNat = n % 32 := by
    rw [BitVec.toNat_and]
    have h1 : (BitVec.ofInt 64 31).toNat = 31 := by decide
    have h2 : (BitVec.ofInt 64 (n : Int)).toNat = n % 2 ^ 64 := by simp [BitVec.ofInt_natCast]
    rw [h1, h2, show (31 : Nat) = 2 ^ 5 - 1 from rfl, Nat.and_two_pow_sub_one_eq_mod]
    omega
  rw [e]
  exact wrap64 (by omega)
theorem nand31 (n : Nat) : realA.nb .and .u8 n 31 = n % 32 := Nat.and_two_pow_sub_one_eq_mod n 5

def nx : Option (Nat × List Nat × List Nat) → AV
  | none => .tup [.agg [.one (.int .i64 0), .one (.str []), .one (.str [])], .cell (.int .i64 2)]
  | some (t, x, y) => .tup [.agg [.one (.int .i64 (t : Int)), .one (.str x), .one (.str y)], .cell (.int .i64 0)]
def tailP (s : List Nat) (n z : Nat) : Option (Nat × List Nat × List Nat) :=
  if lenB n = (s.take (1 + z)).drop 1 ∧ n ≤ s.length - (1 + z) then some (s.getD 0 0, (s.drop (1 + z)).take n, (s.drop (1 + z)).drop n) else none
def nextP (s : List Nat) : Option (Nat × List Nat × List Nat) :=
  if s.length < 2 then none else if s.getD 0 0 % 32 = 31 then none
  else if s.getD 1 0 < 128 then tailP s (s.getD 1 0) 1
  else if 132 ≤ s.getD 1 0 then none else if s.length ≤ s.getD 1 0 - 127 then none
  else tailP s (bval ((s.take (1 + (s.getD 1 0 - 127))).drop 2) 0) (s.getD 1 0 - 127)

theorem n14_tail (N : Nat) (s : List Nat) (n z : Nat) (hz : z ≤ 4) (hs : 1 + z ≤ s.length) (hl : s.length < 1000000000000000) (hn : n < 256 ^ 7) : g8J14 realA N (fun v _ => some v) s (n : Int) (z : Int) 0 [] [] = some (nx (tailP s n z)) := by
  unfold g8J14
  have e : realA.ib .add .i64 1 (z : Int) = ((1 + z : Nat) : Int) := by rw [ar_add (by omega)]; omega
  have hn8 : n < 256 ^ 8 := by omega
  rw [e, ar_negN, ar_toNN, ar_le, decide_eq_true hs, n14_ok n hn8, n14_r n hn8, ar_le, decide_eq_true (by omega : 1 ≤ 1 + z), ar_scne, List.take_length, ar_ofN, ar_lss, List.length_drop]
  simp only
  unfold tailP
  by_cases h1 : lenB n = (s.take (1 + z)).drop 1
  · rw [decide_eq_true h1]
    simp only [Bool.not_true]
    by_cases h2 : n ≤ s.length - (1 + z)
    · rw [decide_eq_false (by omega), if_pos ⟨h1, h2⟩]
      simp only
      unfold g8J17
      rw [ar_negN, ar_toNN, ar_le, List.length_drop, decide_eq_true h2, List.take_of_length_le (l := s.drop (1 + z)) (i := s.length - (1 + z)) (by rw [List.length_drop]; exact Nat.le_refl _)]
      have h0 : Nat.blt 0 s.length = true := by rw [Nat.blt_eq]; omega
      rw [h0]
      simp [nx, ar_ofN]
    · rw [decide_eq_true (by omega), if_neg (fun q => h2 q.2)]
      rfl
  · rw [decide_eq_false h1, if_neg (fun q => h1 q.1)]
    rfl
theorem bval_snoc (l : List Nat) (b a : Nat) : bval (l ++ [b]) a = bval l a * 256 + b := by unfold bval; rw [List.foldl_append]; rfl
theorem take_snoc {l : List Nat} {i : Nat} (h : i < l.length) : l.take (i + 1) = l.take i ++ [l.getD i 0] := by
  rw [List.take_add_one, List.getElem?_eq_getElem h, List.getD_eq_getElem?_getD, List.getElem?_eq_getElem h]
  rfl
theorem bval_lt : ∀ (l : List Nat) (a : Nat), (∀ x ∈ l, x < 256) → bval l a < (a + 1) * 256 ^ l.length := by
  intro l
  induction l with
  | nil => intro a _; show a < (a + 1) * 1; omega
  | cons x l ih =>
    intro a h
    have h1 := ih (a * 256 + x) (fun y hy => h y (List.mem_cons_of_mem _ hy))
    have hx := h x List.mem_cons_self
    refine Nat.lt_of_lt_of_le h1 ?_
    rw [List.length_cons, Nat.pow_succ, Nat.mul_comm (256 ^ l.length) 256, ← Nat.mul_assoc]
    exact Nat.mul_le_mul_right _ (by omega)
theorem bval_take {l : List Nat} (hl : ∀ x ∈ l, x < 256) {i : Nat} (hi : i ≤ 6) : bval (l.take i) 0 < 256 ^ 6 := by
  have h1 := bval_lt (l.take i) 0 (fun x hx => hl x (List.mem_of_mem_take hx))
  have h2 : (l.take i).length ≤ 6 := by rw [List.length_take]; omega
  have h3 : 256 ^ (l.take i).length ≤ 256 ^ 6 := Nat.pow_le_pow_right (by decide) h2
  omega
theorem n14_L10 (N : Nat) (s l : List Nat) (z : Nat) (hz : z ≤ 4) (hs : 1 + z ≤ s.length) (hsl : s.length < 1000000000000000) (hl : ∀ x ∈ l, x < 256) (hlen : l.length ≤ 4) : ∀ (d i m : Nat), i + d = l.length → d + 1 ≤ m → g8L10 realA N (fun v _ => some v) m s (bval (l.take i) 0 : Nat) (z : Int) l.length (l.length : Nat) (i : Nat) 0 [] [] l.length l = some (nx (tailP s (bval l 0) z)) := by
  intro d
  induction d with
  | zero =>
    intro i m h1 h2
    obtain ⟨m, rfl⟩ : ∃ m', m = m' + 1 := ⟨m - 1, by omega⟩
    rw [g8L10, ar_lss, decide_eq_false (by omega)]
    simp only
    rw [List.take_of_length_le (by omega)]
    refine n14_tail N s _ z hz hs hsl ?_
    have := bval_take hl (i := l.length) (by omega)
    rw [List.take_length] at this
    omega
  | succ d ih =>
    intro i m h1 h2
    obtain ⟨m, rfl⟩ : ∃ m', m = m' + 1 := ⟨m - 1, by omega⟩
    rw [g8L10, ar_lss, decide_eq_true (by omega)]
    simp only
    unfold g8J11
    have hb : l.getD i 0 < 256 := getD_lt hl i
    have ht := bval_take hl (i := i) (by omega)
    rw [ar_negN, ar_toNN, ar_lt, decide_eq_true (show i < l.length by omega), or8 _ _ hb (by omega), ar_add (by omega)]
    simp only
    have := ih (i + 1) m (by omega) (by omega)
    rw [take_snoc (by omega), bval_snoc] at this
    exact this
theorem n14_next (s : List Nat) (hs : ∀ x ∈ s, x < 256) (hl : s.length < 1000000000000000) : g8v realA s = some (nx (nextP s)) := by
  unfold g8v
  generalize hN : 100000 = N
  unfold g8 nextP
  rw [ar_ofN, ar_lss]
  by_cases h1 : s.length < 2
  · rw [decide_eq_true (by omega), if_pos h1]
    rfl
  · rw [decide_eq_false (by omega), if_neg h1]
    have hb0 : Nat.blt 0 s.length = true := by rw [Nat.blt_eq]; omega
    have hb1 : Nat.blt 1 s.length = true := by rw [Nat.blt_eq]; omega
    simp only [hb0]
    rw [nand31, ar_neql]
    by_cases h2 : s.getD 0 0 % 32 = 31
    · rw [decide_eq_true h2, if_pos h2]
      rfl
    · rw [decide_eq_false h2, if_neg h2]
      simp only
      unfold g8J3
      rw [hb1]
      simp only
      have hc := getD_lt hs 1
      rw [ar_ofN, ar_ofN, ar_geq]
      by_cases h3 : s.getD 1 0 < 128
      · rw [decide_eq_false (by omega), if_pos h3]
        exact n14_tail N s _ 1 (by omega) (by omega) hl (by omega)
      · have e : realA.ib .add .i64 1 (realA.ib .sub .i64 ((s.getD 1 0 : Nat) : Int) 128) = ((s.getD 1 0 - 127 : Nat) : Int) := by
          rw [ar_sub (by omega), ar_add (by omega)]; omega
        rw [decide_eq_true (by omega), if_neg h3, e, ar_gtr, ar_leq]
        simp only
        by_cases h4 : 132 ≤ s.getD 1 0
        · rw [decide_eq_true (by omega), if_pos h4]
          rfl
        · rw [decide_eq_false (by omega), if_neg h4]
          simp only
          by_cases h5 : s.length ≤ s.getD 1 0 - 127
          · rw [decide_eq_true (by omega), if_pos h5]
            rfl
          · rw [decide_eq_false (by omega), if_neg h5]
            simp only
            unfold g8J8
            have e2 : realA.ib .add .i64 1 ((s.getD 1 0 - 127 : Nat) : Int) = ((1 + (s.getD 1 0 - 127) : Nat) : Int) := by
              rw [ar_add (by omega)]; omega
            have hlen : ((s.take (1 + (s.getD 1 0 - 127))).drop 2).length = (s.getD 1 0 - 127) - 1 := by
              rw [List.length_drop, List.length_take]; omega
            rw [e2, ar_negN, ar_toNN, ar_le, decide_eq_true (by omega), ar_le, decide_eq_true (by omega), ar_le, decide_eq_true (by omega), ar_ofN]
            simp only
            have := n14_L10 N s ((s.take (1 + (s.getD 1 0 - 127))).drop 2) (s.getD 1 0 - 127) (by omega) (by omega) hl (fun x hx => hs x (List.mem_of_mem_take (List.mem_of_mem_drop hx))) (by omega) ((s.take (1 + (s.getD 1 0 - 127))).drop 2).length 0 N (by omega) (by omega)
            exact this
end Go.Sx
namespace Go.Sx
set_option linter.unusedSectionVars false
set_option linter.unusedVariables false
theorem lenB_1 {n : Nat} (h : n < 128) : lenB n = [n] := if_pos h
theorem beN_0 (f : Nat) : beN f 0 = [] := by cases f <;> rfl
theorem lenB_2 {n : Nat} (h : 128 ≤ n) (h2 : n < 256) : lenB n = [129, n] := by
  unfold lenB
  have e : beN 8 n = [n] := by
    rw [beN_succ 7 n (by omega), show n / 256 = 0 by omega, beN_0, Nat.mod_eq_of_lt h2]; rfl
  rw [if_neg (by omega), e]; rfl
theorem lenB_3 {n : Nat} (h : 256 ≤ n) (h2 : n < 65536) : lenB n = [130, n / 256, n % 256] := by
  unfold lenB
  have e : beN 8 n = [n / 256, n % 256] := by
    rw [beN_succ 7 n (by omega), beN_succ 6 (n / 256) (by omega), show n / 256 / 256 = 0 by omega, beN_0, Nat.mod_eq_of_lt (show n / 256 < 256 by omega)]; rfl
  rw [if_neg (by omega), e]; rfl
theorem lenB_4 {n : Nat} (h : 65536 ≤ n) (h2 : n < 16777216) : lenB n = [131, n / 65536, n / 256 % 256, n % 256] := by
  unfold lenB
  have e : beN 8 n = [n / 65536, n / 256 % 256, n % 256] := by
    rw [beN_succ 7 n (by omega), beN_succ 6 (n / 256) (by omega), beN_succ 5 (n / 256 / 256) (by omega), show n / 256 / 256 / 256 = 0 by omega, beN_0, Nat.mod_eq_of_lt (show n / 256 / 256 < 256 by omega), show n / 256 / 256 = n / 65536 by omega]; rfl
  rw [if_neg (by omega), e]; rfl
theorem lenB_len {n : Nat} (h2 : n < 16777216) : (lenB n).length ≤ 4 := by
  by_cases h1 : n < 128
  · rw [lenB_1 h1]; simp
  · by_cases h3 : n < 256
    · rw [lenB_2 (by omega) h3]; simp
    · by_cases h4 : n < 65536
      · rw [lenB_3 (by omega) h4]; simp
      · rw [lenB_4 (by omega) h2]; simp
def wrapB (t : Int) (x : List Nat) : List Nat × Int :=
  if t < 0 then ([], 1) else if 255 < t then ([], 1) else if t % 32 = 31 then ([], 1) else if 16777216 ≤ x.length then ([], 9) else (t.toNat :: (lenB x.length ++ x), 0)
theorem n14_wrap (t : Int) (x : List Nat) : g10v realA t x = some (.tup [.cell (.str (wrapB t x).1), .cell (.int .i64 (wrapB t x).2)]) := by
  unfold g10v
  generalize 100000 = N
  unfold g10 wrapB
  rw [ar_lss, ar_gtr]
  by_cases h1 : t < 0
  · rw [decide_eq_true h1, if_pos h1]
  · rw [decide_eq_false h1, if_neg h1]
    simp only
    by_cases h2 : 255 < t
    · rw [decide_eq_true h2, if_pos h2]
    · rw [decide_eq_false h2, if_neg h2]
      simp only
      obtain ⟨n, rfl⟩ : ∃ n : Nat, t = n := ⟨t.toNat, by omega⟩
      rw [and31, ar_eql, ar_geq, ar_ofN]
      by_cases h3 : (n : Int) % 32 = 31
      · rw [decide_eq_true (by omega), if_pos h3]
      · rw [decide_eq_false (by omega), if_neg h3]
        simp only
        by_cases h4 : 16777216 ≤ x.length
        · rw [decide_eq_true (by omega), if_pos h4]
        · rw [decide_eq_false (by omega), if_neg h4]
          simp only
          unfold g10J5
          have hn8 : x.length < 256 ^ 8 := by omega
          have hl := lenB_len (n := x.length) (by omega)
          rw [ar_ofN, n14_ok _ hn8, n14_r _ hn8, ar_i2nN, Nat.mod_eq_of_lt (by omega : n < 256), ar_le, decide_eq_true (by simp; omega), ar_le, decide_eq_true (by simp; omega)]
          simp
theorem wrap_ok (t : Int) (x : List Nat) : g10ok realA t x = true := (congrArg g10is (n14_wrap t x)).trans rfl
theorem wrap_0 (t : Int) (x : List Nat) : g10r0 realA t x = (wrapB t x).1 := (congrArg g10g0 (n14_wrap t x)).trans rfl
theorem wrap_1 (t : Int) (x : List Nat) : g10r1 realA t x = (wrapB t x).2 := (congrArg g10g1 (n14_wrap t x)).trans rfl
def nx0 : Option (Nat × List Nat × List Nat) → Int
  | none => 0
  | some (t, _, _) => t
def nx1 : Option (Nat × List Nat × List Nat) → List Nat
  | none => []
  | some (_, x, _) => x
def nx2 : Option (Nat × List Nat × List Nat) → List Nat
  | none => []
  | some (_, _, y) => y
def nx3 : Option (Nat × List Nat × List Nat) → Int
  | none => 2
  | some _ => 0
theorem next_ok {s : List Nat} (hs : ∀ x ∈ s, x < 256) (hl : s.length < 1000000000000000) : g8ok realA s = true := by
  refine (congrArg g8is (n14_next s hs hl)).trans ?_
  rcases nextP s with _ | ⟨a, b, c⟩ <;> rfl
theorem next_0 {s : List Nat} (hs : ∀ x ∈ s, x < 256) (hl : s.length < 1000000000000000) : g8r0 realA s = nx0 (nextP s) := by
  refine (congrArg g8g0 (n14_next s hs hl)).trans ?_
  rcases nextP s with _ | ⟨a, b, c⟩ <;> rfl
theorem next_1 {s : List Nat} (hs : ∀ x ∈ s, x < 256) (hl : s.length < 1000000000000000) : g8r1 realA s = nx1 (nextP s) := by
  refine (congrArg g8g1 (n14_next s hs hl)).trans ?_
  rcases nextP s with _ | ⟨a, b, c⟩ <;> rfl
theorem next_2 {s : List Nat} (hs : ∀ x ∈ s, x < 256) (hl : s.length < 1000000000000000) : g8r2 realA s = nx2 (nextP s) := by
  refine (congrArg g8g2 (n14_next s hs hl)).trans ?_
  rcases nextP s with _ | ⟨a, b, c⟩ <;> rfl
theorem next_3 {s : List Nat} (hs : ∀ x ∈ s, x < 256) (hl : s.length < 1000000000000000) : g8r3 realA s = nx3 (nextP s) := by
  refine (congrArg g8g3 (n14_next s hs hl)).trans ?_
  rcases nextP s with _ | ⟨a, b, c⟩ <;> rfl
end Go.Sx
namespace Go.Sx
set_option linter.unusedSectionVars false
set_option linter.unusedVariables false
theorem next_wrap {t k : Nat} {T more : List Nat} (ht : t % 32 ≠ 31) (hT : T.length = k) (hk : k < 16777216) : nextP (t :: (lenB k ++ (T ++ more))) = some (t, T, more) := by
  subst hT
  by_cases h1 : T.length < 128
  · rw [lenB_1 h1]
    unfold nextP
    rw [if_neg (by simp), if_neg (by simpa using ht), if_pos (by simpa using h1)]
    unfold tailP
    rw [if_pos ⟨by simp [lenB_1 h1], by simp⟩]
    simp
  · by_cases h2 : T.length < 256
    · rw [lenB_2 (by omega) h2]
      unfold nextP
      rw [if_neg (by simp), if_neg (by simpa using ht), if_neg (by simp), if_neg (by simp), if_neg (by simp)]
      unfold tailP
      have e : bval (((t :: ([129, T.length] ++ (T ++ more))).take (1 + ((t :: ([129, T.length] ++ (T ++ more))).getD 1 0 - 127))).drop 2) 0 = T.length := by simp [bval]
      rw [e, if_pos ⟨by simp [lenB_2 (n := T.length) (by omega) h2], by simp⟩]
      simp
    · by_cases h3 : T.length < 65536
      · rw [lenB_3 (by omega) h3]
        unfold nextP
        rw [if_neg (by simp), if_neg (by simpa using ht), if_neg (by simp), if_neg (by simp), if_neg (by simp)]
        unfold tailP
        have e : bval (((t :: ([130, T.length / 256, T.length % 256] ++ (T ++ more))).take (1 + ((t :: ([130, T.length / 256, T.length % 256] ++ (T ++ more))).getD 1 0 - 127))).drop 2) 0 = T.length := by simp [bval]; omega
        rw [e, if_pos ⟨by simp [lenB_3 (n := T.length) (by omega) h3], by simp⟩]
        simp
      · rw [lenB_4 (by omega) hk]
        unfold nextP
        rw [if_neg (by simp), if_neg (by simpa using ht), if_neg (by simp), if_neg (by simp), if_neg (by simp)]
        unfold tailP
        have e : bval (((t :: ([131, T.length / 65536, T.length / 256 % 256, T.length % 256] ++ (T ++ more))).take (1 + ((t :: ([131, T.length / 65536, T.length / 256 % 256, T.length % 256] ++ (T ++ more))).getD 1 0 - 127))).drop 2) 0 = T.length := by simp [bval]; omega
        rw [e, if_pos ⟨by simp [lenB_4 (n := T.length) (by omega) hk], by simp⟩]
        simp
end Go.Sx
namespace Go.Sx
set_option linter.unusedSectionVars false
open Go.Proofs
set_option linter.unusedVariables false
set_option maxRecDepth 100000
attribute [local irreducible] g8ok g8r0 g8r1 g8r2 g8r3 g10ok g10r0 g10r1 g12ok g12r0 g12r1 g12r2 g12r3 g12r4 g12r5 g7ok g7r0
def g9O (A : Ar) : Orc := orcOf []
def g9an : Ann := [(0, ([0], [])), (1, ([0, 2], [1000])), (2, ([2], [1000])), (3, ([0, 2], [1000])), (4, ([0, 2, 4], [1000])), (5, ([0, 2, 4, 5], [1000])), (6, ([0, 2, 4], [1000])), (7, ([0, 2, 6], [1000])), (8, ([2], [1000])), (9, ([0, 2, 6], [1000])), (10, ([0, 2, 4, 6], [1000])), (11, ([0, 2, 4, 6, 7], [1000])), (12, ([0, 2, 4, 6, 7], [1000])), (13, ([0, 2, 4, 6, 7], [1000])), (14, ([0, 2, 4, 6], [1000])), (15, ([2], [1000])), (16, ([0, 2, 4, 6], [1000])), (17, ([0, 2, 4, 5], [1000])), (18, ([2], [1000])), (19, ([0, 2, 4, 5], [1000]))]
def g9res : List ResultVar := [.cell 2 28, .tmp 3]
def g9cut : List Nat := [3, 9, 13, 14, 17, 19]
noncomputable def g9N {R : Type} (A : Ar) (kk : AV → Heap → Option R) (t : List Bool → St → Option R) (p : List Bool) (s : St) : Option R := nodeN A gtys (g9O A) g9an g9cut t (bodyOf Try.f9) (finD gtys g9res kk) p s
def g9J13 {R : Type} (A : Ar) (n : Nat) (kk : AV → Heap → Option R) (lg9L11 : List Nat → Int → Int → Int → Int → List Nat → List Nat → Option R) (x0 : List Nat) (x1 x2 : Int) (x3 x4 : Int) (x5 x6 : List Nat) : Option R :=
  match A.neg (A.ib .add .i64 2 x3) with
  | true => none
  | false => match A.lt (A.toN (A.ib .add .i64 2 x3)) x0.length with
    | true => lg9L11 x0 (A.ib .add .i64 (A.ib .mul .i64 x1 256) (A.ofN (x0.getD (A.toN (A.ib .add .i64 2 x3)) 0))) x2 (A.ib .add .i64 x3 1) x4 x5 x6
    | false => none
def g9J19 {R : Type} (A : Ar) (n : Nat) (kk : AV → Heap → Option R)  (x0 : List Nat) (x1 x2 x3 : Int) (x4 x5 : List Nat) : Option R :=
  match Nat.blt 0 x0.length with
  | true => match A.neg (A.ib .add .i64 x2 x1) with
    | true => none
    | false => match A.le (A.toN (A.ib .add .i64 x2 x1)) x0.length with
      | true => match A.neg x2 with
        | true => none
        | false => match A.le (A.toN x2) (A.toN (A.ib .add .i64 x2 x1)) with
          | true => match A.neg (A.ib .add .i64 x2 x1) with
            | true => none
            | false => match A.le (A.toN (A.ib .add .i64 x2 x1)) x0.length with
              | true => kk (.tup [(.agg [.one (.int .i64 (A.ofN (x0.getD 0 0))), .one (.str ((x0.take (A.toN (A.ib .add .i64 x2 x1))).drop (A.toN x2))), .one (.str ((x0.take x0.length).drop (A.toN (A.ib .add .i64 x2 x1))))]), (.cell (.bool true))]) [(1000, ⟨[.one (.int .i64 (A.ofN (x0.getD 0 0))), .one (.str ((x0.take (A.toN (A.ib .add .i64 x2 x1))).drop (A.toN x2))), .one (.str ((x0.take x0.length).drop (A.toN (A.ib .add .i64 x2 x1))))], 28, 1⟩)]
              | false => none
          | false => none
      | false => none
  | false => none
def g9J17 {R : Type} (A : Ar) (n : Nat) (kk : AV → Heap → Option R)  (x0 : List Nat) (x1 x2 x3 : Int) (x4 x5 : List Nat) : Option R :=
  match A.ic .lss (A.ofN x0.length) (A.ib .add .i64 x2 x1) with
  | true => kk (.tup [(.agg [.one (.int .i64 0), .one (.str []), .one (.str [])]), (.cell (.bool false))]) [(1000, ⟨[.one (.int .i64 0), .one (.str []), .one (.str [])], 28, 1⟩)]
  | false => g9J19 A n kk  x0 x1 x2 x3 x4 x5
def g9J14 {R : Type} (A : Ar) (n : Nat) (kk : AV → Heap → Option R)  (x0 : List Nat) (x1 x2 x3 : Int) (x4 x5 : List Nat) : Option R :=
  match A.ic .lss x1 128 with
  | true => kk (.tup [(.agg [.one (.int .i64 0), .one (.str []), .one (.str [])]), (.cell (.bool false))]) [(1000, ⟨[.one (.int .i64 0), .one (.str []), .one (.str [])], 28, 1⟩)]
  | false => match A.ic .gtr x2 1 with
    | true => match A.neg (A.ib .mul .i64 8 (A.ib .sub .i64 x2 1)) with
      | true => none
      | false => match A.ic .lss x1 (A.ish .shl .i64 1 (A.toN (A.ib .mul .i64 8 (A.ib .sub .i64 x2 1)))) with
        | true => kk (.tup [(.agg [.one (.int .i64 0), .one (.str []), .one (.str [])]), (.cell (.bool false))]) [(1000, ⟨[.one (.int .i64 0), .one (.str []), .one (.str [])], 28, 1⟩)]
        | false => g9J17 A n kk  x0 x1 (A.ib .add .i64 2 x2) x3 x4 x5
    | false => g9J17 A n kk  x0 x1 (A.ib .add .i64 2 x2) x3 x4 x5
def g9L11 {R : Type} (A : Ar) (n : Nat) (kk : AV → Heap → Option R)  : Nat → List Nat → Int → Int → Int → Int → List Nat → List Nat → Option R
  | 0, _, _, _, _, _, _, _ => none
  | m + 1, x0, x1, x2, x3, x4, x5, x6 => match A.ic .lss x3 x2 with
  | true => g9J13 A n kk (g9L11 A n kk  m) x0 x1 x2 x3 x4 x5 x6
  | false => g9J14 A n kk  x0 x1 x2 x4 x5 x6
def g9J9 {R : Type} (A : Ar) (n : Nat) (kk : AV → Heap → Option R)  (x0 : List Nat) (x1 x2 : Int) (x3 x4 : List Nat) : Option R :=
  g9L11 A n kk  n x0 0 x1 0 x2 x3 x4
def g9J3 {R : Type} (A : Ar) (n : Nat) (kk : AV → Heap → Option R)  (x0 : List Nat) (x1 : Int) (x2 x3 : List Nat) : Option R :=
  match Nat.blt 1 x0.length with
  | true => match A.ic .geq (A.ofN (x0.getD 1 0)) 128 with
    | true => match A.ic .lss (A.ib .sub .i64 (A.ofN (x0.getD 1 0)) 128) 1 with
      | true => kk (.tup [(.agg [.one (.int .i64 0), .one (.str []), .one (.str [])]), (.cell (.bool false))]) [(1000, ⟨[.one (.int .i64 0), .one (.str []), .one (.str [])], 28, 1⟩)]
      | false => match A.ic .gtr (A.ib .sub .i64 (A.ofN (x0.getD 1 0)) 128) 3 with
        | true => kk (.tup [(.agg [.one (.int .i64 0), .one (.str []), .one (.str [])]), (.cell (.bool false))]) [(1000, ⟨[.one (.int .i64 0), .one (.str []), .one (.str [])], 28, 1⟩)]
        | false => match A.ic .lss (A.ofN x0.length) (A.ib .add .i64 2 (A.ib .sub .i64 (A.ofN (x0.getD 1 0)) 128)) with
          | true => kk (.tup [(.agg [.one (.int .i64 0), .one (.str []), .one (.str [])]), (.cell (.bool false))]) [(1000, ⟨[.one (.int .i64 0), .one (.str []), .one (.str [])], 28, 1⟩)]
          | false => g9J9 A n kk  x0 (A.ib .sub .i64 (A.ofN (x0.getD 1 0)) 128) x1 x2 x3
    | false => g9J17 A n kk  x0 (A.ofN (x0.getD 1 0)) 2 x1 x2 x3
  | false => none
def g9 {R : Type} (A : Ar) (n : Nat) (kk : AV → Heap → Option R) (a : List Nat) : Option R :=
  match A.ic .lss (A.ofN a.length) 2 with
  | true => kk (.tup [(.agg [.one (.int .i64 0), .one (.str []), .one (.str [])]), (.cell (.bool false))]) [(1000, ⟨[.one (.int .i64 0), .one (.str []), .one (.str [])], 28, 1⟩)]
  | false => match Nat.blt 0 a.length with
    | true => match A.nc .eql (A.nb .rem .u8 (a.getD 0 0) 32) 31 with
      | true => kk (.tup [(.agg [.one (.int .i64 0), .one (.str []), .one (.str [])]), (.cell (.bool false))]) [(1000, ⟨[.one (.int .i64 0), .one (.str []), .one (.str [])], 28, 1⟩)]
      | false => g9J3 A n kk  a 0 [] []
    | false => none
section
variable {R : Type} {A : Ar} {n : Nat} {kk : AV → Heap → Option R} {tb : Nat → List Bool → St → Option R} (st : Stp (g9N A kk) tb)
include st
end
def g9is (o : Option AV) : Bool := match o with
  | some (.tup [.agg [.one (.int .i64 _), .one (.str _), .one (.str _)], .cell (.bool _)]) => true
  | _ => false
def g9g0 (o : Option AV) : Int := match o with
  | some (.tup [.agg [.one (.int .i64 x), .one (.str _), .one (.str _)], .cell (.bool _)]) => x
  | _ => 0
def g9g1 (o : Option AV) : List Nat := match o with
  | some (.tup [.agg [.one (.int .i64 _), .one (.str x), .one (.str _)], .cell (.bool _)]) => x
  | _ => []
def g9g2 (o : Option AV) : List Nat := match o with
  | some (.tup [.agg [.one (.int .i64 _), .one (.str _), .one (.str x)], .cell (.bool _)]) => x
  | _ => []
def g9g3 (o : Option AV) : Bool := match o with
  | some (.tup [.agg [.one (.int .i64 _), .one (.str _), .one (.str _)], .cell (.bool x)]) => x
  | _ => false
def g9v (A : Ar) (a : List Nat) : Option AV := g9 A (100000) (fun v _ => some v) a
def g9ok (A : Ar) (a : List Nat) : Bool := g9is (g9v A a)
def g9r0 (A : Ar) (a : List Nat) : Int := g9g0 (g9v A a)
def g9r1 (A : Ar) (a : List Nat) : List Nat := g9g1 (g9v A a)
def g9r2 (A : Ar) (a : List Nat) : List Nat := g9g2 (g9v A a)
def g9r3 (A : Ar) (a : List Nat) : Bool := g9g3 (g9v A a)
def g9o (A : Ar) (args : List AV) : Option (Bool × AV) := match args with
  | [.v (.cell (.str a))] => some (g9ok A a, .tup [.agg [.one (.int .i64 (g9r0 A a)), .one (.str (g9r1 A a)), .one (.str (g9r2 A a))], .cell (.bool (g9r3 A a))])
  | _ => none
attribute [local irreducible] g9ok g9r0 g9r1 g9r2 g9r3
def g11O (A : Ar) : Orc := orcOf []
def g11an : Ann := [(0, ([0, 1], [])), (1, ([0, 1], [])), (2, ([], [])), (3, ([0, 1], [])), (4, ([0, 1, 6], [])), (5, ([1, 6, 7], [5002])), (6, ([1, 6, 7], [5002])), (7, ([], [])), (8, ([1, 6, 7], [5002])), (9, ([1, 6, 7], [5002])), (10, ([1, 6, 7], [5002])), (11, ([1, 6, 7], [5002])), (12, ([1, 6, 7], [5002])), (13, ([1, 6, 7], [5002])), (14, ([1, 7], [5002]))]
def g11res : List ResultVar := [.tmp 4, .tmp 5]
def g11cut : List Nat := [3, 14]
noncomputable def g11N {R : Type} (A : Ar) (kk : AV → Heap → Option R) (t : List Bool → St → Option R) (p : List Bool) (s : St) : Option R := nodeN A gtys (g11O A) g11an g11cut t (bodyOf Try.f11) (finD gtys g11res kk) p s
def g11J14 {R : Type} (A : Ar) (n : Nat) (kk : AV → Heap → Option R)  (x0 : List Nat) (x1 x2 : Nat) (x3 : List Nat) : Option R :=
  match A.le ((x3.take x1).length + x0.length) 9223372036854775807 with
  | true => kk (.tup [(.cell (.str ((x3.take x1) ++ x0))), (.cell (.int .i64 0))]) [(5002, ⟨[.nums .u8 x2 x3], 5, 2⟩)]
  | false => none
def g11J3 {R : Type} (A : Ar) (n : Nat) (kk : AV → Heap → Option R)  (x0 : Int) (x1 : List Nat) : Option R :=
  match A.ic .geq (A.ofN x1.length) 16777216 with
  | true => kk (.tup [(.cell (.str [])), (.cell (.int .i64 9))]) []
  | false => match A.ic .geq (A.ofN x1.length) 65536 with
    | true => match A.eq 1 1 with
      | true => match A.le (([A.i2n .u8 x0] ++ ([131, A.i2n .u8 (A.ish .shr .i64 (A.ofN x1.length) 16), A.i2n .u8 (A.ish .shr .i64 (A.ofN x1.length) 8), A.i2n .u8 (A.ofN x1.length)].take 4)).length) 140737488355328 with
        | true => g11J14 A n kk  x1 (([A.i2n .u8 x0] ++ ([131, A.i2n .u8 (A.ish .shr .i64 (A.ofN x1.length) 16), A.i2n .u8 (A.ish .shr .i64 (A.ofN x1.length) 8), A.i2n .u8 (A.ofN x1.length)].take 4)).length) (([A.i2n .u8 x0] ++ ([131, A.i2n .u8 (A.ish .shr .i64 (A.ofN x1.length) 16), A.i2n .u8 (A.ish .shr .i64 (A.ofN x1.length) 8), A.i2n .u8 (A.ofN x1.length)].take 4)).length) ([A.i2n .u8 x0] ++ ([131, A.i2n .u8 (A.ish .shr .i64 (A.ofN x1.length) 16), A.i2n .u8 (A.ish .shr .i64 (A.ofN x1.length) 8), A.i2n .u8 (A.ofN x1.length)].take 4))
        | false => none
      | false => none
    | false => match A.ic .geq (A.ofN x1.length) 256 with
      | true => match A.eq 1 1 with
        | true => match A.le (([A.i2n .u8 x0] ++ ([130, A.i2n .u8 (A.ish .shr .i64 (A.ofN x1.length) 8), A.i2n .u8 (A.ofN x1.length)].take 3)).length) 140737488355328 with
          | true => g11J14 A n kk  x1 (([A.i2n .u8 x0] ++ ([130, A.i2n .u8 (A.ish .shr .i64 (A.ofN x1.length) 8), A.i2n .u8 (A.ofN x1.length)].take 3)).length) (([A.i2n .u8 x0] ++ ([130, A.i2n .u8 (A.ish .shr .i64 (A.ofN x1.length) 8), A.i2n .u8 (A.ofN x1.length)].take 3)).length) ([A.i2n .u8 x0] ++ ([130, A.i2n .u8 (A.ish .shr .i64 (A.ofN x1.length) 8), A.i2n .u8 (A.ofN x1.length)].take 3))
          | false => none
        | false => none
      | false => match A.ic .geq (A.ofN x1.length) 128 with
        | true => match A.eq 1 1 with
          | true => match A.le (([A.i2n .u8 x0] ++ ([129, A.i2n .u8 (A.ofN x1.length)].take 2)).length) 140737488355328 with
            | true => g11J14 A n kk  x1 (([A.i2n .u8 x0] ++ ([129, A.i2n .u8 (A.ofN x1.length)].take 2)).length) (([A.i2n .u8 x0] ++ ([129, A.i2n .u8 (A.ofN x1.length)].take 2)).length) ([A.i2n .u8 x0] ++ ([129, A.i2n .u8 (A.ofN x1.length)].take 2))
            | false => none
          | false => none
        | false => match A.eq 1 1 with
          | true => match A.le (([A.i2n .u8 x0] ++ ([A.i2n .u8 (A.ofN x1.length)].take 1)).length) 140737488355328 with
            | true => g11J14 A n kk  x1 (([A.i2n .u8 x0] ++ ([A.i2n .u8 (A.ofN x1.length)].take 1)).length) (([A.i2n .u8 x0] ++ ([A.i2n .u8 (A.ofN x1.length)].take 1)).length) ([A.i2n .u8 x0] ++ ([A.i2n .u8 (A.ofN x1.length)].take 1))
            | false => none
          | false => none
def g11 {R : Type} (A : Ar) (n : Nat) (kk : AV → Heap → Option R) (a : Int) (b : List Nat) : Option R :=
  match A.ic .lss a 0 with
  | true => kk (.tup [(.cell (.str [])), (.cell (.int .i64 1))]) []
  | false => match A.ic .gtr a 255 with
    | true => kk (.tup [(.cell (.str [])), (.cell (.int .i64 1))]) []
    | false => match A.ic .eql (A.ib .rem .i64 a 32) 31 with
      | true => kk (.tup [(.cell (.str [])), (.cell (.int .i64 1))]) []
      | false => g11J3 A n kk  a b
section
variable {R : Type} {A : Ar} {n : Nat} {kk : AV → Heap → Option R} {tb : Nat → List Bool → St → Option R} (st : Stp (g11N A kk) tb)
include st
end
def g11is (o : Option AV) : Bool := match o with
  | some (.tup [.cell (.str _), .cell (.int .i64 _)]) => true
  | _ => false
def g11g0 (o : Option AV) : List Nat := match o with
  | some (.tup [.cell (.str x), .cell (.int .i64 _)]) => x
  | _ => []
def g11g1 (o : Option AV) : Int := match o with
  | some (.tup [.cell (.str _), .cell (.int .i64 x)]) => x
  | _ => 0
def g11v (A : Ar) (a : Int) (b : List Nat) : Option AV := g11 A (100000) (fun v _ => some v) a b
def g11ok (A : Ar) (a : Int) (b : List Nat) : Bool := g11is (g11v A a b)
def g11r0 (A : Ar) (a : Int) (b : List Nat) : List Nat := g11g0 (g11v A a b)
def g11r1 (A : Ar) (a : Int) (b : List Nat) : Int := g11g1 (g11v A a b)
def g11o (A : Ar) (args : List AV) : Option (Bool × AV) := match args with
  | [.v (.cell (.int .i64 a)), .v (.cell (.str b))] => some (g11ok A a b, .tup [.cell (.str (g11r0 A a b)), .cell (.int .i64 (g11r1 A a b))])
  | _ => none
attribute [local irreducible] g11ok g11r0 g11r1
def g13O (A : Ar) : Orc := orcOf [(9, g9o A)]
def g13an : Ann := [(0, ([0], [])), (1, ([0], [])), (2, ([0, 4], [2000])), (3, ([0, 4], [2000])), (4, ([4, 5, 6], [2000, 4005])), (5, ([], [])), (6, ([4, 5], [2000, 4005])), (7, ([], [])), (8, ([4, 5], [2000, 4005])), (9, ([4, 5], [2000, 4005])), (10, ([4], [2000]))]
def g13res : List ResultVar := [.tmp 2, .tmp 3]
def g13cut : List Nat := [3, 6, 8]
noncomputable def g13N {R : Type} (A : Ar) (kk : AV → Heap → Option R) (t : List Bool → St → Option R) (p : List Bool) (s : St) : Option R := nodeN A gtys (g13O A) g13an g13cut t (bodyOf Try.f13) (finD gtys g13res kk) p s
def g13J8 {R : Type} (A : Ar) (n : Nat) (kk : AV → Heap → Option R) (lg13L2 : List Nat → Nat → Nat → List Int → List (List Nat) → List (List Nat) → Option R) (x0 x1 : Nat) (x2 : List Int) (x3 : List (List Nat)) (x4 : List (List Nat)) (x5 : Int) (x6 x7 : List Nat) : Option R :=
  match A.eq (x0 * 3) ((x1 * 3) + 0) with
  | true => match A.le ((x1 + 1) * 40) 140737488355328 with
    | true => lg13L2 x7 (x1 + 1) (x1 + 1) (x2 ++ [x5]) (x3 ++ [x6]) (x4 ++ [x7])
    | false => none
  | false => none
def g13J6 {R : Type} (A : Ar) (n : Nat) (kk : AV → Heap → Option R) (lg13L2 : List Nat → Nat → Nat → List Int → List (List Nat) → List (List Nat) → Option R) (x0 x1 : Nat) (x2 : List Int) (x3 : List (List Nat)) (x4 : List (List Nat)) (x5 : Int) (x6 x7 : List Nat) : Option R :=
  match A.ic .eql (A.ofN x0) 100 with
  | true => kk (.tup [(.cell (.sl 8000 none 0 3)), (.cell (.int .i64 9))]) [(8000, ⟨[.recs 0 [.ints .i64 [], .strs [], .strs []]], 28, 2⟩)]
  | false => g13J8 A n kk lg13L2 x0 x1 x2 x3 x4 x5 x6 x7
def g13J3 {R : Type} (A : Ar) (n : Nat) (kk : AV → Heap → Option R) (lg13L2 : List Nat → Nat → Nat → List Int → List (List Nat) → List (List Nat) → Option R) (x0 : List Nat) (x1 x2 : Nat) (x3 : List Int) (x4 : List (List Nat)) (x5 : List (List Nat)) : Option R :=
  match g9ok A x0 with
  | true => match !(g9r3 A x0) with
    | true => kk (.tup [(.cell (.sl 6000 none 0 3)), (.cell (.int .i64 2))]) [(6000, ⟨[.recs 0 [.ints .i64 [], .strs [], .strs []]], 28, 2⟩)]
    | false => g13J6 A n kk lg13L2 x1 x2 x3 x4 x5 (g9r0 A x0) (g9r1 A x0) (g9r2 A x0)
  | false => none
def g13L2 {R : Type} (A : Ar) (n : Nat) (kk : AV → Heap → Option R)  : Nat → List Nat → Nat → Nat → List Int → List (List Nat) → List (List Nat) → Option R
  | 0, _, _, _, _, _, _ => none
  | m + 1, x0, x1, x2, x3, x4, x5 => match A.sc .neq x0 [] with
  | true => g13J3 A n kk (g13L2 A n kk  m) x0 x1 x2 x3 x4 x5
  | false => kk (.tup [(.cell (.sl 2000 none x1 3)), (.cell (.int .i64 0))]) [(2000, ⟨[.recs x2 [.ints .i64 x3, .strs x4, .strs x5]], 28, 2⟩)]
def g13 {R : Type} (A : Ar) (n : Nat) (kk : AV → Heap → Option R) (x0 : List Nat) : Option R :=
  g13L2 A n kk  n x0 0 0 [] [] []
section
variable {R : Type} {A : Ar} {n : Nat} {kk : AV → Heap → Option R} {tb : Nat → List Bool → St → Option R} (st : Stp (g13N A kk) tb)
include st
end
def g13is (o : Option (AV × Heap)) : Bool := match o with
  | some (.tup [(.cell (.sl n0 none _ n1)), (.cell (.int .i64 _))], [(n2, ⟨[.recs _ [.ints .i64 _, .strs _, .strs _]], n3, n4⟩)]) => Nat.beq n0 700 && (Nat.beq n1 3 && (Nat.beq n2 700 && (Nat.beq n3 28 && (Nat.beq n4 2))))
  | _ => false
def g13g0 (o : Option (AV × Heap)) : Nat := match o with
  | some (.tup [(.cell (.sl _ none x _)), (.cell (.int .i64 _))], [(_, ⟨[.recs _ [.ints .i64 _, .strs _, .strs _]], _, _⟩)]) => x
  | _ => 0
def g13g1 (o : Option (AV × Heap)) : Int := match o with
  | some (.tup [(.cell (.sl _ none _ _)), (.cell (.int .i64 x))], [(_, ⟨[.recs _ [.ints .i64 _, .strs _, .strs _]], _, _⟩)]) => x
  | _ => 0
def g13g2 (o : Option (AV × Heap)) : Nat := match o with
  | some (.tup [(.cell (.sl _ none _ _)), (.cell (.int .i64 _))], [(_, ⟨[.recs x [.ints .i64 _, .strs _, .strs _]], _, _⟩)]) => x
  | _ => 0
def g13g3 (o : Option (AV × Heap)) : List Int := match o with
  | some (.tup [(.cell (.sl _ none _ _)), (.cell (.int .i64 _))], [(_, ⟨[.recs _ [.ints .i64 x, .strs _, .strs _]], _, _⟩)]) => x
  | _ => []
def g13g4 (o : Option (AV × Heap)) : List (List Nat) := match o with
  | some (.tup [(.cell (.sl _ none _ _)), (.cell (.int .i64 _))], [(_, ⟨[.recs _ [.ints .i64 _, .strs x, .strs _]], _, _⟩)]) => x
  | _ => []
def g13g5 (o : Option (AV × Heap)) : List (List Nat) := match o with
  | some (.tup [(.cell (.sl _ none _ _)), (.cell (.int .i64 _))], [(_, ⟨[.recs _ [.ints .i64 _, .strs _, .strs x]], _, _⟩)]) => x
  | _ => []
def g13v (A : Ar) (x0 : List Nat) : Option (AV × Heap) := g13 A (100000) (outH [] none) x0
def g13ok (A : Ar) (x0 : List Nat) : Bool := g13is (g13v A x0)
def g13r0 (A : Ar) (x0 : List Nat) : Nat := g13g0 (g13v A x0)
def g13r1 (A : Ar) (x0 : List Nat) : Int := g13g1 (g13v A x0)
def g13r2 (A : Ar) (x0 : List Nat) : Nat := g13g2 (g13v A x0)
def g13r3 (A : Ar) (x0 : List Nat) : List Int := g13g3 (g13v A x0)
def g13r4 (A : Ar) (x0 : List Nat) : List (List Nat) := g13g4 (g13v A x0)
def g13r5 (A : Ar) (x0 : List Nat) : List (List Nat) := g13g5 (g13v A x0)
def g13o (A : Ar) (args : List AV) (h : Heap) : Option (Bool × AV × Heap) := match args, h with
  | [.v (.cell (.str x0))], [] => some (g13ok A x0, (.tup [(.cell (.sl 700 none (g13r0 A x0) 3)), (.cell (.int .i64 (g13r1 A x0)))]), [(700, ⟨[.recs (g13r2 A x0) [.ints .i64 (g13r3 A x0), .strs (g13r4 A x0), .strs (g13r5 A x0)]], 28, 2⟩)])
  | _, _ => none
attribute [local irreducible] g13ok g13r0 g13r1 g13r2 g13r3 g13r4 g13r5
def g3O (A : Ar) : Orc := orcH [(7, g7o A), (8, g8o A), (9, g9o A), (10, g10o A), (11, g11o A)] [(12, ⟨[], none, (g12o A)⟩), (13, ⟨[], none, (g13o A)⟩)]
def g3an : Ann := [(0, ([0, 1, 2], [])), (1, ([0, 1, 2], [])), (2, ([0, 1, 2, 7], [])), (3, ([], [])), (4, ([0, 1, 2, 7], [])), (5, ([0, 1, 2, 7, 8, 9], [5005])), (6, ([0, 1, 2, 7, 8, 9, 10, 11], [5005, 6005])), (7, ([0, 1, 2, 7, 8, 9, 10, 11, 12, 13], [5005, 6005])), (8, ([0, 7, 8, 9, 10, 11, 12, 13, 14, 15], [5005, 6005])), (9, ([0, 7, 8, 9, 10, 11, 12, 13, 14, 15, 16, 17], [5005, 6005, 9001])), (10, ([7, 8, 9, 10, 11, 12, 13, 14, 15, 16, 17, 18, 19], [5005, 6005, 9001, 10001])), (11, ([], [])), (12, ([7, 8, 9, 10, 11, 12, 13, 14, 15, 16, 17, 18, 19], [5005, 6005, 9001, 10001])), (13, ([7, 8, 9, 10, 11, 12, 13, 14, 15, 16, 17, 18, 19, 20], [5005, 6005, 9001, 10001])), (14, ([7, 8, 9, 10, 11, 12, 13, 14, 15, 16, 17, 18, 19, 20], [5005, 6005, 9001, 10001])), (15, ([7, 8, 9, 10, 11, 12, 13, 14, 15, 16, 17, 18, 19, 20], [5005, 6005, 9001, 10001])), (16, ([], [])), (17, ([7, 8, 9, 10, 11, 12, 13, 14, 15, 17, 19], [5005, 6005]))]
def g3res : List ResultVar := [.tmp 6]
def g3cut : List Nat := [4, 12, 15, 17]
noncomputable def g3N {R : Type} (A : Ar) (kk : AV → Heap → Option R) (t : List Bool → St → Option R) (p : List Bool) (s : St) : Option R := nodeN A gtys (g3O A) g3an g3cut t (bodyOf Try.f3) (finD gtys g3res kk) p s
def g3J15 {R : Type} (A : Ar) (n : Nat) (kk : AV → Heap → Option R) (lg3L13 : Bool → Int → Bool → List Nat → Int → List Nat → Int → Nat → Int → Nat → Int → Int → Int → List Nat → List Nat → Int → List Nat → List Nat → Nat → List Int → List (List Nat) → List (List Nat) → Nat → List Int → List (List Nat) → List (List Nat) → Option R) (x0 : Bool) (x1 : Int) (x2 : Bool) (x3 : List Nat) (x4 : Int) (x5 : List Nat) (x6 : Int) (x7 : Nat) (x8 : Int) (x9 : Nat) (x10 x11 x12 : Int) (x13 x14 : List Nat) (x15 : Int) (x16 x17 : List Nat) (x18 : Nat) (x19 : List Int) (x20 : List (List Nat)) (x21 : List (List Nat)) (x22 : Nat) (x23 : List Int) (x24 : List (List Nat)) (x25 : List (List Nat)) : Option R :=
  match A.neg x11 with
  | true => none
  | false => match A.lt (A.toN x11) x7 with
    | true => match A.neg x11 with
      | true => none
      | false => match A.lt (A.toN x11) x9 with
        | true => match A.ic .neq (x19.getD (A.toN x11) 0) (x23.getD (A.toN x11) 0) with
          | true => kk (bO false) []
          | false => match A.neg x11 with
            | true => none
            | false => match A.lt (A.toN x11) x7 with
              | true => match A.neg x11 with
                | true => none
                | false => match A.lt (A.toN x11) x9 with
                  | true => match A.sc .neq (x20.getD (A.toN x11) []) (x24.getD (A.toN x11) []) with
                    | true => kk (bO false) []
                    | false => match A.neg x11 with
                      | true => none
                      | false => match A.lt (A.toN x11) x7 with
                        | true => match A.neg x11 with
                          | true => none
                          | false => match A.lt (A.toN x11) x9 with
                            | true => match A.sc .neq (x21.getD (A.toN x11) []) (x25.getD (A.toN x11) []) with
                              | true => kk (bO false) []
                              | false => lg3L13 x0 x1 x2 x3 x4 x5 x6 x7 x8 x9 x10 (A.ib .add .i64 x11 1) x12 x13 x14 x15 x16 x17 x18 x19 x20 x21 x22 x23 x24 x25
                            | false => none
                        | false => none
                  | false => none
              | false => none
        | false => none
    | false => none
def g3J17 {R : Type} (A : Ar) (n : Nat) (kk : AV → Heap → Option R)  (x0 : Bool) (x1 : Int) (x2 : Bool) (x3 : List Nat) (x4 : Int) (x5 : List Nat) (x6 x7 : Int) (x8 x9 : Int) (x10 x11 : List Nat) (x12 : Int) (x13 x14 : List Nat) : Option R :=
  match x0 with
  | true => match A.ic .eql x9 x12 with
    | true => match A.sc .eql x10 x13 with
      | true => match A.sc .eql x11 x14 with
        | true => match x2 with
          | true => match A.ic .eql x1 0 with
            | true => match A.sc .eql x3 x5 with
              | true => match A.ic .eql x4 x6 with
                | true => kk (bO (A.ic .eql x7 x8)) [(5005, ⟨[.one (.int .i64 x9), .one (.str x10), .one (.str x11)], 24, 1⟩), (6005, ⟨[.one (.int .i64 x12), .one (.str x13), .one (.str x14)], 28, 1⟩)]
                | false => kk (bO false) [(5005, ⟨[.one (.int .i64 x9), .one (.str x10), .one (.str x11)], 24, 1⟩), (6005, ⟨[.one (.int .i64 x12), .one (.str x13), .one (.str x14)], 28, 1⟩)]
              | false => kk (bO false) [(5005, ⟨[.one (.int .i64 x9), .one (.str x10), .one (.str x11)], 24, 1⟩), (6005, ⟨[.one (.int .i64 x12), .one (.str x13), .one (.str x14)], 28, 1⟩)]
            | false => match !x2 with
              | true => match A.ic .eql x1 2 with
                | true => match A.sc .eql x3 x5 with
                  | true => match A.ic .eql x4 x6 with
                    | true => kk (bO (A.ic .eql x7 x8)) [(5005, ⟨[.one (.int .i64 x9), .one (.str x10), .one (.str x11)], 24, 1⟩), (6005, ⟨[.one (.int .i64 x12), .one (.str x13), .one (.str x14)], 28, 1⟩)]
                    | false => kk (bO false) [(5005, ⟨[.one (.int .i64 x9), .one (.str x10), .one (.str x11)], 24, 1⟩), (6005, ⟨[.one (.int .i64 x12), .one (.str x13), .one (.str x14)], 28, 1⟩)]
                  | false => kk (bO false) [(5005, ⟨[.one (.int .i64 x9), .one (.str x10), .one (.str x11)], 24, 1⟩), (6005, ⟨[.one (.int .i64 x12), .one (.str x13), .one (.str x14)], 28, 1⟩)]
                | false => kk (bO false) [(5005, ⟨[.one (.int .i64 x9), .one (.str x10), .one (.str x11)], 24, 1⟩), (6005, ⟨[.one (.int .i64 x12), .one (.str x13), .one (.str x14)], 28, 1⟩)]
              | false => kk (bO false) [(5005, ⟨[.one (.int .i64 x9), .one (.str x10), .one (.str x11)], 24, 1⟩), (6005, ⟨[.one (.int .i64 x12), .one (.str x13), .one (.str x14)], 28, 1⟩)]
          | false => match !x2 with
            | true => match A.ic .eql x1 2 with
              | true => match A.sc .eql x3 x5 with
                | true => match A.ic .eql x4 x6 with
                  | true => kk (bO (A.ic .eql x7 x8)) [(5005, ⟨[.one (.int .i64 x9), .one (.str x10), .one (.str x11)], 24, 1⟩), (6005, ⟨[.one (.int .i64 x12), .one (.str x13), .one (.str x14)], 28, 1⟩)]
                  | false => kk (bO false) [(5005, ⟨[.one (.int .i64 x9), .one (.str x10), .one (.str x11)], 24, 1⟩), (6005, ⟨[.one (.int .i64 x12), .one (.str x13), .one (.str x14)], 28, 1⟩)]
                | false => kk (bO false) [(5005, ⟨[.one (.int .i64 x9), .one (.str x10), .one (.str x11)], 24, 1⟩), (6005, ⟨[.one (.int .i64 x12), .one (.str x13), .one (.str x14)], 28, 1⟩)]
              | false => kk (bO false) [(5005, ⟨[.one (.int .i64 x9), .one (.str x10), .one (.str x11)], 24, 1⟩), (6005, ⟨[.one (.int .i64 x12), .one (.str x13), .one (.str x14)], 28, 1⟩)]
            | false => kk (bO false) [(5005, ⟨[.one (.int .i64 x9), .one (.str x10), .one (.str x11)], 24, 1⟩), (6005, ⟨[.one (.int .i64 x12), .one (.str x13), .one (.str x14)], 28, 1⟩)]
        | false => kk (bO false) [(5005, ⟨[.one (.int .i64 x9), .one (.str x10), .one (.str x11)], 24, 1⟩), (6005, ⟨[.one (.int .i64 x12), .one (.str x13), .one (.str x14)], 28, 1⟩)]
      | false => kk (bO false) [(5005, ⟨[.one (.int .i64 x9), .one (.str x10), .one (.str x11)], 24, 1⟩), (6005, ⟨[.one (.int .i64 x12), .one (.str x13), .one (.str x14)], 28, 1⟩)]
    | false => kk (bO false) [(5005, ⟨[.one (.int .i64 x9), .one (.str x10), .one (.str x11)], 24, 1⟩), (6005, ⟨[.one (.int .i64 x12), .one (.str x13), .one (.str x14)], 28, 1⟩)]
  | false => kk (bO false) [(5005, ⟨[.one (.int .i64 x9), .one (.str x10), .one (.str x11)], 24, 1⟩), (6005, ⟨[.one (.int .i64 x12), .one (.str x13), .one (.str x14)], 28, 1⟩)]
def g3L13 {R : Type} (A : Ar) (n : Nat) (kk : AV → Heap → Option R)  : Nat → Bool → Int → Bool → List Nat → Int → List Nat → Int → Nat → Int → Nat → Int → Int → Int → List Nat → List Nat → Int → List Nat → List Nat → Nat → List Int → List (List Nat) → List (List Nat) → Nat → List Int → List (List Nat) → List (List Nat) → Option R
  | 0, _, _, _, _, _, _, _, _, _, _, _, _, _, _, _, _, _, _, _, _, _, _, _, _, _, _ => none
  | m + 1, x0, x1, x2, x3, x4, x5, x6, x7, x8, x9, x10, x11, x12, x13, x14, x15, x16, x17, x18, x19, x20, x21, x22, x23, x24, x25 => match A.ic .lss x11 (A.ofN x7) with
  | true => g3J15 A n kk (g3L13 A n kk  m) x0 x1 x2 x3 x4 x5 x6 x7 x8 x9 x10 x11 x12 x13 x14 x15 x16 x17 x18 x19 x20 x21 x22 x23 x24 x25
  | false => g3J17 A n kk  x0 x1 x2 x3 x4 x5 x6 x8 x10 x12 x13 x14 x15 x16 x17
def g3J12 {R : Type} (A : Ar) (n : Nat) (kk : AV → Heap → Option R)  (x0 : Bool) (x1 : Int) (x2 : Bool) (x3 : List Nat) (x4 : Int) (x5 : List Nat) (x6 : Int) (x7 : Nat) (x8 : Int) (x9 : Nat) (x10 x11 : Int) (x12 x13 : List Nat) (x14 : Int) (x15 x16 : List Nat) (x17 : Nat) (x18 : List Int) (x19 : List (List Nat)) (x20 : List (List Nat)) (x21 : Nat) (x22 : List Int) (x23 : List (List Nat)) (x24 : List (List Nat)) : Option R :=
  g3L13 A n kk  n x0 x1 x2 x3 x4 x5 x6 x7 x8 x9 x10 0 x11 x12 x13 x14 x15 x16 x17 x18 x19 x20 x21 x22 x23 x24
def g3J4 {R : Type} (A : Ar) (n : Nat) (kk : AV → Heap → Option R)  (x0 : List Nat) (x1 : Int) (x2 : List Nat) (x3 : Bool) : Option R :=
  match g8ok A x0 with
  | true => match g9ok A x0 with
    | true => match g10ok A x1 x2 with
      | true => match g11ok A x1 x2 with
        | true => match g12ok A x0 with
          | true => match g13ok A x0 with
            | true => match A.ic .neq (A.ofN (g12r0 A x0)) (A.ofN (g13r0 A x0)) with
              | true => kk (bO false) []
              | false => g3J12 A n kk  x3 (g8r3 A x0) (g9r3 A x0) (g10r0 A x1 x2) (g10r1 A x1 x2) (g11r0 A x1 x2) (g11r1 A x1 x2) (g12r0 A x0) (g12r1 A x0) (g13r0 A x0) (g13r1 A x0) (g8r0 A x0) (g8r1 A x0) (g8r2 A x0) (g9r0 A x0) (g9r1 A x0) (g9r2 A x0) (g12r2 A x0) (g12r3 A x0) (g12r4 A x0) (g12r5 A x0) (g13r2 A x0) (g13r3 A x0) (g13r4 A x0) (g13r5 A x0)
            | false => none
          | false => none
        | false => none
      | false => none
    | false => none
  | false => none
def g3 {R : Type} (A : Ar) (n : Nat) (kk : AV → Heap → Option R) (a : List Nat) (b : Int) (c : List Nat) : Option R :=
  match g7ok A with
  | true => match !(g7r0 A) with
    | true => kk (bO false) []
    | false => g3J4 A n kk  a b c (g7r0 A)
  | false => none
section
variable {R : Type} {A : Ar} {n : Nat} {kk : AV → Heap → Option R} {tb : Nat → List Bool → St → Option R} (st : Stp (g3N A kk) tb)
include st
end
def g3is (o : Option AV) : Bool := match o with
  | some (.v (.cell (.bool _))) => true
  | _ => false
def g3g0 (o : Option AV) : Bool := match o with
  | some (.v (.cell (.bool x))) => x
  | _ => false
def g3v (A : Ar) (a : List Nat) (b : Int) (c : List Nat) : Option AV := g3 A (100000) (fun v _ => some v) a b c
def g3ok (A : Ar) (a : List Nat) (b : Int) (c : List Nat) : Bool := g3is (g3v A a b c)
def g3r0 (A : Ar) (a : List Nat) (b : Int) (c : List Nat) : Bool := g3g0 (g3v A a b c)
attribute [local irreducible] g3ok g3r0
end Go.Sx
namespace Go.Sx
set_option linter.unusedSectionVars false
set_option linter.unusedVariables false
end Go.Sx
namespace Go.Sx
set_option linter.unusedSectionVars false
set_option linter.unusedVariables false
end Go.Sx
namespace Go.Sx
set_option linter.unusedSectionVars false
set_option linter.unusedVariables false
def prt : Nat → List Nat → List Int → List (List Nat) → List (List Nat) → (List Int × List (List Nat) × List (List Nat)) × Int
  | 0, _, _, _, _ => (([], [], []), 0)
  | f + 1, s, a, b, c => if s = [] then ((a, b, c), 0) else match nextP s with
    | none => (([], [], []), 2)
    | some (t, x, y) => if a.length = 100 then (([], [], []), 9) else prt f y (a ++ [(t : Int)]) (b ++ [x]) (c ++ [y])
def pout (ty : Nat) (r : (List Int × List (List Nat) × List (List Nat)) × Int) : AV × Heap :=
  (.tup [.cell (.sl 700 none r.1.1.length 3), .cell (.int .i64 r.2)], [(700, ⟨[.recs r.1.1.length [.ints .i64 r.1.1, .strs r.1.2.1, .strs r.1.2.2]], ty, 2⟩)])
theorem tail_rest {s : List Nat} {n z t : Nat} {x y : List Nat} (h : tailP s n z = some (t, x, y)) : ∃ k, y = s.drop k := by
  unfold tailP at h
  split at h
  · simp only [Option.some.injEq, Prod.mk.injEq] at h
    exact ⟨_, by rw [← h.2.2, List.drop_drop]⟩
  · cases h
theorem next_rest {s : List Nat} {t : Nat} {x y : List Nat} (h : nextP s = some (t, x, y)) : ∃ k, y = s.drop k := by
  unfold nextP at h
  split at h
  · cases h
  · split at h
    · cases h
    · split at h
      · exact tail_rest h
      · split at h
        · cases h
        · split at h
          · cases h
          · exact tail_rest h
theorem b3a_e (t : Int) (x y : List Nat) (e x0 : Int) (n : Nat) (a : List Int) (b c : List (List Nat)) (he : e ≠ 0) : g12b3a_v realA t x y e x0 n n a b c = some (.ret, [(410, ⟨[.one .nils], 35, 1⟩), (411, ⟨[.one (.int .i64 e)], 25, 1⟩), (412, ⟨[.one (.sl 500 none n 3)], 35, 1⟩), (500, ⟨[.recs n [.ints .i64 a, .strs b, .strs c]], 24, 2⟩)]) := by
  unfold g12b3a_v g12b3a_
  rw [ar_neq, decide_eq_false he]
  rfl
theorem b3a_l (t : Int) (x y : List Nat) (x0 : Int) (a : List Int) (b c : List (List Nat)) : g12b3a_v realA t x y 0 x0 100 100 a b c = some (.ret, [(410, ⟨[.one .nils], 35, 1⟩), (411, ⟨[.one (.int .i64 9)], 25, 1⟩), (412, ⟨[.one (.sl 500 none 100 3)], 35, 1⟩), (500, ⟨[.recs 100 [.ints .i64 a, .strs b, .strs c]], 24, 2⟩)]) := rfl
theorem b3a_k (t : Int) (x y : List Nat) (x0 : Int) (n : Nat) (a : List Int) (b c : List (List Nat)) (hn : n < 100) : g12b3a_v realA t x y 0 x0 n n a b c = some (.normal, [(410, ⟨[.one .nils], 35, 1⟩), (411, ⟨[.one (.int .i64 x0)], 25, 1⟩), (412, ⟨[.one (.sl 500 none (n + 1) 3)], 35, 1⟩), (500, ⟨[.recs (n + 1) [.ints .i64 (a ++ [t]), .strs (b ++ [x]), .strs (c ++ [y])]], 24, 2⟩)]) := by
  unfold g12b3a_v g12b3a_
  rw [ar_neq, decide_eq_true (rfl : (0 : Int) = 0)]
  simp only [Bool.not_true]
  unfold g12b3a_J7
  rw [ar_ofN, ar_eql, decide_eq_false (by omega)]
  simp only
  unfold g12b3a_J9
  rw [ar_eq, decide_eq_true (by omega), ar_le, decide_eq_true (by omega)]
theorem b3_e (t : Int) (x y : List Nat) (e x0 : Int) (he : e ≠ 0) : g12b3v realA t x y e x0 = some (.ret, [(410, ⟨[.one .nils], 35, 1⟩), (411, ⟨[.one (.int .i64 e)], 25, 1⟩), (412, ⟨[.one .nils], 35, 1⟩)]) := by
  unfold g12b3v g12b3
  rw [ar_neq, decide_eq_false he]
  rfl
theorem b3_k (t : Int) (x y : List Nat) (x0 : Int) : g12b3v realA t x y 0 x0 = some (.normal, [(410, ⟨[.one .nils], 35, 1⟩), (411, ⟨[.one (.int .i64 x0)], 25, 1⟩), (412, ⟨[.one (.sl 10003 none 1 3)], 35, 1⟩), (10003, ⟨[.recs 1 [.ints .i64 [t], .strs [x], .strs [y]]], 24, 2⟩)]) := rfl
end Go.Sx
namespace Go.Sx
set_option linter.unusedSectionVars false
set_option linter.unusedVariables false
abbrev K14 : AV → Heap → Option Heap := fun _ h => some (pick h [410, 411, 412, 413, 448, 500, 10003])
def okH (id : Nat) (x0 : Int) (r : List Int × List (List Nat) × List (List Nat)) : Heap := [(410, ⟨[.one .nils], 35, 1⟩), (411, ⟨[.one (.int .i64 x0)], 25, 1⟩), (412, ⟨[.one (.sl id none r.1.length 3)], 35, 1⟩), (413, ⟨[.one (.str [])], 9, 1⟩), (448, ⟨[], 0, 0⟩), (id, ⟨[.recs r.1.length [.ints .i64 r.1, .strs r.2.1, .strs r.2.2]], 24, 2⟩)]
def errH (e : Int) (n : Nat) (s : List Nat) (z : Nat) (a : List Int) (b c : List (List Nat)) : Heap := [(410, ⟨[.one .nils], 35, 1⟩), (411, ⟨[.one (.int .i64 e)], 25, 1⟩), (412, ⟨[.one (.sl 500 none n 3)], 35, 1⟩), (413, ⟨[.one (.str s)], 9, 1⟩), (448, ⟨[], 1, 0⟩), (500, ⟨[.recs z [.ints .i64 a, .strs b, .strs c]], 24, 2⟩)]
def Ends (x0 : Int) (r : (List Int × List (List Nat) × List (List Nat)) × Int) (o : Option Heap) : Prop := (r.2 = 0 ∧ o = some (okH 500 x0 r.1)) ∨ (r.2 ≠ 0 ∧ r.1 = ([], [], []) ∧ ∃ n s z a b c, o = some (errH r.2 n s z a b c))
theorem j1a_none (N : Nat) (f : Int → Nat → List Nat → Nat → List Int → List (List Nat) → List (List Nat) → Option Heap) (x0 : Int) (n : Nat) (s : List Nat) (a : List Int) (b c : List (List Nat)) (hs : ∀ x ∈ s, x < 256) (hl : s.length < 1000000000000000) (hn : nextP s = none) : g12i3J1a realA N K14 f x0 n s n a b c = some (errH 2 n s n a b c) := by
  unfold g12i3J1a
  rw [next_ok hs hl, next_0 hs hl, next_1 hs hl, next_2 hs hl, next_3 hs hl, hn]
  simp only [nx0, nx1, nx2, nx3]
  have hv := b3a_e 0 [] [] 2 x0 n a b c (by decide)
  simp only [g12b3a_c0, g12b3a_c1, g12b3a_r1_0, g12b3a_r1_1, g12b3a_r1_2, g12b3a_r1_3, g12b3a_r1_4, g12b3a_r1_5, hv]
  rfl
theorem j1a_many (N : Nat) (f : Int → Nat → List Nat → Nat → List Int → List (List Nat) → List (List Nat) → Option Heap) (x0 : Int) (s : List Nat) (a : List Int) (b c : List (List Nat)) (hs : ∀ x ∈ s, x < 256) (hl : s.length < 1000000000000000) {t : Nat} {x y : List Nat} (hn : nextP s = some (t, x, y)) : g12i3J1a realA N K14 f x0 100 s 100 a b c = some (errH 9 100 s 100 a b c) := by
  unfold g12i3J1a
  rw [next_ok hs hl, next_0 hs hl, next_1 hs hl, next_2 hs hl, next_3 hs hl, hn]
  simp only [nx0, nx1, nx2, nx3]
  have hv := b3a_l (t : Int) x y x0 a b c
  simp only [g12b3a_c0, g12b3a_c1, g12b3a_r1_0, g12b3a_r1_1, g12b3a_r1_2, g12b3a_r1_3, g12b3a_r1_4, g12b3a_r1_5, hv]
  rfl
theorem j1a_some (N : Nat) (f : Int → Nat → List Nat → Nat → List Int → List (List Nat) → List (List Nat) → Option Heap) (x0 : Int) (n : Nat) (s : List Nat) (a : List Int) (b c : List (List Nat)) (hs : ∀ x ∈ s, x < 256) (hl : s.length < 1000000000000000) {t : Nat} {x y : List Nat} (hn : nextP s = some (t, x, y)) (h : n < 100) : g12i3J1a realA N K14 f x0 n s n a b c = f x0 (n + 1) y (n + 1) (a ++ [(t : Int)]) (b ++ [x]) (c ++ [y]) := by
  unfold g12i3J1a
  rw [next_ok hs hl, next_0 hs hl, next_1 hs hl, next_2 hs hl, next_3 hs hl, hn]
  simp only [nx0, nx1, nx2, nx3]
  have hv := b3a_k (t : Int) x y x0 n a b c h
  simp only [g12b3a_c0, g12b3a_c1, g12b3a_r0_0, g12b3a_r0_1, g12b3a_r0_2, g12b3a_r0_3, g12b3a_r0_4, g12b3a_r0_5, hv]
  rw [ar_neq, decide_eq_true (rfl : (0 : Int) = 0)]
  rfl
theorem l0b (N : Nat) : ∀ (d m : Nat) (s : List Nat) (x0 : Int) (a : List Int) (b c : List (List Nat)), a.length + d = 100 → d + 2 ≤ m → (∀ x ∈ s, x < 256) → s.length < 1000000000000000 → Ends x0 (prt (d + 1) s a b c) (g12i3L0b realA N K14 m x0 a.length s a.length a b c) := by
  intro d
  induction d with
  | zero =>
    intro m s x0 a b c h1 h2 hs hl
    obtain ⟨m, rfl⟩ : ∃ m', m = m' + 1 := ⟨m - 1, by omega⟩
    rw [g12i3L0b, ar_scne]
    unfold prt
    by_cases he : s = []
    · subst he
      rw [decide_eq_true rfl, if_pos rfl]
      exact .inl ⟨rfl, rfl⟩
    · rw [decide_eq_false he, if_neg he]
      simp only [Bool.not_false]
      cases hn : nextP s with
      | none => exact .inr ⟨by simp, rfl, _, _, _, _, _, _, j1a_none N _ x0 _ s a b c hs hl hn⟩
      | some p =>
        obtain ⟨t, x, y⟩ := p
        have ha : a.length = 100 := by omega
        simp only [ha, if_pos]
        exact .inr ⟨by simp, rfl, _, _, _, _, _, _, j1a_many N _ x0 s a b c hs hl hn⟩
  | succ d ih =>
    intro m s x0 a b c h1 h2 hs hl
    obtain ⟨m, rfl⟩ : ∃ m', m = m' + 1 := ⟨m - 1, by omega⟩
    rw [g12i3L0b, ar_scne]
    unfold prt
    by_cases he : s = []
    · subst he
      rw [decide_eq_true rfl, if_pos rfl]
      exact .inl ⟨rfl, rfl⟩
    · rw [decide_eq_false he, if_neg he]
      simp only [Bool.not_false]
      cases hn : nextP s with
      | none => exact .inr ⟨by simp, rfl, _, _, _, _, _, _, j1a_none N _ x0 _ s a b c hs hl hn⟩
      | some p =>
        obtain ⟨t, x, y⟩ := p
        simp only
        rw [if_neg (by omega), j1a_some N _ x0 _ s a b c hs hl hn (by omega)]
        obtain ⟨k, rfl⟩ := next_rest hn
        have := ih m (s.drop k) x0 (a ++ [(t : Int)]) (b ++ [x]) (c ++ [s.drop k]) (by simp; omega) (by omega) (fun z hz => hs z (List.mem_of_mem_drop hz)) (by rw [List.length_drop]; omega)
        rw [List.length_append] at this
        exact this
end Go.Sx
namespace Go.Sx
set_option linter.unusedSectionVars false
set_option linter.unusedVariables false
theorem g20_v (s : List Nat) : g20ok realA s = true ∧ g20r0 realA s = s := ⟨rfl, rfl⟩
def okN (x0 : Int) : Heap := [(410, ⟨[.one .nils], 35, 1⟩), (411, ⟨[.one (.int .i64 x0)], 25, 1⟩), (412, ⟨[.one .nils], 35, 1⟩), (413, ⟨[.one (.str [])], 9, 1⟩), (448, ⟨[], 0, 0⟩)]
def errN (e : Int) (s : List Nat) : Heap := [(410, ⟨[.one .nils], 35, 1⟩), (411, ⟨[.one (.int .i64 e)], 25, 1⟩), (412, ⟨[.one .nils], 35, 1⟩), (413, ⟨[.one (.str s)], 9, 1⟩), (448, ⟨[], 1, 0⟩)]
theorem l0a (N m : Nat) (s : List Nat) (x0 : Int) (a : List Int) (b c : List (List Nat)) (h1 : a.length = 1) (h2 : 110 ≤ m) (hs : ∀ x ∈ s, x < 256) (hl : s.length < 1000000000000000) : Ends x0 (prt (99 + 1) s a b c) (g12i3L0a realA N K14 m x0 a.length s a.length a b c) ∨ (s = [] ∧ g12i3L0a realA N K14 m x0 a.length s a.length a b c = some (okH 10003 x0 (a, b, c))) := by
  obtain ⟨m, rfl⟩ : ∃ m', m = m' + 1 := ⟨m - 1, by omega⟩
  have hb := l0b N 99 (m + 1) s x0 a b c (by omega) (by omega) hs hl
  by_cases he : s = []
  · subst he
    refine .inr ⟨rfl, ?_⟩
    rw [g12i3L0a, ar_scne, decide_eq_true rfl]
    rfl
  · refine .inl ?_
    rw [g12i3L0b, ar_scne, decide_eq_false he] at hb
    rw [g12i3L0a, ar_scne, decide_eq_false he]
    exact hb
theorem j1_none (N : Nat) (f : Int → Nat → List Nat → Nat → List Int → List (List Nat) → List (List Nat) → Option Heap) (x0 : Int) (s : List Nat) (hs : ∀ x ∈ s, x < 256) (hl : s.length < 1000000000000000) (hn : nextP s = none) : g12i3J1 realA N K14 f x0 s = some (errN 2 s) := by
  unfold g12i3J1
  rw [next_ok hs hl, next_0 hs hl, next_1 hs hl, next_2 hs hl, next_3 hs hl, hn]
  simp only [nx0, nx1, nx2, nx3]
  have hv := b3_e 0 [] [] 2 x0 (by decide)
  simp only [g12b3c0, g12b3c1, g12b3r1_0, hv]
  rfl
theorem j1_some (N : Nat) (f : Int → Nat → List Nat → Nat → List Int → List (List Nat) → List (List Nat) → Option Heap) (x0 : Int) (s : List Nat) (hs : ∀ x ∈ s, x < 256) (hl : s.length < 1000000000000000) {t : Nat} {x y : List Nat} (hn : nextP s = some (t, x, y)) : g12i3J1 realA N K14 f x0 s = f x0 1 y 1 [(t : Int)] [x] [y] := by
  unfold g12i3J1
  rw [next_ok hs hl, next_0 hs hl, next_1 hs hl, next_2 hs hl, next_3 hs hl, hn]
  simp only [nx0, nx1, nx2, nx3]
  have hv := b3_k (t : Int) x y x0
  simp only [g12b3c0, g12b3c1, g12b3r0_0, g12b3r0_1, g12b3r0_2, g12b3r0_3, g12b3r0_4, g12b3r0_5, hv]
  rw [ar_neq, decide_eq_true (rfl : (0 : Int) = 0)]
  rfl
theorem it_v {s : List Nat} (hs : ∀ x ∈ s, x < 256) (hl : s.length < 1000000000000000) : (prt 101 s [] [] [] = (([], [], []), 0) ∧ g12i3v realA 0 s = some (okN 0)) ∨ (∃ e, prt 101 s [] [] [] = (([], [], []), e) ∧ g12i3v realA 0 s = some (errN e s)) ∨ Ends 0 (prt 101 s [] [] []) (g12i3v realA 0 s) ∨ (∃ r, prt 101 s [] [] [] = (r, 0) ∧ g12i3v realA 0 s = some (okH 10003 0 r)) := by
  unfold g12i3v
  have hN : (100000 : Nat) = 99900 + 99 + 1 := rfl
  generalize hM : 99900 = M at hN
  rw [hN]
  have hM2 : 90000 ≤ M := by omega
  clear hN hM
  unfold g12i3
  rw [g12i3L0, ar_scne]
  by_cases he : s = []
  · subst he
    rw [decide_eq_true rfl]
    exact .inl ⟨rfl, rfl⟩
  · have hp : prt 101 s [] [] [] = match nextP s with
      | none => (([], [], []), 2)
      | some (t, x, y) => prt 100 y [(t : Int)] [x] [y] := by
      show prt (100 + 1) s [] [] [] = _
      rw [prt, if_neg he]
      rfl
    rw [decide_eq_false he]
    simp only [Bool.not_false]
    cases hn : nextP s with
    | none =>
      rw [hn] at hp
      exact .inr (.inl ⟨2, hp, j1_none _ _ 0 s hs hl hn⟩)
    | some p =>
      obtain ⟨t, x, y⟩ := p
      rw [hn] at hp
      simp only at hp
      rw [j1_some _ _ 0 s hs hl hn, hp]
      obtain ⟨k, rfl⟩ := next_rest hn
      rcases l0a (M + 99 + 1) (M + 99) (s.drop k) 0 [(t : Int)] [x] [s.drop k] rfl (by omega) (fun z hz => hs z (List.mem_of_mem_drop hz)) (by rw [List.length_drop]; omega) with h | ⟨h1, h2⟩
      · exact .inr (.inr (.inl h))
      · refine .inr (.inr (.inr ⟨([(t : Int)], [x], [s.drop k]), ?_, h2⟩))
        rw [h1]
        rfl
end Go.Sx
namespace Go.Sx
set_option linter.unusedSectionVars false
open Go.Proofs
set_option linter.unusedVariables false
theorem p12_0 {s : List Nat} (h : g12i3v realA 0 s = some (okN 0)) : g12v realA s = some (pout 24 (([], [], []), 0)) := by
  unfold g12v g12
  rw [(g20_v s).1, (g20_v s).2]
  simp only [g12i3c0, g12i3c1, g12i3c2, g12i3c3, g12i3c4, h]
  kernel_rfl
theorem p12_1 {s s' : List Nat} {e : Int} (h : g12i3v realA 0 s = some (errN e s')) : g12v realA s = some (pout 24 (([], [], []), e)) := by
  unfold g12v g12
  rw [(g20_v s).1, (g20_v s).2]
  simp only [g12i3c0, g12i3c1, g12i3c2, g12i3c3, g12i3r3_0, g12i3r3_1, h]
  kernel_rfl
theorem p12_2 {s : List Nat} {r : List Int × List (List Nat) × List (List Nat)} (h : g12i3v realA 0 s = some (okH 500 0 r)) : g12v realA s = some (pout 24 (r, 0)) := by
  unfold g12v g12
  rw [(g20_v s).1, (g20_v s).2]
  simp only [g12i3c0, g12i3r0_1, g12i3r0_3, g12i3r0_4, g12i3r0_5, g12i3r0_6, h]
  kernel_rfl
theorem p12_3 {s : List Nat} {r : List Int × List (List Nat) × List (List Nat)} (h : g12i3v realA 0 s = some (okH 10003 0 r)) : g12v realA s = some (pout 24 (r, 0)) := by
  unfold g12v g12
  rw [(g20_v s).1, (g20_v s).2]
  simp only [g12i3c0, g12i3c1, g12i3c2, g12i3r2_1, g12i3r2_3, g12i3r2_4, g12i3r2_5, g12i3r2_6, h]
  kernel_rfl
theorem p12_4 {s s' : List Nat} {e : Int} {n z : Nat} {a : List Int} {b c : List (List Nat)} (h : g12i3v realA 0 s = some (errH e n s' z a b c)) : g12v realA s = some (pout 24 (([], [], []), e)) := by
  unfold g12v g12
  rw [(g20_v s).1, (g20_v s).2]
  simp only [g12i3c0, g12i3c1, g12i3r1_0, g12i3r1_1, g12i3r1_2, g12i3r1_3, g12i3r1_4, g12i3r1_5, g12i3r1_6, h]
  kernel_rfl
theorem g12_v {s : List Nat} (hs : ∀ x ∈ s, x < 256) (hl : s.length < 1000000000000000) : g12v realA s = some (pout 24 (prt 101 s [] [] [])) := by
  rcases it_v hs hl with ⟨h1, h2⟩ | ⟨e, h1, h2⟩ | h | ⟨r, h1, h2⟩
  · rw [h1]; exact p12_0 h2
  · rw [h1]; exact p12_1 h2
  · rcases h with ⟨h1, h2⟩ | ⟨h1, h3, n, s', z, a, b, c, h2⟩
    · rw [p12_2 h2]
      rw [← h1]
    · rw [p12_4 h2]
      rw [← h3]
  · rw [h1]; exact p12_3 h2
end Go.Sx
namespace Go.Sx
set_option linter.unusedSectionVars false
set_option linter.unusedVariables false
def ws : List (Nat × List Nat) → List Nat
  | [] => []
  | (t, T) :: r => t :: (lenB T.length ++ (T ++ ws r))
theorem ws_app (a b : List (Nat × List Nat)) : ws (a ++ b) = ws a ++ ws b := by
  induction a with
  | nil => rfl
  | cons p a ih =>
    obtain ⟨t, T⟩ := p
    simp [ws, ih]
theorem prt_ws : ∀ (its : List (Nat × List Nat)) (f : Nat) (a : List Int) (b c : List (List Nat)), (∀ p ∈ its, p.1 % 32 ≠ 31 ∧ p.2.length < 16777216) → its.length ≤ f → a.length + its.length ≤ 100 →
    (prt (f + 1) (ws its) a b c).2 = 0 ∧ (prt (f + 1) (ws its) a b c).1.2.1 = b ++ its.map (fun p => p.2) ∧ (prt (f + 1) (ws its) a b c).1.1.length = a.length + its.length := by
  intro its
  induction its with
  | nil =>
    intro f a b c _ _ _
    simp [prt, ws]
  | cons p r ih =>
    intro f a b c h h1 h2
    obtain ⟨t, T⟩ := p
    obtain ⟨f, rfl⟩ : ∃ f', f = f' + 1 := ⟨f - 1, by simp at h1; omega⟩
    have hp := h (t, T) List.mem_cons_self
    have hn : nextP (ws ((t, T) :: r)) = some (t, T, ws r) := next_wrap hp.1 rfl hp.2
    have hne : ws ((t, T) :: r) ≠ [] := by simp [ws]
    have e : prt (f + 1 + 1) (ws ((t, T) :: r)) a b c = prt (f + 1) (ws r) (a ++ [(t : Int)]) (b ++ [T]) (c ++ [ws r]) := by
      rw [prt, if_neg hne, hn]
      simp only
      rw [if_neg (by simp at h2; omega)]
    rw [e]
    have := ih f (a ++ [(t : Int)]) (b ++ [T]) (c ++ [ws r]) (fun p hp => h p (List.mem_cons_of_mem _ hp)) (by simp at h1; omega) (by simp at h2 ⊢; omega)
    refine ⟨this.1, ?_, ?_⟩
    · rw [this.2.1]; simp
    · rw [this.2.2]; simp; omega
theorem tail_wrap {s : List Nat} {n z t : Nat} {x y : List Nat} (hz : 1 + z ≤ s.length) (hz1 : 1 ≤ z) (hn : n < 16777216) (h : tailP s n z = some (t, x, y)) : t = s.getD 0 0 ∧ x.length = n ∧ t :: (lenB x.length ++ (x ++ y)) = s := by
  unfold tailP at h
  split at h
  · rename_i hc
    simp only [Option.some.injEq, Prod.mk.injEq] at h
    obtain ⟨rfl, rfl, rfl⟩ := h
    have hx : ((s.drop (1 + z)).take n).length = n := by rw [List.length_take, List.length_drop]; omega
    refine ⟨rfl, hx, ?_⟩
    rw [hx, hc.1, List.take_append_drop]
    obtain ⟨a, r, rfl⟩ : ∃ a r, s = a :: r := by
      match s, hz with
      | a :: r, _ => exact ⟨a, r, rfl⟩
      | [], h => simp at h
    rw [Nat.add_comm 1 z, List.take_succ_cons, List.drop_succ_cons, List.drop_succ_cons, List.drop_zero, List.take_append_drop]
    rfl
  · cases h
theorem next_back {s : List Nat} (hs : ∀ x ∈ s, x < 256) {t : Nat} {x y : List Nat} (h : nextP s = some (t, x, y)) : t % 32 ≠ 31 ∧ t < 256 ∧ x.length < 16777216 ∧ t :: (lenB x.length ++ (x ++ y)) = s := by
  unfold nextP at h
  split at h
  · cases h
  · rename_i h1
    split at h
    · cases h
    · rename_i h2
      have h0 := getD_lt hs 0
      have hc := getD_lt hs 1
      split at h
      · rename_i h3
        obtain ⟨e1, e2, e3⟩ := tail_wrap (by omega) (by omega) (by omega) h
        exact ⟨by rw [e1]; exact h2, by rw [e1]; exact h0, by omega, e3⟩
      · split at h
        · cases h
        · rename_i h4
          split at h
          · cases h
          · rename_i h5
            have hb := bval_lt ((s.take (1 + (s.getD 1 0 - 127))).drop 2) 0 (fun x hx => hs x (List.mem_of_mem_take (List.mem_of_mem_drop hx)))
            have hl : ((s.take (1 + (s.getD 1 0 - 127))).drop 2).length ≤ 3 := by rw [List.length_drop, List.length_take]; omega
            have hp : 256 ^ ((s.take (1 + (s.getD 1 0 - 127))).drop 2).length ≤ 256 ^ 3 := Nat.pow_le_pow_right (by decide) hl
            obtain ⟨e1, e2, e3⟩ := tail_wrap (by omega) (by omega) (by omega) h
            exact ⟨by rw [e1]; exact h2, by rw [e1]; exact h0, by omega, e3⟩
theorem wrap_back {s : List Nat} (hs : ∀ x ∈ s, x < 256) {t : Nat} {x y : List Nat} (h : nextP s = some (t, x, y)) : (wrapB (t : Int) x).2 = 0 ∧ (wrapB (t : Int) x).1 ++ y = s := by
  obtain ⟨h1, h2, h3, h4⟩ := next_back hs h
  unfold wrapB
  rw [if_neg (by omega), if_neg (by omega), if_neg (by omega), if_neg (by omega)]
  exact ⟨rfl, by simpa using h4⟩
end Go.Sx
namespace Go.Sx
set_option linter.unusedSectionVars false
set_option maxRecDepth 100000
theorem ex14ok : g7ok realA = true := by kernel_rfl
theorem ex14r : g7r0 realA = true := by kernel_rfl
end Go.Sx
namespace Go.Sx
set_option linter.unusedSectionVars false
set_option linter.unusedVariables false
theorem ic_self (a : Int) : realA.ic .eql a a = true := decide_eq_true rfl
theorem sc_self (a : List Nat) : realA.sc .eql a a = true := by rw [ar_sceq]; exact decide_eq_true rfl
theorem icn_self (a : Int) : realA.ic .neq a a = false := by rw [ar_neq, decide_eq_true rfl]; rfl
theorem scn_self (a : List Nat) : realA.sc .neq a a = false := by rw [ar_scne, decide_eq_true rfl]; rfl
theorem g12_all {s : List Nat} (hs : ∀ x ∈ s, x < 256) (hl : s.length < 1000000000000000) : g12ok realA s = true ∧ g12r0 realA s = (prt 101 s [] [] []).1.1.length ∧ g12r1 realA s = (prt 101 s [] [] []).2 ∧ g12r3 realA s = (prt 101 s [] [] []).1.1 ∧ g12r4 realA s = (prt 101 s [] [] []).1.2.1 ∧ g12r5 realA s = (prt 101 s [] [] []).1.2.2 := by
  unfold g12ok g12r0 g12r1 g12r3 g12r4 g12r5
  rw [g12_v hs hl]
  exact ⟨rfl, rfl, rfl, rfl, rfl, rfl⟩
end Go.Sx
namespace Go.Sx
set_option linter.unusedSectionVars false
open Go.Proofs
set_option linter.unusedVariables false
set_option maxRecDepth 100000
attribute [local irreducible] g8ok g8r0 g8r1 g8r2 g8r3 g10ok g10r0 g10r1 g7ok g7r0
def g6O (A : Ar) : Orc := orcOf [(7, g7o A), (10, g10o A), (8, g8o A)]
def g6an : Ann := [(0, ([0, 1], [])), (1, ([0, 1], [])), (2, ([0, 1, 5], [])), (3, ([], [])), (4, ([0, 1, 5], [])), (5, ([1, 5, 6], [])), (6, ([1, 5, 6, 7], [6001])), (7, ([1, 5, 6, 7, 8], [6001])), (8, ([1, 5, 6, 7, 8], [6001])), (9, ([1, 5, 6, 7, 8], [6001])), (10, ([5, 6, 7], [6001])), (11, ([5, 6, 7, 9, 10], [6001])), (12, ([5, 6, 7, 9, 10, 11], [6001])), (13, ([5, 6, 7, 9, 10, 11, 12], [6001, 13000])), (14, ([5, 6, 7, 9, 10, 11, 12, 13], [6001, 13000])), (15, ([5, 6, 7, 9, 10, 11, 12, 13], [6001, 13000])), (16, ([5, 6, 7, 9, 10, 11, 12, 13], [6001, 13000])), (17, ([5, 6, 7, 9, 10, 11, 12, 13], [6001, 13000])), (18, ([5, 6, 7, 9, 10, 11], [6001])), (19, ([5, 6, 7, 9, 10, 11, 14, 15], [6001, 19005])), (20, ([5, 6, 7, 9, 10, 11, 14, 15, 16], [6001, 19005])), (21, ([5, 6, 7, 9, 10, 11, 14, 15, 18], [6001, 19005]))]
def g6res : List ResultVar := [.tmp 4]
def g6cut : List Nat := [4, 9, 10, 16, 18]
noncomputable def g6N {R : Type} (A : Ar) (kk : AV → Heap → Option R) (t : List Bool → St → Option R) (p : List Bool) (s : St) : Option R := nodeN A gtys (g6O A) g6an g6cut t (bodyOf Try.f6) (finD gtys g6res kk) p s
def g6J9 {R : Type} (A : Ar) (n : Nat) (kk : AV → Heap → Option R) (lg6L7 : Nat → Bool → Int → Nat → Int → Nat → List Nat → Option R) (x0 : Nat) (x1 : Bool) (x2 : Int) (x3 : Nat) (x4 : Int) (x5 : Nat) (x6 : List Nat) : Option R :=
  match A.neg x4 with
  | true => none
  | false => match A.lt (A.toN x4) x3 with
    | true => lg6L7 x0 x1 x2 x3 (A.ib .add .i64 x4 1) x5 (x6.set (A.toN x4) x0)
    | false => none
def g6J16 {R : Type} (A : Ar) (n : Nat) (kk : AV → Heap → Option R) (lg6L14 : Bool → Int → Nat → List Nat → Int → Int → Nat → Int → Nat → List Nat → Nat → List Int → Option R) (x0 : Bool) (x1 : Int) (x2 : Nat) (x3 : List Nat) (x4 x5 : Int) (x6 : Nat) (x7 : Int) (x8 : Nat) (x9 : List Nat) (x10 : Nat) (x11 : List Int) : Option R :=
  match A.neg x7 with
  | true => none
  | false => match A.lt (A.toN x7) x6 with
    | true => match A.ic .gtr x1 (x11.getD (A.toN x7) 0) with
      | true => lg6L14 x0 x1 x2 x3 x4 (A.ib .add .i64 x5 1) x6 (A.ib .add .i64 x7 1) x8 x9 x10 x11
      | false => lg6L14 x0 x1 x2 x3 x4 x5 x6 (A.ib .add .i64 x7 1) x8 x9 x10 x11
    | false => none
def g6J18 {R : Type} (A : Ar) (n : Nat) (kk : AV → Heap → Option R)  (x0 : Bool) (x1 : Int) (x2 : Nat) (x3 : List Nat) (x4 x5 : Int) (x6 : Nat) (x7 : List Nat) : Option R :=
  match g8ok A x3 with
  | true => match A.le ([4, 131].length + ([A.i2n .u8 (A.ish .shr .i64 x1 16), A.i2n .u8 (A.ish .shr .i64 x1 8), A.i2n .u8 x1].take 3).length) 9223372036854775807 with
    | true => match A.le (([4, 131] ++ ([A.i2n .u8 (A.ish .shr .i64 x1 16), A.i2n .u8 (A.ish .shr .i64 x1 8), A.i2n .u8 x1].take 3)).length + (x7.take x2).length) 9223372036854775807 with
      | true => match g8ok A (([4, 131] ++ ([A.i2n .u8 (A.ish .shr .i64 x1 16), A.i2n .u8 (A.ish .shr .i64 x1 8), A.i2n .u8 x1].take 3)) ++ (x7.take x2)) with
        | true => match x0 with
          | true => match A.ic .eql x4 0 with
            | true => match A.ic .eql (A.ofN x3.length) (A.ib .add .i64 x1 x5) with
              | true => match A.ic .eql (g8r0 A x3) 4 with
                | true => match A.sc .eql (g8r1 A x3) (x7.take x2) with
                  | true => match A.ic .eql (g8r3 A x3) 0 with
                    | true => kk (bO ((A.ic .eql (g8r3 A (([4, 131] ++ ([A.i2n .u8 (A.ish .shr .i64 x1 16), A.i2n .u8 (A.ish .shr .i64 x1 8), A.i2n .u8 x1].take 3)) ++ (x7.take x2))) 0) == (A.ic .gtr x1 65535))) [(6001, ⟨[.nums .u8 x6 x7], 5, 2⟩), (19005, ⟨[.one (.int .i64 (g8r0 A x3)), .one (.str (g8r1 A x3)), .one (.str (g8r2 A x3))], 24, 1⟩)]
                    | false => kk (bO false) [(6001, ⟨[.nums .u8 x6 x7], 5, 2⟩), (19005, ⟨[.one (.int .i64 (g8r0 A x3)), .one (.str (g8r1 A x3)), .one (.str (g8r2 A x3))], 24, 1⟩)]
                  | false => kk (bO false) [(6001, ⟨[.nums .u8 x6 x7], 5, 2⟩), (19005, ⟨[.one (.int .i64 (g8r0 A x3)), .one (.str (g8r1 A x3)), .one (.str (g8r2 A x3))], 24, 1⟩)]
                | false => kk (bO false) [(6001, ⟨[.nums .u8 x6 x7], 5, 2⟩), (19005, ⟨[.one (.int .i64 (g8r0 A x3)), .one (.str (g8r1 A x3)), .one (.str (g8r2 A x3))], 24, 1⟩)]
              | false => kk (bO false) [(6001, ⟨[.nums .u8 x6 x7], 5, 2⟩), (19005, ⟨[.one (.int .i64 (g8r0 A x3)), .one (.str (g8r1 A x3)), .one (.str (g8r2 A x3))], 24, 1⟩)]
            | false => kk (bO false) [(6001, ⟨[.nums .u8 x6 x7], 5, 2⟩), (19005, ⟨[.one (.int .i64 (g8r0 A x3)), .one (.str (g8r1 A x3)), .one (.str (g8r2 A x3))], 24, 1⟩)]
          | false => kk (bO false) [(6001, ⟨[.nums .u8 x6 x7], 5, 2⟩), (19005, ⟨[.one (.int .i64 (g8r0 A x3)), .one (.str (g8r1 A x3)), .one (.str (g8r2 A x3))], 24, 1⟩)]
        | false => none
      | false => none
    | false => none
  | false => none
def g6L14 {R : Type} (A : Ar) (n : Nat) (kk : AV → Heap → Option R)  : Nat → Bool → Int → Nat → List Nat → Int → Int → Nat → Int → Nat → List Nat → Nat → List Int → Option R
  | 0, _, _, _, _, _, _, _, _, _, _, _, _ => none
  | m + 1, x0, x1, x2, x3, x4, x5, x6, x7, x8, x9, x10, x11 => match A.ic .lss x7 3 with
  | true => g6J16 A n kk (g6L14 A n kk  m) x0 x1 x2 x3 x4 x5 x6 x7 x8 x9 x10 x11
  | false => g6J18 A n kk  x0 x1 x2 x3 x4 x5 x8 x9
def g6J10 {R : Type} (A : Ar) (n : Nat) (kk : AV → Heap → Option R)  (x0 : Bool) (x1 : Int) (x2 x3 : Nat) (x4 : List Nat) : Option R :=
  match g10ok A 4 (x4.take x2) with
  | true => g6L14 A n kk  n x0 x1 x2 (g10r0 A 4 (x4.take x2)) (g10r1 A 4 (x4.take x2)) 2 3 0 x3 x4 3 [127, 255, 65535]
  | false => none
def g6L7 {R : Type} (A : Ar) (n : Nat) (kk : AV → Heap → Option R)  : Nat → Nat → Bool → Int → Nat → Int → Nat → List Nat → Option R
  | 0, _, _, _, _, _, _, _ => none
  | m + 1, x0, x1, x2, x3, x4, x5, x6 => match A.ic .lss x4 x2 with
  | true => g6J9 A n kk (g6L7 A n kk  m) x0 x1 x2 x3 x4 x5 x6
  | false => g6J10 A n kk  x1 x2 x3 x5 x6
def g6J4 {R : Type} (A : Ar) (n : Nat) (kk : AV → Heap → Option R)  (x0 x1 : Nat) (x2 : Bool) : Option R :=
  match A.neg (A.ofN (A.nb .rem .u32 x0 70001)) with
  | true => none
  | false => match A.neg (A.ofN (A.nb .rem .u32 x0 70001)) with
    | true => none
    | false => match A.le (A.toN (A.ofN (A.nb .rem .u32 x0 70001))) (A.toN (A.ofN (A.nb .rem .u32 x0 70001))) with
      | true => match A.le (A.toN (A.ofN (A.nb .rem .u32 x0 70001))) 140737488355328 with
        | true => g6L7 A n kk  n x1 x2 (A.ofN (A.nb .rem .u32 x0 70001)) (A.toN (A.ofN (A.nb .rem .u32 x0 70001))) 0 (A.toN (A.ofN (A.nb .rem .u32 x0 70001))) (List.replicate (A.toN (A.ofN (A.nb .rem .u32 x0 70001))) 0)
        | false => none
      | false => none
def g6 {R : Type} (A : Ar) (n : Nat) (kk : AV → Heap → Option R) (a b : Nat) : Option R :=
  match g7ok A with
  | true => match !(g7r0 A) with
    | true => kk (bO false) []
    | false => g6J4 A n kk  a b (g7r0 A)
  | false => none
section
variable {R : Type} {A : Ar} {n : Nat} {kk : AV → Heap → Option R} {tb : Nat → List Bool → St → Option R} (st : Stp (g6N A kk) tb)
include st
end
def g6is (o : Option AV) : Bool := match o with
  | some (.v (.cell (.bool _))) => true
  | _ => false
def g6g0 (o : Option AV) : Bool := match o with
  | some (.v (.cell (.bool x))) => x
  | _ => false
def g6v (A : Ar) (a b : Nat) : Option AV := g6 A (100000) (fun v _ => some v) a b
def g6ok (A : Ar) (a b : Nat) : Bool := g6is (g6v A a b)
def g6r0 (A : Ar) (a b : Nat) : Bool := g6g0 (g6v A a b)
attribute [local irreducible] g6ok g6r0
end Go.Sx
namespace Go.Sx
set_option linter.unusedSectionVars false
set_option linter.unusedVariables false
theorem lenB_bytes {k : Nat} (hk : k < 16777216) : ∀ x ∈ lenB k, x < 256 := by
  intro x hx
  by_cases h1 : 65535 < k
  · rw [lenB_4 (by omega) hk] at hx; simp at hx; omega
  · by_cases h2 : 255 < k
    · rw [lenB_3 (by omega) (by omega)] at hx; simp at hx; omega
    · by_cases h3 : 127 < k
      · rw [lenB_2 (by omega) (by omega)] at hx; simp at hx; omega
      · rw [lenB_1 (by omega)] at hx; simp at hx; omega
end Go.Sx
namespace Go.Sx
set_option linter.unusedSectionVars false
open Go.Proofs
set_option linter.unusedVariables false
set_option maxRecDepth 100000
theorem SxP14jpi {R : Type} (c : Bool) {f1 f2 : Nat → Option R} {a1 a2 : Option R} (h1 : Prs f1 a1) (h2 : Prs f2 a2) : Prs (fun k => match c with | true => f1 k | false => f2 k) (match c with | true => a1 | false => a2) := by cases c <;> assumption
attribute [local irreducible] g8ok g8r0 g8r1 g8r2 g8r3 g10ok g10r0 g10r1 g12ok g12r0 g12r1 g12r2 g12r3 g12r4 g12r5 g7ok g7r0
def g4O (A : Ar) : Orc := orcH [(7, g7o A), (10, g10o A), (8, g8o A)] [(12, ⟨[], none, (g12o A)⟩)]
theorem g4O_sound : OSound Try.prog (g4O realA) := orcH_sound (fun f g hm args v hv => by
    simp only [List.mem_cons, List.not_mem_nil, or_false, Prod.mk.injEq] at hm
    rcases hm with ⟨rfl, rfl⟩ | ⟨rfl, rfl⟩ | ⟨rfl, rfl⟩
    · exact g7o_sound _ _ hv
    · exact g10o_sound _ _ hv
    · exact g8o_sound _ _ hv) (fun f e hm args h v h' hv => by
    simp only [List.mem_cons, List.not_mem_nil, or_false, Prod.mk.injEq] at hm
    rcases hm with ⟨rfl, rfl⟩
    · exact g12o_sound _ _ _ _ hv)
theorem g4O_det : ODet (g4O realA) := orcH_det _ _
def g4an : Ann := [(0, ([0, 1, 2], [0, 1])), (1, ([0, 1, 2], [0, 1])), (2, ([0, 1, 2, 7], [0, 1])), (3, ([], [0, 1])), (4, ([0, 1, 2, 7], [0, 1])), (5, ([0, 1, 2, 7, 8], [0, 1])), (6, ([0, 1, 2, 7, 8, 9], [0, 1, 6000])), (7, ([0, 1, 2, 7, 8, 9, 10], [0, 1, 6000])), (8, ([0, 1, 2, 7, 8, 9, 10], [0, 1, 6000])), (9, ([0, 1, 2, 7, 8, 9, 10], [0, 1, 6000])), (10, ([0, 1, 2, 7, 8, 9, 10, 11], [0, 1, 6000])), (11, ([0, 1, 2, 7, 8, 9, 10], [0, 1, 6000])), (12, ([0, 1, 2, 7, 8, 9, 10, 11], [0, 1, 6000])), (13, ([0, 1, 2, 7, 8, 9, 10, 11, 12, 13], [0, 1, 6000])), (14, ([], [0, 1])), (15, ([0, 1, 2, 7, 8, 9, 10, 11, 12, 13], [0, 1, 6000])), (16, ([0, 1, 2, 7, 8, 9, 10, 11, 12], [0, 1, 6000])), (17, ([0, 1, 2, 7, 8, 9, 10, 11, 12, 14, 15], [0, 1, 6000, 17007])), (18, ([], [0, 1])), (19, ([0, 1, 2, 7, 8, 9, 10, 12], [0, 1, 6000])), (20, ([0, 1, 2, 7, 8, 9, 10], [0, 1, 6000])), (21, ([0, 2, 7, 8, 9], [0, 1, 6000])), (22, ([0, 2, 7, 9, 16, 17], [0, 1, 6000, 22001])), (23, ([], [0, 1])), (24, ([0, 2, 7, 9, 16], [0, 1, 6000, 22001])), (25, ([0, 2, 7, 9, 16, 18], [0, 1, 6000, 22001])), (26, ([0, 2, 7, 9, 16, 18], [0, 1, 6000, 22001])), (27, ([0, 2, 7, 9, 16, 18], [0, 1, 6000, 22001])), (28, ([], [0, 1])), (29, ([2, 7], [0, 1])), (30, ([2, 7, 19, 20], [0, 1, 30005])), (31, ([2, 7, 19, 20, 21, 22], [0, 1, 30005]))]
def g4res : List ResultVar := [.tmp 6]
def g4cut : List Nat := [4, 9, 12, 15, 19, 21, 24, 27, 29]
noncomputable def g4N {R : Type} (A : Ar) (kk : AV → Heap → Option R) (t : List Bool → St → Option R) (p : List Bool) (s : St) : Option R := nodeN A gtys (g4O A) g4an g4cut t (bodyOf Try.f4) (finD gtys g4res kk) p s
def g4J19s (x0 x1 : Nat) (x2 : List Nat) (x3 : Bool) (x4 : List Nat) (x5 : Nat) (x6 : Int) (x7 : List Nat) (x8 x9 : Nat) (x10 : List (List Nat)) (x11 x12 : Nat) (x13 : List Nat) (x14 : Nat) (x15 : List Int) : St := ⟨[(0, (sL 0 none x0 1)), (1, (sL 1 none x1 1)), (2, (tS x2)), (7, (bO x3)), (8, (tS x4)), (9, (sL 6000 none x5 1)), (10, (i6 x6)), (12, (tS x7))], [(0, ⟨[.strs x9 x10], x8, 0⟩), (1, ⟨[.nums .u8 x12 x13], x11, 0⟩), (6000, ⟨[.ints .i64 x14 x15], 3, 2⟩)]⟩
def g4J19 {R : Type} (A : Ar) (n : Nat) (kk : AV → Heap → Option R) (lg4L7 : Nat → Nat → List Nat → Bool → List Nat → Nat → Int → Nat → Nat → List (List Nat) → Nat → Nat → List Nat → Nat → List Int → Option R) (x0 x1 : Nat) (x2 : List Nat) (x3 : Bool) (x4 : List Nat) (x5 : Nat) (x6 : Int) (x7 : List Nat) (x8 x9 : Nat) (x10 : List (List Nat)) (x11 x12 : Nat) (x13 : List Nat) (x14 : Nat) (x15 : List Int) : Option R :=
  match A.le (x4.length + x7.length) 9223372036854775807 with
  | true => match A.eq x5 (x14 + 0) with
    | true => match A.le (((x15 ++ ([x6].take 1)).length) * 8) 140737488355328 with
      | true => lg4L7 x0 x1 x2 x3 (x4 ++ x7) ((x15 ++ ([x6].take 1)).length) (A.ib .add .i64 x6 1) x8 x9 x10 x11 x12 x13 ((x15 ++ ([x6].take 1)).length) (x15 ++ ([x6].take 1))
      | false => none
    | false => none
  | false => none
def g4J15s (x0 x1 : Nat) (x2 : List Nat) (x3 : Bool) (x4 : List Nat) (x5 : Nat) (x6 x7 : Int) (x8 : List Nat) (x9 : Int) (x10 x11 : Nat) (x12 : List (List Nat)) (x13 x14 : Nat) (x15 : List Nat) (x16 : Nat) (x17 : List Int) : St := ⟨[(0, (sL 0 none x0 1)), (1, (sL 1 none x1 1)), (2, (tS x2)), (7, (bO x3)), (8, (tS x4)), (9, (sL 6000 none x5 1)), (10, (i6 x6)), (11, (i6 x7)), (12, (tS x8)), (13, (i6 x9))], [(0, ⟨[.strs x11 x12], x10, 0⟩), (1, ⟨[.nums .u8 x14 x15], x13, 0⟩), (6000, ⟨[.ints .i64 x16 x17], 3, 2⟩)]⟩
def g4J15 {R : Type} (A : Ar) (n : Nat) (kk : AV → Heap → Option R) (lg4L7 : Nat → Nat → List Nat → Bool → List Nat → Nat → Int → Nat → Nat → List (List Nat) → Nat → Nat → List Nat → Nat → List Int → Option R) (x0 x1 : Nat) (x2 : List Nat) (x3 : Bool) (x4 : List Nat) (x5 : Nat) (x6 x7 : Int) (x8 : List Nat) (x9 : Int) (x10 x11 : Nat) (x12 : List (List Nat)) (x13 x14 : Nat) (x15 : List Nat) (x16 : Nat) (x17 : List Int) : Option R :=
  match A.ic .eql x9 0 with
  | true => match A.le (x8.length + x2.length) 9223372036854775807 with
    | true => match g8ok A (x8 ++ x2) with
      | true => match A.ic .neq (g8r0 A (x8 ++ x2)) x7 with
        | true => kk (bO false) [(0, ⟨[.strs x11 x12], x10, 0⟩), (1, ⟨[.nums .u8 x14 x15], x13, 0⟩)]
        | false => match A.neg x6 with
          | true => none
          | false => match A.lt (A.toN x6) x0 with
            | true => match A.neg x6 with
              | true => none
              | false => match A.lt (A.toN x6) x0 with
                | true => match A.neg (A.mn (A.ofN ((x12.getD (A.toN x6) []).length)) 300) with
                  | true => none
                  | false => match A.le (A.toN (A.mn (A.ofN ((x12.getD (A.toN x6) []).length)) 300)) ((x12.getD (A.toN x6) []).length) with
                    | true => match A.sc .neq (g8r1 A (x8 ++ x2)) (((x12.getD (A.toN x6) []).take (A.toN (A.mn (A.ofN ((x12.getD (A.toN x6) []).length)) 300))).drop 0) with
                      | true => kk (bO false) [(0, ⟨[.strs x11 x12], x10, 0⟩), (1, ⟨[.nums .u8 x14 x15], x13, 0⟩)]
                      | false => match A.sc .neq (g8r2 A (x8 ++ x2)) x2 with
                        | true => kk (bO false) [(0, ⟨[.strs x11 x12], x10, 0⟩), (1, ⟨[.nums .u8 x14 x15], x13, 0⟩)]
                        | false => match A.ic .neq (g8r3 A (x8 ++ x2)) 0 with
                          | true => kk (bO false) [(0, ⟨[.strs x11 x12], x10, 0⟩), (1, ⟨[.nums .u8 x14 x15], x13, 0⟩)]
                          | false => g4J19 A n kk lg4L7 x0 x1 x2 x3 x4 x5 x6 x8 x10 x11 x12 x13 x14 x15 x16 x17
                    | false => none
                | false => none
            | false => none
      | false => none
    | false => none
  | false => lg4L7 x0 x1 x2 x3 x4 x5 (A.ib .add .i64 x6 1) x10 x11 x12 x13 x14 x15 x16 x17
def g4J12s (x0 x1 : Nat) (x2 : List Nat) (x3 : Bool) (x4 : List Nat) (x5 : Nat) (x6 x7 : Int) (x8 x9 : Nat) (x10 : List (List Nat)) (x11 x12 : Nat) (x13 : List Nat) (x14 : Nat) (x15 : List Int) : St := ⟨[(0, (sL 0 none x0 1)), (1, (sL 1 none x1 1)), (2, (tS x2)), (7, (bO x3)), (8, (tS x4)), (9, (sL 6000 none x5 1)), (10, (i6 x6)), (11, (i6 x7))], [(0, ⟨[.strs x9 x10], x8, 0⟩), (1, ⟨[.nums .u8 x12 x13], x11, 0⟩), (6000, ⟨[.ints .i64 x14 x15], 3, 2⟩)]⟩
def g4J12 {R : Type} (A : Ar) (n : Nat) (kk : AV → Heap → Option R) (lg4L7 : Nat → Nat → List Nat → Bool → List Nat → Nat → Int → Nat → Nat → List (List Nat) → Nat → Nat → List Nat → Nat → List Int → Option R) (x0 x1 : Nat) (x2 : List Nat) (x3 : Bool) (x4 : List Nat) (x5 : Nat) (x6 x7 : Int) (x8 x9 : Nat) (x10 : List (List Nat)) (x11 x12 : Nat) (x13 : List Nat) (x14 : Nat) (x15 : List Int) : Option R :=
  match A.neg x6 with
  | true => none
  | false => match A.lt (A.toN x6) x0 with
    | true => match A.neg x6 with
      | true => none
      | false => match A.lt (A.toN x6) x0 with
        | true => match A.neg (A.mn (A.ofN ((x10.getD (A.toN x6) []).length)) 300) with
          | true => none
          | false => match A.le (A.toN (A.mn (A.ofN ((x10.getD (A.toN x6) []).length)) 300)) ((x10.getD (A.toN x6) []).length) with
            | true => match g10ok A x7 (((x10.getD (A.toN x6) []).take (A.toN (A.mn (A.ofN ((x10.getD (A.toN x6) []).length)) 300))).drop 0) with
              | true => match !((A.ic .eql (g10r1 A x7 (((x10.getD (A.toN x6) []).take (A.toN (A.mn (A.ofN ((x10.getD (A.toN x6) []).length)) 300))).drop 0)) 0) == (A.ic .neq (A.ib .rem .i64 x7 32) 31)) with
                | true => kk (bO false) [(0, ⟨[.strs x9 x10], x8, 0⟩), (1, ⟨[.nums .u8 x12 x13], x11, 0⟩)]
                | false => g4J15 A n kk lg4L7 x0 x1 x2 x3 x4 x5 x6 x7 (g10r0 A x7 (((x10.getD (A.toN x6) []).take (A.toN (A.mn (A.ofN ((x10.getD (A.toN x6) []).length)) 300))).drop 0)) (g10r1 A x7 (((x10.getD (A.toN x6) []).take (A.toN (A.mn (A.ofN ((x10.getD (A.toN x6) []).length)) 300))).drop 0)) x8 x9 x10 x11 x12 x13 x14 x15
              | false => none
            | false => none
        | false => none
    | false => none
def g4J9s (x0 x1 : Nat) (x2 : List Nat) (x3 : Bool) (x4 : List Nat) (x5 : Nat) (x6 : Int) (x7 x8 : Nat) (x9 : List (List Nat)) (x10 x11 : Nat) (x12 : List Nat) (x13 : Nat) (x14 : List Int) : St := ⟨[(0, (sL 0 none x0 1)), (1, (sL 1 none x1 1)), (2, (tS x2)), (7, (bO x3)), (8, (tS x4)), (9, (sL 6000 none x5 1)), (10, (i6 x6))], [(0, ⟨[.strs x8 x9], x7, 0⟩), (1, ⟨[.nums .u8 x11 x12], x10, 0⟩), (6000, ⟨[.ints .i64 x13 x14], 3, 2⟩)]⟩
def g4J9 {R : Type} (A : Ar) (n : Nat) (kk : AV → Heap → Option R) (lg4L7 : Nat → Nat → List Nat → Bool → List Nat → Nat → Int → Nat → Nat → List (List Nat) → Nat → Nat → List Nat → Nat → List Int → Option R) (x0 x1 : Nat) (x2 : List Nat) (x3 : Bool) (x4 : List Nat) (x5 : Nat) (x6 : Int) (x7 x8 : Nat) (x9 : List (List Nat)) (x10 x11 : Nat) (x12 : List Nat) (x13 : Nat) (x14 : List Int) : Option R :=
  match A.ic .lss x6 (A.ofN x1) with
  | true => match A.neg x6 with
    | true => none
    | false => match A.lt (A.toN x6) x1 with
      | true => g4J12 A n kk lg4L7 x0 x1 x2 x3 x4 x5 x6 (A.ofN (x12.getD (A.toN x6) 0)) x7 x8 x9 x10 x11 x12 x13 x14
      | false => none
  | false => g4J12 A n kk lg4L7 x0 x1 x2 x3 x4 x5 x6 x6 x7 x8 x9 x10 x11 x12 x13 x14
def g4J27s (x0 : Nat) (x1 : List Nat) (x2 : Bool) (x3 x4 : Nat) (x5 : Int) (x6 x7 : Nat) (x8 : List (List Nat)) (x9 x10 : Nat) (x11 : List Nat) (x12 : Nat) (x13 : List Int) (x14 : Nat) (x15 : List Int) (x16 : List (List Nat)) (x17 : List (List Nat)) : St := ⟨[(0, (sL 0 none x0 1)), (2, (tS x1)), (7, (bO x2)), (9, (sL 6000 none x3 1)), (16, (sL 22001 none x4 3)), (18, (i6 x5))], [(0, ⟨[.strs x7 x8], x6, 0⟩), (1, ⟨[.nums .u8 x10 x11], x9, 0⟩), (6000, ⟨[.ints .i64 x12 x13], 3, 2⟩), (22001, ⟨[.recs x14 [.ints .i64 x15, .strs x16, .strs x17]], 24, 2⟩)]⟩
def g4J27 {R : Type} (A : Ar) (n : Nat) (kk : AV → Heap → Option R) (lg4L25 : Nat → List Nat → Bool → Nat → Nat → Int → Nat → Nat → List (List Nat) → Nat → Nat → List Nat → Nat → List Int → Nat → List Int → List (List Nat) → List (List Nat) → Option R) (x0 : Nat) (x1 : List Nat) (x2 : Bool) (x3 x4 : Nat) (x5 : Int) (x6 x7 : Nat) (x8 : List (List Nat)) (x9 x10 : Nat) (x11 : List Nat) (x12 : Nat) (x13 : List Int) (x14 : Nat) (x15 : List Int) (x16 : List (List Nat)) (x17 : List (List Nat)) : Option R :=
  match A.neg x5 with
  | true => none
  | false => match A.lt (A.toN x5) x4 with
    | true => match A.neg x5 with
      | true => none
      | false => match A.lt (A.toN x5) x3 with
        | true => match A.neg (x13.getD (A.toN x5) 0) with
          | true => none
          | false => match A.lt (A.toN (x13.getD (A.toN x5) 0)) x0 with
            | true => match A.neg x5 with
              | true => none
              | false => match A.lt (A.toN x5) x3 with
                | true => match A.neg (x13.getD (A.toN x5) 0) with
                  | true => none
                  | false => match A.lt (A.toN (x13.getD (A.toN x5) 0)) x0 with
                    | true => match A.neg (A.mn (A.ofN ((x8.getD (A.toN (x13.getD (A.toN x5) 0)) []).length)) 300) with
                      | true => none
                      | false => match A.le (A.toN (A.mn (A.ofN ((x8.getD (A.toN (x13.getD (A.toN x5) 0)) []).length)) 300)) ((x8.getD (A.toN (x13.getD (A.toN x5) 0)) []).length) with
                        | true => match A.sc .neq (x16.getD (A.toN x5) []) (((x8.getD (A.toN (x13.getD (A.toN x5) 0)) []).take (A.toN (A.mn (A.ofN ((x8.getD (A.toN (x13.getD (A.toN x5) 0)) []).length)) 300))).drop 0) with
                          | true => kk (bO false) [(0, ⟨[.strs x7 x8], x6, 0⟩), (1, ⟨[.nums .u8 x10 x11], x9, 0⟩)]
                          | false => lg4L25 x0 x1 x2 x3 x4 (A.ib .add .i64 x5 1) x6 x7 x8 x9 x10 x11 x12 x13 x14 x15 x16 x17
                        | false => none
                    | false => none
                | false => none
            | false => none
        | false => none
    | false => none
def g4J29s (x0 : List Nat) (x1 : Bool) (x2 x3 : Nat) (x4 : List (List Nat)) (x5 x6 : Nat) (x7 : List Nat) : St := ⟨[(2, (tS x0)), (7, (bO x1))], [(0, ⟨[.strs x3 x4], x2, 0⟩), (1, ⟨[.nums .u8 x6 x7], x5, 0⟩)]⟩
def g4J29 {R : Type} (A : Ar) (n : Nat) (kk : AV → Heap → Option R)  (x0 : List Nat) (x1 : Bool) (x2 x3 : Nat) (x4 : List (List Nat)) (x5 x6 : Nat) (x7 : List Nat) : Option R :=
  match g8ok A x0 with
  | true => match g10ok A (g8r0 A x0) (g8r1 A x0) with
    | true => match x1 with
      | true => match A.ic .neq (g8r3 A x0) 0 with
        | true => kk (bO true) [(0, ⟨[.strs x3 x4], x2, 0⟩), (1, ⟨[.nums .u8 x6 x7], x5, 0⟩), (30005, ⟨[.one (.int .i64 (g8r0 A x0)), .one (.str (g8r1 A x0)), .one (.str (g8r2 A x0))], 24, 1⟩)]
        | false => match A.ic .eql (g10r1 A (g8r0 A x0) (g8r1 A x0)) 0 with
          | true => match A.le ((g10r0 A (g8r0 A x0) (g8r1 A x0)).length + (g8r2 A x0).length) 9223372036854775807 with
            | true => kk (bO (A.sc .eql ((g10r0 A (g8r0 A x0) (g8r1 A x0)) ++ (g8r2 A x0)) x0)) [(0, ⟨[.strs x3 x4], x2, 0⟩), (1, ⟨[.nums .u8 x6 x7], x5, 0⟩), (30005, ⟨[.one (.int .i64 (g8r0 A x0)), .one (.str (g8r1 A x0)), .one (.str (g8r2 A x0))], 24, 1⟩)]
            | false => none
          | false => kk (bO false) [(0, ⟨[.strs x3 x4], x2, 0⟩), (1, ⟨[.nums .u8 x6 x7], x5, 0⟩), (30005, ⟨[.one (.int .i64 (g8r0 A x0)), .one (.str (g8r1 A x0)), .one (.str (g8r2 A x0))], 24, 1⟩)]
      | false => kk (bO false) [(0, ⟨[.strs x3 x4], x2, 0⟩), (1, ⟨[.nums .u8 x6 x7], x5, 0⟩), (30005, ⟨[.one (.int .i64 (g8r0 A x0)), .one (.str (g8r1 A x0)), .one (.str (g8r2 A x0))], 24, 1⟩)]
    | false => none
  | false => none
def g4L25s (x0 : Nat) (x1 : List Nat) (x2 : Bool) (x3 x4 : Nat) (x5 : Int) (x6 x7 : Nat) (x8 : List (List Nat)) (x9 x10 : Nat) (x11 : List Nat) (x12 : Nat) (x13 : List Int) (x14 : Nat) (x15 : List Int) (x16 : List (List Nat)) (x17 : List (List Nat)) : St := ⟨[(0, (sL 0 none x0 1)), (2, (tS x1)), (7, (bO x2)), (9, (sL 6000 none x3 1)), (16, (sL 22001 none x4 3)), (18, (i6 x5))], [(0, ⟨[.strs x7 x8], x6, 0⟩), (1, ⟨[.nums .u8 x10 x11], x9, 0⟩), (6000, ⟨[.ints .i64 x12 x13], 3, 2⟩), (22001, ⟨[.recs x14 [.ints .i64 x15, .strs x16, .strs x17]], 24, 2⟩)]⟩
def g4L25 {R : Type} (A : Ar) (n : Nat) (kk : AV → Heap → Option R)  : Nat → Nat → List Nat → Bool → Nat → Nat → Int → Nat → Nat → List (List Nat) → Nat → Nat → List Nat → Nat → List Int → Nat → List Int → List (List Nat) → List (List Nat) → Option R
  | 0, _, _, _, _, _, _, _, _, _, _, _, _, _, _, _, _, _, _ => none
  | m + 1, x0, x1, x2, x3, x4, x5, x6, x7, x8, x9, x10, x11, x12, x13, x14, x15, x16, x17 => match A.ic .lss x5 (A.ofN x4) with
  | true => g4J27 A n kk (g4L25 A n kk  m) x0 x1 x2 x3 x4 x5 x6 x7 x8 x9 x10 x11 x12 x13 x14 x15 x16 x17
  | false => g4J29 A n kk  x1 x2 x6 x7 x8 x9 x10 x11
def g4J24s (x0 : Nat) (x1 : List Nat) (x2 : Bool) (x3 x4 : Nat) (x5 x6 : Nat) (x7 : List (List Nat)) (x8 x9 : Nat) (x10 : List Nat) (x11 : Nat) (x12 : List Int) (x13 : Nat) (x14 : List Int) (x15 : List (List Nat)) (x16 : List (List Nat)) : St := ⟨[(0, (sL 0 none x0 1)), (2, (tS x1)), (7, (bO x2)), (9, (sL 6000 none x3 1)), (16, (sL 22001 none x4 3))], [(0, ⟨[.strs x6 x7], x5, 0⟩), (1, ⟨[.nums .u8 x9 x10], x8, 0⟩), (6000, ⟨[.ints .i64 x11 x12], 3, 2⟩), (22001, ⟨[.recs x13 [.ints .i64 x14, .strs x15, .strs x16]], 24, 2⟩)]⟩
def g4J24 {R : Type} (A : Ar) (n : Nat) (kk : AV → Heap → Option R)  (x0 : Nat) (x1 : List Nat) (x2 : Bool) (x3 x4 : Nat) (x5 x6 : Nat) (x7 : List (List Nat)) (x8 x9 : Nat) (x10 : List Nat) (x11 : Nat) (x12 : List Int) (x13 : Nat) (x14 : List Int) (x15 : List (List Nat)) (x16 : List (List Nat)) : Option R :=
  g4L25 A n kk  n x0 x1 x2 x3 x4 0 x5 x6 x7 x8 x9 x10 x11 x12 x13 x14 x15 x16
def g4J21s (x0 : Nat) (x1 : List Nat) (x2 : Bool) (x3 : List Nat) (x4 x5 x6 : Nat) (x7 : List (List Nat)) (x8 x9 : Nat) (x10 : List Nat) (x11 : Nat) (x12 : List Int) : St := ⟨[(0, (sL 0 none x0 1)), (2, (tS x1)), (7, (bO x2)), (8, (tS x3)), (9, (sL 6000 none x4 1))], [(0, ⟨[.strs x6 x7], x5, 0⟩), (1, ⟨[.nums .u8 x9 x10], x8, 0⟩), (6000, ⟨[.ints .i64 x11 x12], 3, 2⟩)]⟩
def g4J21 {R : Type} (A : Ar) (n : Nat) (kk : AV → Heap → Option R)  (x0 : Nat) (x1 : List Nat) (x2 : Bool) (x3 : List Nat) (x4 x5 x6 : Nat) (x7 : List (List Nat)) (x8 x9 : Nat) (x10 : List Nat) (x11 : Nat) (x12 : List Int) : Option R :=
  match g12ok A x3 with
  | true => match A.ic .neq (g12r1 A x3) 0 with
    | true => kk (bO false) [(0, ⟨[.strs x6 x7], x5, 0⟩), (1, ⟨[.nums .u8 x9 x10], x8, 0⟩)]
    | false => match A.ic .neq (A.ofN (g12r0 A x3)) (A.ofN x4) with
      | true => kk (bO false) [(0, ⟨[.strs x6 x7], x5, 0⟩), (1, ⟨[.nums .u8 x9 x10], x8, 0⟩)]
      | false => g4J24 A n kk  x0 x1 x2 x4 (g12r0 A x3) x5 x6 x7 x8 x9 x10 x11 x12 (g12r2 A x3) (g12r3 A x3) (g12r4 A x3) (g12r5 A x3)
  | false => none
def g4L7s (x0 x1 : Nat) (x2 : List Nat) (x3 : Bool) (x4 : List Nat) (x5 : Nat) (x6 : Int) (x7 x8 : Nat) (x9 : List (List Nat)) (x10 x11 : Nat) (x12 : List Nat) (x13 : Nat) (x14 : List Int) : St := ⟨[(0, (sL 0 none x0 1)), (1, (sL 1 none x1 1)), (2, (tS x2)), (7, (bO x3)), (8, (tS x4)), (9, (sL 6000 none x5 1)), (10, (i6 x6))], [(0, ⟨[.strs x8 x9], x7, 0⟩), (1, ⟨[.nums .u8 x11 x12], x10, 0⟩), (6000, ⟨[.ints .i64 x13 x14], 3, 2⟩)]⟩
def g4L7 {R : Type} (A : Ar) (n : Nat) (kk : AV → Heap → Option R)  : Nat → Nat → Nat → List Nat → Bool → List Nat → Nat → Int → Nat → Nat → List (List Nat) → Nat → Nat → List Nat → Nat → List Int → Option R
  | 0, _, _, _, _, _, _, _, _, _, _, _, _, _, _, _ => none
  | m + 1, x0, x1, x2, x3, x4, x5, x6, x7, x8, x9, x10, x11, x12, x13, x14 => match A.ic .lss x6 (A.ofN x0) with
  | true => match A.ic .lss x6 10 with
    | true => g4J9 A n kk (g4L7 A n kk  m) x0 x1 x2 x3 x4 x5 x6 x7 x8 x9 x10 x11 x12 x13 x14
    | false => g4J21 A n kk  x0 x2 x3 x4 x5 x7 x8 x9 x10 x11 x12 x13 x14
  | false => g4J21 A n kk  x0 x2 x3 x4 x5 x7 x8 x9 x10 x11 x12 x13 x14
def g4J4s (x0 x1 : Nat) (x2 : List Nat) (x3 : Bool) (x4 x5 : Nat) (x6 : List (List Nat)) (x7 x8 : Nat) (x9 : List Nat) : St := ⟨[(0, (sL 0 none x0 1)), (1, (sL 1 none x1 1)), (2, (tS x2)), (7, (bO x3))], [(0, ⟨[.strs x5 x6], x4, 0⟩), (1, ⟨[.nums .u8 x8 x9], x7, 0⟩)]⟩
def g4J4 {R : Type} (A : Ar) (n : Nat) (kk : AV → Heap → Option R)  (x0 x1 : Nat) (x2 : List Nat) (x3 : Bool) (x4 x5 : Nat) (x6 : List (List Nat)) (x7 x8 : Nat) (x9 : List Nat) : Option R :=
  g4L7 A n kk  n x0 x1 x2 x3 [] 0 0 x4 x5 x6 x7 x8 x9 0 []
def g4 {R : Type} (A : Ar) (n : Nat) (kk : AV → Heap → Option R) (x0 x1 : Nat) (x2 : List Nat) (x3 x4 : Nat) (x5 : List (List Nat)) (x6 x7 : Nat) (x8 : List Nat) : Option R :=
  match g7ok A with
  | true => match !(g7r0 A) with
    | true => kk (bO false) [(0, ⟨[.strs x4 x5], x3, 0⟩), (1, ⟨[.nums .u8 x7 x8], x6, 0⟩)]
    | false => g4J4 A n kk  x0 x1 x2 (g7r0 A) x3 x4 x5 x6 x7 x8
  | false => none
section
variable {R : Type} {A : Ar} {n : Nat} {kk : AV → Heap → Option R} {tb : Nat → List Bool → St → Option R} (st : Stp (g4N A kk) tb)
include st
theorem g4J19_go {lg4L7 : Nat → Nat → List Nat → Bool → List Nat → Nat → Int → Nat → Nat → List (List Nat) → Nat → Nat → List Nat → Nat → List Int → Option R} (hg4L7 : ∀ (x0 x1 : Nat) (x2 : List Nat) (x3 : Bool) (x4 : List Nat) (x5 : Nat) (x6 : Int) (x7 x8 : Nat) (x9 : List (List Nat)) (x10 x11 : Nat) (x12 : List Nat) (x13 : Nat) (x14 : List Int), Prs (fun k => tb k (pth 1012) (g4L7s x0 x1 x2 x3 x4 x5 x6 x7 x8 x9 x10 x11 x12 x13 x14)) (lg4L7 x0 x1 x2 x3 x4 x5 x6 x7 x8 x9 x10 x11 x12 x13 x14)) {x0 : Nat} {x1 : Nat} {x2 : List Nat} {x3 : Bool} {x4 : List Nat} {x5 : Nat} {x6 : Int} {x7 : List Nat} {x8 : Nat} {x9 : Nat} {x10 : List (List Nat)} {x11 : Nat} {x12 : Nat} {x13 : List Nat} {x14 : Nat} {x15 : List Int} : Prs (fun k => tb k (pth 2073851) (g4J19s x0 x1 x2 x3 x4 x5 x6 x7 x8 x9 x10 x11 x12 x13 x14 x15)) (g4J19 A n kk lg4L7 x0 x1 x2 x3 x4 x5 x6 x7 x8 x9 x10 x11 x12 x13 x14 x15) := by
  unfold g4J19
  exact st.g (pc (SxP14jpi _ (SxP14jpi _ (SxP14jpi _ (hg4L7 _ _ _ _ _ _ _ _ _ _ _ _ _ _ _) pn) pn) pn) (by kernel_rfl))
theorem g4J15_go {lg4L7 : Nat → Nat → List Nat → Bool → List Nat → Nat → Int → Nat → Nat → List (List Nat) → Nat → Nat → List Nat → Nat → List Int → Option R} (hg4L7 : ∀ (x0 x1 : Nat) (x2 : List Nat) (x3 : Bool) (x4 : List Nat) (x5 : Nat) (x6 : Int) (x7 x8 : Nat) (x9 : List (List Nat)) (x10 x11 : Nat) (x12 : List Nat) (x13 : Nat) (x14 : List Int), Prs (fun k => tb k (pth 1012) (g4L7s x0 x1 x2 x3 x4 x5 x6 x7 x8 x9 x10 x11 x12 x13 x14)) (lg4L7 x0 x1 x2 x3 x4 x5 x6 x7 x8 x9 x10 x11 x12 x13 x14)) {x0 : Nat} {x1 : Nat} {x2 : List Nat} {x3 : Bool} {x4 : List Nat} {x5 : Nat} {x6 : Int} {x7 : Int} {x8 : List Nat} {x9 : Int} {x10 : Nat} {x11 : Nat} {x12 : List (List Nat)} {x13 : Nat} {x14 : Nat} {x15 : List Nat} {x16 : Nat} {x17 : List Int} : Prs (fun k => tb k (pth 129615) (g4J15s x0 x1 x2 x3 x4 x5 x6 x7 x8 x9 x10 x11 x12 x13 x14 x15 x16 x17)) (g4J15 A n kk lg4L7 x0 x1 x2 x3 x4 x5 x6 x7 x8 x9 x10 x11 x12 x13 x14 x15 x16 x17) := by
  unfold g4J15
  exact st.g (pc (SxP14jpi _ (SxP14jpi _ (SxP14jpi _ (SxP14jpi _ (pf _) (SxP14jpi _ pn (SxP14jpi _ (SxP14jpi _ pn (SxP14jpi _ (SxP14jpi _ pn (SxP14jpi _ (SxP14jpi _ (pf _) (SxP14jpi _ (pf _) (SxP14jpi _ (pf _) (g4J19_go st hg4L7)))) pn)) pn)) pn))) pn) pn) (hg4L7 _ _ _ _ _ _ _ _ _ _ _ _ _ _ _)) (by kernel_rfl))
theorem g4J12_go {lg4L7 : Nat → Nat → List Nat → Bool → List Nat → Nat → Int → Nat → Nat → List (List Nat) → Nat → Nat → List Nat → Nat → List Int → Option R} (hg4L7 : ∀ (x0 x1 : Nat) (x2 : List Nat) (x3 : Bool) (x4 : List Nat) (x5 : Nat) (x6 : Int) (x7 x8 : Nat) (x9 : List (List Nat)) (x10 x11 : Nat) (x12 : List Nat) (x13 : Nat) (x14 : List Int), Prs (fun k => tb k (pth 1012) (g4L7s x0 x1 x2 x3 x4 x5 x6 x7 x8 x9 x10 x11 x12 x13 x14)) (lg4L7 x0 x1 x2 x3 x4 x5 x6 x7 x8 x9 x10 x11 x12 x13 x14)) {x0 : Nat} {x1 : Nat} {x2 : List Nat} {x3 : Bool} {x4 : List Nat} {x5 : Nat} {x6 : Int} {x7 : Int} {x8 : Nat} {x9 : Nat} {x10 : List (List Nat)} {x11 : Nat} {x12 : Nat} {x13 : List Nat} {x14 : Nat} {x15 : List Int} : Prs (fun k => tb k (pth 32403) (g4J12s x0 x1 x2 x3 x4 x5 x6 x7 x8 x9 x10 x11 x12 x13 x14 x15)) (g4J12 A n kk lg4L7 x0 x1 x2 x3 x4 x5 x6 x7 x8 x9 x10 x11 x12 x13 x14 x15) := by
  unfold g4J12
  exact st.g (pc (SxP14jpi _ pn (SxP14jpi _ (SxP14jpi _ pn (SxP14jpi _ (SxP14jpi _ pn (SxP14jpi _ (SxP14jpi _ (SxP14jpi _ (pf _) (g4J15_go st hg4L7)) pn) pn)) pn)) pn)) (by kernel_rfl))
theorem g4J9_go {lg4L7 : Nat → Nat → List Nat → Bool → List Nat → Nat → Int → Nat → Nat → List (List Nat) → Nat → Nat → List Nat → Nat → List Int → Option R} (hg4L7 : ∀ (x0 x1 : Nat) (x2 : List Nat) (x3 : Bool) (x4 : List Nat) (x5 : Nat) (x6 : Int) (x7 x8 : Nat) (x9 : List (List Nat)) (x10 x11 : Nat) (x12 : List Nat) (x13 : Nat) (x14 : List Int), Prs (fun k => tb k (pth 1012) (g4L7s x0 x1 x2 x3 x4 x5 x6 x7 x8 x9 x10 x11 x12 x13 x14)) (lg4L7 x0 x1 x2 x3 x4 x5 x6 x7 x8 x9 x10 x11 x12 x13 x14)) {x0 : Nat} {x1 : Nat} {x2 : List Nat} {x3 : Bool} {x4 : List Nat} {x5 : Nat} {x6 : Int} {x7 : Nat} {x8 : Nat} {x9 : List (List Nat)} {x10 : Nat} {x11 : Nat} {x12 : List Nat} {x13 : Nat} {x14 : List Int} : Prs (fun k => tb k (pth 2025) (g4J9s x0 x1 x2 x3 x4 x5 x6 x7 x8 x9 x10 x11 x12 x13 x14)) (g4J9 A n kk lg4L7 x0 x1 x2 x3 x4 x5 x6 x7 x8 x9 x10 x11 x12 x13 x14) := by
  unfold g4J9
  exact st.g (pc (SxP14jpi _ (SxP14jpi _ pn (SxP14jpi _ (g4J12_go st hg4L7) pn)) (g4J12_go st hg4L7)) (by kernel_rfl))
theorem g4J27_go {lg4L25 : Nat → List Nat → Bool → Nat → Nat → Int → Nat → Nat → List (List Nat) → Nat → Nat → List Nat → Nat → List Int → Nat → List Int → List (List Nat) → List (List Nat) → Option R} (hg4L25 : ∀ (x0 : Nat) (x1 : List Nat) (x2 : Bool) (x3 x4 : Nat) (x5 : Int) (x6 x7 : Nat) (x8 : List (List Nat)) (x9 x10 : Nat) (x11 : List Nat) (x12 : Nat) (x13 : List Int) (x14 : Nat) (x15 : List Int) (x16 : List (List Nat)) (x17 : List (List Nat)), Prs (fun k => tb k (pth 8180) (g4L25s x0 x1 x2 x3 x4 x5 x6 x7 x8 x9 x10 x11 x12 x13 x14 x15 x16 x17)) (lg4L25 x0 x1 x2 x3 x4 x5 x6 x7 x8 x9 x10 x11 x12 x13 x14 x15 x16 x17)) {x0 : Nat} {x1 : List Nat} {x2 : Bool} {x3 : Nat} {x4 : Nat} {x5 : Int} {x6 : Nat} {x7 : Nat} {x8 : List (List Nat)} {x9 : Nat} {x10 : Nat} {x11 : List Nat} {x12 : Nat} {x13 : List Int} {x14 : Nat} {x15 : List Int} {x16 : List (List Nat)} {x17 : List (List Nat)} : Prs (fun k => tb k (pth 16361) (g4J27s x0 x1 x2 x3 x4 x5 x6 x7 x8 x9 x10 x11 x12 x13 x14 x15 x16 x17)) (g4J27 A n kk lg4L25 x0 x1 x2 x3 x4 x5 x6 x7 x8 x9 x10 x11 x12 x13 x14 x15 x16 x17) := by
  unfold g4J27
  exact st.g (pc (SxP14jpi _ pn (SxP14jpi _ (SxP14jpi _ pn (SxP14jpi _ (SxP14jpi _ pn (SxP14jpi _ (SxP14jpi _ pn (SxP14jpi _ (SxP14jpi _ pn (SxP14jpi _ (SxP14jpi _ pn (SxP14jpi _ (SxP14jpi _ (pf _) (hg4L25 _ _ _ _ _ _ _ _ _ _ _ _ _ _ _ _ _ _)) pn)) pn)) pn)) pn)) pn)) pn)) (by kernel_rfl))
theorem g4J29_go {x0 : List Nat} {x1 : Bool} {x2 : Nat} {x3 : Nat} {x4 : List (List Nat)} {x5 : Nat} {x6 : Nat} {x7 : List Nat} : Prs (fun k => tb k (pth 1023) (g4J29s x0 x1 x2 x3 x4 x5 x6 x7)) (g4J29 A n kk x0 x1 x2 x3 x4 x5 x6 x7) := by
  unfold g4J29
  exact st.g (pc (SxP14jpi _ (SxP14jpi _ (SxP14jpi _ (SxP14jpi _ (pf _) (SxP14jpi _ (SxP14jpi _ (pf _) pn) (pf _))) (pf _)) pn) pn) (by kernel_rfl))
theorem g4L25_go (m : Nat) : ∀ (x0 : Nat) (x1 : List Nat) (x2 : Bool) (x3 x4 : Nat) (x5 : Int) (x6 x7 : Nat) (x8 : List (List Nat)) (x9 x10 : Nat) (x11 : List Nat) (x12 : Nat) (x13 : List Int) (x14 : Nat) (x15 : List Int) (x16 : List (List Nat)) (x17 : List (List Nat)), Prs (fun k => tb k (pth 8180) (g4L25s x0 x1 x2 x3 x4 x5 x6 x7 x8 x9 x10 x11 x12 x13 x14 x15 x16 x17)) (g4L25 A n kk m x0 x1 x2 x3 x4 x5 x6 x7 x8 x9 x10 x11 x12 x13 x14 x15 x16 x17) := by
  induction m with
  | zero => intro x0 x1 x2 x3 x4 x5 x6 x7 x8 x9 x10 x11 x12 x13 x14 x15 x16 x17; exact pn0
  | succ m ih =>
    intro x0 x1 x2 x3 x4 x5 x6 x7 x8 x9 x10 x11 x12 x13 x14 x15 x16 x17; rw [g4L25]
    exact st.g (pc (SxP14jpi _ (g4J27_go st ih) (g4J29_go st)) (by kernel_rfl))
theorem g4J24_go {x0 : Nat} {x1 : List Nat} {x2 : Bool} {x3 : Nat} {x4 : Nat} {x5 : Nat} {x6 : Nat} {x7 : List (List Nat)} {x8 : Nat} {x9 : Nat} {x10 : List Nat} {x11 : Nat} {x12 : List Int} {x13 : Nat} {x14 : List Int} {x15 : List (List Nat)} {x16 : List (List Nat)} : Prs (fun k => tb k (pth 511) (g4J24s x0 x1 x2 x3 x4 x5 x6 x7 x8 x9 x10 x11 x12 x13 x14 x15 x16)) (g4J24 A n kk x0 x1 x2 x3 x4 x5 x6 x7 x8 x9 x10 x11 x12 x13 x14 x15 x16) := by
  unfold g4J24
  exact st.g (pc (g4L25_go st n _ _ _ _ _ _ _ _ _ _ _ _ _ _ _ _ _ _) (by kernel_rfl))
theorem g4J21_go {x0 : Nat} {x1 : List Nat} {x2 : Bool} {x3 : List Nat} {x4 : Nat} {x5 : Nat} {x6 : Nat} {x7 : List (List Nat)} {x8 : Nat} {x9 : Nat} {x10 : List Nat} {x11 : Nat} {x12 : List Int} : Prs (fun k => tb k (pth 127) (g4J21s x0 x1 x2 x3 x4 x5 x6 x7 x8 x9 x10 x11 x12)) (g4J21 A n kk x0 x1 x2 x3 x4 x5 x6 x7 x8 x9 x10 x11 x12) := by
  unfold g4J21
  exact st.g (pc (SxP14jpi _ (SxP14jpi _ (pf _) (SxP14jpi _ (pf _) (g4J24_go st))) pn) (by kernel_rfl))
theorem g4L7_go (m : Nat) : ∀ (x0 x1 : Nat) (x2 : List Nat) (x3 : Bool) (x4 : List Nat) (x5 : Nat) (x6 : Int) (x7 x8 : Nat) (x9 : List (List Nat)) (x10 x11 : Nat) (x12 : List Nat) (x13 : Nat) (x14 : List Int), Prs (fun k => tb k (pth 1012) (g4L7s x0 x1 x2 x3 x4 x5 x6 x7 x8 x9 x10 x11 x12 x13 x14)) (g4L7 A n kk m x0 x1 x2 x3 x4 x5 x6 x7 x8 x9 x10 x11 x12 x13 x14) := by
  induction m with
  | zero => intro x0 x1 x2 x3 x4 x5 x6 x7 x8 x9 x10 x11 x12 x13 x14; exact pn0
  | succ m ih =>
    intro x0 x1 x2 x3 x4 x5 x6 x7 x8 x9 x10 x11 x12 x13 x14; rw [g4L7]
    exact st.g (pc (SxP14jpi _ (SxP14jpi _ (g4J9_go st ih) (g4J21_go st)) (g4J21_go st)) (by kernel_rfl))
theorem g4J4_go {x0 : Nat} {x1 : Nat} {x2 : List Nat} {x3 : Bool} {x4 : Nat} {x5 : Nat} {x6 : List (List Nat)} {x7 : Nat} {x8 : Nat} {x9 : List Nat} : Prs (fun k => tb k (pth 15) (g4J4s x0 x1 x2 x3 x4 x5 x6 x7 x8 x9)) (g4J4 A n kk x0 x1 x2 x3 x4 x5 x6 x7 x8 x9) := by
  unfold g4J4
  exact st.g (pc (g4L7_go st n _ _ _ _ _ _ _ _ _ _ _ _ _ _ _) (by kernel_rfl))
theorem g4_go {x0 : Nat} {x1 : Nat} {x2 : List Nat} {x3 : Nat} {x4 : Nat} {x5 : List (List Nat)} {x6 : Nat} {x7 : Nat} {x8 : List Nat} : Prs (fun k => funN A gtys (g4O A) g4an g4cut (bodyOf Try.f4) g4res [(sL 0 none x0 1), (sL 1 none x1 1), (tS x2)] [(0, ⟨[.strs x4 x5], x3, 0⟩), (1, ⟨[.nums .u8 x7 x8], x6, 0⟩)] kk (tb k)) (g4 A n kk x0 x1 x2 x3 x4 x5 x6 x7 x8) := by
  unfold g4
  exact pc (SxP14jpi _ (SxP14jpi _ (pf _) (g4J4_go st)) pn) (by kernel_rfl)
end
def g4is (o : Option (AV × Heap)) : Bool := match o with
  | some (.v (.cell (.bool _)), [(n0, ⟨[.strs _ _], _, n1⟩), (n2, ⟨[.nums .u8 _ _], _, n3⟩)]) => Nat.beq n0 0 && (Nat.beq n1 0 && (Nat.beq n2 1 && (Nat.beq n3 0)))
  | _ => false
def g4g0 (o : Option (AV × Heap)) : Bool := match o with
  | some (.v (.cell (.bool x)), [(_, ⟨[.strs _ _], _, _⟩), (_, ⟨[.nums .u8 _ _], _, _⟩)]) => x
  | _ => false
def g4g1 (o : Option (AV × Heap)) : Nat := match o with
  | some (.v (.cell (.bool _)), [(_, ⟨[.strs _ _], x, _⟩), (_, ⟨[.nums .u8 _ _], _, _⟩)]) => x
  | _ => 0
def g4g2 (o : Option (AV × Heap)) : Nat := match o with
  | some (.v (.cell (.bool _)), [(_, ⟨[.strs x _], _, _⟩), (_, ⟨[.nums .u8 _ _], _, _⟩)]) => x
  | _ => 0
def g4g3 (o : Option (AV × Heap)) : List (List Nat) := match o with
  | some (.v (.cell (.bool _)), [(_, ⟨[.strs _ x], _, _⟩), (_, ⟨[.nums .u8 _ _], _, _⟩)]) => x
  | _ => []
def g4g4 (o : Option (AV × Heap)) : Nat := match o with
  | some (.v (.cell (.bool _)), [(_, ⟨[.strs _ _], _, _⟩), (_, ⟨[.nums .u8 _ _], x, _⟩)]) => x
  | _ => 0
def g4g5 (o : Option (AV × Heap)) : Nat := match o with
  | some (.v (.cell (.bool _)), [(_, ⟨[.strs _ _], _, _⟩), (_, ⟨[.nums .u8 x _], _, _⟩)]) => x
  | _ => 0
def g4g6 (o : Option (AV × Heap)) : List Nat := match o with
  | some (.v (.cell (.bool _)), [(_, ⟨[.strs _ _], _, _⟩), (_, ⟨[.nums .u8 _ x], _, _⟩)]) => x
  | _ => []
theorem g4is_spec {o : Option (AV × Heap)} (h : g4is o = true) : o = some ((bO (g4g0 o)), [(0, ⟨[.strs (g4g2 o) (g4g3 o)], (g4g1 o), 0⟩), (1, ⟨[.nums .u8 (g4g5 o) (g4g6 o)], (g4g4 o), 0⟩)]) := by
  unfold g4is at h
  split at h
  · rename_i z0 n0 z2 z3 z4 n1 n2 z7 z8 z9 n3
    simp only [Bool.and_eq_true] at h
    have en0 := beq_true h.1
    subst en0
    replace h := h.2
    have en1 := beq_true h.1
    subst en1
    replace h := h.2
    have en2 := beq_true h.1
    subst en2
    replace h := h.2
    have en3 := beq_true h
    subst en3
    rfl
  · cases h
def g4v (A : Ar) (x0 x1 : Nat) (x2 : List Nat) (x3 x4 : Nat) (x5 : List (List Nat)) (x6 x7 : Nat) (x8 : List Nat) : Option (AV × Heap) := g4 A (100000) (outH [0, 1] none) x0 x1 x2 x3 x4 x5 x6 x7 x8
def g4ok (A : Ar) (x0 x1 : Nat) (x2 : List Nat) (x3 x4 : Nat) (x5 : List (List Nat)) (x6 x7 : Nat) (x8 : List Nat) : Bool := g4is (g4v A x0 x1 x2 x3 x4 x5 x6 x7 x8)
def g4r0 (A : Ar) (x0 x1 : Nat) (x2 : List Nat) (x3 x4 : Nat) (x5 : List (List Nat)) (x6 x7 : Nat) (x8 : List Nat) : Bool := g4g0 (g4v A x0 x1 x2 x3 x4 x5 x6 x7 x8)
def g4r1 (A : Ar) (x0 x1 : Nat) (x2 : List Nat) (x3 x4 : Nat) (x5 : List (List Nat)) (x6 x7 : Nat) (x8 : List Nat) : Nat := g4g1 (g4v A x0 x1 x2 x3 x4 x5 x6 x7 x8)
def g4r2 (A : Ar) (x0 x1 : Nat) (x2 : List Nat) (x3 x4 : Nat) (x5 : List (List Nat)) (x6 x7 : Nat) (x8 : List Nat) : Nat := g4g2 (g4v A x0 x1 x2 x3 x4 x5 x6 x7 x8)
def g4r3 (A : Ar) (x0 x1 : Nat) (x2 : List Nat) (x3 x4 : Nat) (x5 : List (List Nat)) (x6 x7 : Nat) (x8 : List Nat) : List (List Nat) := g4g3 (g4v A x0 x1 x2 x3 x4 x5 x6 x7 x8)
def g4r4 (A : Ar) (x0 x1 : Nat) (x2 : List Nat) (x3 x4 : Nat) (x5 : List (List Nat)) (x6 x7 : Nat) (x8 : List Nat) : Nat := g4g4 (g4v A x0 x1 x2 x3 x4 x5 x6 x7 x8)
def g4r5 (A : Ar) (x0 x1 : Nat) (x2 : List Nat) (x3 x4 : Nat) (x5 : List (List Nat)) (x6 x7 : Nat) (x8 : List Nat) : Nat := g4g5 (g4v A x0 x1 x2 x3 x4 x5 x6 x7 x8)
def g4r6 (A : Ar) (x0 x1 : Nat) (x2 : List Nat) (x3 x4 : Nat) (x5 : List (List Nat)) (x6 x7 : Nat) (x8 : List Nat) : List Nat := g4g6 (g4v A x0 x1 x2 x3 x4 x5 x6 x7 x8)
theorem g4ok_spec {A : Ar} {x0 x1 x2 x3 x4 x5 x6 x7 x8} (h : g4ok A x0 x1 x2 x3 x4 x5 x6 x7 x8 = true) : g4v A x0 x1 x2 x3 x4 x5 x6 x7 x8 = some ((bO (g4r0 A x0 x1 x2 x3 x4 x5 x6 x7 x8)), [(0, ⟨[.strs (g4r2 A x0 x1 x2 x3 x4 x5 x6 x7 x8) (g4r3 A x0 x1 x2 x3 x4 x5 x6 x7 x8)], (g4r1 A x0 x1 x2 x3 x4 x5 x6 x7 x8), 0⟩), (1, ⟨[.nums .u8 (g4r5 A x0 x1 x2 x3 x4 x5 x6 x7 x8) (g4r6 A x0 x1 x2 x3 x4 x5 x6 x7 x8)], (g4r4 A x0 x1 x2 x3 x4 x5 x6 x7 x8), 0⟩)]) := g4is_spec h
def g4o (A : Ar) (args : List AV) (h : Heap) : Option (Bool × AV × Heap) := match args, h with
  | [.v (.cell (.sl n0 none x0 n1)), .v (.cell (.sl n2 none x1 n3)), .v (.cell (.str x2))], [(n4, ⟨[.strs x4 x5], x3, n5⟩), (n6, ⟨[.nums .u8 x7 x8], x6, n7⟩)] => match Nat.beq n0 0 && (Nat.beq n1 1 && (Nat.beq n2 1 && (Nat.beq n3 1 && (Nat.beq n4 0 && (Nat.beq n5 0 && (Nat.beq n6 1 && (Nat.beq n7 0))))))) with
    | true => some (g4ok A x0 x1 x2 x3 x4 x5 x6 x7 x8, (bO (g4r0 A x0 x1 x2 x3 x4 x5 x6 x7 x8)), [(0, ⟨[.strs (g4r2 A x0 x1 x2 x3 x4 x5 x6 x7 x8) (g4r3 A x0 x1 x2 x3 x4 x5 x6 x7 x8)], (g4r1 A x0 x1 x2 x3 x4 x5 x6 x7 x8), 0⟩), (1, ⟨[.nums .u8 (g4r5 A x0 x1 x2 x3 x4 x5 x6 x7 x8) (g4r6 A x0 x1 x2 x3 x4 x5 x6 x7 x8)], (g4r4 A x0 x1 x2 x3 x4 x5 x6 x7 x8), 0⟩)])
    | false => none
  | _, _ => none
theorem g4o_sound : ∀ args h v h', g4o realA args h = some (true, v, h') → FnH Try.prog 4 args h v h' := by
  intro args h v h' hh
  unfold g4o at hh
  split at hh
  · rename_i n0 x0 n1 n2 x1 n3 x2 n4 x4 x5 x3 n5 n6 x7 x8 x6 n7
    split at hh
    case h_2 => cases hh
    rename_i hc0
    simp only [Option.some.injEq, Prod.mk.injEq] at hh
    obtain ⟨hc, hv, hh⟩ := hh
    subst hv
    subst hh
    simp only [Bool.and_eq_true] at hc0
    have en0 := beq_true hc0.1
    subst en0
    replace hc0 := hc0.2
    have en1 := beq_true hc0.1
    subst en1
    replace hc0 := hc0.2
    have en2 := beq_true hc0.1
    subst en2
    replace hc0 := hc0.2
    have en3 := beq_true hc0.1
    subst en3
    replace hc0 := hc0.2
    have en4 := beq_true hc0.1
    subst en4
    replace hc0 := hc0.2
    have en5 := beq_true hc0.1
    subst en5
    replace hc0 := hc0.2
    have en6 := beq_true hc0.1
    subst en6
    replace hc0 := hc0.2
    have en7 := beq_true hc0
    subst en7
    exact fnh_ofG mixed gtysOK g4O_sound g4O_det (an := g4an) (cut := g4cut) Try.func4 (c := bodyOf Try.f4) rfl (by kernel_rfl) Try.call4 (Nat.le_of_ble_eq_true rfl) (pins := [0, 1]) (nilr := none) (fun _ => (show g4v realA x0 x1 x2 x3 x4 x5 x6 x7 x8 = _ from g4ok_spec hc)) fun _ st => g4_go st
  · cases hh
attribute [local irreducible] g4ok g4r0 g4r1 g4r2 g4r3 g4r4 g4r5 g4r6
end Go.Sx
namespace Go.Sx
set_option linter.unusedSectionVars false
set_option linter.unusedVariables false
def cT (L : List (List Nat)) (i : Nat) : List Nat := (L.getD i []).take 300
def tG (k : Nat) (tags : List Nat) (i : Nat) : Nat := if i < k then tags.getD i 0 else i
def seL (k : Nat) (tags : List Nat) (i : Nat) : List Nat := (List.range i).filter fun j => decide (tG k tags j % 32 ≠ 31)
def iT (L : List (List Nat)) (k : Nat) (tags : List Nat) (i : Nat) : List (Nat × List Nat) := (seL k tags i).map fun j => (tG k tags j, cT L j)
def wT (k : Nat) (tags : List Nat) (i : Nat) : List Int := (seL k tags i).map fun (j : Nat) => (j : Int)
theorem seL_yes {k : Nat} {tags : List Nat} {i : Nat} (h : tG k tags i % 32 ≠ 31) : seL k tags (i + 1) = seL k tags i ++ [i] := by
  unfold seL
  rw [List.range_succ, List.filter_append]
  simp [h]
theorem seL_no {k : Nat} {tags : List Nat} {i : Nat} (h : tG k tags i % 32 = 31) : seL k tags (i + 1) = seL k tags i := by
  unfold seL
  rw [List.range_succ, List.filter_append]
  simp [h]
theorem seL_len (k : Nat) (tags : List Nat) (i : Nat) : (seL k tags i).length ≤ i := by
  have := List.length_filter_le (fun j => decide (tG k tags j % 32 ≠ 31)) (List.range i)
  rwa [List.length_range] at this
theorem seL_mem {k : Nat} {tags : List Nat} {i j : Nat} (h : j ∈ seL k tags i) : j < i ∧ tG k tags j % 32 ≠ 31 := by
  have := List.mem_filter.1 h
  exact ⟨List.mem_range.1 this.1, of_decide_eq_true this.2⟩
theorem cT_len (L : List (List Nat)) (i : Nat) : (cT L i).length ≤ 300 := by unfold cT; rw [List.length_take]; omega
theorem mn300 (l : List Nat) : realA.mn (realA.ofN l.length) 300 = ((min l.length 300 : Nat) : Int) := by rw [ar_ofN, ar_mn]; omega
theorem cut300 (l : List Nat) : (l.take (min l.length 300)).drop 0 = l.take 300 := by
  rw [List.drop_zero]
  by_cases h : l.length ≤ 300
  · rw [Nat.min_eq_left h, List.take_length, List.take_of_length_le h]
  · rw [Nat.min_eq_right (by omega)]
theorem ws_len : ∀ its : List (Nat × List Nat), (∀ p ∈ its, p.2.length ≤ 300) → (ws its).length ≤ 310 * its.length := by
  intro its
  induction its with
  | nil => intro _; simp [ws]
  | cons p r ih =>
    intro h
    obtain ⟨t, T⟩ := p
    have h1 := h (t, T) List.mem_cons_self
    have h2 := ih fun p hp => h p (List.mem_cons_of_mem _ hp)
    have h3 := lenB_len (n := T.length) (by simp at h1; omega)
    simp only [ws, List.length_cons, List.length_append]
    simp at h1
    omega
theorem ws_bytes : ∀ its : List (Nat × List Nat), (∀ p ∈ its, p.1 < 256 ∧ p.2.length ≤ 300 ∧ ∀ x ∈ p.2, x < 256) → ∀ x ∈ ws its, x < 256 := by
  intro its
  induction its with
  | nil => intro _ x hx; cases hx
  | cons p r ih =>
    intro h x hx
    obtain ⟨t, T⟩ := p
    obtain ⟨h1, h2, h3⟩ := h (t, T) List.mem_cons_self
    simp only [ws, List.mem_cons, List.mem_append] at hx
    rcases hx with rfl | hx | hx | hx
    · exact h1
    · exact lenB_bytes (by simp at h2; omega) x hx
    · exact h3 x hx
    · exact ih (fun p hp => h p (List.mem_cons_of_mem _ hp)) x hx
theorem iT_facts {L : List (List Nat)} {k : Nat} {tags : List Nat} {i : Nat} (hL : ∀ s ∈ L, ∀ x ∈ s, x < 256) (ht : ∀ x ∈ tags, x < 256) (hi : i ≤ 10) : ∀ p ∈ iT L k tags i, p.1 < 256 ∧ p.2.length ≤ 300 ∧ (∀ x ∈ p.2, x < 256) ∧ p.1 % 32 ≠ 31 := by
  intro p hp
  obtain ⟨j, hj, rfl⟩ := List.mem_map.1 hp
  obtain ⟨h1, h2⟩ := seL_mem hj
  refine ⟨?_, cT_len L j, fun x hx => ?_, h2⟩
  · show tG k tags j < 256
    unfold tG
    split
    · exact getD_lt ht j
    · omega
  · have hx : x ∈ L.getD j [] := List.mem_of_mem_take hx
    by_cases hj2 : j < L.length
    · rw [List.getD_eq_getElem?_getD, List.getElem?_eq_getElem hj2] at hx
      exact hL _ (List.getElem_mem hj2) x hx
    · rw [List.getD_eq_getElem?_getD, List.getElem?_eq_none (by omega)] at hx
      cases hx
theorem wrapB_yes {t : Nat} {T : List Nat} (h : t % 32 ≠ 31) (h2 : t < 256) (h3 : T.length < 16777216) : wrapB (t : Int) T = (t :: (lenB T.length ++ T), 0) := by
  unfold wrapB
  rw [if_neg (by omega), if_neg (by omega), if_neg (by omega), if_neg (by omega)]
  simp
theorem wrapB_no {t : Nat} {T : List Nat} (h : t % 32 = 31) (h2 : t < 256) : wrapB (t : Int) T = ([], 1) := by
  unfold wrapB
  rw [if_neg (by omega), if_neg (by omega), if_pos (by omega)]
theorem step_no {R : Type} (N m n k : Nat) (kk : AV → Heap → Option R) (more : List Nat) (q z z' ty ty' : Nat) (i : Nat) (L : List (List Nat)) (tags all : List Nat) (w : List Int) (hin : i < n) (hi : i < 10) (ht : ∀ x ∈ tags, x < 256) (h : tG k tags i % 32 = 31) :
    g4L7 realA N kk (m + 1) n k more true all q (i : Int) ty z L ty' z' tags q w = g4L7 realA N kk m n k more true all q ((i + 1 : Nat) : Int) ty z L ty' z' tags q w := by
  rw [g4L7, ar_ofN, ar_lss, ar_lss, decide_eq_true (by omega), decide_eq_true (by omega)]
  simp only
  have j9 : g4J9 realA N kk (g4L7 realA N kk m) n k more true all q (i : Int) ty z L ty' z' tags q w = g4J12 realA N kk (g4L7 realA N kk m) n k more true all q (i : Int) ((tG k tags i : Nat) : Int) ty z L ty' z' tags q w := by
    unfold g4J9 tG
    rw [ar_ofN, ar_lss, ar_negN, ar_toNN, ar_lt]
    by_cases hk : i < k
    · rw [decide_eq_true (by omega), decide_eq_true hk, if_pos hk]; rfl
    · rw [decide_eq_false (by omega), if_neg hk]
  rw [j9]
  unfold g4J12
  have ht2 : tG k tags i < 256 := by
    unfold tG
    split
    · exact getD_lt ht i
    · omega
  have hr : realA.ib .rem .i64 ((tG k tags i : Nat) : Int) 32 = 31 := by rw [ar_rem (by omega)]; omega
  rw [ar_negN, ar_toNN, ar_lt, decide_eq_true hin, mn300, ar_negN, ar_toNN, ar_le, decide_eq_true (Nat.min_le_left _ _), cut300, wrap_ok, wrap_1, wrapB_no h ht2, hr, ar_eql, icn_self, decide_eq_false (by decide)]
  simp only [Bool.not_false, Bool.not_true, beq_self_eq_true]
  unfold g4J15
  rw [ar_eql, decide_eq_false (by decide), ar_add (by omega)]
  rfl
theorem step_yes {R : Type} (N m n k : Nat) (kk : AV → Heap → Option R) (more : List Nat) (z z' ty ty' : Nat) (i : Nat) (L : List (List Nat)) (tags all : List Nat) (w : List Int) (hin : i < n) (hi : i < 10) (ht : ∀ x ∈ tags, x < 256) (hL : ∀ s ∈ L, ∀ x ∈ s, x < 256) (hmo : ∀ x ∈ more, x < 256) (hml : more.length < 140737488355328) (hall : all.length < 10000) (hw : w.length < 1000) (h : tG k tags i % 32 ≠ 31) :
    g4L7 realA N kk (m + 1) n k more true all w.length (i : Int) ty z L ty' z' tags w.length w = g4L7 realA N kk m n k more true (all ++ (tG k tags i :: (lenB (cT L i).length ++ cT L i))) (w ++ [(i : Int)]).length ((i + 1 : Nat) : Int) ty z L ty' z' tags (w ++ [(i : Int)]).length (w ++ [(i : Int)]) := by
  rw [g4L7, ar_ofN, ar_lss, ar_lss, decide_eq_true (by omega), decide_eq_true (by omega)]
  simp only
  have j9 : g4J9 realA N kk (g4L7 realA N kk m) n k more true all w.length (i : Int) ty z L ty' z' tags w.length w = g4J12 realA N kk (g4L7 realA N kk m) n k more true all w.length (i : Int) ((tG k tags i : Nat) : Int) ty z L ty' z' tags w.length w := by
    unfold g4J9 tG
    rw [ar_ofN, ar_lss, ar_negN, ar_toNN, ar_lt]
    by_cases hk : i < k
    · rw [decide_eq_true (by omega), decide_eq_true hk, if_pos hk]; rfl
    · rw [decide_eq_false (by omega), if_neg hk]
  rw [j9]
  unfold g4J12
  have ht2 : tG k tags i < 256 := by
    unfold tG
    split
    · exact getD_lt ht i
    · omega
  have hcl := cT_len L i
  have hcb : ∀ x ∈ cT L i, x < 256 := by
    intro x hx
    have hx : x ∈ L.getD i [] := List.mem_of_mem_take hx
    by_cases hj2 : i < L.length
    · rw [List.getD_eq_getElem?_getD, List.getElem?_eq_getElem hj2] at hx
      exact hL _ (List.getElem_mem hj2) x hx
    · rw [List.getD_eq_getElem?_getD, List.getElem?_eq_none (by omega)] at hx
      cases hx
  have hr : ¬ realA.ib .rem .i64 ((tG k tags i : Nat) : Int) 32 = 31 := by rw [ar_rem (by omega)]; omega
  have hwr : wrapB ((tG k tags i : Nat) : Int) ((L.getD i []).take 300) = (tG k tags i :: (lenB (cT L i).length ++ cT L i), 0) := wrapB_yes h ht2 (by have : (cT L i).length ≤ 300 := hcl; show (cT L i).length < _; omega)
  rw [ar_negN, ar_toNN, ar_lt, decide_eq_true hin, mn300, ar_negN, ar_toNN, ar_le, decide_eq_true (Nat.min_le_left _ _), cut300, wrap_ok, wrap_0, wrap_1, hwr, ic_self, ar_neq, decide_eq_false hr]
  simp only [Bool.not_false, Bool.not_true, beq_self_eq_true]
  unfold g4J15
  have hll := lenB_len (n := (cT L i).length) (by omega)
  have hs : ∀ x ∈ (tG k tags i :: (lenB (cT L i).length ++ cT L i)) ++ more, x < 256 := by
    intro x hx
    simp only [List.cons_append, List.mem_cons, List.mem_append] at hx
    rcases hx with rfl | (hx | hx) | hx
    · exact ht2
    · exact lenB_bytes (by omega) x hx
    · exact hcb x hx
    · exact hmo x hx
  have hsl : ((tG k tags i :: (lenB (cT L i).length ++ cT L i)) ++ more).length < 1000000000000000 := by simp; omega
  have hn : nextP ((tG k tags i :: (lenB (cT L i).length ++ cT L i)) ++ more) = some (tG k tags i, cT L i, more) := by
    have := next_wrap (t := tG k tags i) (k := (cT L i).length) (T := cT L i) (more := more) h rfl (by omega)
    rw [← this]; simp
  rw [ic_self, ar_le, decide_eq_true (by simp; omega), next_ok hs hsl, next_0 hs hsl, next_1 hs hsl, next_2 hs hsl, next_3 hs hsl, hn, ar_negN, ar_toNN, ar_lt, decide_eq_true hin, mn300, ar_negN, ar_toNN, ar_le, decide_eq_true (Nat.min_le_left _ _), cut300]
  simp only [nx0, nx1, nx2, nx3]
  rw [icn_self, show (L.getD i []).take 300 = cT L i from rfl, scn_self, scn_self, icn_self]
  simp only
  unfold g4J19
  have e1 : (w ++ [(i : Int)].take 1).length = (w ++ [(i : Int)]).length := rfl
  rw [ar_le, decide_eq_true (by simp; omega), ar_eq, decide_eq_true (by omega), ar_le, decide_eq_true (by simp; omega), ar_add (by omega)]
  rfl
end Go.Sx
namespace Go.Sx
set_option linter.unusedSectionVars false
set_option linter.unusedVariables false
theorem iT_len (L : List (List Nat)) (k : Nat) (tags : List Nat) (i : Nat) : (iT L k tags i).length = (seL k tags i).length := by simp [iT]
theorem wT_len (k : Nat) (tags : List Nat) (i : Nat) : (wT k tags i).length = (seL k tags i).length := by simp [wT]
theorem loop4 {R : Type} (N n k : Nat) (kk : AV → Heap → Option R) (more : List Nat) (z z' ty ty' : Nat) (L : List (List Nat)) (tags : List Nat) (ht : ∀ x ∈ tags, x < 256) (hL : ∀ s ∈ L, ∀ x ∈ s, x < 256) (hmo : ∀ x ∈ more, x < 256) (hml : more.length < 140737488355328) : ∀ (d i m : Nat), i + d = min n 10 → d + 1 ≤ m →
    g4L7 realA N kk m n k more true (ws (iT L k tags i)) (wT k tags i).length (i : Int) ty z L ty' z' tags (wT k tags i).length (wT k tags i) = g4J21 realA N kk n more true (ws (iT L k tags (min n 10))) (wT k tags (min n 10)).length ty z L ty' z' tags (wT k tags (min n 10)).length (wT k tags (min n 10)) := by
  intro d
  induction d with
  | zero =>
    intro i m h1 h2
    obtain ⟨m, rfl⟩ : ∃ m', m = m' + 1 := ⟨m - 1, by omega⟩
    have hi : i = min n 10 := by omega
    rw [g4L7, ar_ofN, ar_lss, ar_lss]
    by_cases h : i < n
    · rw [decide_eq_true (by omega), decide_eq_false (by omega), hi]
    · rw [decide_eq_false (by omega), hi]
  | succ d ih =>
    intro i m h1 h2
    obtain ⟨m, rfl⟩ : ∃ m', m = m' + 1 := ⟨m - 1, by omega⟩
    have hf := iT_facts (L := L) (k := k) (tags := tags) (i := i) hL ht (by omega)
    have hsl := seL_len k tags i
    have := ih (i + 1) m (by omega) (by omega)
    by_cases h : tG k tags i % 32 = 31
    · rw [step_no N m n k kk more _ z z' ty ty' i L tags _ _ (by omega) (by omega) ht h]
      unfold iT wT at this ⊢
      rw [seL_no h] at this
      exact this
    · have hl := ws_len (iT L k tags i) (fun p hp => (hf p hp).2.1)
      rw [iT_len] at hl
      rw [step_yes N m n k kk more z z' ty ty' i L tags _ _ (by omega) (by omega) ht hL hmo hml (by omega) (by rw [wT_len]; omega) h]
      have e1 : wT k tags i ++ [(i : Int)] = wT k tags (i + 1) := by unfold wT; rw [seL_yes h, List.map_append]; rfl
      have e2 : ws (iT L k tags i) ++ (tG k tags i :: (lenB (cT L i).length ++ cT L i)) = ws (iT L k tags (i + 1)) := by
        unfold iT
        rw [seL_yes h, List.map_append, ws_app]
        simp [ws]
      rw [e1, e2]
      exact this
def Z4 (z z' ty ty' : Nat) (L : List (List Nat)) (tags : List Nat) : Option (AV × Heap) := some (bO true, [(0, ⟨[.strs z L], ty, 0⟩), (1, ⟨[.nums .u8 z' tags], ty', 0⟩)])
theorem j29 (N : Nat) (more : List Nat) (z z' ty ty' : Nat) (L : List (List Nat)) (tags : List Nat) (hmo : ∀ x ∈ more, x < 256) (hml : more.length < 140737488355328) : g4J29 realA N (outH [0, 1] none) more true ty z L ty' z' tags = Z4 z z' ty ty' L tags := by
  unfold g4J29
  have hl : more.length < 1000000000000000 := by omega
  rw [next_ok hmo hl, next_0 hmo hl, next_1 hmo hl, next_2 hmo hl, next_3 hmo hl, wrap_ok, wrap_0, wrap_1]
  cases hn : nextP more with
  | none =>
    simp only [nx0, nx1, nx2, nx3]
    rw [ar_neq, decide_eq_false (by decide)]
    rfl
  | some p =>
    obtain ⟨t, x, y⟩ := p
    obtain ⟨h1, h2⟩ := wrap_back hmo hn
    simp only [nx0, nx1, nx2, nx3]
    have h3 := congrArg List.length h2
    rw [List.length_append] at h3
    rw [icn_self, h1, ic_self, ar_le, decide_eq_true (by omega), h2, sc_self]
    rfl
theorem l25 (N n : Nat) (more : List Nat) (z z' ty ty' r2 : Nat) (L : List (List Nat)) (tags : List Nat) (a : List Int) (c : List (List Nat)) (sel : List Nat) (hsel : ∀ j ∈ sel, j < n) (hs : sel.length < 1000) (hmo : ∀ x ∈ more, x < 256) (hml : more.length < 140737488355328) : ∀ (d j m : Nat), j + d = sel.length → d + 1 ≤ m →
    g4L25 realA N (outH [0, 1] none) m n more true sel.length sel.length (j : Int) ty z L ty' z' tags sel.length (sel.map fun (j : Nat) => (j : Int)) r2 a (sel.map (cT L)) c = Z4 z z' ty ty' L tags := by
  intro d
  induction d with
  | zero =>
    intro j m h1 h2
    obtain ⟨m, rfl⟩ : ∃ m', m = m' + 1 := ⟨m - 1, by omega⟩
    rw [g4L25, ar_ofN, ar_lss, decide_eq_false (by omega)]
    exact j29 N more z z' ty ty' L tags hmo hml
  | succ d ih =>
    intro j m h1 h2
    obtain ⟨m, rfl⟩ : ∃ m', m = m' + 1 := ⟨m - 1, by omega⟩
    rw [g4L25, ar_ofN, ar_lss, decide_eq_true (by omega)]
    simp only
    unfold g4J27
    have hj : j < sel.length := by omega
    have e1 : (sel.map fun (j : Nat) => (j : Int)).getD j 0 = ((sel[j] : Nat) : Int) := by
      rw [List.getD_eq_getElem?_getD, List.getElem?_map, List.getElem?_eq_getElem hj]; rfl
    have e2 : (sel.map (cT L)).getD j [] = (L.getD sel[j] []).take 300 := by
      rw [List.getD_eq_getElem?_getD, List.getElem?_map, List.getElem?_eq_getElem hj]; rfl
    have h3 : sel[j] < n := hsel _ (List.getElem_mem hj)
    rw [ar_negN, ar_toNN, ar_lt, decide_eq_true hj, e1, ar_negN, ar_toNN, ar_lt, decide_eq_true h3, mn300, ar_negN, ar_toNN, ar_le, decide_eq_true (Nat.min_le_left _ _), cut300, e2, scn_self, ar_add (by omega)]
    exact ih (j + 1) m (by omega) (by omega)
theorem law4v (n k : Nat) (more : List Nat) (z z' ty ty' : Nat) (L : List (List Nat)) (tags : List Nat) (ht : ∀ x ∈ tags, x < 256) (hL : ∀ s ∈ L, ∀ x ∈ s, x < 256) (hmo : ∀ x ∈ more, x < 256) (hml : more.length < 140737488355328) : g4v realA n k more ty z L ty' z' tags = Z4 z z' ty ty' L tags := by
  unfold g4v
  have hN : (100000 : Nat) = 99900 + 100 := rfl
  generalize hM : 99900 = M at hN
  rw [hN]
  have hM2 : 90000 ≤ M := by omega
  clear hN hM
  unfold g4
  rw [ex14ok, ex14r]
  simp only [Bool.not_true]
  unfold g4J4
  have h := loop4 (M + 100) n k (outH [0, 1] none) more z z' ty ty' L tags ht hL hmo hml (min n 10) 0 (M + 100) (by omega) (by omega)
  have e0 : seL k tags 0 = [] := rfl
  have e1 : wT k tags 0 = [] := rfl
  have e2 : ws (iT L k tags 0) = [] := rfl
  rw [e1, e2] at h
  refine h.trans ?_
  have hK : min n 10 ≤ 10 := Nat.min_le_right _ _
  have hKn : min n 10 ≤ n := Nat.min_le_left _ _
  generalize min n 10 = K at hK hKn
  have hf := iT_facts (L := L) (k := k) (tags := tags) (i := K) hL ht hK
  have hsl := seL_len k tags K
  have hl := ws_len (iT L k tags K) (fun p hp => (hf p hp).2.1)
  rw [iT_len] at hl
  have hb := ws_bytes (iT L k tags K) (fun p hp => ⟨(hf p hp).1, (hf p hp).2.1, (hf p hp).2.2.1⟩)
  obtain ⟨a0, a1, a2, a3, a4, a5⟩ := g12_all hb (by omega)
  obtain ⟨p1, p2, p3⟩ := prt_ws (iT L k tags K) 100 [] [] [] (fun p hp => ⟨(hf p hp).2.2.2, by have := (hf p hp).2.1; omega⟩) (by rw [iT_len]; omega) (by rw [iT_len]; simp; omega)
  unfold g4J21
  rw [a0, a2, p1, icn_self, a1, p3, a4, p2, wT_len, iT_len]
  simp only [List.length_nil, Nat.zero_add, List.nil_append]
  rw [icn_self]
  simp only
  unfold g4J24
  have := l25 (M + 100) n more z z' ty ty' (g12r2 realA (ws (iT L k tags K))) L tags (g12r3 realA (ws (iT L k tags K))) (g12r5 realA (ws (iT L k tags K))) (seL k tags K) (fun j hj => Nat.lt_of_lt_of_le (seL_mem hj).1 hKn) (by omega) hmo hml (seL k tags K).length 0 (M + 100) (by omega) (by omega)
  have e3 : (iT L k tags K).map (fun p => p.2) = (seL k tags K).map (cT L) := by unfold iT; rw [List.map_map]; rfl
  rw [e3]
  exact this
end Go.Sx
namespace Go.Sx
set_option linter.unusedSectionVars false
theorem law4o (n k : Nat) (more : List Nat) (ty z : Nat) (L : List (List Nat)) (ty' z' : Nat) (tags : List Nat) (hL : ∀ x ∈ L, (∀ b ∈ x, b < 256) ∧ x.length ≤ maxLen) (_ : L.length = n) (ht : ∀ x ∈ tags, x < 256) (_ : tags.length = k) (hs : ∀ x ∈ more, x < 256) (hl : more.length < 2 ^ 47) :
    g4ok realA n k more ty z L ty' z' tags = true ∧ g4r0 realA n k more ty z L ty' z' tags = true := by
  have e : g4v realA n k more ty z L ty' z' tags = some (bO true, [(0, ⟨[.strs z L], ty, 0⟩), (1, ⟨[.nums .u8 z' tags], ty', 0⟩)]) := law4v n k more z z' ty ty' L tags ht (fun s h => (hL s h).1) hs hl
  exact ⟨(congrArg g4is e).trans rfl, (congrArg g4g0 e).trans rfl⟩
end Go.Sx
