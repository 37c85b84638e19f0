import Derived.Test.YtllahodhfohhpaaSxP14b
import Derived.Test.YtllahodhfohhpaaSxAr
import Derived.Test.YtllahodhfohhpaaSxPl
import Derived.Test.YtllahodhfohhpaaSxLs
import Derived.ChangeArms
namespace Go.Sx
set_option linter.unusedSectionVars false
set_option linter.unusedVariables false

def beN : Nat → Nat → List Nat
  | 0, _ => []
  | f + 1, n => if n = 0 then [] else beN f (n / 256) ++ [n % 256]
theorem beN_succ (f n : Nat) (h : n ≠ 0) : beN (f + 1) n = beN f (n / 256) ++ [n % 256] := by rw [beN, if_neg h]
def lenB (n : Nat) : List Nat := if n < 128 then [n] else (128 + (beN 8 n).length) :: beN 8 n

theorem n14_J7 (N : Nat) (acc : List Nat) (h : acc.length < 100) : g19J7 realA N (fun v _ => some v) acc.length acc.length acc = some (.v (.cell (.str ((128 + acc.length) :: acc)))) := by
  unfold g19J7
  have e : realA.ib .add .i64 128 (realA.ofN acc.length) = ((128 + acc.length : Nat) : Int) := by
    rw [ar_ofN, ar_add (by omega)]; omega
  rw [e, ar_i2nN, Nat.mod_eq_of_lt (by omega : 128 + acc.length < 256), ar_le]
  have e2 : decide ((([128 + acc.length].take 1).length + (acc.take acc.length).length) ≤ 9223372036854775807) = true := decide_eq_true (by simp; omega)
  rw [e2]
  simp
theorem n14_L4a (N : Nat) : ∀ (f m n : Nat) (acc : List Nat), n < 256 ^ f → f + 1 ≤ m → acc.length + f < 100 → g19L4a realA N (fun v _ => some v) m (n : Int) acc.length acc.length acc = some (.v (.cell (.str ((128 + (beN f n ++ acc).length) :: (beN f n ++ acc))))) := by
  intro f
  induction f with
  | zero =>
    intro m n acc h1 h2 h3
    obtain ⟨m, rfl⟩ : ∃ m', m = m' + 1 := ⟨m - 1, by omega⟩
    have : n = 0 := by simpa using h1
    subst this
    rw [g19L4a, ar_gtr, decide_eq_false (by simp)]
    simpa [beN] using n14_J7 N acc (by omega)
  | succ f ih =>
    intro m n acc h1 h2 h3
    obtain ⟨m, rfl⟩ : ∃ m', m = m' + 1 := ⟨m - 1, by omega⟩
    rw [g19L4a, ar_gtr]
    by_cases hn : n = 0
    · subst hn
      rw [decide_eq_false (by simp)]
      simpa [beN] using n14_J7 N acc (by omega)
    · rw [decide_eq_true (by omega)]
      simp only
      unfold g19J6a
      have e1 : realA.ish .shr .i64 (n : Int) 8 = ((n / 256 : Nat) : Int) := by
        rw [ar_shr (by decide)]
        show (n : Int) / 256 = ((n / 256 : Nat) : Int)
        omega
      rw [e1, ar_i2nN, List.take_length, ar_le, ar_eq, decide_eq_true (rfl : 1 = 1)]
      have hl : ([n % 256] ++ acc).length ≤ 140737488355328 := by simp; omega
      rw [decide_eq_true hl]
      simp only
      rw [ih m (n / 256) ([n % 256] ++ acc) (by rw [Nat.pow_succ] at h1; omega) (by omega) (by simp; omega)]
      rw [beN_succ f n hn]
      simp
theorem n14_J3 (N n : Nat) (hN : 100 ≤ N) (h : n < 256 ^ 8) : g19J3 realA N (fun v _ => some v) (n : Int) = some (.v (.cell (.str ((128 + (beN 8 n).length) :: beN 8 n)))) := by
  unfold g19J3
  obtain ⟨N, rfl⟩ : ∃ N', N = N' + 1 := ⟨N - 1, by omega⟩
  rw [g19L4, ar_gtr]
  by_cases hn : n = 0
  · subst hn
    rw [decide_eq_false (by simp)]
    exact n14_J7 (N + 1) [] (by simp)
  · rw [decide_eq_true (by omega)]
    simp only
    unfold g19J6
    have e1 : realA.ish .shr .i64 (n : Int) 8 = ((n / 256 : Nat) : Int) := by
      rw [ar_shr (by decide)]
      show (n : Int) / 256 = ((n / 256 : Nat) : Int)
      omega
    rw [e1, ar_i2nN, List.take_nil, ar_le, ar_eq, decide_eq_true (rfl : 1 = 1)]
    have hl : ([n % 256] ++ ([] : List Nat)).length ≤ 140737488355328 := by simp
    rw [decide_eq_true hl]
    simp only
    rw [n14_L4a (N + 1) 7 N (n / 256) ([n % 256] ++ []) (by have : n < 256 ^ 7 * 256 := h; omega) (by omega) (by simp)]
    rw [beN_succ 7 n hn]
    simp
theorem n14_len (n : Nat) (h : n < 256 ^ 8) : g19v realA (n : Int) = some (.v (.cell (.str (lenB n)))) := by
  unfold g19v
  generalize hN : 100000 = N
  unfold g19
  rw [ar_lss]
  unfold lenB
  by_cases h1 : n < 128
  · rw [decide_eq_true (by omega), if_pos h1, ar_i2nN, Nat.mod_eq_of_lt (by omega)]
    rfl
  · rw [decide_eq_false (by omega), if_neg h1]
    exact n14_J3 N n (by omega) h
theorem n14_ok (n : Nat) (h : n < 256 ^ 8) : g19ok realA (n : Int) = true := (congrArg g19is (n14_len n h)).trans rfl
theorem n14_r (n : Nat) (h : n < 256 ^ 8) : g19r0 realA (n : Int) = lenB n := (congrArg g19g0 (n14_len n h)).trans rfl
end Go.Sx
namespace Go.Sx
set_option linter.unusedSectionVars false
set_option linter.unusedVariables false

def bval (l : List Nat) (a : Nat) : Nat := l.foldl (fun n b => n * 256 + b) a
theorem or8 (a b : Nat) (hb : b < 256) (ha : a < 1000000000000000000 / 256) : realA.ib .or .i64 (realA.ish .shl .i64 (a : Int) 8) (realA.ofN b) = ((a * 256 + b : Nat) : Int) := by
  rw [ar_shl (by decide) (by omega)]
  show IntKind.i64.wrap ((BitVec.ofInt 64 ((a : Int) * 2 ^ 8) ||| BitVec.ofInt 64 (b : Int)).toNat : Int) = _
  have e : (a : Int) * 2 ^ 8 = ((a * 256 : Nat) : Int) := by omega
  rw [e, BitVec.ofInt_natCast, BitVec.ofInt_natCast, BitVec.toNat_or, BitVec.toNat_ofNat, BitVec.toNat_ofNat, Nat.mod_eq_of_lt (by omega), Nat.mod_eq_of_lt (by omega)]
  have h := Nat.two_pow_add_eq_or_of_lt (i := 8) hb a
  rw [Nat.mul_comm a 256, ← h]
  exact wrap64 (by omega)
theorem and31 (n : Nat) : realA.ib .and .i64 (n : Int) 31 = ((n % 32 : Nat) : Int) := by
  show IntKind.wrap .i64 ((BitVec.ofInt 64 (n : Int) &&& BitVec.ofInt 64 31).toNat : Int) = _
  have e : (BitVec.ofInt 64 (n : Int) &&& BitVec.ofInt 64 31).toNat = n % 32 := by
    rw [BitVec.toNat_and]
    have h1 : (BitVec.ofInt 64 31).toNat = 31 := by decide
    have h2 : (BitVec.ofInt 64 (n : Int)).toNat = n % 2 ^ 64 := by simp [BitVec.ofInt_natCast]
    rw [h1, h2, show (31 : Nat) = 2 ^ 5 - 1 from rfl, Nat.and_two_pow_sub_one_eq_mod]
    omega
  rw [e]
  exact wrap64 (by omega)
theorem nand31 (n : Nat) : realA.nb .and .u8 n 31 = n % 32 := Nat.and_two_pow_sub_one_eq_mod n 5

def nx : Option (Nat × List Nat × List Nat) → AV
  | none => .tup [.agg [.one (.int .i64 0), .one (.str []), .one (.str [])], .cell (.int .i64 2)]
  | some (t, x, y) => .tup [.agg [.one (.int .i64 (t : Int)), .one (.str x), .one (.str y)], .cell (.int .i64 0)]
def tailP (s : List Nat) (n z : Nat) : Option (Nat × List Nat × List Nat) :=
  if lenB n = (s.take (1 + z)).drop 1 ∧ n ≤ s.length - (1 + z) then some (s.getD 0 0, (s.drop (1 + z)).take n, (s.drop (1 + z)).drop n) else none
def nextP (s : List Nat) : Option (Nat × List Nat × List Nat) :=
  if s.length < 2 then none else if s.getD 0 0 % 32 = 31 then none
  else if s.getD 1 0 < 128 then tailP s (s.getD 1 0) 1
  else if 132 ≤ s.getD 1 0 then none else if s.length ≤ s.getD 1 0 - 127 then none
  else tailP s (bval ((s.take (1 + (s.getD 1 0 - 127))).drop 2) 0) (s.getD 1 0 - 127)

theorem n14_tail (N : Nat) (s : List Nat) (n z : Nat) (hz : z ≤ 4) (hs : 1 + z ≤ s.length) (hl : s.length < 1000000000000000) (hn : n < 256 ^ 7) : g8J14 realA N (fun v _ => some v) s (n : Int) (z : Int) 0 [] [] = some (nx (tailP s n z)) := by
  unfold g8J14
  have e : realA.ib .add .i64 1 (z : Int) = ((1 + z : Nat) : Int) := by rw [ar_add (by omega)]; omega
  have hn8 : n < 256 ^ 8 := by omega
  rw [e, ar_negN, ar_toNN, ar_le, decide_eq_true hs, n14_ok n hn8, n14_r n hn8, ar_le, decide_eq_true (by omega : 1 ≤ 1 + z), ar_scne, List.take_length, ar_ofN, ar_lss, List.length_drop]
  simp only
  unfold tailP
  by_cases h1 : lenB n = (s.take (1 + z)).drop 1
  · rw [decide_eq_true h1]
    simp only [Bool.not_true]
    by_cases h2 : n ≤ s.length - (1 + z)
    · rw [decide_eq_false (by omega), if_pos ⟨h1, h2⟩]
      simp only
      unfold g8J17
      rw [ar_negN, ar_toNN, ar_le, List.length_drop, decide_eq_true h2, List.take_of_length_le (l := s.drop (1 + z)) (i := s.length - (1 + z)) (by rw [List.length_drop]; exact Nat.le_refl _)]
      have h0 : Nat.blt 0 s.length = true := by rw [Nat.blt_eq]; omega
      rw [h0]
      simp [nx, ar_ofN]
    · rw [decide_eq_true (by omega), if_neg (fun q => h2 q.2)]
      rfl
  · rw [decide_eq_false h1, if_neg (fun q => h1 q.1)]
    rfl
theorem bval_snoc (l : List Nat) (b a : Nat) : bval (l ++ [b]) a = bval l a * 256 + b := by unfold bval; rw [List.foldl_append]; rfl
theorem take_snoc {l : List Nat} {i : Nat} (h : i < l.length) : l.take (i + 1) = l.take i ++ [l.getD i 0] := by
  rw [List.take_add_one, List.getElem?_eq_getElem h, List.getD_eq_getElem?_getD, List.getElem?_eq_getElem h]
  rfl
theorem bval_lt : ∀ (l : List Nat) (a : Nat), (∀ x ∈ l, x < 256) → bval l a < (a + 1) * 256 ^ l.length := by
  intro l
  induction l with
  | nil => intro a _; show a < (a + 1) * 1; omega
  | cons x l ih =>
    intro a h
    have h1 := ih (a * 256 + x) (fun y hy => h y (List.mem_cons_of_mem _ hy))
    have hx := h x List.mem_cons_self
    refine Nat.lt_of_lt_of_le h1 ?_
    rw [List.length_cons, Nat.pow_succ, Nat.mul_comm (256 ^ l.length) 256, ← Nat.mul_assoc]
    exact Nat.mul_le_mul_right _ (by omega)
theorem bval_take {l : List Nat} (hl : ∀ x ∈ l, x < 256) {i : Nat} (hi : i ≤ 6) : bval (l.take i) 0 < 256 ^ 6 := by
  have h1 := bval_lt (l.take i) 0 (fun x hx => hl x (List.mem_of_mem_take hx))
  have h2 : (l.take i).length ≤ 6 := by rw [List.length_take]; omega
  have h3 : 256 ^ (l.take i).length ≤ 256 ^ 6 := Nat.pow_le_pow_right (by decide) h2
  omega
theorem n14_L10 (N : Nat) (s l : List Nat) (z : Nat) (hz : z ≤ 4) (hs : 1 + z ≤ s.length) (hsl : s.length < 1000000000000000) (hl : ∀ x ∈ l, x < 256) (hlen : l.length ≤ 4) : ∀ (d i m : Nat), i + d = l.length → d + 1 ≤ m → g8L10 realA N (fun v _ => some v) m s (bval (l.take i) 0 : Nat) (z : Int) l.length (l.length : Nat) (i : Nat) 0 [] [] l.length l = some (nx (tailP s (bval l 0) z)) := by
  intro d
  induction d with
  | zero =>
    intro i m h1 h2
    obtain ⟨m, rfl⟩ : ∃ m', m = m' + 1 := ⟨m - 1, by omega⟩
    rw [g8L10, ar_lss, decide_eq_false (by omega)]
    simp only
    rw [List.take_of_length_le (by omega)]
    refine n14_tail N s _ z hz hs hsl ?_
    have := bval_take hl (i := l.length) (by omega)
    rw [List.take_length] at this
    omega
  | succ d ih =>
    intro i m h1 h2
    obtain ⟨m, rfl⟩ : ∃ m', m = m' + 1 := ⟨m - 1, by omega⟩
    rw [g8L10, ar_lss, decide_eq_true (by omega)]
    simp only
    unfold g8J11
    have hb : l.getD i 0 < 256 := getD_lt hl i
    have ht := bval_take hl (i := i) (by omega)
    rw [ar_negN, ar_toNN, ar_lt, decide_eq_true (show i < l.length by omega), or8 _ _ hb (by omega), ar_add (by omega)]
    simp only
    have := ih (i + 1) m (by omega) (by omega)
    rw [take_snoc (by omega), bval_snoc] at this
    exact this
theorem n14_next (s : List Nat) (hs : ∀ x ∈ s, x < 256) (hl : s.length < 1000000000000000) : g8v realA s = some (nx (nextP s)) := by
  unfold g8v
  generalize hN : 100000 = N
  unfold g8 nextP
  rw [ar_ofN, ar_lss]
  by_cases h1 : s.length < 2
  · rw [decide_eq_true (by omega), if_pos h1]
    rfl
  · rw [decide_eq_false (by omega), if_neg h1]
    have hb0 : Nat.blt 0 s.length = true := by rw [Nat.blt_eq]; omega
    have hb1 : Nat.blt 1 s.length = true := by rw [Nat.blt_eq]; omega
    simp only [hb0]
    rw [nand31, ar_neql]
    by_cases h2 : s.getD 0 0 % 32 = 31
    · rw [decide_eq_true h2, if_pos h2]
      rfl
    · rw [decide_eq_false h2, if_neg h2]
      simp only
      unfold g8J3
      rw [hb1]
      simp only
      have hc := getD_lt hs 1
      rw [ar_ofN, ar_ofN, ar_geq]
      by_cases h3 : s.getD 1 0 < 128
      · rw [decide_eq_false (by omega), if_pos h3]
        exact n14_tail N s _ 1 (by omega) (by omega) hl (by omega)
      · have e : realA.ib .add .i64 1 (realA.ib .sub .i64 ((s.getD 1 0 : Nat) : Int) 128) = ((s.getD 1 0 - 127 : Nat) : Int) := by
          rw [ar_sub (by omega), ar_add (by omega)]; omega
        rw [decide_eq_true (by omega), if_neg h3, e, ar_gtr, ar_leq]
        simp only
        by_cases h4 : 132 ≤ s.getD 1 0
        · rw [decide_eq_true (by omega), if_pos h4]
          rfl
        · rw [decide_eq_false (by omega), if_neg h4]
          simp only
          by_cases h5 : s.length ≤ s.getD 1 0 - 127
          · rw [decide_eq_true (by omega), if_pos h5]
            rfl
          · rw [decide_eq_false (by omega), if_neg h5]
            simp only
            unfold g8J8
            have e2 : realA.ib .add .i64 1 ((s.getD 1 0 - 127 : Nat) : Int) = ((1 + (s.getD 1 0 - 127) : Nat) : Int) := by
              rw [ar_add (by omega)]; omega
            have hlen : ((s.take (1 + (s.getD 1 0 - 127))).drop 2).length = (s.getD 1 0 - 127) - 1 := by
              rw [List.length_drop, List.length_take]; omega
            rw [e2, ar_negN, ar_toNN, ar_le, decide_eq_true (by omega), ar_le, decide_eq_true (by omega), ar_le, decide_eq_true (by omega), ar_ofN]
            simp only
            have := n14_L10 N s ((s.take (1 + (s.getD 1 0 - 127))).drop 2) (s.getD 1 0 - 127) (by omega) (by omega) hl (fun x hx => hs x (List.mem_of_mem_take (List.mem_of_mem_drop hx))) (by omega) ((s.take (1 + (s.getD 1 0 - 127))).drop 2).length 0 N (by omega) (by omega)
            exact this
end Go.Sx
namespace Go.Sx
set_option linter.unusedSectionVars false
set_option linter.unusedVariables false
theorem lenB_1 {n : Nat} (h : n < 128) : lenB n = [n] := if_pos h
theorem beN_0 (f : Nat) : beN f 0 = [] := by cases f <;> rfl
theorem lenB_2 {n : Nat} (h : 128 ≤ n) (h2 : n < 256) : lenB n = [129, n] := by
  unfold lenB
  have e : beN 8 n = [n] := by
    rw [beN_succ 7 n (by omega), show n / 256 = 0 by omega, beN_0, Nat.mod_eq_of_lt h2]; rfl
  rw [if_neg (by omega), e]; rfl
theorem lenB_3 {n : Nat} (h : 256 ≤ n) (h2 : n < 65536) : lenB n = [130, n / 256, n % 256] := by
  unfold lenB
  have e : beN 8 n = [n / 256, n % 256] := by
    rw [beN_succ 7 n (by omega), beN_succ 6 (n / 256) (by omega), show n / 256 / 256 = 0 by omega, beN_0, Nat.mod_eq_of_lt (show n / 256 < 256 by omega)]; rfl
  rw [if_neg (by omega), e]; rfl
theorem lenB_4 {n : Nat} (h : 65536 ≤ n) (h2 : n < 16777216) : lenB n = [131, n / 65536, n / 256 % 256, n % 256] := by
  unfold lenB
  have e : beN 8 n = [n / 65536, n / 256 % 256, n % 256] := by
    rw [beN_succ 7 n (by omega), beN_succ 6 (n / 256) (by omega), beN_succ 5 (n / 256 / 256) (by omega), show n / 256 / 256 / 256 = 0 by omega, beN_0, Nat.mod_eq_of_lt (show n / 256 / 256 < 256 by omega), show n / 256 / 256 = n / 65536 by omega]; rfl
  rw [if_neg (by omega), e]; rfl
theorem lenB_len {n : Nat} (h2 : n < 16777216) : (lenB n).length ≤ 4 := by
  by_cases h1 : n < 128
  · rw [lenB_1 h1]; simp
  · by_cases h3 : n < 256
    · rw [lenB_2 (by omega) h3]; simp
    · by_cases h4 : n < 65536
      · rw [lenB_3 (by omega) h4]; simp
      · rw [lenB_4 (by omega) h2]; simp
def wrapB (t : Int) (x : List Nat) : List Nat × Int :=
  if t < 0 then ([], 1) else if 255 < t then ([], 1) else if t % 32 = 31 then ([], 1) else if 16777216 ≤ x.length then ([], 9) else (t.toNat :: (lenB x.length ++ x), 0)
theorem n14_wrap (t : Int) (x : List Nat) : g10v realA t x = some (.tup [.cell (.str (wrapB t x).1), .cell (.int .i64 (wrapB t x).2)]) := by
  unfold g10v
  generalize 100000 = N
  unfold g10 wrapB
  rw [ar_lss, ar_gtr]
  by_cases h1 : t < 0
  · rw [decide_eq_true h1, if_pos h1]
  · rw [decide_eq_false h1, if_neg h1]
    simp only
    by_cases h2 : 255 < t
    · rw [decide_eq_true h2, if_pos h2]
    · rw [decide_eq_false h2, if_neg h2]
      simp only
      obtain ⟨n, rfl⟩ : ∃ n : Nat, t = n := ⟨t.toNat, by omega⟩
      rw [and31, ar_eql, ar_geq, ar_ofN]
      by_cases h3 : (n : Int) % 32 = 31
      · rw [decide_eq_true (by omega), if_pos h3]
      · rw [decide_eq_false (by omega), if_neg h3]
        simp only
        by_cases h4 : 16777216 ≤ x.length
        · rw [decide_eq_true (by omega), if_pos h4]
        · rw [decide_eq_false (by omega), if_neg h4]
          simp only
          unfold g10J5
          have hn8 : x.length < 256 ^ 8 := by omega
          have hl := lenB_len (n := x.length) (by omega)
          rw [ar_ofN, n14_ok _ hn8, n14_r _ hn8, ar_i2nN, Nat.mod_eq_of_lt (by omega : n < 256), ar_le, decide_eq_true (by simp; omega), ar_le, decide_eq_true (by simp; omega)]
          simp
theorem wrap_ok (t : Int) (x : List Nat) : g10ok realA t x = true := (congrArg g10is (n14_wrap t x)).trans rfl
theorem wrap_0 (t : Int) (x : List Nat) : g10r0 realA t x = (wrapB t x).1 := (congrArg g10g0 (n14_wrap t x)).trans rfl
def nx0 : Option (Nat × List Nat × List Nat) → Int
  | none => 0
  | some (t, _, _) => t
def nx1 : Option (Nat × List Nat × List Nat) → List Nat
  | none => []
  | some (_, x, _) => x
def nx2 : Option (Nat × List Nat × List Nat) → List Nat
  | none => []
  | some (_, _, y) => y
def nx3 : Option (Nat × List Nat × List Nat) → Int
  | none => 2
  | some _ => 0
theorem next_ok {s : List Nat} (hs : ∀ x ∈ s, x < 256) (hl : s.length < 1000000000000000) : g8ok realA s = true := by
  refine (congrArg g8is (n14_next s hs hl)).trans ?_
  rcases nextP s with _ | ⟨a, b, c⟩ <;> rfl
theorem next_0 {s : List Nat} (hs : ∀ x ∈ s, x < 256) (hl : s.length < 1000000000000000) : g8r0 realA s = nx0 (nextP s) := by
  refine (congrArg g8g0 (n14_next s hs hl)).trans ?_
  rcases nextP s with _ | ⟨a, b, c⟩ <;> rfl
theorem next_1 {s : List Nat} (hs : ∀ x ∈ s, x < 256) (hl : s.length < 1000000000000000) : g8r1 realA s = nx1 (nextP s) := by
  refine (congrArg g8g1 (n14_next s hs hl)).trans ?_
  rcases nextP s with _ | ⟨a, b, c⟩ <;> rfl
theorem next_2 {s : List Nat} (hs : ∀ x ∈ s, x < 256) (hl : s.length < 1000000000000000) : g8r2 realA s = nx2 (nextP s) := by
  refine (congrArg g8g2 (n14_next s hs hl)).trans ?_
  rcases nextP s with _ | ⟨a, b, c⟩ <;> rfl
theorem next_3 {s : List Nat} (hs : ∀ x ∈ s, x < 256) (hl : s.length < 1000000000000000) : g8r3 realA s = nx3 (nextP s) := by
  refine (congrArg g8g3 (n14_next s hs hl)).trans ?_
  rcases nextP s with _ | ⟨a, b, c⟩ <;> rfl
end Go.Sx
namespace Go.Sx
set_option linter.unusedSectionVars false
set_option linter.unusedVariables false
theorem next_wrap {t k : Nat} {T more : List Nat} (ht : t % 32 ≠ 31) (hT : T.length = k) (hk : k < 16777216) : nextP (t :: (lenB k ++ (T ++ more))) = some (t, T, more) := by
  subst hT
  by_cases h1 : T.length < 128
  · rw [lenB_1 h1]
    unfold nextP
    rw [if_neg (by simp), if_neg (by simpa using ht), if_pos (by simpa using h1)]
    unfold tailP
    rw [if_pos ⟨by simp [lenB_1 h1], by simp⟩]
    simp
  · by_cases h2 : T.length < 256
    · rw [lenB_2 (by omega) h2]
      unfold nextP
      rw [if_neg (by simp), if_neg (by simpa using ht), if_neg (by simp), if_neg (by simp), if_neg (by simp)]
      unfold tailP
      have e : bval (((t :: ([129, T.length] ++ (T ++ more))).take (1 + ((t :: ([129, T.length] ++ (T ++ more))).getD 1 0 - 127))).drop 2) 0 = T.length := by simp [bval]
      rw [e, if_pos ⟨by simp [lenB_2 (n := T.length) (by omega) h2], by simp⟩]
      simp
    · by_cases h3 : T.length < 65536
      · rw [lenB_3 (by omega) h3]
        unfold nextP
        rw [if_neg (by simp), if_neg (by simpa using ht), if_neg (by simp), if_neg (by simp), if_neg (by simp)]
        unfold tailP
        have e : bval (((t :: ([130, T.length / 256, T.length % 256] ++ (T ++ more))).take (1 + ((t :: ([130, T.length / 256, T.length % 256] ++ (T ++ more))).getD 1 0 - 127))).drop 2) 0 = T.length := by simp [bval]; omega
        rw [e, if_pos ⟨by simp [lenB_3 (n := T.length) (by omega) h3], by simp⟩]
        simp
      · rw [lenB_4 (by omega) hk]
        unfold nextP
        rw [if_neg (by simp), if_neg (by simpa using ht), if_neg (by simp), if_neg (by simp), if_neg (by simp)]
        unfold tailP
        have e : bval (((t :: ([131, T.length / 65536, T.length / 256 % 256, T.length % 256] ++ (T ++ more))).take (1 + ((t :: ([131, T.length / 65536, T.length / 256 % 256, T.length % 256] ++ (T ++ more))).getD 1 0 - 127))).drop 2) 0 = T.length := by simp [bval]; omega
        rw [e, if_pos ⟨by simp [lenB_4 (n := T.length) (by omega) hk], by simp⟩]
        simp
end Go.Sx
namespace Go.Sx
set_option linter.unusedSectionVars false
open Go.Proofs
set_option linter.unusedVariables false
set_option maxRecDepth 100000
attribute [local irreducible] g8ok g8r0 g8r1 g8r2 g8r3 g10ok g10r0 g10r1 g12ok g12r0 g12r1 g12r2 g12r3 g12r4 g12r5 g7ok g7r0
def g9O (A : Ar) : Orc := orcOf []
def g9an : Ann := [(0, ([0], [])), (1, ([0, 2], [1000])), (2, ([2], [1000])), (3, ([0, 2], [1000])), (4, ([0, 2, 4], [1000])), (5, ([0, 2, 4, 5], [1000])), (6, ([0, 2, 4], [1000])), (7, ([0, 2, 6], [1000])), (8, ([2], [1000])), (9, ([0, 2, 6], [1000])), (10, ([0, 2, 4, 6], [1000])), (11, ([0, 2, 4, 6, 7], [1000])), (12, ([0, 2, 4, 6, 7], [1000])), (13, ([0, 2, 4, 6, 7], [1000])), (14, ([0, 2, 4, 6], [1000])), (15, ([2], [1000])), (16, ([0, 2, 4, 6], [1000])), (17, ([0, 2, 4, 5], [1000])), (18, ([2], [1000])), (19, ([0, 2, 4, 5], [1000]))]
def g9res : List ResultVar := [.cell 2 28, .tmp 3]
def g9cut : List Nat := [3, 9, 13, 14, 17, 19]
noncomputable def g9N {R : Type} (A : Ar) (kk : AV → Heap → Option R) (t : List Bool → St → Option R) (p : List Bool) (s : St) : Option R := nodeN A gtys (g9O A) g9an g9cut t (bodyOf Try.f9) (finD gtys g9res kk) p s
def g9J13 {R : Type} (A : Ar) (n : Nat) (kk : AV → Heap → Option R) (lg9L11 : List Nat → Int → Int → Int → Int → List Nat → List Nat → Option R) (x0 : List Nat) (x1 x2 : Int) (x3 x4 : Int) (x5 x6 : List Nat) : Option R :=
  match A.neg (A.ib .add .i64 2 x3) with
  | true => none
  | false => match A.lt (A.toN (A.ib .add .i64 2 x3)) x0.length with
    | true => lg9L11 x0 (A.ib .add .i64 (A.ib .mul .i64 x1 256) (A.ofN (x0.getD (A.toN (A.ib .add .i64 2 x3)) 0))) x2 (A.ib .add .i64 x3 1) x4 x5 x6
    | false => none
def g9J19 {R : Type} (A : Ar) (n : Nat) (kk : AV → Heap → Option R)  (x0 : List Nat) (x1 x2 x3 : Int) (x4 x5 : List Nat) : Option R :=
  match Nat.blt 0 x0.length with
  | true => match A.neg (A.ib .add .i64 x2 x1) with
    | true => none
    | false => match A.le (A.toN (A.ib .add .i64 x2 x1)) x0.length with
      | true => match A.neg x2 with
        | true => none
        | false => match A.le (A.toN x2) (A.toN (A.ib .add .i64 x2 x1)) with
          | true => match A.neg (A.ib .add .i64 x2 x1) with
            | true => none
            | false => match A.le (A.toN (A.ib .add .i64 x2 x1)) x0.length with
              | true => kk (.tup [(.agg [.one (.int .i64 (A.ofN (x0.getD 0 0))), .one (.str ((x0.take (A.toN (A.ib .add .i64 x2 x1))).drop (A.toN x2))), .one (.str ((x0.take x0.length).drop (A.toN (A.ib .add .i64 x2 x1))))]), (.cell (.bool true))]) [(1000, ⟨[.one (.int .i64 (A.ofN (x0.getD 0 0))), .one (.str ((x0.take (A.toN (A.ib .add .i64 x2 x1))).drop (A.toN x2))), .one (.str ((x0.take x0.length).drop (A.toN (A.ib .add .i64 x2 x1))))], 28, 1⟩)]
              | false => none
          | false => none
      | false => none
  | false => none
def g9J17 {R : Type} (A : Ar) (n : Nat) (kk : AV → Heap → Option R)  (x0 : List Nat) (x1 x2 x3 : Int) (x4 x5 : List Nat) : Option R :=
  match A.ic .lss (A.ofN x0.length) (A.ib .add .i64 x2 x1) with
  | true => kk (.tup [(.agg [.one (.int .i64 0), .one (.str []), .one (.str [])]), (.cell (.bool false))]) [(1000, ⟨[.one (.int .i64 0), .one (.str []), .one (.str [])], 28, 1⟩)]
  | false => g9J19 A n kk  x0 x1 x2 x3 x4 x5
def g9J14 {R : Type} (A : Ar) (n : Nat) (kk : AV → Heap → Option R)  (x0 : List Nat) (x1 x2 x3 : Int) (x4 x5 : List Nat) : Option R :=
  match A.ic .lss x1 128 with
  | true => kk (.tup [(.agg [.one (.int .i64 0), .one (.str []), .one (.str [])]), (.cell (.bool false))]) [(1000, ⟨[.one (.int .i64 0), .one (.str []), .one (.str [])], 28, 1⟩)]
  | false => match A.ic .gtr x2 1 with
    | true => match A.neg (A.ib .mul .i64 8 (A.ib .sub .i64 x2 1)) with
      | true => none
      | false => match A.ic .lss x1 (A.ish .shl .i64 1 (A.toN (A.ib .mul .i64 8 (A.ib .sub .i64 x2 1)))) with
        | true => kk (.tup [(.agg [.one (.int .i64 0), .one (.str []), .one (.str [])]), (.cell (.bool false))]) [(1000, ⟨[.one (.int .i64 0), .one (.str []), .one (.str [])], 28, 1⟩)]
        | false => g9J17 A n kk  x0 x1 (A.ib .add .i64 2 x2) x3 x4 x5
    | false => g9J17 A n kk  x0 x1 (A.ib .add .i64 2 x2) x3 x4 x5
def g9L11 {R : Type} (A : Ar) (n : Nat) (kk : AV → Heap → Option R)  : Nat → List Nat → Int → Int → Int → Int → List Nat → List Nat → Option R
  | 0, _, _, _, _, _, _, _ => none
  | m + 1, x0, x1, x2, x3, x4, x5, x6 => match A.ic .lss x3 x2 with
  | true => g9J13 A n kk (g9L11 A n kk  m) x0 x1 x2 x3 x4 x5 x6
  | false => g9J14 A n kk  x0 x1 x2 x4 x5 x6
def g9J9 {R : Type} (A : Ar) (n : Nat) (kk : AV → Heap → Option R)  (x0 : List Nat) (x1 x2 : Int) (x3 x4 : List Nat) : Option R :=
  g9L11 A n kk  n x0 0 x1 0 x2 x3 x4
def g9J3 {R : Type} (A : Ar) (n : Nat) (kk : AV → Heap → Option R)  (x0 : List Nat) (x1 : Int) (x2 x3 : List Nat) : Option R :=
  match Nat.blt 1 x0.length with
  | true => match A.ic .geq (A.ofN (x0.getD 1 0)) 128 with
    | true => match A.ic .lss (A.ib .sub .i64 (A.ofN (x0.getD 1 0)) 128) 1 with
      | true => kk (.tup [(.agg [.one (.int .i64 0), .one (.str []), .one (.str [])]), (.cell (.bool false))]) [(1000, ⟨[.one (.int .i64 0), .one (.str []), .one (.str [])], 28, 1⟩)]
      | false => match A.ic .gtr (A.ib .sub .i64 (A.ofN (x0.getD 1 0)) 128) 3 with
        | true => kk (.tup [(.agg [.one (.int .i64 0), .one (.str []), .one (.str [])]), (.cell (.bool false))]) [(1000, ⟨[.one (.int .i64 0), .one (.str []), .one (.str [])], 28, 1⟩)]
        | false => match A.ic .lss (A.ofN x0.length) (A.ib .add .i64 2 (A.ib .sub .i64 (A.ofN (x0.getD 1 0)) 128)) with
          | true => kk (.tup [(.agg [.one (.int .i64 0), .one (.str []), .one (.str [])]), (.cell (.bool false))]) [(1000, ⟨[.one (.int .i64 0), .one (.str []), .one (.str [])], 28, 1⟩)]
          | false => g9J9 A n kk  x0 (A.ib .sub .i64 (A.ofN (x0.getD 1 0)) 128) x1 x2 x3
    | false => g9J17 A n kk  x0 (A.ofN (x0.getD 1 0)) 2 x1 x2 x3
  | false => none
def g9 {R : Type} (A : Ar) (n : Nat) (kk : AV → Heap → Option R) (a : List Nat) : Option R :=
  match A.ic .lss (A.ofN a.length) 2 with
  | true => kk (.tup [(.agg [.one (.int .i64 0), .one (.str []), .one (.str [])]), (.cell (.bool false))]) [(1000, ⟨[.one (.int .i64 0), .one (.str []), .one (.str [])], 28, 1⟩)]
  | false => match Nat.blt 0 a.length with
    | true => match A.nc .eql (A.nb .rem .u8 (a.getD 0 0) 32) 31 with
      | true => kk (.tup [(.agg [.one (.int .i64 0), .one (.str []), .one (.str [])]), (.cell (.bool false))]) [(1000, ⟨[.one (.int .i64 0), .one (.str []), .one (.str [])], 28, 1⟩)]
      | false => g9J3 A n kk  a 0 [] []
    | false => none
section
variable {R : Type} {A : Ar} {n : Nat} {kk : AV → Heap → Option R} {tb : Nat → List Bool → St → Option R} (st : Stp (g9N A kk) tb)
include st
end
def g9is (o : Option AV) : Bool := match o with
  | some (.tup [.agg [.one (.int .i64 _), .one (.str _), .one (.str _)], .cell (.bool _)]) => true
  | _ => false
def g9g0 (o : Option AV) : Int := match o with
  | some (.tup [.agg [.one (.int .i64 x), .one (.str _), .one (.str _)], .cell (.bool _)]) => x
  | _ => 0
def g9g1 (o : Option AV) : List Nat := match o with
  | some (.tup [.agg [.one (.int .i64 _), .one (.str x), .one (.str _)], .cell (.bool _)]) => x
  | _ => []
def g9g2 (o : Option AV) : List Nat := match o with
  | some (.tup [.agg [.one (.int .i64 _), .one (.str _), .one (.str x)], .cell (.bool _)]) => x
  | _ => []
def g9g3 (o : Option AV) : Bool := match o with
  | some (.tup [.agg [.one (.int .i64 _), .one (.str _), .one (.str _)], .cell (.bool x)]) => x
  | _ => false
def g9v (A : Ar) (a : List Nat) : Option AV := g9 A (100000) (fun v _ => some v) a
def g9ok (A : Ar) (a : List Nat) : Bool := g9is (g9v A a)
def g9r0 (A : Ar) (a : List Nat) : Int := g9g0 (g9v A a)
def g9r1 (A : Ar) (a : List Nat) : List Nat := g9g1 (g9v A a)
def g9r2 (A : Ar) (a : List Nat) : List Nat := g9g2 (g9v A a)
def g9r3 (A : Ar) (a : List Nat) : Bool := g9g3 (g9v A a)
def g9o (A : Ar) (args : List AV) : Option (Bool × AV) := match args with
  | [.v (.cell (.str a))] => some (g9ok A a, .tup [.agg [.one (.int .i64 (g9r0 A a)), .one (.str (g9r1 A a)), .one (.str (g9r2 A a))], .cell (.bool (g9r3 A a))])
  | _ => none
attribute [local irreducible] g9ok g9r0 g9r1 g9r2 g9r3
def g11O (A : Ar) : Orc := orcOf []
def g11an : Ann := [(0, ([0, 1], [])), (1, ([0, 1], [])), (2, ([], [])), (3, ([0, 1], [])), (4, ([0, 1, 6], [])), (5, ([1, 6, 7], [5002])), (6, ([1, 6, 7], [5002])), (7, ([], [])), (8, ([1, 6, 7], [5002])), (9, ([1, 6, 7], [5002])), (10, ([1, 6, 7], [5002])), (11, ([1, 6, 7], [5002])), (12, ([1, 6, 7], [5002])), (13, ([1, 6, 7], [5002])), (14, ([1, 7], [5002]))]
def g11res : List ResultVar := [.tmp 4, .tmp 5]
def g11cut : List Nat := [3, 14]
noncomputable def g11N {R : Type} (A : Ar) (kk : AV → Heap → Option R) (t : List Bool → St → Option R) (p : List Bool) (s : St) : Option R := nodeN A gtys (g11O A) g11an g11cut t (bodyOf Try.f11) (finD gtys g11res kk) p s
def g11J14 {R : Type} (A : Ar) (n : Nat) (kk : AV → Heap → Option R)  (x0 : List Nat) (x1 x2 : Nat) (x3 : List Nat) : Option R :=
  match A.le ((x3.take x1).length + x0.length) 9223372036854775807 with
  | true => kk (.tup [(.cell (.str ((x3.take x1) ++ x0))), (.cell (.int .i64 0))]) [(5002, ⟨[.nums .u8 x2 x3], 5, 2⟩)]
  | false => none
def g11J3 {R : Type} (A : Ar) (n : Nat) (kk : AV → Heap → Option R)  (x0 : Int) (x1 : List Nat) : Option R :=
  match A.ic .geq (A.ofN x1.length) 16777216 with
  | true => kk (.tup [(.cell (.str [])), (.cell (.int .i64 9))]) []
  | false => match A.ic .geq (A.ofN x1.length) 65536 with
    | true => match A.eq 1 1 with
      | true => match A.le (([A.i2n .u8 x0] ++ ([131, A.i2n .u8 (A.ish .shr .i64 (A.ofN x1.length) 16), A.i2n .u8 (A.ish .shr .i64 (A.ofN x1.length) 8), A.i2n .u8 (A.ofN x1.length)].take 4)).length) 140737488355328 with
        | true => g11J14 A n kk  x1 (([A.i2n .u8 x0] ++ ([131, A.i2n .u8 (A.ish .shr .i64 (A.ofN x1.length) 16), A.i2n .u8 (A.ish .shr .i64 (A.ofN x1.length) 8), A.i2n .u8 (A.ofN x1.length)].take 4)).length) (([A.i2n .u8 x0] ++ ([131, A.i2n .u8 (A.ish .shr .i64 (A.ofN x1.length) 16), A.i2n .u8 (A.ish .shr .i64 (A.ofN x1.length) 8), A.i2n .u8 (A.ofN x1.length)].take 4)).length) ([A.i2n .u8 x0] ++ ([131, A.i2n .u8 (A.ish .shr .i64 (A.ofN x1.length) 16), A.i2n .u8 (A.ish .shr .i64 (A.ofN x1.length) 8), A.i2n .u8 (A.ofN x1.length)].take 4))
        | false => none
      | false => none
    | false => match A.ic .geq (A.ofN x1.length) 256 with
      | true => match A.eq 1 1 with
        | true => match A.le (([A.i2n .u8 x0] ++ ([130, A.i2n .u8 (A.ish .shr .i64 (A.ofN x1.length) 8), A.i2n .u8 (A.ofN x1.length)].take 3)).length) 140737488355328 with
          | true => g11J14 A n kk  x1 (([A.i2n .u8 x0] ++ ([130, A.i2n .u8 (A.ish .shr .i64 (A.ofN x1.length) 8), A.i2n .u8 (A.ofN x1.length)].take 3)).length) (([A.i2n .u8 x0] ++ ([130, A.i2n .u8 (A.ish .shr .i64 (A.ofN x1.length) 8), A.i2n .u8 (A.ofN x1.length)].take 3)).length) ([A.i2n .u8 x0] ++ ([130, A.i2n .u8 (A.ish .shr .i64 (A.ofN x1.length) 8), A.i2n .u8 (A.ofN x1.length)].take 3))
          | false => none
        | false => none
      | false => match A.ic .geq (A.ofN x1.length) 128 with
        | true => match A.eq 1 1 with
          | true => match A.le (([A.i2n .u8 x0] ++ ([129, A.i2n .u8 (A.ofN x1.length)].take 2)).length) 140737488355328 with
            | true => g11J14 A n kk  x1 (([A.i2n .u8 x0] ++ ([129, A.i2n .u8 (A.ofN x1.length)].take 2)).length) (([A.i2n .u8 x0] ++ ([129, A.i2n .u8 (A.ofN x1.length)].take 2)).length) ([A.i2n .u8 x0] ++ ([129, A.i2n .u8 (A.ofN x1.length)].take 2))
            | false => none
          | false => none
        | false => match A.eq 1 1 with
          | true => match A.le (([A.i2n .u8 x0] ++ ([A.i2n .u8 (A.ofN x1.length)].take 1)).length) 140737488355328 with
            | true => g11J14 A n kk  x1 (([A.i2n .u8 x0] ++ ([A.i2n .u8 (A.ofN x1.length)].take 1)).length) (([A.i2n .u8 x0] ++ ([A.i2n .u8 (A.ofN x1.length)].take 1)).length) ([A.i2n .u8 x0] ++ ([A.i2n .u8 (A.ofN x1.length)].take 1))
            | false => none
          | false => none
def g11 {R : Type} (A : Ar) (n : Nat) (kk : AV → Heap → Option R) (a : Int) (b : List Nat) : Option R :=
  match A.ic .lss a 0 with
  | true => kk (.tup [(.cell (.str [])), (.cell (.int .i64 1))]) []
  | false => match A.ic .gtr a 255 with
    | true => kk (.tup [(.cell (.str [])), (.cell (.int .i64 1))]) []
    | false => match A.ic .eql (A.ib .rem .i64 a 32) 31 with
      | true => kk (.tup [(.cell (.str [])), (.cell (.int .i64 1))]) []
      | false => g11J3 A n kk  a b
section
variable {R : Type} {A : Ar} {n : Nat} {kk : AV → Heap → Option R} {tb : Nat → List Bool → St → Option R} (st : Stp (g11N A kk) tb)
include st
end
def g11is (o : Option AV) : Bool := match o with
  | some (.tup [.cell (.str _), .cell (.int .i64 _)]) => true
  | _ => false
def g11g0 (o : Option AV) : List Nat := match o with
  | some (.tup [.cell (.str x), .cell (.int .i64 _)]) => x
  | _ => []
def g11g1 (o : Option AV) : Int := match o with
  | some (.tup [.cell (.str _), .cell (.int .i64 x)]) => x
  | _ => 0
def g11v (A : Ar) (a : Int) (b : List Nat) : Option AV := g11 A (100000) (fun v _ => some v) a b
def g11ok (A : Ar) (a : Int) (b : List Nat) : Bool := g11is (g11v A a b)
def g11r0 (A : Ar) (a : Int) (b : List Nat) : List Nat := g11g0 (g11v A a b)
def g11r1 (A : Ar) (a : Int) (b : List Nat) : Int := g11g1 (g11v A a b)
def g11o (A : Ar) (args : List AV) : Option (Bool × AV) := match args with
  | [.v (.cell (.int .i64 a)), .v (.cell (.str b))] => some (g11ok A a b, .tup [.cell (.str (g11r0 A a b)), .cell (.int .i64 (g11r1 A a b))])
  | _ => none
attribute [local irreducible] g11ok g11r0 g11r1
def g13O (A : Ar) : Orc := orcOf [(9, g9o A)]
def g13an : Ann := [(0, ([0], [])), (1, ([0], [])), (2, ([0, 4], [2000])), (3, ([0, 4], [2000])), (4, ([4, 5, 6], [2000, 4005])), (5, ([], [])), (6, ([4, 5], [2000, 4005])), (7, ([], [])), (8, ([4, 5], [2000, 4005])), (9, ([4, 5], [2000, 4005])), (10, ([4], [2000]))]
def g13res : List ResultVar := [.tmp 2, .tmp 3]
def g13cut : List Nat := [3, 6, 8]
noncomputable def g13N {R : Type} (A : Ar) (kk : AV → Heap → Option R) (t : List Bool → St → Option R) (p : List Bool) (s : St) : Option R := nodeN A gtys (g13O A) g13an g13cut t (bodyOf Try.f13) (finD gtys g13res kk) p s
def g13J8 {R : Type} (A : Ar) (n : Nat) (kk : AV → Heap → Option R) (lg13L2 : List Nat → Nat → Nat → List Int → List (List Nat) → List (List Nat) → Option R) (x0 x1 : Nat) (x2 : List Int) (x3 : List (List Nat)) (x4 : List (List Nat)) (x5 : Int) (x6 x7 : List Nat) : Option R :=
  match A.eq (x0 * 3) ((x1 * 3) + 0) with
  | true => match A.le ((x1 + 1) * 40) 140737488355328 with
    | true => lg13L2 x7 (x1 + 1) (x1 + 1) (x2 ++ [x5]) (x3 ++ [x6]) (x4 ++ [x7])
    | false => none
  | false => none
def g13J6 {R : Type} (A : Ar) (n : Nat) (kk : AV → Heap → Option R) (lg13L2 : List Nat → Nat → Nat → List Int → List (List Nat) → List (List Nat) → Option R) (x0 x1 : Nat) (x2 : List Int) (x3 : List (List Nat)) (x4 : List (List Nat)) (x5 : Int) (x6 x7 : List Nat) : Option R :=
  match A.ic .eql (A.ofN x0) 100 with
  | true => kk (.tup [(.cell (.sl 8000 none 0 3)), (.cell (.int .i64 9))]) [(8000, ⟨[.recs 0 [.ints .i64 [], .strs [], .strs []]], 28, 2⟩)]
  | false => g13J8 A n kk lg13L2 x0 x1 x2 x3 x4 x5 x6 x7
def g13J3 {R : Type} (A : Ar) (n : Nat) (kk : AV → Heap → Option R) (lg13L2 : List Nat → Nat → Nat → List Int → List (List Nat) → List (List Nat) → Option R) (x0 : List Nat) (x1 x2 : Nat) (x3 : List Int) (x4 : List (List Nat)) (x5 : List (List Nat)) : Option R :=
  match g9ok A x0 with
  | true => match !(g9r3 A x0) with
    | true => kk (.tup [(.cell (.sl 6000 none 0 3)), (.cell (.int .i64 2))]) [(6000, ⟨[.recs 0 [.ints .i64 [], .strs [], .strs []]], 28, 2⟩)]
    | false => g13J6 A n kk lg13L2 x1 x2 x3 x4 x5 (g9r0 A x0) (g9r1 A x0) (g9r2 A x0)
  | false => none
def g13L2 {R : Type} (A : Ar) (n : Nat) (kk : AV → Heap → Option R)  : Nat → List Nat → Nat → Nat → List Int → List (List Nat) → List (List Nat) → Option R
  | 0, _, _, _, _, _, _ => none
  | m + 1, x0, x1, x2, x3, x4, x5 => match A.sc .neq x0 [] with
  | true => g13J3 A n kk (g13L2 A n kk  m) x0 x1 x2 x3 x4 x5
  | false => kk (.tup [(.cell (.sl 2000 none x1 3)), (.cell (.int .i64 0))]) [(2000, ⟨[.recs x2 [.ints .i64 x3, .strs x4, .strs x5]], 28, 2⟩)]
def g13 {R : Type} (A : Ar) (n : Nat) (kk : AV → Heap → Option R) (x0 : List Nat) : Option R :=
  g13L2 A n kk  n x0 0 0 [] [] []
section
variable {R : Type} {A : Ar} {n : Nat} {kk : AV → Heap → Option R} {tb : Nat → List Bool → St → Option R} (st : Stp (g13N A kk) tb)
include st
end
def g13is (o : Option (AV × Heap)) : Bool := match o with
  | some (.tup [(.cell (.sl n0 none _ n1)), (.cell (.int .i64 _))], [(n2, ⟨[.recs _ [.ints .i64 _, .strs _, .strs _]], n3, n4⟩)]) => Nat.beq n0 700 && (Nat.beq n1 3 && (Nat.beq n2 700 && (Nat.beq n3 28 && (Nat.beq n4 2))))
  | _ => false
def g13g0 (o : Option (AV × Heap)) : Nat := match o with
  | some (.tup [(.cell (.sl _ none x _)), (.cell (.int .i64 _))], [(_, ⟨[.recs _ [.ints .i64 _, .strs _, .strs _]], _, _⟩)]) => x
  | _ => 0
def g13g1 (o : Option (AV × Heap)) : Int := match o with
  | some (.tup [(.cell (.sl _ none _ _)), (.cell (.int .i64 x))], [(_, ⟨[.recs _ [.ints .i64 _, .strs _, .strs _]], _, _⟩)]) => x
  | _ => 0
def g13g2 (o : Option (AV × Heap)) : Nat := match o with
  | some (.tup [(.cell (.sl _ none _ _)), (.cell (.int .i64 _))], [(_, ⟨[.recs x [.ints .i64 _, .strs _, .strs _]], _, _⟩)]) => x
  | _ => 0
def g13g3 (o : Option (AV × Heap)) : List Int := match o with
  | some (.tup [(.cell (.sl _ none _ _)), (.cell (.int .i64 _))], [(_, ⟨[.recs _ [.ints .i64 x, .strs _, .strs _]], _, _⟩)]) => x
  | _ => []
def g13g4 (o : Option (AV × Heap)) : List (List Nat) := match o with
  | some (.tup [(.cell (.sl _ none _ _)), (.cell (.int .i64 _))], [(_, ⟨[.recs _ [.ints .i64 _, .strs x, .strs _]], _, _⟩)]) => x
  | _ => []
def g13g5 (o : Option (AV × Heap)) : List (List Nat) := match o with
  | some (.tup [(.cell (.sl _ none _ _)), (.cell (.int .i64 _))], [(_, ⟨[.recs _ [.ints .i64 _, .strs _, .strs x]], _, _⟩)]) => x
  | _ => []
def g13v (A : Ar) (x0 : List Nat) : Option (AV × Heap) := g13 A (100000) (outH [] none) x0
def g13ok (A : Ar) (x0 : List Nat) : Bool := g13is (g13v A x0)
def g13r0 (A : Ar) (x0 : List Nat) : Nat := g13g0 (g13v A x0)
def g13r1 (A : Ar) (x0 : List Nat) : Int := g13g1 (g13v A x0)
def g13r2 (A : Ar) (x0 : List Nat) : Nat := g13g2 (g13v A x0)
def g13r3 (A : Ar) (x0 : List Nat) : List Int := g13g3 (g13v A x0)
def g13r4 (A : Ar) (x0 : List Nat) : List (List Nat) := g13g4 (g13v A x0)
def g13r5 (A : Ar) (x0 : List Nat) : List (List Nat) := g13g5 (g13v A x0)
def g13o (A : Ar) (args : List AV) (h : Heap) : Option (Bool × AV × Heap) := match args, h with
  | [.v (.cell (.str x0))], [] => some (g13ok A x0, (.tup [(.cell (.sl 700 none (g13r0 A x0) 3)), (.cell (.int .i64 (g13r1 A x0)))]), [(700, ⟨[.recs (g13r2 A x0) [.ints .i64 (g13r3 A x0), .strs (g13r4 A x0), .strs (g13r5 A x0)]], 28, 2⟩)])
  | _, _ => none
attribute [local irreducible] g13ok g13r0 g13r1 g13r2 g13r3 g13r4 g13r5
def g3O (A : Ar) : Orc := orcH [(7, g7o A), (8, g8o A), (9, g9o A), (10, g10o A), (11, g11o A)] [(12, ⟨[], none, (g12o A)⟩), (13, ⟨[], none, (g13o A)⟩)]
def g3an : Ann := [(0, ([0, 1, 2], [])), (1, ([0, 1, 2], [])), (2, ([0, 1, 2, 7], [])), (3, ([], [])), (4, ([0, 1, 2, 7], [])), (5, ([0, 1, 2, 7, 8, 9], [5005])), (6, ([0, 1, 2, 7, 8, 9, 10, 11], [5005, 6005])), (7, ([0, 1, 2, 7, 8, 9, 10, 11, 12, 13], [5005, 6005])), (8, ([0, 7, 8, 9, 10, 11, 12, 13, 14, 15], [5005, 6005])), (9, ([0, 7, 8, 9, 10, 11, 12, 13, 14, 15, 16, 17], [5005, 6005, 9001])), (10, ([7, 8, 9, 10, 11, 12, 13, 14, 15, 16, 17, 18, 19], [5005, 6005, 9001, 10001])), (11, ([], [])), (12, ([7, 8, 9, 10, 11, 12, 13, 14, 15, 16, 17, 18, 19], [5005, 6005, 9001, 10001])), (13, ([7, 8, 9, 10, 11, 12, 13, 14, 15, 16, 17, 18, 19, 20], [5005, 6005, 9001, 10001])), (14, ([7, 8, 9, 10, 11, 12, 13, 14, 15, 16, 17, 18, 19, 20], [5005, 6005, 9001, 10001])), (15, ([7, 8, 9, 10, 11, 12, 13, 14, 15, 16, 17, 18, 19, 20], [5005, 6005, 9001, 10001])), (16, ([], [])), (17, ([7, 8, 9, 10, 11, 12, 13, 14, 15, 17, 19], [5005, 6005]))]
def g3res : List ResultVar := [.tmp 6]
def g3cut : List Nat := [4, 12, 15, 17]
noncomputable def g3N {R : Type} (A : Ar) (kk : AV → Heap → Option R) (t : List Bool → St → Option R) (p : List Bool) (s : St) : Option R := nodeN A gtys (g3O A) g3an g3cut t (bodyOf Try.f3) (finD gtys g3res kk) p s
def g3J15 {R : Type} (A : Ar) (n : Nat) (kk : AV → Heap → Option R) (lg3L13 : Bool → Int → Bool → List Nat → Int → List Nat → Int → Nat → Int → Nat → Int → Int → Int → List Nat → List Nat → Int → List Nat → List Nat → Nat → List Int → List (List Nat) → List (List Nat) → Nat → List Int → List (List Nat) → List (List Nat) → Option R) (x0 : Bool) (x1 : Int) (x2 : Bool) (x3 : List Nat) (x4 : Int) (x5 : List Nat) (x6 : Int) (x7 : Nat) (x8 : Int) (x9 : Nat) (x10 x11 x12 : Int) (x13 x14 : List Nat) (x15 : Int) (x16 x17 : List Nat) (x18 : Nat) (x19 : List Int) (x20 : List (List Nat)) (x21 : List (List Nat)) (x22 : Nat) (x23 : List Int) (x24 : List (List Nat)) (x25 : List (List Nat)) : Option R :=
  match A.neg x11 with
  | true => none
  | false => match A.lt (A.toN x11) x7 with
    | true => match A.neg x11 with
      | true => none
      | false => match A.lt (A.toN x11) x9 with
        | true => match A.ic .neq (x19.getD (A.toN x11) 0) (x23.getD (A.toN x11) 0) with
          | true => kk (bO false) []
          | false => match A.neg x11 with
            | true => none
            | false => match A.lt (A.toN x11) x7 with
              | true => match A.neg x11 with
                | true => none
                | false => match A.lt (A.toN x11) x9 with
                  | true => match A.sc .neq (x20.getD (A.toN x11) []) (x24.getD (A.toN x11) []) with
                    | true => kk (bO false) []
                    | false => match A.neg x11 with
                      | true => none
                      | false => match A.lt (A.toN x11) x7 with
                        | true => match A.neg x11 with
                          | true => none
                          | false => match A.lt (A.toN x11) x9 with
                            | true => match A.sc .neq (x21.getD (A.toN x11) []) (x25.getD (A.toN x11) []) with
                              | true => kk (bO false) []
                              | false => lg3L13 x0 x1 x2 x3 x4 x5 x6 x7 x8 x9 x10 (A.ib .add .i64 x11 1) x12 x13 x14 x15 x16 x17 x18 x19 x20 x21 x22 x23 x24 x25
                            | false => none
                        | false => none
                  | false => none
              | false => none
        | false => none
    | false => none
def g3J17 {R : Type} (A : Ar) (n : Nat) (kk : AV → Heap → Option R)  (x0 : Bool) (x1 : Int) (x2 : Bool) (x3 : List Nat) (x4 : Int) (x5 : List Nat) (x6 x7 : Int) (x8 x9 : Int) (x10 x11 : List Nat) (x12 : Int) (x13 x14 : List Nat) : Option R :=
  match x0 with
  | true => match A.ic .eql x9 x12 with
    | true => match A.sc .eql x10 x13 with
      | true => match A.sc .eql x11 x14 with
        | true => match x2 with
          | true => match A.ic .eql x1 0 with
            | true => match A.sc .eql x3 x5 with
              | true => match A.ic .eql x4 x6 with
                | true => kk (bO (A.ic .eql x7 x8)) [(5005, ⟨[.one (.int .i64 x9), .one (.str x10), .one (.str x11)], 24, 1⟩), (6005, ⟨[.one (.int .i64 x12), .one (.str x13), .one (.str x14)], 28, 1⟩)]
                | false => kk (bO false) [(5005, ⟨[.one (.int .i64 x9), .one (.str x10), .one (.str x11)], 24, 1⟩), (6005, ⟨[.one (.int .i64 x12), .one (.str x13), .one (.str x14)], 28, 1⟩)]
              | false => kk (bO false) [(5005, ⟨[.one (.int .i64 x9), .one (.str x10), .one (.str x11)], 24, 1⟩), (6005, ⟨[.one (.int .i64 x12), .one (.str x13), .one (.str x14)], 28, 1⟩)]
            | false => match !x2 with
              | true => match A.ic .eql x1 2 with
                | true => match A.sc .eql x3 x5 with
                  | true => match A.ic .eql x4 x6 with
                    | true => kk (bO (A.ic .eql x7 x8)) [(5005, ⟨[.one (.int .i64 x9), .one (.str x10), .one (.str x11)], 24, 1⟩), (6005, ⟨[.one (.int .i64 x12), .one (.str x13), .one (.str x14)], 28, 1⟩)]
                    | false => kk (bO false) [(5005, ⟨[.one (.int .i64 x9), .one (.str x10), .one (.str x11)], 24, 1⟩), (6005, ⟨[.one (.int .i64 x12), .one (.str x13), .one (.str x14)], 28, 1⟩)]
                  | false => kk (bO false) [(5005, ⟨[.one (.int .i64 x9), .one (.str x10), .one (.str x11)], 24, 1⟩), (6005, ⟨[.one (.int .i64 x12), .one (.str x13), .one (.str x14)], 28, 1⟩)]
                | false => kk (bO false) [(5005, ⟨[.one (.int .i64 x9), .one (.str x10), .one (.str x11)], 24, 1⟩), (6005, ⟨[.one (.int .i64 x12), .one (.str x13), .one (.str x14)], 28, 1⟩)]
              | false => kk (bO false) [(5005, ⟨[.one (.int .i64 x9), .one (.str x10), .one (.str x11)], 24, 1⟩), (6005, ⟨[.one (.int .i64 x12), .one (.str x13), .one (.str x14)], 28, 1⟩)]
          | false => match !x2 with
            | true => match A.ic .eql x1 2 with
              | true => match A.sc .eql x3 x5 with
                | true => match A.ic .eql x4 x6 with
                  | true => kk (bO (A.ic .eql x7 x8)) [(5005, ⟨[.one (.int .i64 x9), .one (.str x10), .one (.str x11)], 24, 1⟩), (6005, ⟨[.one (.int .i64 x12), .one (.str x13), .one (.str x14)], 28, 1⟩)]
                  | false => kk (bO false) [(5005, ⟨[.one (.int .i64 x9), .one (.str x10), .one (.str x11)], 24, 1⟩), (6005, ⟨[.one (.int .i64 x12), .one (.str x13), .one (.str x14)], 28, 1⟩)]
                | false => kk (bO false) [(5005, ⟨[.one (.int .i64 x9), .one (.str x10), .one (.str x11)], 24, 1⟩), (6005, ⟨[.one (.int .i64 x12), .one (.str x13), .one (.str x14)], 28, 1⟩)]
              | false => kk (bO false) [(5005, ⟨[.one (.int .i64 x9), .one (.str x10), .one (.str x11)], 24, 1⟩), (6005, ⟨[.one (.int .i64 x12), .one (.str x13), .one (.str x14)], 28, 1⟩)]
            | false => kk (bO false) [(5005, ⟨[.one (.int .i64 x9), .one (.str x10), .one (.str x11)], 24, 1⟩), (6005, ⟨[.one (.int .i64 x12), .one (.str x13), .one (.str x14)], 28, 1⟩)]
        | false => kk (bO false) [(5005, ⟨[.one (.int .i64 x9), .one (.str x10), .one (.str x11)], 24, 1⟩), (6005, ⟨[.one (.int .i64 x12), .one (.str x13), .one (.str x14)], 28, 1⟩)]
      | false => kk (bO false) [(5005, ⟨[.one (.int .i64 x9), .one (.str x10), .one (.str x11)], 24, 1⟩), (6005, ⟨[.one (.int .i64 x12), .one (.str x13), .one (.str x14)], 28, 1⟩)]
    | false => kk (bO false) [(5005, ⟨[.one (.int .i64 x9), .one (.str x10), .one (.str x11)], 24, 1⟩), (6005, ⟨[.one (.int .i64 x12), .one (.str x13), .one (.str x14)], 28, 1⟩)]
  | false => kk (bO false) [(5005, ⟨[.one (.int .i64 x9), .one (.str x10), .one (.str x11)], 24, 1⟩), (6005, ⟨[.one (.int .i64 x12), .one (.str x13), .one (.str x14)], 28, 1⟩)]
def g3L13 {R : Type} (A : Ar) (n : Nat) (kk : AV → Heap → Option R)  : Nat → Bool → Int → Bool → List Nat → Int → List Nat → Int → Nat → Int → Nat → Int → Int → Int → List Nat → List Nat → Int → List Nat → List Nat → Nat → List Int → List (List Nat) → List (List Nat) → Nat → List Int → List (List Nat) → List (List Nat) → Option R
  | 0, _, _, _, _, _, _, _, _, _, _, _, _, _, _, _, _, _, _, _, _, _, _, _, _, _, _ => none
  | m + 1, x0, x1, x2, x3, x4, x5, x6, x7, x8, x9, x10, x11, x12, x13, x14, x15, x16, x17, x18, x19, x20, x21, x22, x23, x24, x25 => match A.ic .lss x11 (A.ofN x7) with
  | true => g3J15 A n kk (g3L13 A n kk  m) x0 x1 x2 x3 x4 x5 x6 x7 x8 x9 x10 x11 x12 x13 x14 x15 x16 x17 x18 x19 x20 x21 x22 x23 x24 x25
  | false => g3J17 A n kk  x0 x1 x2 x3 x4 x5 x6 x8 x10 x12 x13 x14 x15 x16 x17
def g3J12 {R : Type} (A : Ar) (n : Nat) (kk : AV → Heap → Option R)  (x0 : Bool) (x1 : Int) (x2 : Bool) (x3 : List Nat) (x4 : Int) (x5 : List Nat) (x6 : Int) (x7 : Nat) (x8 : Int) (x9 : Nat) (x10 x11 : Int) (x12 x13 : List Nat) (x14 : Int) (x15 x16 : List Nat) (x17 : Nat) (x18 : List Int) (x19 : List (List Nat)) (x20 : List (List Nat)) (x21 : Nat) (x22 : List Int) (x23 : List (List Nat)) (x24 : List (List Nat)) : Option R :=
  g3L13 A n kk  n x0 x1 x2 x3 x4 x5 x6 x7 x8 x9 x10 0 x11 x12 x13 x14 x15 x16 x17 x18 x19 x20 x21 x22 x23 x24
def g3J4 {R : Type} (A : Ar) (n : Nat) (kk : AV → Heap → Option R)  (x0 : List Nat) (x1 : Int) (x2 : List Nat) (x3 : Bool) : Option R :=
  match g8ok A x0 with
  | true => match g9ok A x0 with
    | true => match g10ok A x1 x2 with
      | true => match g11ok A x1 x2 with
        | true => match g12ok A x0 with
          | true => match g13ok A x0 with
            | true => match A.ic .neq (A.ofN (g12r0 A x0)) (A.ofN (g13r0 A x0)) with
              | true => kk (bO false) []
              | false => g3J12 A n kk  x3 (g8r3 A x0) (g9r3 A x0) (g10r0 A x1 x2) (g10r1 A x1 x2) (g11r0 A x1 x2) (g11r1 A x1 x2) (g12r0 A x0) (g12r1 A x0) (g13r0 A x0) (g13r1 A x0) (g8r0 A x0) (g8r1 A x0) (g8r2 A x0) (g9r0 A x0) (g9r1 A x0) (g9r2 A x0) (g12r2 A x0) (g12r3 A x0) (g12r4 A x0) (g12r5 A x0) (g13r2 A x0) (g13r3 A x0) (g13r4 A x0) (g13r5 A x0)
            | false => none
          | false => none
        | false => none
      | false => none
    | false => none
  | false => none
def g3 {R : Type} (A : Ar) (n : Nat) (kk : AV → Heap → Option R) (a : List Nat) (b : Int) (c : List Nat) : Option R :=
  match g7ok A with
  | true => match !(g7r0 A) with
    | true => kk (bO false) []
    | false => g3J4 A n kk  a b c (g7r0 A)
  | false => none
section
variable {R : Type} {A : Ar} {n : Nat} {kk : AV → Heap → Option R} {tb : Nat → List Bool → St → Option R} (st : Stp (g3N A kk) tb)
include st
end
def g3is (o : Option AV) : Bool := match o with
  | some (.v (.cell (.bool _))) => true
  | _ => false
def g3g0 (o : Option AV) : Bool := match o with
  | some (.v (.cell (.bool x))) => x
  | _ => false
def g3v (A : Ar) (a : List Nat) (b : Int) (c : List Nat) : Option AV := g3 A (100000) (fun v _ => some v) a b c
def g3ok (A : Ar) (a : List Nat) (b : Int) (c : List Nat) : Bool := g3is (g3v A a b c)
def g3r0 (A : Ar) (a : List Nat) (b : Int) (c : List Nat) : Bool := g3g0 (g3v A a b c)
attribute [local irreducible] g3ok g3r0
end Go.Sx
namespace Go.Sx
set_option linter.unusedSectionVars false
set_option linter.unusedVariables false
end Go.Sx
namespace Go.Sx
set_option linter.unusedSectionVars false
set_option linter.unusedVariables false
end Go.Sx
namespace Go.Sx
set_option linter.unusedSectionVars false
set_option linter.unusedVariables false
def prt : Nat → List Nat → List Int → List (List Nat) → List (List Nat) → (List Int × List (List Nat) × List (List Nat)) × Int
  | 0, _, _, _, _ => (([], [], []), 0)
  | f + 1, s, a, b, c => if s = [] then ((a, b, c), 0) else match nextP s with
    | none => (([], [], []), 2)
    | some (t, x, y) => if a.length = 100 then (([], [], []), 9) else prt f y (a ++ [(t : Int)]) (b ++ [x]) (c ++ [y])
def pout (ty : Nat) (r : (List Int × List (List Nat) × List (List Nat)) × Int) : AV × Heap :=
  (.tup [.cell (.sl 700 none r.1.1.length 3), .cell (.int .i64 r.2)], [(700, ⟨[.recs r.1.1.length [.ints .i64 r.1.1, .strs r.1.2.1, .strs r.1.2.2]], ty, 2⟩)])
theorem tail_rest {s : List Nat} {n z t : Nat} {x y : List Nat} (h : tailP s n z = some (t, x, y)) : ∃ k, y = s.drop k := by
  unfold tailP at h
  split at h
  · simp only [Option.some.injEq, Prod.mk.injEq] at h
    exact ⟨_, by rw [← h.2.2, List.drop_drop]⟩
  · cases h
theorem next_rest {s : List Nat} {t : Nat} {x y : List Nat} (h : nextP s = some (t, x, y)) : ∃ k, y = s.drop k := by
  unfold nextP at h
  split at h
  · cases h
  · split at h
    · cases h
    · split at h
      · exact tail_rest h
      · split at h
        · cases h
        · split at h
          · cases h
          · exact tail_rest h
theorem b3a_e (t : Int) (x y : List Nat) (e x0 : Int) (n : Nat) (a : List Int) (b c : List (List Nat)) (he : e ≠ 0) : g12b3a_v realA t x y e x0 n n a b c = some (.ret, [(410, ⟨[.one .nils], 35, 1⟩), (411, ⟨[.one (.int .i64 e)], 25, 1⟩), (412, ⟨[.one (.sl 500 none n 3)], 35, 1⟩), (500, ⟨[.recs n [.ints .i64 a, .strs b, .strs c]], 24, 2⟩)]) := by
  unfold g12b3a_v g12b3a_
  rw [ar_neq, decide_eq_false he]
  rfl
theorem b3a_l (t : Int) (x y : List Nat) (x0 : Int) (a : List Int) (b c : List (List Nat)) : g12b3a_v realA t x y 0 x0 100 100 a b c = some (.ret, [(410, ⟨[.one .nils], 35, 1⟩), (411, ⟨[.one (.int .i64 9)], 25, 1⟩), (412, ⟨[.one (.sl 500 none 100 3)], 35, 1⟩), (500, ⟨[.recs 100 [.ints .i64 a, .strs b, .strs c]], 24, 2⟩)]) := rfl
theorem b3a_k (t : Int) (x y : List Nat) (x0 : Int) (n : Nat) (a : List Int) (b c : List (List Nat)) (hn : n < 100) : g12b3a_v realA t x y 0 x0 n n a b c = some (.normal, [(410, ⟨[.one .nils], 35, 1⟩), (411, ⟨[.one (.int .i64 x0)], 25, 1⟩), (412, ⟨[.one (.sl 500 none (n + 1) 3)], 35, 1⟩), (500, ⟨[.recs (n + 1) [.ints .i64 (a ++ [t]), .strs (b ++ [x]), .strs (c ++ [y])]], 24, 2⟩)]) := by
  unfold g12b3a_v g12b3a_
  rw [ar_neq, decide_eq_true (rfl : (0 : Int) = 0)]
  simp only [Bool.not_true]
  unfold g12b3a_J7
  rw [ar_ofN, ar_eql, decide_eq_false (by omega)]
  simp only
  unfold g12b3a_J9
  rw [ar_eq, decide_eq_true (by omega), ar_le, decide_eq_true (by omega)]
theorem b3_e (t : Int) (x y : List Nat) (e x0 : Int) (he : e ≠ 0) : g12b3v realA t x y e x0 = some (.ret, [(410, ⟨[.one .nils], 35, 1⟩), (411, ⟨[.one (.int .i64 e)], 25, 1⟩), (412, ⟨[.one .nils], 35, 1⟩)]) := by
  unfold g12b3v g12b3
  rw [ar_neq, decide_eq_false he]
  rfl
theorem b3_k (t : Int) (x y : List Nat) (x0 : Int) : g12b3v realA t x y 0 x0 = some (.normal, [(410, ⟨[.one .nils], 35, 1⟩), (411, ⟨[.one (.int .i64 x0)], 25, 1⟩), (412, ⟨[.one (.sl 10003 none 1 3)], 35, 1⟩), (10003, ⟨[.recs 1 [.ints .i64 [t], .strs [x], .strs [y]]], 24, 2⟩)]) := rfl
end Go.Sx
namespace Go.Sx
set_option linter.unusedSectionVars false
set_option linter.unusedVariables false
abbrev K14 : AV → Heap → Option Heap := fun _ h => some (pick h [410, 411, 412, 413, 448, 500, 10003])
def okH (id : Nat) (x0 : Int) (r : List Int × List (List Nat) × List (List Nat)) : Heap := [(410, ⟨[.one .nils], 35, 1⟩), (411, ⟨[.one (.int .i64 x0)], 25, 1⟩), (412, ⟨[.one (.sl id none r.1.length 3)], 35, 1⟩), (413, ⟨[.one (.str [])], 9, 1⟩), (448, ⟨[], 0, 0⟩), (id, ⟨[.recs r.1.length [.ints .i64 r.1, .strs r.2.1, .strs r.2.2]], 24, 2⟩)]
def errH (e : Int) (n : Nat) (s : List Nat) (z : Nat) (a : List Int) (b c : List (List Nat)) : Heap := [(410, ⟨[.one .nils], 35, 1⟩), (411, ⟨[.one (.int .i64 e)], 25, 1⟩), (412, ⟨[.one (.sl 500 none n 3)], 35, 1⟩), (413, ⟨[.one (.str s)], 9, 1⟩), (448, ⟨[], 1, 0⟩), (500, ⟨[.recs z [.ints .i64 a, .strs b, .strs c]], 24, 2⟩)]
def Ends (x0 : Int) (r : (List Int × List (List Nat) × List (List Nat)) × Int) (o : Option Heap) : Prop := (r.2 = 0 ∧ o = some (okH 500 x0 r.1)) ∨ (r.2 ≠ 0 ∧ r.1 = ([], [], []) ∧ ∃ n s z a b c, o = some (errH r.2 n s z a b c))
theorem j1a_none (N : Nat) (f : Int → Nat → List Nat → Nat → List Int → List (List Nat) → List (List Nat) → Option Heap) (x0 : Int) (n : Nat) (s : List Nat) (a : List Int) (b c : List (List Nat)) (hs : ∀ x ∈ s, x < 256) (hl : s.length < 1000000000000000) (hn : nextP s = none) : g12i3J1a realA N K14 f x0 n s n a b c = some (errH 2 n s n a b c) := by
  unfold g12i3J1a
  rw [next_ok hs hl, next_0 hs hl, next_1 hs hl, next_2 hs hl, next_3 hs hl, hn]
  simp only [nx0, nx1, nx2, nx3]
  have hv := b3a_e 0 [] [] 2 x0 n a b c (by decide)
  simp only [g12b3a_c0, g12b3a_c1, g12b3a_r1_0, g12b3a_r1_1, g12b3a_r1_2, g12b3a_r1_3, g12b3a_r1_4, g12b3a_r1_5, hv]
  rfl
theorem j1a_many (N : Nat) (f : Int → Nat → List Nat → Nat → List Int → List (List Nat) → List (List Nat) → Option Heap) (x0 : Int) (s : List Nat) (a : List Int) (b c : List (List Nat)) (hs : ∀ x ∈ s, x < 256) (hl : s.length < 1000000000000000) {t : Nat} {x y : List Nat} (hn : nextP s = some (t, x, y)) : g12i3J1a realA N K14 f x0 100 s 100 a b c = some (errH 9 100 s 100 a b c) := by
  unfold g12i3J1a
  rw [next_ok hs hl, next_0 hs hl, next_1 hs hl, next_2 hs hl, next_3 hs hl, hn]
  simp only [nx0, nx1, nx2, nx3]
  have hv := b3a_l (t : Int) x y x0 a b c
  simp only [g12b3a_c0, g12b3a_c1, g12b3a_r1_0, g12b3a_r1_1, g12b3a_r1_2, g12b3a_r1_3, g12b3a_r1_4, g12b3a_r1_5, hv]
  rfl
theorem j1a_some (N : Nat) (f : Int → Nat → List Nat → Nat → List Int → List (List Nat) → List (List Nat) → Option Heap) (x0 : Int) (n : Nat) (s : List Nat) (a : List Int) (b c : List (List Nat)) (hs : ∀ x ∈ s, x < 256) (hl : s.length < 1000000000000000) {t : Nat} {x y : List Nat} (hn : nextP s = some (t, x, y)) (h : n < 100) : g12i3J1a realA N K14 f x0 n s n a b c = f x0 (n + 1) y (n + 1) (a ++ [(t : Int)]) (b ++ [x]) (c ++ [y]) := by
  unfold g12i3J1a
  rw [next_ok hs hl, next_0 hs hl, next_1 hs hl, next_2 hs hl, next_3 hs hl, hn]
  simp only [nx0, nx1, nx2, nx3]
  have hv := b3a_k (t : Int) x y x0 n a b c h
  simp only [g12b3a_c0, g12b3a_c1, g12b3a_r0_0, g12b3a_r0_1, g12b3a_r0_2, g12b3a_r0_3, g12b3a_r0_4, g12b3a_r0_5, hv]
  rw [ar_neq, decide_eq_true (rfl : (0 : Int) = 0)]
  rfl
theorem l0b (N : Nat) : ∀ (d m : Nat) (s : List Nat) (x0 : Int) (a : List Int) (b c : List (List Nat)), a.length + d = 100 → d + 2 ≤ m → (∀ x ∈ s, x < 256) → s.length < 1000000000000000 → Ends x0 (prt (d + 1) s a b c) (g12i3L0b realA N K14 m x0 a.length s a.length a b c) := by
  intro d
  induction d with
  | zero =>
    intro m s x0 a b c h1 h2 hs hl
    obtain ⟨m, rfl⟩ : ∃ m', m = m' + 1 := ⟨m - 1, by omega⟩
    rw [g12i3L0b, ar_scne]
    unfold prt
    by_cases he : s = []
    · subst he
      rw [decide_eq_true rfl, if_pos rfl]
      exact .inl ⟨rfl, rfl⟩
    · rw [decide_eq_false he, if_neg he]
      simp only [Bool.not_false]
      cases hn : nextP s with
      | none => exact .inr ⟨by simp, rfl, _, _, _, _, _, _, j1a_none N _ x0 _ s a b c hs hl hn⟩
      | some p =>
        obtain ⟨t, x, y⟩ := p
        have ha : a.length = 100 := by omega
        simp only [ha, if_pos]
        exact .inr ⟨by simp, rfl, _, _, _, _, _, _, j1a_many N _ x0 s a b c hs hl hn⟩
  | succ d ih =>
    intro m s x0 a b c h1 h2 hs hl
    obtain ⟨m, rfl⟩ : ∃ m', m = m' + 1 := ⟨m - 1, by omega⟩
    rw [g12i3L0b, ar_scne]
    unfold prt
    by_cases he : s = []
    · subst he
      rw [decide_eq_true rfl, if_pos rfl]
      exact .inl ⟨rfl, rfl⟩
    · rw [decide_eq_false he, if_neg he]
      simp only [Bool.not_false]
      cases hn : nextP s with
      | none => exact .inr ⟨by simp, rfl, _, _, _, _, _, _, j1a_none N _ x0 _ s a b c hs hl hn⟩
      | some p =>
        obtain ⟨t, x, y⟩ := p
        simp only
        rw [if_neg (by omega), j1a_some N _ x0 _ s a b c hs hl hn (by omega)]
        obtain ⟨k, rfl⟩ := next_rest hn
        have := ih m (s.drop k) x0 (a ++ [(t : Int)]) (b ++ [x]) (c ++ [s.drop k]) (by simp; omega) (by omega) (fun z hz => hs z (List.mem_of_mem_drop hz)) (by rw [List.length_drop]; omega)
        rw [List.length_append] at this
        exact this
end Go.Sx
namespace Go.Sx
set_option linter.unusedSectionVars false
set_option linter.unusedVariables false
theorem g20_v (s : List Nat) : g20ok realA s = true ∧ g20r0 realA s = s := ⟨rfl, rfl⟩
def okN (x0 : Int) : Heap := [(410, ⟨[.one .nils], 35, 1⟩), (411, ⟨[.one (.int .i64 x0)], 25, 1⟩), (412, ⟨[.one .nils], 35, 1⟩), (413, ⟨[.one (.str [])], 9, 1⟩), (448, ⟨[], 0, 0⟩)]
def errN (e : Int) (s : List Nat) : Heap := [(410, ⟨[.one .nils], 35, 1⟩), (411, ⟨[.one (.int .i64 e)], 25, 1⟩), (412, ⟨[.one .nils], 35, 1⟩), (413, ⟨[.one (.str s)], 9, 1⟩), (448, ⟨[], 1, 0⟩)]
theorem l0a (N m : Nat) (s : List Nat) (x0 : Int) (a : List Int) (b c : List (List Nat)) (h1 : a.length = 1) (h2 : 110 ≤ m) (hs : ∀ x ∈ s, x < 256) (hl : s.length < 1000000000000000) : Ends x0 (prt (99 + 1) s a b c) (g12i3L0a realA N K14 m x0 a.length s a.length a b c) ∨ (s = [] ∧ g12i3L0a realA N K14 m x0 a.length s a.length a b c = some (okH 10003 x0 (a, b, c))) := by
  obtain ⟨m, rfl⟩ : ∃ m', m = m' + 1 := ⟨m - 1, by omega⟩
  have hb := l0b N 99 (m + 1) s x0 a b c (by omega) (by omega) hs hl
  by_cases he : s = []
  · subst he
    refine .inr ⟨rfl, ?_⟩
    rw [g12i3L0a, ar_scne, decide_eq_true rfl]
    rfl
  · refine .inl ?_
    rw [g12i3L0b, ar_scne, decide_eq_false he] at hb
    rw [g12i3L0a, ar_scne, decide_eq_false he]
    exact hb
theorem j1_none (N : Nat) (f : Int → Nat → List Nat → Nat → List Int → List (List Nat) → List (List Nat) → Option Heap) (x0 : Int) (s : List Nat) (hs : ∀ x ∈ s, x < 256) (hl : s.length < 1000000000000000) (hn : nextP s = none) : g12i3J1 realA N K14 f x0 s = some (errN 2 s) := by
  unfold g12i3J1
  rw [next_ok hs hl, next_0 hs hl, next_1 hs hl, next_2 hs hl, next_3 hs hl, hn]
  simp only [nx0, nx1, nx2, nx3]
  have hv := b3_e 0 [] [] 2 x0 (by decide)
  simp only [g12b3c0, g12b3c1, g12b3r1_0, hv]
  rfl
theorem j1_some (N : Nat) (f : Int → Nat → List Nat → Nat → List Int → List (List Nat) → List (List Nat) → Option Heap) (x0 : Int) (s : List Nat) (hs : ∀ x ∈ s, x < 256) (hl : s.length < 1000000000000000) {t : Nat} {x y : List Nat} (hn : nextP s = some (t, x, y)) : g12i3J1 realA N K14 f x0 s = f x0 1 y 1 [(t : Int)] [x] [y] := by
  unfold g12i3J1
  rw [next_ok hs hl, next_0 hs hl, next_1 hs hl, next_2 hs hl, next_3 hs hl, hn]
  simp only [nx0, nx1, nx2, nx3]
  have hv := b3_k (t : Int) x y x0
  simp only [g12b3c0, g12b3c1, g12b3r0_0, g12b3r0_1, g12b3r0_2, g12b3r0_3, g12b3r0_4, g12b3r0_5, hv]
  rw [ar_neq, decide_eq_true (rfl : (0 : Int) = 0)]
  rfl
theorem it_v {s : List Nat} (hs : ∀ x ∈ s, x < 256) (hl : s.length < 1000000000000000) : (prt 101 s [] [] [] = (([], [], []), 0) ∧ g12i3v realA 0 s = some (okN 0)) ∨ (∃ e, prt 101 s [] [] [] = (([], [], []), e) ∧ g12i3v realA 0 s = some (errN e s)) ∨ Ends 0 (prt 101 s [] [] []) (g12i3v realA 0 s) ∨ (∃ r, prt 101 s [] [] [] = (r, 0) ∧ g12i3v realA 0 s = some (okH 10003 0 r)) := by
  unfold g12i3v
  have hN : (100000 : Nat) = 99900 + 99 + 1 := rfl
  generalize hM : 99900 = M at hN
  rw [hN]
  have hM2 : 90000 ≤ M := by omega
  clear hN hM
  unfold g12i3
  rw [g12i3L0, ar_scne]
  by_cases he : s = []
  · subst he
    rw [decide_eq_true rfl]
    exact .inl ⟨rfl, rfl⟩
  · have hp : prt 101 s [] [] [] = match nextP s with
      | none => (([], [], []), 2)
      | some (t, x, y) => prt 100 y [(t : Int)] [x] [y] := by
      show prt (100 + 1) s [] [] [] = _
      rw [prt, if_neg he]
      rfl
    rw [decide_eq_false he]
    simp only [Bool.not_false]
    cases hn : nextP s with
    | none =>
      rw [hn] at hp
      exact .inr (.inl ⟨2, hp, j1_none _ _ 0 s hs hl hn⟩)
    | some p =>
      obtain ⟨t, x, y⟩ := p
      rw [hn] at hp
      simp only at hp
      rw [j1_some _ _ 0 s hs hl hn, hp]
      obtain ⟨k, rfl⟩ := next_rest hn
      rcases l0a (M + 99 + 1) (M + 99) (s.drop k) 0 [(t : Int)] [x] [s.drop k] rfl (by omega) (fun z hz => hs z (List.mem_of_mem_drop hz)) (by rw [List.length_drop]; omega) with h | ⟨h1, h2⟩
      · exact .inr (.inr (.inl h))
      · refine .inr (.inr (.inr ⟨([(t : Int)], [x], [s.drop k]), ?_, h2⟩))
        rw [h1]
        rfl
end Go.Sx
namespace Go.Sx
set_option linter.unusedSectionVars false
open Go.Proofs
set_option linter.unusedVariables false
theorem p12_0 {s : List Nat} (h : g12i3v realA 0 s = some (okN 0)) : g12v realA s = some (pout 24 (([], [], []), 0)) := by
  unfold g12v g12
  rw [(g20_v s).1, (g20_v s).2]
  simp only [g12i3c0, g12i3c1, g12i3c2, g12i3c3, g12i3c4, h]
  kernel_rfl
theorem p12_1 {s s' : List Nat} {e : Int} (h : g12i3v realA 0 s = some (errN e s')) : g12v realA s = some (pout 24 (([], [], []), e)) := by
  unfold g12v g12
  rw [(g20_v s).1, (g20_v s).2]
  simp only [g12i3c0, g12i3c1, g12i3c2, g12i3c3, g12i3r3_0, g12i3r3_1, h]
  kernel_rfl
theorem p12_2 {s : List Nat} {r : List Int × List (List Nat) × List (List Nat)} (h : g12i3v realA 0 s = some (okH 500 0 r)) : g12v realA s = some (pout 24 (r, 0)) := by
  unfold g12v g12
  rw [(g20_v s).1, (g20_v s).2]
  simp only [g12i3c0, g12i3r0_1, g12i3r0_3, g12i3r0_4, g12i3r0_5, g12i3r0_6, h]
  kernel_rfl
theorem p12_3 {s : List Nat} {r : List Int × List (List Nat) × List (List Nat)} (h : g12i3v realA 0 s = some (okH 10003 0 r)) : g12v realA s = some (pout 24 (r, 0)) := by
  unfold g12v g12
  rw [(g20_v s).1, (g20_v s).2]
  simp only [g12i3c0, g12i3c1, g12i3c2, g12i3r2_1, g12i3r2_3, g12i3r2_4, g12i3r2_5, g12i3r2_6, h]
  kernel_rfl
theorem p12_4 {s s' : List Nat} {e : Int} {n z : Nat} {a : List Int} {b c : List (List Nat)} (h : g12i3v realA 0 s = some (errH e n s' z a b c)) : g12v realA s = some (pout 24 (([], [], []), e)) := by
  unfold g12v g12
  rw [(g20_v s).1, (g20_v s).2]
  simp only [g12i3c0, g12i3c1, g12i3r1_0, g12i3r1_1, g12i3r1_2, g12i3r1_3, g12i3r1_4, g12i3r1_5, g12i3r1_6, h]
  kernel_rfl
theorem g12_v {s : List Nat} (hs : ∀ x ∈ s, x < 256) (hl : s.length < 1000000000000000) : g12v realA s = some (pout 24 (prt 101 s [] [] [])) := by
  rcases it_v hs hl with ⟨h1, h2⟩ | ⟨e, h1, h2⟩ | h | ⟨r, h1, h2⟩
  · rw [h1]; exact p12_0 h2
  · rw [h1]; exact p12_1 h2
  · rcases h with ⟨h1, h2⟩ | ⟨h1, h3, n, s', z, a, b, c, h2⟩
    · rw [p12_2 h2]
      rw [← h1]
    · rw [p12_4 h2]
      rw [← h3]
  · rw [h1]; exact p12_3 h2
end Go.Sx
namespace Go.Sx
set_option linter.unusedSectionVars false
set_option linter.unusedVariables false
def ws : List (Nat × List Nat) → List Nat
  | [] => []
  | (t, T) :: r => t :: (lenB T.length ++ (T ++ ws r))
theorem prt_ws : ∀ (its : List (Nat × List Nat)) (f : Nat) (a : List Int) (b c : List (List Nat)), (∀ p ∈ its, p.1 % 32 ≠ 31 ∧ p.2.length < 16777216) → its.length ≤ f → a.length + its.length ≤ 100 →
    (prt (f + 1) (ws its) a b c).2 = 0 ∧ (prt (f + 1) (ws its) a b c).1.2.1 = b ++ its.map (fun p => p.2) ∧ (prt (f + 1) (ws its) a b c).1.1.length = a.length + its.length := by
  intro its
  induction its with
  | nil =>
    intro f a b c _ _ _
    simp [prt, ws]
  | cons p r ih =>
    intro f a b c h h1 h2
    obtain ⟨t, T⟩ := p
    obtain ⟨f, rfl⟩ : ∃ f', f = f' + 1 := ⟨f - 1, by simp at h1; omega⟩
    have hp := h (t, T) List.mem_cons_self
    have hn : nextP (ws ((t, T) :: r)) = some (t, T, ws r) := next_wrap hp.1 rfl hp.2
    have hne : ws ((t, T) :: r) ≠ [] := by simp [ws]
    have e : prt (f + 1 + 1) (ws ((t, T) :: r)) a b c = prt (f + 1) (ws r) (a ++ [(t : Int)]) (b ++ [T]) (c ++ [ws r]) := by
      rw [prt, if_neg hne, hn]
      simp only
      rw [if_neg (by simp at h2; omega)]
    rw [e]
    have := ih f (a ++ [(t : Int)]) (b ++ [T]) (c ++ [ws r]) (fun p hp => h p (List.mem_cons_of_mem _ hp)) (by simp at h1; omega) (by simp at h2 ⊢; omega)
    refine ⟨this.1, ?_, ?_⟩
    · rw [this.2.1]; simp
    · rw [this.2.2]; simp; omega
theorem tail_wrap {s : List Nat} {n z t : Nat} {x y : List Nat} (hz : 1 + z ≤ s.length) (hz1 : 1 ≤ z) (hn : n < 16777216) (h : tailP s n z = some (t, x, y)) : t = s.getD 0 0 ∧ x.length = n ∧ t :: (lenB x.length ++ (x ++ y)) = s := by
  unfold tailP at h
  split at h
  · rename_i hc
    simp only [Option.some.injEq, Prod.mk.injEq] at h
    obtain ⟨rfl, rfl, rfl⟩ := h
    have hx : ((s.drop (1 + z)).take n).length = n := by rw [List.length_take, List.length_drop]; omega
    refine ⟨rfl, hx, ?_⟩
    rw [hx, hc.1, List.take_append_drop]
    obtain ⟨a, r, rfl⟩ : ∃ a r, s = a :: r := by
      match s, hz with
      | a :: r, _ => exact ⟨a, r, rfl⟩
      | [], h => simp at h
    rw [Nat.add_comm 1 z, List.take_succ_cons, List.drop_succ_cons, List.drop_succ_cons, List.drop_zero, List.take_append_drop]
    rfl
  · cases h
theorem next_back {s : List Nat} (hs : ∀ x ∈ s, x < 256) {t : Nat} {x y : List Nat} (h : nextP s = some (t, x, y)) : t % 32 ≠ 31 ∧ t < 256 ∧ x.length < 16777216 ∧ t :: (lenB x.length ++ (x ++ y)) = s := by
  unfold nextP at h
  split at h
  · cases h
  · rename_i h1
    split at h
    · cases h
    · rename_i h2
      have h0 := getD_lt hs 0
      have hc := getD_lt hs 1
      split at h
      · rename_i h3
        obtain ⟨e1, e2, e3⟩ := tail_wrap (by omega) (by omega) (by omega) h
        exact ⟨by rw [e1]; exact h2, by rw [e1]; exact h0, by omega, e3⟩
      · split at h
        · cases h
        · rename_i h4
          split at h
          · cases h
          · rename_i h5
            have hb := bval_lt ((s.take (1 + (s.getD 1 0 - 127))).drop 2) 0 (fun x hx => hs x (List.mem_of_mem_take (List.mem_of_mem_drop hx)))
            have hl : ((s.take (1 + (s.getD 1 0 - 127))).drop 2).length ≤ 3 := by rw [List.length_drop, List.length_take]; omega
            have hp : 256 ^ ((s.take (1 + (s.getD 1 0 - 127))).drop 2).length ≤ 256 ^ 3 := Nat.pow_le_pow_right (by decide) hl
            obtain ⟨e1, e2, e3⟩ := tail_wrap (by omega) (by omega) (by omega) h
            exact ⟨by rw [e1]; exact h2, by rw [e1]; exact h0, by omega, e3⟩
end Go.Sx
namespace Go.Sx
set_option linter.unusedSectionVars false
open Go.Proofs
set_option linter.unusedVariables false
set_option maxRecDepth 100000
theorem SxP14kpi {R : Type} (c : Bool) {f1 f2 : Nat → Option R} {a1 a2 : Option R} (h1 : Prs f1 a1) (h2 : Prs f2 a2) : Prs (fun k => match c with | true => f1 k | false => f2 k) (match c with | true => a1 | false => a2) := by cases c <;> assumption
attribute [local irreducible] g14ok g14r0 g16ok g16r0 g15ok g15r0 g17ok g17r2 g7ok g7r0
def g18a_O (A : Ar) : Orc := orcOf [(14, g14o A), (16, g16o A), (15, g15o A)]
theorem g18a_O_sound : OSound Try.prog (g18a_O realA) := orc_sound fun f g hm args v hv => by
  simp only [List.mem_cons, List.not_mem_nil, or_false, Prod.mk.injEq] at hm
  rcases hm with ⟨rfl, rfl⟩ | ⟨rfl, rfl⟩ | ⟨rfl, rfl⟩
  · exact g14o_sound _ _ hv
  · exact g16o_sound _ _ hv
  · exact g15o_sound _ _ hv
theorem g18a_O_det : ODet (g18a_O realA) := orc_det _
def g18a_an : Ann := [(0, ([0], [0])), (1, ([1], [0, 1000])), (2, ([1, 3], [0, 1000])), (3, ([1], [0, 1000])), (4, ([1, 3], [0, 1000])), (5, ([1, 3], [0, 1000])), (6, ([1, 3, 4], [0, 1000])), (7, ([1, 3, 4, 5], [0, 1000])), (8, ([1, 3, 4, 5], [0, 1000])), (9, ([1, 3, 4, 5], [0, 1000])), (10, ([1, 3, 4, 5], [0, 1000])), (11, ([1, 3, 4, 5], [0, 1000])), (12, ([1, 3, 4], [0, 1000])), (13, ([3, 4], [0])), (14, ([3, 4], [0])), (15, ([3, 4], [0])), (16, ([3], [0]))]
def g18a_res : List ResultVar := [.tmp 2]
def g18a_cut : List Nat := [4, 9, 11, 12, 14, 16]
noncomputable def g18a_N {R : Type} (A : Ar) (kk : AV → Heap → Option R) (t : List Bool → St → Option R) (p : List Bool) (s : St) : Option R := nodeN A gtys (g18a_O A) g18a_an g18a_cut t (bodyOf Try.f18) (finD gtys g18a_res kk) p s
def g18a_J11s (x0 x1 : List Nat) (x2 : Int) (x3 x4 : Nat) (x5 : List (List Nat)) (x6 x7 : List Nat) (x8 : Bool) (x9 : Nat) (x10 : Int) : St := ⟨[(1, (pT 1000 0)), (3, (tS x0)), (4, (tS x1)), (5, (i6 x2))], [(0, ⟨[.strs x4 x5], x3, 0⟩), (1000, ⟨[.one (.str x6), .one (.str x7), .one (.bool x8), .one (.sl 0 none x9 1), .one (.int .i64 x10)], 47, 1⟩)]⟩
def g18a_J11 {R : Type} (A : Ar) (n : Nat) (kk : AV → Heap → Option R) (lg18a_L7 : List Nat → List Nat → Int → Nat → Nat → List (List Nat) → List Nat → List Nat → Bool → Nat → Int → Option R) (x0 x1 : List Nat) (x2 : Int) (x3 x4 : Nat) (x5 : List (List Nat)) (x6 x7 : List Nat) (x8 : Bool) (x9 : Nat) (x10 : Int) : Option R :=
  match g14ok A 6 [85, 29, 15] with
  | true => match A.neg x2 with
    | true => none
    | false => match A.lt (A.toN x2) x9 with
      | true => match g16ok A (x5.getD (A.toN x2) []) with
        | true => match g14ok A 4 (g16r0 A (x5.getD (A.toN x2) [])) with
          | true => match A.le ((g14r0 A 6 [85, 29, 15]).length + (g14r0 A 4 (g16r0 A (x5.getD (A.toN x2) []))).length) 9223372036854775807 with
            | true => match g14ok A 48 ((g14r0 A 6 [85, 29, 15]) ++ (g14r0 A 4 (g16r0 A (x5.getD (A.toN x2) [])))) with
              | true => match A.le (x1.length + (g14r0 A 48 ((g14r0 A 6 [85, 29, 15]) ++ (g14r0 A 4 (g16r0 A (x5.getD (A.toN x2) []))))).length) 9223372036854775807 with
                | true => lg18a_L7 x0 (x1 ++ (g14r0 A 48 ((g14r0 A 6 [85, 29, 15]) ++ (g14r0 A 4 (g16r0 A (x5.getD (A.toN x2) [])))))) (A.ib .add .i64 x2 1) x3 x4 x5 x6 x7 x8 x9 x10
                | false => none
              | false => none
            | false => none
          | false => none
        | false => none
      | false => none
  | false => none
def g18a_J9s (x0 x1 : List Nat) (x2 : Int) (x3 x4 : Nat) (x5 : List (List Nat)) (x6 x7 : List Nat) (x8 : Bool) (x9 : Nat) (x10 : Int) : St := ⟨[(1, (pT 1000 0)), (3, (tS x0)), (4, (tS x1)), (5, (i6 x2))], [(0, ⟨[.strs x4 x5], x3, 0⟩), (1000, ⟨[.one (.str x6), .one (.str x7), .one (.bool x8), .one (.sl 0 none x9 1), .one (.int .i64 x10)], 47, 1⟩)]⟩
def g18a_J9 {R : Type} (A : Ar) (n : Nat) (kk : AV → Heap → Option R) (lg18a_L7 : List Nat → List Nat → Int → Nat → Nat → List (List Nat) → List Nat → List Nat → Bool → Nat → Int → Option R) (x0 x1 : List Nat) (x2 : Int) (x3 x4 : Nat) (x5 : List (List Nat)) (x6 x7 : List Nat) (x8 : Bool) (x9 : Nat) (x10 : Int) : Option R :=
  match A.ic .eql x2 x10 with
  | true => match g15ok A with
    | true => match A.le (x1.length + (g15r0 A).length) 9223372036854775807 with
      | true => g18a_J11 A n kk lg18a_L7 x0 (x1 ++ (g15r0 A)) x2 x3 x4 x5 x6 x7 x8 x9 x10
      | false => none
    | false => none
  | false => g18a_J11 A n kk lg18a_L7 x0 x1 x2 x3 x4 x5 x6 x7 x8 x9 x10
def g18a_J16s (x0 : List Nat) (x1 x2 : Nat) (x3 : List (List Nat)) : St := ⟨[(3, (tS x0))], [(0, ⟨[.strs x2 x3], x1, 0⟩)]⟩
def g18a_J16 {R : Type} (A : Ar) (n : Nat) (kk : AV → Heap → Option R)  (x0 : List Nat) (x1 x2 : Nat) (x3 : List (List Nat)) : Option R :=
  match g14ok A 48 x0 with
  | true => match g14ok A 48 [5, 0] with
    | true => match A.le ((g14r0 A 48 x0).length + (g14r0 A 48 [5, 0]).length) 9223372036854775807 with
      | true => match g14ok A 3 [0, 115, 105, 103] with
        | true => match A.le (((g14r0 A 48 x0) ++ (g14r0 A 48 [5, 0])).length + (g14r0 A 3 [0, 115, 105, 103]).length) 9223372036854775807 with
          | true => match g14ok A 48 (((g14r0 A 48 x0) ++ (g14r0 A 48 [5, 0])) ++ (g14r0 A 3 [0, 115, 105, 103])) with
            | true => kk (tS (g14r0 A 48 (((g14r0 A 48 x0) ++ (g14r0 A 48 [5, 0])) ++ (g14r0 A 3 [0, 115, 105, 103])))) [(0, ⟨[.strs x2 x3], x1, 0⟩)]
            | false => none
          | false => none
        | false => none
      | false => none
    | false => none
  | false => none
def g18a_J14s (x0 x1 : List Nat) (x2 x3 : Nat) (x4 : List (List Nat)) : St := ⟨[(3, (tS x0)), (4, (tS x1))], [(0, ⟨[.strs x3 x4], x2, 0⟩)]⟩
def g18a_J14 {R : Type} (A : Ar) (n : Nat) (kk : AV → Heap → Option R)  (x0 x1 : List Nat) (x2 x3 : Nat) (x4 : List (List Nat)) : Option R :=
  match A.sc .neq x1 [] with
  | true => match g14ok A 48 x1 with
    | true => match g14ok A 163 (g14r0 A 48 x1) with
      | true => match A.le (x0.length + (g14r0 A 163 (g14r0 A 48 x1)).length) 9223372036854775807 with
        | true => g18a_J16 A n kk  (x0 ++ (g14r0 A 163 (g14r0 A 48 x1))) x2 x3 x4
        | false => none
      | false => none
    | false => none
  | false => g18a_J16 A n kk  x0 x2 x3 x4
def g18a_J12s (x0 x1 : List Nat) (x2 x3 : Nat) (x4 : List (List Nat)) (x5 x6 : List Nat) (x7 : Bool) (x8 : Nat) (x9 : Int) : St := ⟨[(1, (pT 1000 0)), (3, (tS x0)), (4, (tS x1))], [(0, ⟨[.strs x3 x4], x2, 0⟩), (1000, ⟨[.one (.str x5), .one (.str x6), .one (.bool x7), .one (.sl 0 none x8 1), .one (.int .i64 x9)], 47, 1⟩)]⟩
def g18a_J12 {R : Type} (A : Ar) (n : Nat) (kk : AV → Heap → Option R)  (x0 x1 : List Nat) (x2 x3 : Nat) (x4 : List (List Nat)) (x5 x6 : List Nat) (x7 : Bool) (x8 : Nat) (x9 : Int) : Option R :=
  match A.ic .eql x9 (A.mn (A.ofN x8) 5) with
  | true => match g15ok A with
    | true => match A.le (x1.length + (g15r0 A).length) 9223372036854775807 with
      | true => g18a_J14 A n kk  x0 (x1 ++ (g15r0 A)) x2 x3 x4
      | false => none
    | false => none
  | false => g18a_J14 A n kk  x0 x1 x2 x3 x4
def g18a_L7s (x0 x1 : List Nat) (x2 : Int) (x3 x4 : Nat) (x5 : List (List Nat)) (x6 x7 : List Nat) (x8 : Bool) (x9 : Nat) (x10 : Int) : St := ⟨[(1, (pT 1000 0)), (3, (tS x0)), (4, (tS x1)), (5, (i6 x2))], [(0, ⟨[.strs x4 x5], x3, 0⟩), (1000, ⟨[.one (.str x6), .one (.str x7), .one (.bool x8), .one (.sl 0 none x9 1), .one (.int .i64 x10)], 47, 1⟩)]⟩
def g18a_L7 {R : Type} (A : Ar) (n : Nat) (kk : AV → Heap → Option R)  : Nat → List Nat → List Nat → Int → Nat → Nat → List (List Nat) → List Nat → List Nat → Bool → Nat → Int → Option R
  | 0, _, _, _, _, _, _, _, _, _, _, _ => none
  | m + 1, x0, x1, x2, x3, x4, x5, x6, x7, x8, x9, x10 => match A.ic .lss x2 (A.ofN x9) with
  | true => match A.ic .lss x2 5 with
    | true => g18a_J9 A n kk (g18a_L7 A n kk  m) x0 x1 x2 x3 x4 x5 x6 x7 x8 x9 x10
    | false => g18a_J12 A n kk  x0 x1 x3 x4 x5 x6 x7 x8 x9 x10
  | false => g18a_J12 A n kk  x0 x1 x3 x4 x5 x6 x7 x8 x9 x10
def g18a_J4s (x0 : List Nat) (x1 x2 : Nat) (x3 : List (List Nat)) (x4 x5 : List Nat) (x6 : Bool) (x7 : Nat) (x8 : Int) : St := ⟨[(1, (pT 1000 0)), (3, (tS x0))], [(0, ⟨[.strs x2 x3], x1, 0⟩), (1000, ⟨[.one (.str x4), .one (.str x5), .one (.bool x6), .one (.sl 0 none x7 1), .one (.int .i64 x8)], 47, 1⟩)]⟩
def g18a_J4 {R : Type} (A : Ar) (n : Nat) (kk : AV → Heap → Option R)  (x0 : List Nat) (x1 x2 : Nat) (x3 : List (List Nat)) (x4 x5 : List Nat) (x6 : Bool) (x7 : Nat) (x8 : Int) : Option R :=
  match g14ok A 2 [7] with
  | true => match A.le (x0.length + (g14r0 A 2 [7]).length) 9223372036854775807 with
    | true => match g14ok A 48 [5, 0] with
      | true => match A.le ((x0 ++ (g14r0 A 2 [7])).length + (g14r0 A 48 [5, 0]).length) 9223372036854775807 with
        | true => match g14ok A 48 [] with
          | true => match A.le (((x0 ++ (g14r0 A 2 [7])) ++ (g14r0 A 48 [5, 0])).length + (g14r0 A 48 []).length) 9223372036854775807 with
            | true => match g14ok A 48 [] with
              | true => match A.le ((((x0 ++ (g14r0 A 2 [7])) ++ (g14r0 A 48 [5, 0])) ++ (g14r0 A 48 [])).length + (g14r0 A 48 []).length) 9223372036854775807 with
                | true => match g16ok A x4 with
                  | true => match g14ok A 4 (g16r0 A x4) with
                    | true => match g14ok A 48 (g14r0 A 4 (g16r0 A x4)) with
                      | true => match A.le (((((x0 ++ (g14r0 A 2 [7])) ++ (g14r0 A 48 [5, 0])) ++ (g14r0 A 48 [])) ++ (g14r0 A 48 [])).length + (g14r0 A 48 (g14r0 A 4 (g16r0 A x4))).length) 9223372036854775807 with
                        | true => match g16ok A x5 with
                          | true => match g14ok A 3 (g16r0 A x5) with
                            | true => match g14ok A 48 (g14r0 A 3 (g16r0 A x5)) with
                              | true => match A.le ((((((x0 ++ (g14r0 A 2 [7])) ++ (g14r0 A 48 [5, 0])) ++ (g14r0 A 48 [])) ++ (g14r0 A 48 [])) ++ (g14r0 A 48 (g14r0 A 4 (g16r0 A x4)))).length + (g14r0 A 48 (g14r0 A 3 (g16r0 A x5))).length) 9223372036854775807 with
                                | true => g18a_L7 A n kk  n ((((((x0 ++ (g14r0 A 2 [7])) ++ (g14r0 A 48 [5, 0])) ++ (g14r0 A 48 [])) ++ (g14r0 A 48 [])) ++ (g14r0 A 48 (g14r0 A 4 (g16r0 A x4)))) ++ (g14r0 A 48 (g14r0 A 3 (g16r0 A x5)))) [] 0 x1 x2 x3 x4 x5 x6 x7 x8
                                | false => none
                              | false => none
                            | false => none
                          | false => none
                        | false => none
                      | false => none
                    | false => none
                  | false => none
                | false => none
              | false => none
            | false => none
          | false => none
        | false => none
      | false => none
    | false => none
  | false => none
def g18a_ {R : Type} (A : Ar) (n : Nat) (kk : AV → Heap → Option R) (x0 x1 : List Nat) (x2 : Bool) (x3 : Nat) (x4 : Int) (x5 x6 : Nat) (x7 : List (List Nat)) : Option R :=
  match x2 with
  | true => match g14ok A 160 [2, 1, 2] with
    | true => g18a_J4 A n kk  (g14r0 A 160 [2, 1, 2]) x5 x6 x7 x0 x1 x2 x3 x4
    | false => none
  | false => g18a_J4 A n kk  [] x5 x6 x7 x0 x1 x2 x3 x4
section
variable {R : Type} {A : Ar} {n : Nat} {kk : AV → Heap → Option R} {tb : Nat → List Bool → St → Option R} (st : Stp (g18a_N A kk) tb)
include st
theorem g18a_J11_go {lg18a_L7 : List Nat → List Nat → Int → Nat → Nat → List (List Nat) → List Nat → List Nat → Bool → Nat → Int → Option R} (hg18a_L7 : ∀ (x0 x1 : List Nat) (x2 : Int) (x3 x4 : Nat) (x5 : List (List Nat)) (x6 x7 : List Nat) (x8 : Bool) (x9 : Nat) (x10 : Int), Prs (fun k => tb k (pth 1012) (g18a_L7s x0 x1 x2 x3 x4 x5 x6 x7 x8 x9 x10)) (lg18a_L7 x0 x1 x2 x3 x4 x5 x6 x7 x8 x9 x10)) {x0 : List Nat} {x1 : List Nat} {x2 : Int} {x3 : Nat} {x4 : Nat} {x5 : List (List Nat)} {x6 : List Nat} {x7 : List Nat} {x8 : Bool} {x9 : Nat} {x10 : Int} : Prs (fun k => tb k (pth 16201) (g18a_J11s x0 x1 x2 x3 x4 x5 x6 x7 x8 x9 x10)) (g18a_J11 A n kk lg18a_L7 x0 x1 x2 x3 x4 x5 x6 x7 x8 x9 x10) := by
  unfold g18a_J11
  exact st.g (pc (SxP14kpi _ (SxP14kpi _ pn (SxP14kpi _ (SxP14kpi _ (SxP14kpi _ (SxP14kpi _ (SxP14kpi _ (SxP14kpi _ (hg18a_L7 _ _ _ _ _ _ _ _ _ _ _) pn) pn) pn) pn) pn) pn)) pn) (by kernel_rfl))
theorem g18a_J9_go {lg18a_L7 : List Nat → List Nat → Int → Nat → Nat → List (List Nat) → List Nat → List Nat → Bool → Nat → Int → Option R} (hg18a_L7 : ∀ (x0 x1 : List Nat) (x2 : Int) (x3 x4 : Nat) (x5 : List (List Nat)) (x6 x7 : List Nat) (x8 : Bool) (x9 : Nat) (x10 : Int), Prs (fun k => tb k (pth 1012) (g18a_L7s x0 x1 x2 x3 x4 x5 x6 x7 x8 x9 x10)) (lg18a_L7 x0 x1 x2 x3 x4 x5 x6 x7 x8 x9 x10)) {x0 : List Nat} {x1 : List Nat} {x2 : Int} {x3 : Nat} {x4 : Nat} {x5 : List (List Nat)} {x6 : List Nat} {x7 : List Nat} {x8 : Bool} {x9 : Nat} {x10 : Int} : Prs (fun k => tb k (pth 2025) (g18a_J9s x0 x1 x2 x3 x4 x5 x6 x7 x8 x9 x10)) (g18a_J9 A n kk lg18a_L7 x0 x1 x2 x3 x4 x5 x6 x7 x8 x9 x10) := by
  unfold g18a_J9
  exact st.g (pc (SxP14kpi _ (SxP14kpi _ (SxP14kpi _ (g18a_J11_go st hg18a_L7) pn) pn) (g18a_J11_go st hg18a_L7)) (by kernel_rfl))
theorem g18a_J16_go {x0 : List Nat} {x1 : Nat} {x2 : Nat} {x3 : List (List Nat)} : Prs (fun k => tb k (pth 511) (g18a_J16s x0 x1 x2 x3)) (g18a_J16 A n kk x0 x1 x2 x3) := by
  unfold g18a_J16
  exact st.g (pc (SxP14kpi _ (SxP14kpi _ (SxP14kpi _ (SxP14kpi _ (SxP14kpi _ (SxP14kpi _ (pf _) pn) pn) pn) pn) pn) pn) (by kernel_rfl))
theorem g18a_J14_go {x0 : List Nat} {x1 : List Nat} {x2 : Nat} {x3 : Nat} {x4 : List (List Nat)} : Prs (fun k => tb k (pth 255) (g18a_J14s x0 x1 x2 x3 x4)) (g18a_J14 A n kk x0 x1 x2 x3 x4) := by
  unfold g18a_J14
  exact st.g (pc (SxP14kpi _ (SxP14kpi _ (SxP14kpi _ (SxP14kpi _ (g18a_J16_go st) pn) pn) pn) (g18a_J16_go st)) (by kernel_rfl))
theorem g18a_J12_go {x0 : List Nat} {x1 : List Nat} {x2 : Nat} {x3 : Nat} {x4 : List (List Nat)} {x5 : List Nat} {x6 : List Nat} {x7 : Bool} {x8 : Nat} {x9 : Int} : Prs (fun k => tb k (pth 127) (g18a_J12s x0 x1 x2 x3 x4 x5 x6 x7 x8 x9)) (g18a_J12 A n kk x0 x1 x2 x3 x4 x5 x6 x7 x8 x9) := by
  unfold g18a_J12
  exact st.g (pc (SxP14kpi _ (SxP14kpi _ (SxP14kpi _ (g18a_J14_go st) pn) pn) (g18a_J14_go st)) (by kernel_rfl))
theorem g18a_L7_go (m : Nat) : ∀ (x0 x1 : List Nat) (x2 : Int) (x3 x4 : Nat) (x5 : List (List Nat)) (x6 x7 : List Nat) (x8 : Bool) (x9 : Nat) (x10 : Int), Prs (fun k => tb k (pth 1012) (g18a_L7s x0 x1 x2 x3 x4 x5 x6 x7 x8 x9 x10)) (g18a_L7 A n kk m x0 x1 x2 x3 x4 x5 x6 x7 x8 x9 x10) := by
  induction m with
  | zero => intro x0 x1 x2 x3 x4 x5 x6 x7 x8 x9 x10; exact pn0
  | succ m ih =>
    intro x0 x1 x2 x3 x4 x5 x6 x7 x8 x9 x10; rw [g18a_L7]
    exact st.g (pc (SxP14kpi _ (SxP14kpi _ (g18a_J9_go st ih) (g18a_J12_go st)) (g18a_J12_go st)) (by kernel_rfl))
theorem g18a_J4_go {x0 : List Nat} {x1 : Nat} {x2 : Nat} {x3 : List (List Nat)} {x4 : List Nat} {x5 : List Nat} {x6 : Bool} {x7 : Nat} {x8 : Int} : Prs (fun k => tb k (pth 15) (g18a_J4s x0 x1 x2 x3 x4 x5 x6 x7 x8)) (g18a_J4 A n kk x0 x1 x2 x3 x4 x5 x6 x7 x8) := by
  unfold g18a_J4
  exact st.g (pc (SxP14kpi _ (SxP14kpi _ (SxP14kpi _ (SxP14kpi _ (SxP14kpi _ (SxP14kpi _ (SxP14kpi _ (SxP14kpi _ (SxP14kpi _ (SxP14kpi _ (SxP14kpi _ (SxP14kpi _ (SxP14kpi _ (SxP14kpi _ (SxP14kpi _ (SxP14kpi _ (g18a_L7_go st n _ _ _ _ _ _ _ _ _ _ _) pn) pn) pn) pn) pn) pn) pn) pn) pn) pn) pn) pn) pn) pn) pn) pn) (by kernel_rfl))
theorem g18a__go {x0 : List Nat} {x1 : List Nat} {x2 : Bool} {x3 : Nat} {x4 : Int} {x5 : Nat} {x6 : Nat} {x7 : List (List Nat)} : Prs (fun k => funN A gtys (g18a_O A) g18a_an g18a_cut (bodyOf Try.f18) g18a_res [(.v (.agg [.one (.str x0), .one (.str x1), .one (.bool x2), .one (.sl 0 none x3 1), .one (.int .i64 x4)]))] [(0, ⟨[.strs x6 x7], x5, 0⟩)] kk (tb k)) (g18a_ A n kk x0 x1 x2 x3 x4 x5 x6 x7) := by
  unfold g18a_
  exact pc (SxP14kpi _ (SxP14kpi _ (g18a_J4_go st) pn) (g18a_J4_go st)) (by kernel_rfl)
end
def g18a_is (o : Option (AV × Heap)) : Bool := match o with
  | some (.v (.cell (.str _)), [(n0, ⟨[.strs _ _], _, n1⟩)]) => Nat.beq n0 0 && (Nat.beq n1 0)
  | _ => false
def g18a_g0 (o : Option (AV × Heap)) : List Nat := match o with
  | some (.v (.cell (.str x)), [(_, ⟨[.strs _ _], _, _⟩)]) => x
  | _ => []
def g18a_g1 (o : Option (AV × Heap)) : Nat := match o with
  | some (.v (.cell (.str _)), [(_, ⟨[.strs _ _], x, _⟩)]) => x
  | _ => 0
def g18a_g2 (o : Option (AV × Heap)) : Nat := match o with
  | some (.v (.cell (.str _)), [(_, ⟨[.strs x _], _, _⟩)]) => x
  | _ => 0
def g18a_g3 (o : Option (AV × Heap)) : List (List Nat) := match o with
  | some (.v (.cell (.str _)), [(_, ⟨[.strs _ x], _, _⟩)]) => x
  | _ => []
theorem g18a_is_spec {o : Option (AV × Heap)} (h : g18a_is o = true) : o = some ((tS (g18a_g0 o)), [(0, ⟨[.strs (g18a_g2 o) (g18a_g3 o)], (g18a_g1 o), 0⟩)]) := by
  unfold g18a_is at h
  split at h
  · rename_i z0 n0 z2 z3 z4 n1
    simp only [Bool.and_eq_true] at h
    have en0 := beq_true h.1
    subst en0
    replace h := h.2
    have en1 := beq_true h
    subst en1
    rfl
  · cases h
def g18a_v (A : Ar) (x0 x1 : List Nat) (x2 : Bool) (x3 : Nat) (x4 : Int) (x5 x6 : Nat) (x7 : List (List Nat)) : Option (AV × Heap) := g18a_ A (100000) (outH [0] none) x0 x1 x2 x3 x4 x5 x6 x7
def g18a_ok (A : Ar) (x0 x1 : List Nat) (x2 : Bool) (x3 : Nat) (x4 : Int) (x5 x6 : Nat) (x7 : List (List Nat)) : Bool := g18a_is (g18a_v A x0 x1 x2 x3 x4 x5 x6 x7)
def g18a_r0 (A : Ar) (x0 x1 : List Nat) (x2 : Bool) (x3 : Nat) (x4 : Int) (x5 x6 : Nat) (x7 : List (List Nat)) : List Nat := g18a_g0 (g18a_v A x0 x1 x2 x3 x4 x5 x6 x7)
def g18a_r1 (A : Ar) (x0 x1 : List Nat) (x2 : Bool) (x3 : Nat) (x4 : Int) (x5 x6 : Nat) (x7 : List (List Nat)) : Nat := g18a_g1 (g18a_v A x0 x1 x2 x3 x4 x5 x6 x7)
def g18a_r2 (A : Ar) (x0 x1 : List Nat) (x2 : Bool) (x3 : Nat) (x4 : Int) (x5 x6 : Nat) (x7 : List (List Nat)) : Nat := g18a_g2 (g18a_v A x0 x1 x2 x3 x4 x5 x6 x7)
def g18a_r3 (A : Ar) (x0 x1 : List Nat) (x2 : Bool) (x3 : Nat) (x4 : Int) (x5 x6 : Nat) (x7 : List (List Nat)) : List (List Nat) := g18a_g3 (g18a_v A x0 x1 x2 x3 x4 x5 x6 x7)
theorem g18a_ok_spec {A : Ar} {x0 x1 x2 x3 x4 x5 x6 x7} (h : g18a_ok A x0 x1 x2 x3 x4 x5 x6 x7 = true) : g18a_v A x0 x1 x2 x3 x4 x5 x6 x7 = some ((tS (g18a_r0 A x0 x1 x2 x3 x4 x5 x6 x7)), [(0, ⟨[.strs (g18a_r2 A x0 x1 x2 x3 x4 x5 x6 x7) (g18a_r3 A x0 x1 x2 x3 x4 x5 x6 x7)], (g18a_r1 A x0 x1 x2 x3 x4 x5 x6 x7), 0⟩)]) := g18a_is_spec h
def g18a_o (A : Ar) (args : List AV) (h : Heap) : Option (Bool × AV × Heap) := match args, h with
  | [.v (.agg [.one (.str x0), .one (.str x1), .one (.bool x2), .one (.sl n0 none x3 n1), .one (.int .i64 x4)])], [(n2, ⟨[.strs x6 x7], x5, n3⟩)] => match Nat.beq n0 0 && (Nat.beq n1 1 && (Nat.beq n2 0 && (Nat.beq n3 0))) with
    | true => some (g18a_ok A x0 x1 x2 x3 x4 x5 x6 x7, (tS (g18a_r0 A x0 x1 x2 x3 x4 x5 x6 x7)), [(0, ⟨[.strs (g18a_r2 A x0 x1 x2 x3 x4 x5 x6 x7) (g18a_r3 A x0 x1 x2 x3 x4 x5 x6 x7)], (g18a_r1 A x0 x1 x2 x3 x4 x5 x6 x7), 0⟩)])
    | false => none
  | _, _ => none
theorem g18a_o_sound : ∀ args h v h', g18a_o realA args h = some (true, v, h') → FnH Try.prog 18 args h v h' := by
  intro args h v h' hh
  unfold g18a_o at hh
  split at hh
  · rename_i x0 x1 x2 n0 x3 n1 x4 n2 x6 x7 x5 n3
    split at hh
    case h_2 => cases hh
    rename_i hc0
    simp only [Option.some.injEq, Prod.mk.injEq] at hh
    obtain ⟨hc, hv, hh⟩ := hh
    subst hv
    subst hh
    simp only [Bool.and_eq_true] at hc0
    have en0 := beq_true hc0.1
    subst en0
    replace hc0 := hc0.2
    have en1 := beq_true hc0.1
    subst en1
    replace hc0 := hc0.2
    have en2 := beq_true hc0.1
    subst en2
    replace hc0 := hc0.2
    have en3 := beq_true hc0
    subst en3
    exact fnh_ofG mixed gtysOK g18a_O_sound g18a_O_det (an := g18a_an) (cut := g18a_cut) Try.func18 (c := bodyOf Try.f18) rfl (by kernel_rfl) Try.call18 (Nat.le_of_ble_eq_true rfl) (pins := [0]) (nilr := none) (fun _ => (show g18a_v realA x0 x1 x2 x3 x4 x5 x6 x7 = _ from g18a_ok_spec hc)) fun _ st => g18a__go st
  · cases hh
attribute [local irreducible] g18a_ok g18a_r0 g18a_r1 g18a_r2 g18a_r3
def g5O (A : Ar) : Orc := orcH [(7, g7o A), (14, g14o A), (15, g15o A), (16, g16o A), (17, g17o A)] [(18, ⟨[], none, (ho2 (g18o A) (g18a_o A))⟩)]
theorem g5O_sound : OSound Try.prog (g5O realA) := orcH_sound (fun f g hm args v hv => by
    simp only [List.mem_cons, List.not_mem_nil, or_false, Prod.mk.injEq] at hm
    rcases hm with ⟨rfl, rfl⟩ | ⟨rfl, rfl⟩ | ⟨rfl, rfl⟩ | ⟨rfl, rfl⟩ | ⟨rfl, rfl⟩
    · exact g7o_sound _ _ hv
    · exact g14o_sound _ _ hv
    · exact g15o_sound _ _ hv
    · exact g16o_sound _ _ hv
    · exact g17o_sound _ _ hv) (fun f e hm args h v h' hv => by
    simp only [List.mem_cons, List.not_mem_nil, or_false, Prod.mk.injEq] at hm
    rcases hm with ⟨rfl, rfl⟩
    · exact (ho2_sound g18o_sound g18a_o_sound) _ _ _ _ hv)
theorem g5O_det : ODet (g5O realA) := orcH_det _ _
def g5an : Ann := [(0, ([0, 1, 2], [0])), (1, ([1, 2, 3], [0, 1000])), (2, ([1, 2, 3, 7], [0, 1000])), (3, ([], [0])), (4, ([1, 2, 3, 7], [0, 1000])), (5, ([1, 2, 3, 7, 8], [0, 1000])), (6, ([1, 2, 3, 7, 11], [0, 1000])), (7, ([1, 2, 7, 11, 12], [0])), (8, ([1, 2, 7, 11, 12], [0])), (9, ([1, 2, 7, 11, 12], [0])), (10, ([2, 7, 11, 12, 15], [0])), (11, ([2, 7, 11, 15, 18], [0]))]
def g5res : List ResultVar := [.tmp 6]
def g5cut : List Nat := [4, 9]
noncomputable def g5N {R : Type} (A : Ar) (kk : AV → Heap → Option R) (t : List Bool → St → Option R) (p : List Bool) (s : St) : Option R := nodeN A gtys (g5O A) g5an g5cut t (bodyOf Try.f5) (finD gtys g5res kk) p s
def g5J9s (x0 : Int) (x1 : List Nat) (x2 : Bool) (x3 : Int) (x4 : List Nat) (x5 x6 : Nat) (x7 : List (List Nat)) : St := ⟨[(1, (i6 x0)), (2, (tS x1)), (7, (bO x2)), (11, (i6 x3)), (12, (tS x4))], [(0, ⟨[.strs x6 x7], x5, 0⟩)]⟩
def g5J9 {R : Type} (A : Ar) (n : Nat) (kk : AV → Heap → Option R)  (x0 : Int) (x1 : List Nat) (x2 : Bool) (x3 : Int) (x4 : List Nat) (x5 x6 : Nat) (x7 : List (List Nat)) : Option R :=
  match A.ic .eql (A.ofN x4.length) 0 with
  | true => none
  | false => match A.neg (A.ib .rem .i64 x0 (A.ofN x4.length)) with
    | true => none
    | false => match A.le (A.toN (A.ib .rem .i64 x0 (A.ofN x4.length))) x4.length with
      | true => match g17ok A ((x4.take (A.toN (A.ib .rem .i64 x0 (A.ofN x4.length)))).drop 0) with
        | true => match A.neg (A.mn (A.ofN x1.length) 100) with
          | true => none
          | false => match A.le (A.toN (A.mn (A.ofN x1.length) 100)) x1.length with
            | true => match A.le (x4.length + ((x1.take (A.toN (A.mn (A.ofN x1.length) 100))).drop 0).length) 9223372036854775807 with
              | true => match g17ok A (x4 ++ ((x1.take (A.toN (A.mn (A.ofN x1.length) 100))).drop 0)) with
                | true => match x2 with
                  | true => match A.ic .eql x3 2 with
                    | true => match A.ic .eql (g17r2 A ((x4.take (A.toN (A.ib .rem .i64 x0 (A.ofN x4.length)))).drop 0)) 2 with
                      | true => match A.sc .eql x1 [] with
                        | true => kk (bO true) [(0, ⟨[.strs x6 x7], x5, 0⟩)]
                        | false => kk (bO (A.ic .eql (g17r2 A (x4 ++ ((x1.take (A.toN (A.mn (A.ofN x1.length) 100))).drop 0))) 2)) [(0, ⟨[.strs x6 x7], x5, 0⟩)]
                      | false => kk (bO false) [(0, ⟨[.strs x6 x7], x5, 0⟩)]
                    | false => kk (bO false) [(0, ⟨[.strs x6 x7], x5, 0⟩)]
                  | false => kk (bO false) [(0, ⟨[.strs x6 x7], x5, 0⟩)]
                | false => none
              | false => none
            | false => none
        | false => none
      | false => none
def g5J4s (x0 : Int) (x1 : List Nat) (x2 : Bool) (x3 x4 : Nat) (x5 : List (List Nat)) (x6 x7 : List Nat) (x8 : Bool) (x9 : Nat) (x10 : Int) : St := ⟨[(1, (i6 x0)), (2, (tS x1)), (3, (pT 1000 0)), (7, (bO x2))], [(0, ⟨[.strs x4 x5], x3, 0⟩), (1000, ⟨[.one (.str x6), .one (.str x7), .one (.bool x8), .one (.sl 0 none x9 1), .one (.int .i64 x10)], 47, 1⟩)]⟩
def g5J4 {R : Type} (A : Ar) (n : Nat) (kk : AV → Heap → Option R)  (x0 : Int) (x1 : List Nat) (x2 : Bool) (x3 x4 : Nat) (x5 : List (List Nat)) (x6 x7 : List Nat) (x8 : Bool) (x9 : Nat) (x10 : Int) : Option R :=
  match g14ok A 2 [7] with
  | true => match g15ok A with
    | true => match g16ok A x6 with
      | true => match g14ok A 6 (g16r0 A x6) with
        | true => match g14ok A 48 (g14r0 A 6 (g16r0 A x6)) with
          | true => match A.le ((g15r0 A).length + (g14r0 A 48 (g14r0 A 6 (g16r0 A x6))).length) 9223372036854775807 with
            | true => match g15ok A with
              | true => match A.le (((g15r0 A) ++ (g14r0 A 48 (g14r0 A 6 (g16r0 A x6)))).length + (g15r0 A).length) 9223372036854775807 with
                | true => match g14ok A 48 (((g15r0 A) ++ (g14r0 A 48 (g14r0 A 6 (g16r0 A x6)))) ++ (g15r0 A)) with
                  | true => match g14ok A 163 (g14r0 A 48 (((g15r0 A) ++ (g14r0 A 48 (g14r0 A 6 (g16r0 A x6)))) ++ (g15r0 A))) with
                    | true => match A.le ((g14r0 A 2 [7]).length + (g14r0 A 163 (g14r0 A 48 (((g15r0 A) ++ (g14r0 A 48 (g14r0 A 6 (g16r0 A x6)))) ++ (g15r0 A)))).length) 9223372036854775807 with
                      | true => match g14ok A 48 ((g14r0 A 2 [7]) ++ (g14r0 A 163 (g14r0 A 48 (((g15r0 A) ++ (g14r0 A 48 (g14r0 A 6 (g16r0 A x6)))) ++ (g15r0 A))))) with
                        | true => match g14ok A 48 (g14r0 A 48 ((g14r0 A 2 [7]) ++ (g14r0 A 163 (g14r0 A 48 (((g15r0 A) ++ (g14r0 A 48 (g14r0 A 6 (g16r0 A x6)))) ++ (g15r0 A)))))) with
                          | true => match g17ok A (g14r0 A 48 (g14r0 A 48 ((g14r0 A 2 [7]) ++ (g14r0 A 163 (g14r0 A 48 (((g15r0 A) ++ (g14r0 A 48 (g14r0 A 6 (g16r0 A x6)))) ++ (g15r0 A))))))) with
                            | true => match g18a_ok A x6 x7 x8 x9 x10 x3 x4 x5 with
                              | true => match A.ic .lss x0 0 with
                                | true => g5J9 A n kk  (A.ib .sub .i64 0 (A.ib .add .i64 x0 1)) x1 x2 (g17r2 A (g14r0 A 48 (g14r0 A 48 ((g14r0 A 2 [7]) ++ (g14r0 A 163 (g14r0 A 48 (((g15r0 A) ++ (g14r0 A 48 (g14r0 A 6 (g16r0 A x6)))) ++ (g15r0 A)))))))) (g18a_r0 A x6 x7 x8 x9 x10 x3 x4 x5) (g18a_r1 A x6 x7 x8 x9 x10 x3 x4 x5) (g18a_r2 A x6 x7 x8 x9 x10 x3 x4 x5) (g18a_r3 A x6 x7 x8 x9 x10 x3 x4 x5)
                                | false => g5J9 A n kk  x0 x1 x2 (g17r2 A (g14r0 A 48 (g14r0 A 48 ((g14r0 A 2 [7]) ++ (g14r0 A 163 (g14r0 A 48 (((g15r0 A) ++ (g14r0 A 48 (g14r0 A 6 (g16r0 A x6)))) ++ (g15r0 A)))))))) (g18a_r0 A x6 x7 x8 x9 x10 x3 x4 x5) (g18a_r1 A x6 x7 x8 x9 x10 x3 x4 x5) (g18a_r2 A x6 x7 x8 x9 x10 x3 x4 x5) (g18a_r3 A x6 x7 x8 x9 x10 x3 x4 x5)
                              | false => none
                            | false => none
                          | false => none
                        | false => none
                      | false => none
                    | false => none
                  | false => none
                | false => none
              | false => none
            | false => none
          | false => none
        | false => none
      | false => none
    | false => none
  | false => none
def g5 {R : Type} (A : Ar) (n : Nat) (kk : AV → Heap → Option R) (x0 x1 : List Nat) (x2 : Bool) (x3 : Nat) (x4 x5 : Int) (x6 : List Nat) (x7 x8 : Nat) (x9 : List (List Nat)) : Option R :=
  match g7ok A with
  | true => match !(g7r0 A) with
    | true => kk (bO false) [(0, ⟨[.strs x8 x9], x7, 0⟩)]
    | false => g5J4 A n kk  x5 x6 (g7r0 A) x7 x8 x9 x0 x1 x2 x3 x4
  | false => none
section
variable {R : Type} {A : Ar} {n : Nat} {kk : AV → Heap → Option R} {tb : Nat → List Bool → St → Option R} (st : Stp (g5N A kk) tb)
include st
theorem g5J9_go {x0 : Int} {x1 : List Nat} {x2 : Bool} {x3 : Int} {x4 : List Nat} {x5 : Nat} {x6 : Nat} {x7 : List (List Nat)} : Prs (fun k => tb k (pth 255) (g5J9s x0 x1 x2 x3 x4 x5 x6 x7)) (g5J9 A n kk x0 x1 x2 x3 x4 x5 x6 x7) := by
  unfold g5J9
  exact st.g (pc (SxP14kpi _ pn (SxP14kpi _ pn (SxP14kpi _ (SxP14kpi _ (SxP14kpi _ pn (SxP14kpi _ (SxP14kpi _ (SxP14kpi _ (SxP14kpi _ (SxP14kpi _ (SxP14kpi _ (SxP14kpi _ (pf _) (pf _)) (pf _)) (pf _)) (pf _)) pn) pn) pn)) pn) pn))) (by kernel_rfl))
theorem g5J4_go {x0 : Int} {x1 : List Nat} {x2 : Bool} {x3 : Nat} {x4 : Nat} {x5 : List (List Nat)} {x6 : List Nat} {x7 : List Nat} {x8 : Bool} {x9 : Nat} {x10 : Int} : Prs (fun k => tb k (pth 15) (g5J4s x0 x1 x2 x3 x4 x5 x6 x7 x8 x9 x10)) (g5J4 A n kk x0 x1 x2 x3 x4 x5 x6 x7 x8 x9 x10) := by
  unfold g5J4
  exact st.g (pc (SxP14kpi _ (SxP14kpi _ (SxP14kpi _ (SxP14kpi _ (SxP14kpi _ (SxP14kpi _ (SxP14kpi _ (SxP14kpi _ (SxP14kpi _ (SxP14kpi _ (SxP14kpi _ (SxP14kpi _ (SxP14kpi _ (SxP14kpi _ (SxP14kpi _ (SxP14kpi _ (g5J9_go st) (g5J9_go st)) pn) pn) pn) pn) pn) pn) pn) pn) pn) pn) pn) pn) pn) pn) pn) (by kernel_rfl))
theorem g5_go {x0 : List Nat} {x1 : List Nat} {x2 : Bool} {x3 : Nat} {x4 : Int} {x5 : Int} {x6 : List Nat} {x7 : Nat} {x8 : Nat} {x9 : List (List Nat)} : Prs (fun k => funN A gtys (g5O A) g5an g5cut (bodyOf Try.f5) g5res [(.v (.agg [.one (.str x0), .one (.str x1), .one (.bool x2), .one (.sl 0 none x3 1), .one (.int .i64 x4)])), (i6 x5), (tS x6)] [(0, ⟨[.strs x8 x9], x7, 0⟩)] kk (tb k)) (g5 A n kk x0 x1 x2 x3 x4 x5 x6 x7 x8 x9) := by
  unfold g5
  exact pc (SxP14kpi _ (SxP14kpi _ (pf _) (g5J4_go st)) pn) (by kernel_rfl)
end
def g5is (o : Option (AV × Heap)) : Bool := match o with
  | some (.v (.cell (.bool _)), [(n0, ⟨[.strs _ _], _, n1⟩)]) => Nat.beq n0 0 && (Nat.beq n1 0)
  | _ => false
def g5g0 (o : Option (AV × Heap)) : Bool := match o with
  | some (.v (.cell (.bool x)), [(_, ⟨[.strs _ _], _, _⟩)]) => x
  | _ => false
def g5g1 (o : Option (AV × Heap)) : Nat := match o with
  | some (.v (.cell (.bool _)), [(_, ⟨[.strs _ _], x, _⟩)]) => x
  | _ => 0
def g5g2 (o : Option (AV × Heap)) : Nat := match o with
  | some (.v (.cell (.bool _)), [(_, ⟨[.strs x _], _, _⟩)]) => x
  | _ => 0
def g5g3 (o : Option (AV × Heap)) : List (List Nat) := match o with
  | some (.v (.cell (.bool _)), [(_, ⟨[.strs _ x], _, _⟩)]) => x
  | _ => []
theorem g5is_spec {o : Option (AV × Heap)} (h : g5is o = true) : o = some ((bO (g5g0 o)), [(0, ⟨[.strs (g5g2 o) (g5g3 o)], (g5g1 o), 0⟩)]) := by
  unfold g5is at h
  split at h
  · rename_i z0 n0 z2 z3 z4 n1
    simp only [Bool.and_eq_true] at h
    have en0 := beq_true h.1
    subst en0
    replace h := h.2
    have en1 := beq_true h
    subst en1
    rfl
  · cases h
def g5v (A : Ar) (x0 x1 : List Nat) (x2 : Bool) (x3 : Nat) (x4 x5 : Int) (x6 : List Nat) (x7 x8 : Nat) (x9 : List (List Nat)) : Option (AV × Heap) := g5 A (100000) (outH [0] none) x0 x1 x2 x3 x4 x5 x6 x7 x8 x9
def g5ok (A : Ar) (x0 x1 : List Nat) (x2 : Bool) (x3 : Nat) (x4 x5 : Int) (x6 : List Nat) (x7 x8 : Nat) (x9 : List (List Nat)) : Bool := g5is (g5v A x0 x1 x2 x3 x4 x5 x6 x7 x8 x9)
def g5r0 (A : Ar) (x0 x1 : List Nat) (x2 : Bool) (x3 : Nat) (x4 x5 : Int) (x6 : List Nat) (x7 x8 : Nat) (x9 : List (List Nat)) : Bool := g5g0 (g5v A x0 x1 x2 x3 x4 x5 x6 x7 x8 x9)
def g5r1 (A : Ar) (x0 x1 : List Nat) (x2 : Bool) (x3 : Nat) (x4 x5 : Int) (x6 : List Nat) (x7 x8 : Nat) (x9 : List (List Nat)) : Nat := g5g1 (g5v A x0 x1 x2 x3 x4 x5 x6 x7 x8 x9)
def g5r2 (A : Ar) (x0 x1 : List Nat) (x2 : Bool) (x3 : Nat) (x4 x5 : Int) (x6 : List Nat) (x7 x8 : Nat) (x9 : List (List Nat)) : Nat := g5g2 (g5v A x0 x1 x2 x3 x4 x5 x6 x7 x8 x9)
def g5r3 (A : Ar) (x0 x1 : List Nat) (x2 : Bool) (x3 : Nat) (x4 x5 : Int) (x6 : List Nat) (x7 x8 : Nat) (x9 : List (List Nat)) : List (List Nat) := g5g3 (g5v A x0 x1 x2 x3 x4 x5 x6 x7 x8 x9)
theorem g5ok_spec {A : Ar} {x0 x1 x2 x3 x4 x5 x6 x7 x8 x9} (h : g5ok A x0 x1 x2 x3 x4 x5 x6 x7 x8 x9 = true) : g5v A x0 x1 x2 x3 x4 x5 x6 x7 x8 x9 = some ((bO (g5r0 A x0 x1 x2 x3 x4 x5 x6 x7 x8 x9)), [(0, ⟨[.strs (g5r2 A x0 x1 x2 x3 x4 x5 x6 x7 x8 x9) (g5r3 A x0 x1 x2 x3 x4 x5 x6 x7 x8 x9)], (g5r1 A x0 x1 x2 x3 x4 x5 x6 x7 x8 x9), 0⟩)]) := g5is_spec h
def g5o (A : Ar) (args : List AV) (h : Heap) : Option (Bool × AV × Heap) := match args, h with
  | [.v (.agg [.one (.str x0), .one (.str x1), .one (.bool x2), .one (.sl n0 none x3 n1), .one (.int .i64 x4)]), .v (.cell (.int .i64 x5)), .v (.cell (.str x6))], [(n2, ⟨[.strs x8 x9], x7, n3⟩)] => match Nat.beq n0 0 && (Nat.beq n1 1 && (Nat.beq n2 0 && (Nat.beq n3 0))) with
    | true => some (g5ok A x0 x1 x2 x3 x4 x5 x6 x7 x8 x9, (bO (g5r0 A x0 x1 x2 x3 x4 x5 x6 x7 x8 x9)), [(0, ⟨[.strs (g5r2 A x0 x1 x2 x3 x4 x5 x6 x7 x8 x9) (g5r3 A x0 x1 x2 x3 x4 x5 x6 x7 x8 x9)], (g5r1 A x0 x1 x2 x3 x4 x5 x6 x7 x8 x9), 0⟩)])
    | false => none
  | _, _ => none
theorem g5o_sound : ∀ args h v h', g5o realA args h = some (true, v, h') → FnH Try.prog 5 args h v h' := by
  intro args h v h' hh
  unfold g5o at hh
  split at hh
  · rename_i x0 x1 x2 n0 x3 n1 x4 x5 x6 n2 x8 x9 x7 n3
    split at hh
    case h_2 => cases hh
    rename_i hc0
    simp only [Option.some.injEq, Prod.mk.injEq] at hh
    obtain ⟨hc, hv, hh⟩ := hh
    subst hv
    subst hh
    simp only [Bool.and_eq_true] at hc0
    have en0 := beq_true hc0.1
    subst en0
    replace hc0 := hc0.2
    have en1 := beq_true hc0.1
    subst en1
    replace hc0 := hc0.2
    have en2 := beq_true hc0.1
    subst en2
    replace hc0 := hc0.2
    have en3 := beq_true hc0
    subst en3
    exact fnh_ofG mixed gtysOK g5O_sound g5O_det (an := g5an) (cut := g5cut) Try.func5 (c := bodyOf Try.f5) rfl (by kernel_rfl) Try.call5 (Nat.le_of_ble_eq_true rfl) (pins := [0]) (nilr := none) (fun _ => (show g5v realA x0 x1 x2 x3 x4 x5 x6 x7 x8 x9 = _ from g5ok_spec hc)) fun _ st => g5_go st
  · cases hh
attribute [local irreducible] g5ok g5r0 g5r1 g5r2 g5r3
end Go.Sx
namespace Go.Sx
set_option linter.unusedSectionVars false
open Go.Proofs
set_option linter.unusedVariables false
theorem lenB_byt {k : Nat} (hk : k < 16777216) : ∀ x ∈ lenB k, x < 256 := by
  intro x hx
  by_cases h1 : 65535 < k
  · rw [lenB_4 (by omega) hk] at hx; simp at hx; omega
  · by_cases h2 : 255 < k
    · rw [lenB_3 (by omega) (by omega)] at hx; simp at hx; omega
    · by_cases h3 : 127 < k
      · rw [lenB_2 (by omega) (by omega)] at hx; simp at hx; omega
      · rw [lenB_1 (by omega)] at hx; simp at hx; omega
def W1 (t : Nat) (T : List Nat) : List Nat := t :: (lenB T.length ++ T)
theorem W1_len {t : Nat} {T : List Nat} (h : T.length < 65536) : (W1 t T).length ≤ T.length + 5 ∧ 2 ≤ (W1 t T).length := by
  have := lenB_len (n := T.length) (by omega)
  have h2 : 1 ≤ (lenB T.length).length := by
    unfold lenB
    split
    · simp
    · simp
  unfold W1
  simp only [List.length_cons, List.length_append]
  omega
theorem W1_bytes {t : Nat} {T : List Nat} (ht : t < 256) (h : T.length < 65536) (hT : ∀ x ∈ T, x < 256) : ∀ x ∈ W1 t T, x < 256 := by
  intro x hx
  unfold W1 at hx
  simp only [List.mem_cons, List.mem_append] at hx
  rcases hx with rfl | hx | hx
  · exact ht
  · exact lenB_byt (by omega) x hx
  · exact hT x hx
theorem j14_8 (N : Nat) (T : List Nat) (n : Nat) (l : List Nat) (hT : T.length < 65536) (hl : l.length ≤ 10) (hn : n = l.length) : g14J8 realA N (fun v _ => some v) T n n l = some (tS (l ++ T)) := by
  unfold g14J8
  subst hn
  rw [List.take_length, ar_le, decide_eq_true (by omega)]
theorem item_v (a : Int) (T : List Nat) (ha : 0 ≤ a ∧ a < 256) (hT : T.length < 65536) : g14v realA a T = some (tS (W1 a.toNat T)) := by
  obtain ⟨t, rfl⟩ : ∃ t : Nat, a = t := ⟨a.toNat, by omega⟩
  unfold g14v
  generalize 100000 = N
  unfold g14
  have e8 : realA.ish .shr .i64 (T.length : Int) 8 = ((T.length / 256 : Nat) : Int) := by
    rw [ar_shr (by decide)]
    show (T.length : Int) / 256 = ((T.length / 256 : Nat) : Int)
    omega
  rw [ar_ofN, ar_geq, ar_geq, e8, ar_i2nN, ar_i2nN, ar_i2nN, ar_eq, decide_eq_true (rfl : (1 : Nat) = 1), Nat.mod_eq_of_lt (by omega : t < 256)]
  show _ = some (tS (W1 t T))
  unfold W1
  by_cases h1 : 256 ≤ T.length
  · rw [decide_eq_true (by omega), lenB_3 h1 hT, ar_le]
    simp only
    rw [decide_eq_true (by simp), j14_8 N T _ _ hT (by simp) rfl, Nat.mod_eq_of_lt (by omega : T.length / 256 < 256)]
    rfl
  · rw [decide_eq_false (by omega)]
    simp only
    by_cases h2 : 128 ≤ T.length
    · rw [decide_eq_true (by omega), lenB_2 h2 (by omega), ar_le]
      simp only
      rw [decide_eq_true (by simp), j14_8 N T _ _ hT (by simp) rfl, Nat.mod_eq_of_lt (by omega : T.length < 256)]
      rfl
    · rw [decide_eq_false (by omega), lenB_1 (by omega)]
      simp only
      rw [ar_le, decide_eq_true (by simp), j14_8 N T _ _ hT (by simp) rfl, Nat.mod_eq_of_lt (by omega : T.length < 256)]
      rfl
theorem item_ok {a : Int} {T : List Nat} (ha : 0 ≤ a ∧ a < 256) (hT : T.length < 65536) : g14ok realA a T = true := (congrArg g14is (item_v a T ha hT)).trans rfl
theorem item_r {a : Int} {T : List Nat} (ha : 0 ≤ a ∧ a < 256) (hT : T.length < 65536) : g14r0 realA a T = W1 a.toNat T := (congrArg g14g0 (item_v a T ha hT)).trans rfl
def oid : List Nat := [43, 6, 1, 4, 1, 214, 121, 2, 4, 3]
def PT : List Nat := [6, 10, 43, 6, 1, 4, 1, 214, 121, 2, 4, 3, 1, 1, 255, 4, 2, 5, 0]
def PZ : List Nat := 48 :: 19 :: PT
theorem pz_ok : g15ok realA = true := by kernel_rfl
theorem pz_r : g15r0 realA = PZ := by kernel_rfl
theorem cut_v (a : List Nat) : g16v realA a = some (tS (a.take 60)) := by
  unfold g16v
  generalize 100000 = N
  unfold g16
  have e : realA.mn (realA.ofN a.length) 60 = ((min a.length 60 : Nat) : Int) := by rw [ar_ofN, ar_mn]; omega
  rw [e, ar_negN, ar_toNN, ar_le, decide_eq_true (Nat.min_le_left _ _), List.drop_zero]
  have : a.take (min a.length 60) = a.take 60 := by
    by_cases h : a.length ≤ 60
    · rw [Nat.min_eq_left h, List.take_length, List.take_of_length_le h]
    · rw [Nat.min_eq_right (by omega)]
  rw [this]
theorem cut_ok (a : List Nat) : g16ok realA a = true := (congrArg g16is (cut_v a)).trans rfl
theorem cut_r (a : List Nat) : g16r0 realA a = a.take 60 := (congrArg g16g0 (cut_v a)).trans rfl
theorem cut_len (a : List Nat) : (a.take 60).length ≤ 60 := by rw [List.length_take]; omega
def Prt (s : List Nat) := prt 101 s [] [] []
theorem parts_v {s : List Nat} (hs : ∀ x ∈ s, x < 256) (hl : s.length < 1000000000000000) : g12ok realA s = true ∧ g12r0 realA s = (Prt s).1.1.length ∧ g12r1 realA s = (Prt s).2 ∧ g12r2 realA s = (Prt s).1.1.length ∧ g12r3 realA s = (Prt s).1.1 ∧ g12r4 realA s = (Prt s).1.2.1 ∧ g12r5 realA s = (Prt s).1.2.2 := by
  have e := g12_v hs hl
  exact ⟨(congrArg g12is e).trans rfl, (congrArg g12g0 e).trans rfl, (congrArg g12g1 e).trans rfl, (congrArg g12g2 e).trans rfl, (congrArg g12g3 e).trans rfl, (congrArg g12g4 e).trans rfl, (congrArg g12g5 e).trans rfl⟩
theorem prt_tags : ∀ (its : List (Nat × List Nat)) (f : Nat) (a : List Int) (b c : List (List Nat)), (∀ p ∈ its, p.1 % 32 ≠ 31 ∧ p.2.length < 16777216) → its.length ≤ f → a.length + its.length ≤ 100 →
    (prt (f + 1) (ws its) a b c).1.1 = a ++ its.map (fun p => (p.1 : Int)) := by
  intro its
  induction its with
  | nil =>
    intro f a b c _ _ _
    simp [prt, ws]
  | cons p r ih =>
    intro f a b c h h1 h2
    obtain ⟨t, T⟩ := p
    obtain ⟨f, rfl⟩ : ∃ f', f = f' + 1 := ⟨f - 1, by simp at h1; omega⟩
    have hp := h (t, T) List.mem_cons_self
    have hn : nextP (ws ((t, T) :: r)) = some (t, T, ws r) := next_wrap hp.1 rfl hp.2
    have hne : ws ((t, T) :: r) ≠ [] := by simp [ws]
    have e : prt (f + 1 + 1) (ws ((t, T) :: r)) a b c = prt (f + 1) (ws r) (a ++ [(t : Int)]) (b ++ [T]) (c ++ [ws r]) := by
      rw [prt, if_neg hne, hn]
      simp only
      rw [if_neg (by simp at h2; omega)]
    rw [e, ih f (a ++ [(t : Int)]) (b ++ [T]) (c ++ [ws r]) (fun p hp => h p (List.mem_cons_of_mem _ hp)) (by simp at h1; omega) (by simp at h2 ⊢; omega)]
    simp
theorem Prt_ws {its : List (Nat × List Nat)} (h : ∀ p ∈ its, p.1 % 32 ≠ 31 ∧ p.2.length < 16777216) (hl : its.length ≤ 100) : (Prt (ws its)).2 = 0 ∧ (Prt (ws its)).1.1 = its.map (fun p => (p.1 : Int)) ∧ (Prt (ws its)).1.2.1 = its.map (fun p => p.2) := by
  obtain ⟨h1, h2, _⟩ := prt_ws its 100 [] [] [] h hl (by simpa using hl)
  unfold Prt
  exact ⟨h1, by have := prt_tags its 100 [] [] [] h hl (by simpa using hl); simpa using this, by simpa using h2⟩
theorem ws_one (t : Nat) (T : List Nat) : ws [(t, T)] = W1 t T := by simp [ws, W1]
theorem ws_W1 (t : Nat) (T : List Nat) (r : List (Nat × List Nat)) : ws ((t, T) :: r) = W1 t T ++ ws r := by simp [ws, W1]
theorem inner_bad {s : List Nat} (hs : ∀ x ∈ s, x < 256) (hl : s.length < 1000000000000000) (h : nextP s = none ∨ ∃ t x y, nextP s = some (t, x, y) ∧ y ≠ []) : g25ok realA s = true ∧ g25r1 realA s = false := by
  have e : g25v realA s = some (.tup [(.cell (.sl 700 none 0 3)), (.cell (.bool false))], [(700, ⟨[.recs 0 [.ints .i64 [], .strs [], .strs []]], 24, 2⟩)]) := by
    unfold g25v
    generalize 100000 = N
    unfold g25
    rw [next_ok hs hl, next_0 hs hl, next_2 hs hl, next_3 hs hl]
    rcases h with h | ⟨t, x, y, h, hy⟩
    · rw [h]
      rfl
    · rw [h]
      simp only [nx0, nx2, nx3]
      rw [ar_neq, ar_neq, ar_scne, decide_eq_true (rfl : (0 : Int) = 0), decide_eq_false hy]
      simp only [Bool.not_true, Bool.not_false]
      by_cases h1 : (t : Int) = 48
      · rw [decide_eq_true h1]; rfl
      · rw [decide_eq_false h1]; rfl
  exact ⟨(congrArg g25is e).trans rfl, (congrArg g25g1 e).trans rfl⟩
theorem inner_yes {T : List Nat} (hs : ∀ x ∈ T, x < 256) (hl : T.length < 65536) (h : (Prt T).2 = 0) : g25ok realA (W1 48 T) = true ∧ g25r0 realA (W1 48 T) = (Prt T).1.1.length ∧ g25r1 realA (W1 48 T) = true ∧ g25r2 realA (W1 48 T) = (Prt T).1.1.length ∧ g25r3 realA (W1 48 T) = (Prt T).1.1 ∧ g25r4 realA (W1 48 T) = (Prt T).1.2.1 ∧ g25r5 realA (W1 48 T) = (Prt T).1.2.2 := by
  have hb := W1_bytes (t := 48) (by omega) hl hs
  have hw := (W1_len (t := 48) hl).1
  have hn : nextP (W1 48 T) = some (48, T, []) := by
    have := next_wrap (t := 48) (T := T) (more := []) (by decide) rfl (by omega)
    rwa [List.append_nil] at this
  obtain ⟨p0, p1, p2, p3, p4, p5, p6⟩ := parts_v hs (by omega : T.length < 1000000000000000)
  have e : g25v realA (W1 48 T) = some (.tup [(.cell (.sl 700 none (Prt T).1.1.length 3)), (.cell (.bool true))], [(700, ⟨[.recs (Prt T).1.1.length [.ints .i64 (Prt T).1.1, .strs (Prt T).1.2.1, .strs (Prt T).1.2.2]], 24, 2⟩)]) := by
    unfold g25v
    generalize 100000 = N
    unfold g25
    rw [next_ok hb (by omega), next_0 hb (by omega), next_1 hb (by omega), next_2 hb (by omega), next_3 hb (by omega), hn]
    simp only [nx0, nx1, nx2, nx3]
    rw [ar_neq, decide_eq_true (rfl : (0 : Int) = 0)]
    simp only [Bool.not_true]
    rw [ar_neq, ar_scne, decide_eq_true (show ((48 : Nat) : Int) = 48 from rfl), decide_eq_true (rfl : ([] : List Nat) = [])]
    simp only [Bool.not_true]
    unfold g25J4
    rw [p0, p1, p2, p3, p4, p5, p6, h]
    rfl
  exact ⟨(congrArg g25is e).trans rfl, (congrArg g25g0 e).trans rfl, (congrArg g25g1 e).trans rfl, (congrArg g25g2 e).trans rfl, (congrArg g25g3 e).trans rfl, (congrArg g25g4 e).trans rfl, (congrArg g25g5 e).trans rfl⟩
end Go.Sx
namespace Go.Sx
set_option linter.unusedSectionVars false
open Go.Proofs
set_option linter.unusedVariables false
theorem body_bad {s : List Nat} (hs : ∀ x ∈ s, x < 256) (hl : s.length ≤ 2000) (h : nextP s = none ∨ ∃ t x y, nextP s = some (t, x, y) ∧ y ≠ []) : g21ok realA s = true ∧ g21r1 realA s = 2 := by
  obtain ⟨i0, i1⟩ := inner_bad hs (by omega) h
  have e : g21v realA s = some (.tup [(.cell (.sl 700 none 0 3)), (.cell (.int .i64 2))], [(700, ⟨[.recs 0 [.ints .i64 [], .strs [], .strs []]], 24, 2⟩)]) := by
    unfold g21v
    generalize 100000 = N
    unfold g21
    rw [ar_ofN, ar_gtr, decide_eq_false (by omega)]
    simp only
    unfold g21J3
    rw [i0, i1]
    rfl
  exact ⟨(congrArg g21is e).trans rfl, (congrArg g21g1 e).trans rfl⟩
theorem body_yes {B : List Nat} (hs : ∀ x ∈ B, x < 256) (hl : B.length ≤ 1900) (h : (Prt B).2 = 0) : g21ok realA (W1 48 (W1 48 B)) = true ∧ g21r0 realA (W1 48 (W1 48 B)) = (Prt B).1.1.length ∧ g21r1 realA (W1 48 (W1 48 B)) = 0 ∧ g21r3 realA (W1 48 (W1 48 B)) = (Prt B).1.1 ∧ g21r4 realA (W1 48 (W1 48 B)) = (Prt B).1.2.1 := by
  have hb := W1_bytes (t := 48) (by omega) (by omega) hs
  have hw := (W1_len (t := 48) (T := B) (by omega)).1
  have hw2 := (W1_len (t := 48) (T := W1 48 B) (by omega)).1
  obtain ⟨q1, q2, q3⟩ := Prt_ws (its := [(48, B)]) (by intro p hp; simp at hp; subst hp; exact ⟨(by decide : (48 : Nat) % 32 ≠ 31), by show B.length < _; omega⟩) (by simp)
  rw [ws_one] at q1 q2 q3
  obtain ⟨i0, i1, i2, i3, i4, i5, i6⟩ := inner_yes hb (by omega) q1
  obtain ⟨p0, p1, p2, p3, p4, p5, p6⟩ := parts_v hs (by omega : B.length < 1000000000000000)
  have e : g21v realA (W1 48 (W1 48 B)) = some (.tup [(.cell (.sl 700 none (Prt B).1.1.length 3)), (.cell (.int .i64 0))], [(700, ⟨[.recs (Prt B).1.1.length [.ints .i64 (Prt B).1.1, .strs (Prt B).1.2.1, .strs (Prt B).1.2.2]], 24, 2⟩)]) := by
    unfold g21v
    generalize 100000 = N
    unfold g21
    rw [ar_ofN, ar_gtr, decide_eq_false (by omega)]
    simp only
    unfold g21J3
    rw [i0, i1, i2, i3, i4, i5, q2, q3]
    simp only [Bool.not_true, List.map_cons, List.map_nil, List.length_cons, List.length_nil]
    rw [ar_ofN, ar_eql, decide_eq_false (by decide), show Nat.blt 0 (0 + 1) = true from rfl]
    simp only [List.getD_cons_zero]
    rw [ar_neq, decide_eq_true (show ((48 : Nat) : Int) = 48 from rfl)]
    simp only [Bool.not_true]
    unfold g21J6
    rw [show Nat.blt 0 (0 + 1) = true from rfl]
    simp only [List.getD_cons_zero]
    rw [p0, p1, p2, p3, p4, p5, p6, h]
    rfl
  exact ⟨(congrArg g21is e).trans rfl, (congrArg g21g0 e).trans rfl, (congrArg g21g1 e).trans rfl, (congrArg g21g3 e).trans rfl, (congrArg g21g4 e).trans rfl⟩
theorem strip_bad {s : List Nat} (hs : ∀ x ∈ s, x < 256) (hl : s.length ≤ 2000) (h : nextP s = none ∨ ∃ t x y, nextP s = some (t, x, y) ∧ y ≠ []) : g17ok realA s = true ∧ g17r2 realA s = 2 := by
  obtain ⟨b0, b1⟩ := body_bad hs hl h
  have e : g17v realA s = some (.tup [(.cell (.str [])), (.cell (.bool false)), (.cell (.int .i64 2))]) := by
    unfold g17v
    generalize 100000 = N
    unfold g17
    rw [b0, b1]
    rfl
  exact ⟨(congrArg g17is e).trans rfl, (congrArg g17g2 e).trans rfl⟩
theorem next_pre {T : List Nat} (hs : ∀ x ∈ T, x < 256) (hl : T.length < 65536) {k : Nat} (hk : k < (W1 48 T).length) : nextP ((W1 48 T).take k) = none := by
  cases hn : nextP ((W1 48 T).take k) with
  | none => rfl
  | some p =>
    obtain ⟨t, x, y⟩ := p
    have hb := W1_bytes (t := 48) (by omega) hl hs
    obtain ⟨h1, h2, h3, h4⟩ := next_back (fun z hz => hb z (List.mem_of_mem_take hz)) hn
    have e : W1 48 T = t :: (lenB x.length ++ (x ++ (y ++ (W1 48 T).drop k))) := by
      calc W1 48 T = (W1 48 T).take k ++ (W1 48 T).drop k := (List.take_append_drop _ _).symm
        _ = _ := by rw [← h4]; simp
    have n1 : nextP (W1 48 T) = some (48, T, []) := by
      have := next_wrap (t := 48) (T := T) (more := []) (by decide) rfl (by omega)
      rwa [List.append_nil] at this
    have n2 := next_wrap (t := t) (T := x) (more := y ++ (W1 48 T).drop k) h1 rfl h3
    rw [← e, n1] at n2
    simp only [Option.some.injEq, Prod.mk.injEq] at n2
    have n3 := n2.2.2
    have : ((W1 48 T).drop k).length = 0 := by
      have h5 := congrArg List.length n3
      simp only [List.length_nil, List.length_append] at h5
      omega
    rw [List.length_drop] at this
    omega
theorem strip_cut {T : List Nat} (hs : ∀ x ∈ T, x < 256) (hl : T.length ≤ 1800) {k : Nat} (hk : k < (W1 48 T).length) : g17ok realA ((W1 48 T).take k) = true ∧ g17r2 realA ((W1 48 T).take k) = 2 := by
  have hb := W1_bytes (t := 48) (by omega) (by omega) hs
  have hw := (W1_len (t := 48) (T := T) (by omega)).1
  exact strip_bad (fun z hz => hb z (List.mem_of_mem_take hz)) (by rw [List.length_take]; omega) (.inl (next_pre hs (by omega) hk))
theorem strip_more {T more : List Nat} (hs : ∀ x ∈ T, x < 256) (hl : T.length ≤ 1800) (hm : ∀ x ∈ more, x < 256) (hml : more.length ≤ 100) (hne : more ≠ []) : g17ok realA (W1 48 T ++ more) = true ∧ g17r2 realA (W1 48 T ++ more) = 2 := by
  have hb := W1_bytes (t := 48) (by omega) (by omega) hs
  have hw := (W1_len (t := 48) (T := T) (by omega)).1
  have hn : nextP (W1 48 T ++ more) = some (48, T, more) := by
    have := next_wrap (t := 48) (T := T) (more := more) (by decide) rfl (by omega)
    unfold W1
    rw [List.cons_append, List.append_assoc]
    exact this
  exact strip_bad (fun z hz => by rcases List.mem_append.1 hz with h | h; exact hb z h; exact hm z h) (by rw [List.length_append]; omega) (.inr ⟨_, _, _, hn, hne⟩)
theorem hasP_v (a b : List Nat) : g26v realA a b = some (bO (if b.length ≤ a.length then decide (a.take b.length = b) else false)) := by
  have e : g27v realA a b = some (bO (if b.length ≤ a.length then decide (a.take b.length = b) else false)) := by
    unfold g27v
    generalize 100000 = N
    unfold g27
    rw [ar_ofN, ar_ofN, ar_geq, ar_negN, ar_toNN, ar_le, ar_sceq, List.drop_zero]
    by_cases h : b.length ≤ a.length
    · rw [decide_eq_true (by omega), if_pos h, decide_eq_true h]
    · rw [decide_eq_false (by omega), if_neg h]
  have e1 : g27ok realA a b = true := (congrArg g27is e).trans rfl
  have e2 : g27r0 realA a b = _ := (congrArg g27g0 e).trans rfl
  unfold g26v
  generalize 100000 = N
  unfold g26
  rw [e1, e2]
  rfl
theorem hasP_ok (a b : List Nat) : g26ok realA a b = true := (congrArg g26is (hasP_v a b)).trans rfl
theorem hasP_r (a b : List Nat) : g26r0 realA a b = if b.length ≤ a.length then decide (a.take b.length = b) else false := (congrArg g26g0 (hasP_v a b)).trans rfl
theorem wr_ok (a : Int) (b : List Nat) : g22ok realA a b = true := by
  have e : g22v realA a b = some (tS (wrapB a b).1) := by
    unfold g22v
    generalize 100000 = N
    unfold g22
    rw [wrap_ok, wrap_0]
  exact (congrArg g22is e).trans rfl
theorem wr_r (a : Int) (b : List Nat) : g22r0 realA a b = (wrapB a b).1 := by
  have e : g22v realA a b = some (tS (wrapB a b).1) := by
    unfold g22v
    generalize 100000 = N
    unfold g22
    rw [wrap_ok, wrap_0]
  exact (congrArg g22g0 e).trans rfl
theorem wrapB_len {a : Int} {b : List Nat} (h : b.length < 65536) : (wrapB a b).1.length ≤ b.length + 5 := by
  unfold wrapB
  split
  · simp
  · split
    · simp
    · split
      · simp
      · split
        · simp
        · have := lenB_len (n := b.length) (by omega)
          simp only [List.length_cons, List.length_append]
          omega
end Go.Sx
namespace Go.Sx
set_option linter.unusedSectionVars false
open Go.Proofs
set_option linter.unusedVariables false
theorem icn0 : realA.ic .neq 0 0 = false := rfl
theorem icn48 : realA.ic .neq 48 48 = false := rfl
def hasPz (x : List Nat) : Bool := if 12 ≤ x.length then decide (x.take 12 = [6, 10, 43, 6, 1, 4, 1, 214, 121, 2, 4, 3]) else false
def accS (acc x : List Nat) : List Nat := if hasPz x then acc else acc ++ (wrapB 48 x).1
def cntS (p : Nat) (x : List Nat) : Nat := if hasPz x then p + 1 else p
theorem cl_round {R : Type} (N m : Nat) (kk : AV → Heap → Option R) (acc x : List Nat) (p n i z : Nat) (tags : List Int) (texts rests : List (List Nat)) (hi : i < n) (hin : i < 1000) (ht : tags.getD i 0 = 48) (hx : texts.getD i [] = x) (hb : ∀ y ∈ x, y < 256) (hl : x.length ≤ 1000) (hp : (Prt x).2 = 0) (hp2 : 0 < (Prt x).1.1.length) (ha : acc.length ≤ 100000) (hpp : p < 1000) :
    g23L5 realA N kk (m + 1) acc (p : Int) n (n : Int) (i : Int) z tags texts rests = g23L5 realA N kk m (accS acc x) (cntS p x : Nat) n (n : Int) ((i + 1 : Nat) : Int) z tags texts rests := by
  obtain ⟨p0, p1, p2, p3, p4, p5, p6⟩ := parts_v hb (by omega : x.length < 1000000000000000)
  rw [g23L5, ar_lss, decide_eq_true (by omega)]
  simp only
  unfold g23J6
  rw [ar_negN, ar_toNN, ar_lt, decide_eq_true hi, ht, hx, p0, p1, p2, hp, icn48, icn0, ar_ofN, ar_eql, decide_eq_false (by omega)]
  simp only [icn0]
  unfold g23J10
  rw [hasP_ok, hasP_r]
  have hw := wrapB_len (a := 48) (b := x) (by omega)
  show (match (hasPz x) with | true => _ | false => _) = _
  cases hh : hasPz x with
  | true =>
    simp only
    have e1 : realA.ib .add .i64 (p : Int) 1 = ((p + 1 : Nat) : Int) := by rw [ar_add (by omega)]; omega
    have e2 : realA.ib .add .i64 (i : Int) 1 = ((i + 1 : Nat) : Int) := by rw [ar_add (by omega)]; omega
    rw [e1, e2]
    unfold accS cntS
    rw [hh]
    rfl
  | false =>
    simp only
    unfold g23J12
    have e2 : realA.ib .add .i64 (i : Int) 1 = ((i + 1 : Nat) : Int) := by rw [ar_add (by omega)]; omega
    rw [wr_ok, wr_r, ar_le, decide_eq_true (by omega), e2]
    unfold accS cntS
    rw [hh]
    rfl
theorem PT_ws : PT = ws [(6, oid), (1, [255]), (4, [5, 0])] := by decide
theorem PZ_W1 : PZ = W1 48 PT := by decide
theorem PT_prt : (Prt PT).2 = 0 ∧ 0 < (Prt PT).1.1.length := by
  obtain ⟨q1, q2, q3⟩ := Prt_ws (its := [(6, oid), (1, [255]), (4, [5, 0])]) (by decide) (by decide)
  rw [← PT_ws] at q1 q2
  exact ⟨q1, by rw [q2]; decide⟩
theorem PT_bytes : ∀ x ∈ PT, x < 256 := by decide
theorem PT_has : hasPz PT = true := by decide
theorem nm_prt {T : List Nat} (h : T.length ≤ 60) : (Prt (W1 6 T)).2 = 0 ∧ 0 < (Prt (W1 6 T)).1.1.length := by
  obtain ⟨q1, q2, q3⟩ := Prt_ws (its := [(6, T)]) (by intro p hp; simp at hp; subst hp; exact ⟨(by decide : (6 : Nat) % 32 ≠ 31), by show T.length < _; omega⟩) (by simp)
  rw [ws_one] at q1 q2
  exact ⟨q1, by rw [q2]; simp⟩
def exts3 (Q : List Nat) : List Nat := ws [(48, PT), (48, Q), (48, PT)]
theorem clean_two {T : List Nat} (hT : T.length ≤ 60) (hb : ∀ x ∈ T, x < 256) : g23ok realA (W1 48 (exts3 (W1 6 T))) = true ∧ g23r2 realA (W1 48 (exts3 (W1 6 T))) = true ∧ 1 < g23r1 realA (W1 48 (exts3 (W1 6 T))) ∧ (g23r0 realA (W1 48 (exts3 (W1 6 T)))).length < 100000000 := by
  have hq := W1_len (t := 6) (T := T) (by omega)
  have hqb := W1_bytes (t := 6) (T := T) (by omega) (by omega) hb
  generalize hQ : W1 6 T = Q at *
  have hqp : (Prt Q).2 = 0 ∧ 0 < (Prt Q).1.1.length := by rw [← hQ]; exact nm_prt hT
  have hits : ∀ p ∈ [(48, PT), (48, Q), (48, PT)], p.1 % 32 ≠ 31 ∧ p.2.length < 16777216 := by
    intro p hp
    simp only [List.mem_cons, List.not_mem_nil, or_false] at hp
    rcases hp with rfl | rfl | rfl
    · exact ⟨(by decide : (48 : Nat) % 32 ≠ 31), (by decide : PT.length < 16777216)⟩
    · exact ⟨(by decide : (48 : Nat) % 32 ≠ 31), by show Q.length < _; omega⟩
    · exact ⟨(by decide : (48 : Nat) % 32 ≠ 31), (by decide : PT.length < 16777216)⟩
  obtain ⟨q1, q2, q3⟩ := Prt_ws hits (by simp)
  have hw1 := W1_len (t := 48) (T := PT) (by decide)
  have hw2 := W1_len (t := 48) (T := Q) (by omega)
  have hpt : PT.length = 19 := rfl
  have he : exts3 Q = W1 48 PT ++ (W1 48 Q ++ W1 48 PT) := by unfold exts3; rw [ws_W1, ws_W1, ws_one]
  have hel : (exts3 Q).length ≤ 200 := by rw [he]; simp only [List.length_append]; omega
  have heb : ∀ x ∈ exts3 Q, x < 256 := by
    intro x hx
    rw [he] at hx
    rcases List.mem_append.1 hx with hx | hx
    · exact W1_bytes (by decide) (by decide) PT_bytes x hx
    · rcases List.mem_append.1 hx with hx | hx
      · exact W1_bytes (by decide) (by omega) hqb x hx
      · exact W1_bytes (by decide) (by decide) PT_bytes x hx
  obtain ⟨i0, i1, i2, i3, i4, i5, i6⟩ := inner_yes heb (by omega) q1
  have q2' : (Prt (exts3 Q)).1.1 = [48, 48, 48] := q2
  have q3' : (Prt (exts3 Q)).1.2.1 = [PT, Q, PT] := q3
  have e : ∃ (out : List Nat) (c : Nat), 2 ≤ c ∧ out.length < 100000000 ∧ g23v realA (W1 48 (exts3 Q)) = some (.tup [(.cell (.str out)), (.cell (.int .i64 c)), (.cell (.bool true))]) := by
    unfold g23v
    have hN : (100000 : Nat) = 99900 + 97 + 1 + 1 + 1 := rfl
    generalize hM : 99900 = M at hN
    rw [hN]
    clear hN hM
    unfold g23
    rw [i0, i1, i2, i3, i4, i5, q2', q3', ar_ofN]
    simp only [Bool.not_true]
    have r1 := cl_round (M + 97 + 1 + 1 + 1) (M + 97 + 1 + 1) (fun v _ => some v) [] PT 0 3 0 3 [48, 48, 48] [PT, Q, PT] (Prt (exts3 Q)).1.2.2 (by omega) (by omega) rfl rfl PT_bytes (by decide) PT_prt.1 PT_prt.2 (by simp) (by omega)
    have r2 := cl_round (M + 97 + 1 + 1 + 1) (M + 97 + 1) (fun v _ => some v) (accS [] PT) Q (cntS 0 PT) 3 1 3 [48, 48, 48] [PT, Q, PT] (Prt (exts3 Q)).1.2.2 (by omega) (by omega) rfl rfl hqb (by omega) hqp.1 hqp.2 (by decide) (by decide)
    have ha : (accS (accS [] PT) Q).length ≤ 1000 := by
      have hw := wrapB_len (a := 48) (b := Q) (by omega)
      have h0 : accS [] PT = [] := by decide
      rw [h0]
      unfold accS
      split
      · simp
      · simp only [List.nil_append]; omega
    have hc : cntS (cntS 0 PT) Q ≤ 2 ∧ 1 ≤ cntS (cntS 0 PT) Q := by
      have h0 : cntS 0 PT = 1 := by decide
      rw [h0]
      unfold cntS
      split <;> omega
    have r3 := cl_round (M + 97 + 1 + 1 + 1) (M + 97) (fun v _ => some v) (accS (accS [] PT) Q) PT (cntS (cntS 0 PT) Q) 3 2 3 [48, 48, 48] [PT, Q, PT] (Prt (exts3 Q)).1.2.2 (by omega) (by omega) rfl rfl PT_bytes (by decide) PT_prt.1 PT_prt.2 (by omega) (by omega)
    have hc3 : cntS (cntS (cntS 0 PT) Q) PT = cntS (cntS 0 PT) Q + 1 := by
      generalize cntS (cntS 0 PT) Q = u
      unfold cntS
      rw [PT_has]; rfl
    have ha3 : accS (accS (accS [] PT) Q) PT = accS (accS [] PT) Q := by
      generalize accS (accS [] PT) Q = u
      unfold accS
      rw [PT_has]; rfl
    rw [hc3, ha3] at r3
    have r4 : ∃ out : List Nat, out.length < 100000000 ∧ g23L5 realA (M + 97 + 1 + 1 + 1) (fun v _ => some v) (M + 97) (accS (accS [] PT) Q) ((cntS (cntS 0 PT) Q + 1 : Nat) : Int) 3 ((3 : Nat) : Int) ((3 : Nat) : Int) 3 [48, 48, 48] [PT, Q, PT] (Prt (exts3 Q)).1.2.2 = some (.tup [(.cell (.str out)), (.cell (.int .i64 ((cntS (cntS 0 PT) Q + 1 : Nat) : Int))), (.cell (.bool true))]) := by
      generalize accS (accS [] PT) Q = acc at ha ⊢
      rw [g23L5, ar_lss, decide_eq_false (by omega)]
      simp only
      unfold g23J14
      rw [ar_scne]
      by_cases h : acc = []
      · rw [decide_eq_true h]
        exact ⟨acc, by omega, rfl⟩
      · rw [decide_eq_false h, wr_ok, wr_ok, wr_r, wr_r]
        have w1 := wrapB_len (a := 48) (b := acc) (by omega)
        have w2 := wrapB_len (a := 163) (b := (wrapB 48 acc).1) (by omega)
        exact ⟨_, by omega, rfl⟩
    obtain ⟨out, ho, r4⟩ := r4
    exact ⟨out, cntS (cntS 0 PT) Q + 1, by omega, ho, r1.trans (r2.trans (r3.trans r4))⟩
  obtain ⟨out, c, hc, ho, e⟩ := e
  refine ⟨(congrArg g23is e).trans rfl, (congrArg g23g2 e).trans rfl, ?_, ?_⟩
  · have : g23r1 realA (W1 48 (exts3 Q)) = (c : Int) := (congrArg g23g1 e).trans rfl
    rw [this]; omega
  · have : g23r0 realA (W1 48 (exts3 Q)) = out := (congrArg g23g0 e).trans rfl
    rw [this]; exact ho
def body2 (T : List Nat) : List Nat := W1 2 [7] ++ W1 163 (W1 48 (exts3 (W1 6 T)))
theorem strip_two {T : List Nat} (hT : T.length ≤ 60) (hb : ∀ x ∈ T, x < 256) : g17ok realA (W1 48 (W1 48 (body2 T))) = true ∧ g17r2 realA (W1 48 (W1 48 (body2 T))) = 2 := by
  obtain ⟨c0, c1, c2, c3⟩ := clean_two hT hb
  have hq := W1_len (t := 6) (T := T) (by omega)
  have hqb := W1_bytes (t := 6) (T := T) (by omega) (by omega) hb
  have hpt : PT.length = 19 := rfl
  have he : exts3 (W1 6 T) = W1 48 PT ++ (W1 48 (W1 6 T) ++ W1 48 PT) := by unfold exts3; rw [ws_W1, ws_W1, ws_one]
  have hw1 := W1_len (t := 48) (T := PT) (by decide)
  have hw2 := W1_len (t := 48) (T := W1 6 T) (by omega)
  have hel : (exts3 (W1 6 T)).length ≤ 200 := by rw [he]; simp only [List.length_append]; omega
  have heb : ∀ x ∈ exts3 (W1 6 T), x < 256 := by
    intro x hx
    rw [he] at hx
    rcases List.mem_append.1 hx with hx | hx
    · exact W1_bytes (by decide) (by decide) PT_bytes x hx
    · rcases List.mem_append.1 hx with hx | hx
      · exact W1_bytes (by decide) (by omega) hqb x hx
      · exact W1_bytes (by decide) (by decide) PT_bytes x hx
  have hX := W1_len (t := 48) (T := exts3 (W1 6 T)) (by omega)
  have hXb := W1_bytes (t := 48) (by decide) (by omega) heb
  generalize hXX : W1 48 (exts3 (W1 6 T)) = X at *
  have hB : body2 T = ws [(2, [7]), (163, X)] := by
    unfold body2
    rw [ws_W1, ws_one, hXX]
  have hX2 := W1_len (t := 163) (T := X) (by omega)
  have hBl : (body2 T).length ≤ 1900 := by
    unfold body2
    rw [hXX]
    have : (W1 2 [7]).length = 3 := by decide
    simp only [List.length_append]
    omega
  have hBb : ∀ x ∈ body2 T, x < 256 := by
    intro x hx
    unfold body2 at hx
    rw [hXX] at hx
    rcases List.mem_append.1 hx with hx | hx
    · exact W1_bytes (t := 2) (T := [7]) (by decide) (by decide) (by decide) x hx
    · exact W1_bytes (by decide) (by omega) hXb x hx
  have hits : ∀ p ∈ [(2, [7]), (163, X)], p.1 % 32 ≠ 31 ∧ p.2.length < 16777216 := by
    intro p hp
    simp only [List.mem_cons, List.not_mem_nil, or_false] at hp
    rcases hp with rfl | rfl
    · exact ⟨(by decide : (2 : Nat) % 32 ≠ 31), (by decide : [7].length < 16777216)⟩
    · exact ⟨(by decide : (163 : Nat) % 32 ≠ 31), by show X.length < _; omega⟩
  obtain ⟨q1, q2, q3⟩ := Prt_ws hits (by simp)
  rw [← hB] at q1 q2 q3
  obtain ⟨b0, b1, b2, b3, b4⟩ := body_yes hBb hBl q1
  rw [q2] at b1 b3
  rw [q3] at b4
  have e : g17v realA (W1 48 (W1 48 (body2 T))) = some (.tup [(.cell (.str [])), (.cell (.bool false)), (.cell (.int .i64 2))]) := by
    unfold g17v
    have hN : (100000 : Nat) = 99900 + 97 + 1 + 1 + 1 := rfl
    generalize hM : 99900 = M at hN
    rw [hN]
    clear hN hM
    unfold g17
    rw [b0, b2, icn0]
    simp only
    unfold g17J4
    rw [b1, b3, b4, ar_ofN]
    show g17L6 realA _ (fun v _ => some v) _ [] 0 2 ((2 : Nat) : Int) ((0 : Nat) : Int) _ [((2 : Nat) : Int), ((163 : Nat) : Int)] [[7], X] _ = _
    rw [g17L6, ar_lss, decide_eq_true (by omega)]
    simp only
    unfold g17J7
    rw [ar_negN, ar_toNN, ar_lt, decide_eq_true (by omega)]
    simp only [List.getD_cons_zero]
    have hw3 := wrapB_len (a := ((2 : Nat) : Int)) (b := [7]) (by decide)
    have hl7 : [7].length = 1 := rfl
    rw [wr_ok, wr_r, ar_eql, decide_eq_false (by omega)]
    simp only
    rw [ar_le, decide_eq_true (by simp only [List.length_nil]; omega)]
    simp only
    have e2 : realA.ib .add .i64 ((0 : Nat) : Int) 1 = ((1 : Nat) : Int) := by rw [ar_add (by omega)]; rfl
    rw [e2, g17L6, ar_lss, decide_eq_true (by omega)]
    simp only
    unfold g17J7
    rw [ar_negN, ar_toNN, ar_lt, decide_eq_true (by omega)]
    simp only [List.getD_cons_succ, List.getD_cons_zero]
    rw [wr_ok, ar_eql, decide_eq_true (by omega), c0, c1]
    simp only [Bool.not_true]
    rw [ar_le, decide_eq_true (by simp only [List.nil_append]; omega)]
    simp only
    have e3 : realA.ib .add .i64 ((1 : Nat) : Int) 1 = ((2 : Nat) : Int) := by rw [ar_add (by omega)]; rfl
    rw [e3, g17L6a, ar_lss, decide_eq_false (by omega)]
    simp only
    unfold g17J17
    rw [ar_gtr, decide_eq_true c2]
  exact ⟨(congrArg g17is e).trans rfl, (congrArg g17g2 e).trans rfl⟩
end Go.Sx
namespace Go.Sx
set_option linter.unusedSectionVars false
open Go.Proofs
set_option linter.unusedVariables false
def Byt (l : List Nat) : Prop := ∀ x ∈ l, x < 256
theorem Byt_app {a b : List Nat} (h1 : Byt a) (h2 : Byt b) : Byt (a ++ b) := fun x hx => by
  rcases List.mem_append.1 hx with h | h
  · exact h1 x h
  · exact h2 x h
theorem Byt_take {a : List Nat} (n : Nat) (h1 : Byt a) : Byt (a.take n) := fun x hx => h1 x (List.mem_of_mem_take hx)
theorem Byt_getD {l : List (List Nat)} (h : ∀ s ∈ l, Byt s) (i : Nat) : Byt (l.getD i []) := by
  intro x hx
  by_cases hi : i < l.length
  · rw [List.getD_eq_getElem?_getD, List.getElem?_eq_getElem hi] at hx
    exact h _ (List.getElem_mem hi) x hx
  · rw [List.getD_eq_getElem?_getD, List.getElem?_eq_none (by omega)] at hx
    cases hx
def extB (s : List Nat) : List Nat := W1 48 (W1 6 [85, 29, 15] ++ W1 4 (s.take 60))
theorem extB_ok {s : List Nat} (h : Byt s) : (W1 6 [85, 29, 15] ++ W1 4 (s.take 60)).length ≤ 70 ∧ (extB s).length ≤ 75 ∧ Byt (extB s) := by
  have h1 := W1_len (t := 4) (T := s.take 60) (by have := cut_len s; omega)
  have h2 := cut_len s
  have h3 : (W1 6 [85, 29, 15]).length = 5 := by decide
  have h4 : (W1 6 [85, 29, 15] ++ W1 4 (s.take 60)).length ≤ 70 := by rw [List.length_append]; omega
  have h5 := W1_len (t := 48) (T := W1 6 [85, 29, 15] ++ W1 4 (s.take 60)) (by omega)
  refine ⟨h4, by unfold extB; omega, ?_⟩
  exact W1_bytes (by decide) (by omega) (Byt_app (W1_bytes (t := 6) (T := [85, 29, 15]) (by decide) (by decide) (by decide)) (W1_bytes (by decide) (by omega) (Byt_take 60 h)))
theorem PZ_byt : Byt PZ := by unfold Byt; decide
theorem PZ_len : PZ.length = 21 := rfl
section
variable {R : Type} (N : Nat) (kk : AV → Heap → Option R) (n ty z : Nat) (l : List (List Nat)) (nm key : List Nat) (ver : Bool) (poi : Int)
theorem c_J11 (f : List Nat → List Nat → Int → Nat → Nat → List (List Nat) → List Nat → List Nat → Bool → Nat → Int → Option R) (hl : ∀ s ∈ l, Byt s) (b acc : List Nat) (i : Nat) (hi : i < n) (hi5 : i < 5) (ha : acc.length ≤ 1000) :
    g18a_J11 realA N kk f b acc (i : Int) ty z l nm key ver n poi = f b (acc ++ extB (l.getD i [])) ((i + 1 : Nat) : Int) ty z l nm key ver n poi := by
  unfold g18a_J11
  have hx := extB_ok (Byt_getD hl i)
  have hc := cut_len (l.getD i [])
  have h1 := W1_len (t := 4) (T := (l.getD i []).take 60) (by omega)
  rw [item_ok (by decide) (by decide), ar_negN, ar_toNN, ar_lt, decide_eq_true hi, cut_ok, cut_r, item_ok (by decide) (by omega), item_r (by decide) (by decide), item_r (by decide) (by omega)]
  show (match realA.le ((W1 6 [85, 29, 15]).length + (W1 4 ((l.getD i []).take 60)).length) 9223372036854775807 with | true => _ | false => _) = _
  have h3 : (W1 6 [85, 29, 15]).length = 5 := by decide
  rw [ar_le, decide_eq_true (by omega)]
  show (match g14ok realA 48 (W1 6 [85, 29, 15] ++ W1 4 ((l.getD i []).take 60)) with | true => _ | false => _) = _
  rw [item_ok (by decide) (by omega)]
  show (match realA.le (acc.length + (g14r0 realA 48 (W1 6 [85, 29, 15] ++ W1 4 ((l.getD i []).take 60))).length) 9223372036854775807 with | true => f b (acc ++ g14r0 realA 48 (W1 6 [85, 29, 15] ++ W1 4 ((l.getD i []).take 60))) _ _ _ _ _ _ _ _ _ | false => _) = _
  rw [item_r (by decide) (by omega)]
  show (match realA.le (acc.length + (extB (l.getD i [])).length) 9223372036854775807 with | true => f b (acc ++ extB (l.getD i [])) _ _ _ _ _ _ _ _ _ | false => _) = _
  have e2 : realA.ib .add .i64 (i : Int) 1 = ((i + 1 : Nat) : Int) := by rw [ar_add (by omega)]; omega
  rw [ar_le, decide_eq_true (by omega), e2]
theorem c_L7 (hl : ∀ s ∈ l, Byt s) (b : List Nat) : ∀ (d m i : Nat) (acc : List Nat), i + d = 5 → d + 1 ≤ m → acc.length ≤ 100 * i → Byt acc → ∃ ext : List Nat, ext.length ≤ 600 ∧ Byt ext ∧ g18a_L7 realA N kk m b acc (i : Int) ty z l nm key ver n poi = g18a_J12 realA N kk b ext ty z l nm key ver n poi := by
  intro d
  induction d with
  | zero =>
    intro m i acc h1 h2 h3 h4
    obtain ⟨m, rfl⟩ : ∃ m', m = m' + 1 := ⟨m - 1, by omega⟩
    refine ⟨acc, by omega, h4, ?_⟩
    rw [g18a_L7, ar_lss, ar_lss, decide_eq_false (by omega : ¬ (i : Int) < 5)]
    cases decide ((i : Int) < realA.ofN n) <;> rfl
  | succ d ih =>
    intro m i acc h1 h2 h3 h4
    obtain ⟨m, rfl⟩ : ∃ m', m = m' + 1 := ⟨m - 1, by omega⟩
    rw [g18a_L7, ar_ofN, ar_lss, ar_lss, decide_eq_true (by omega : (i : Int) < 5)]
    by_cases hin : i < n
    · rw [decide_eq_true (by omega)]
      simp only
      unfold g18a_J9
      rw [ar_eql]
      have hx := extB_ok (Byt_getD hl i)
      by_cases hp : (i : Int) = poi
      · rw [decide_eq_true hp, pz_ok, pz_r, ar_le, decide_eq_true (by rw [PZ_len]; omega)]
        simp only
        rw [c_J11 N kk n ty z l nm key ver poi _ hl b _ i hin (by omega) (by rw [List.length_append, PZ_len]; omega)]
        exact ih m (i + 1) _ (by omega) (by omega) (by rw [List.length_append, List.length_append, PZ_len]; omega) (Byt_app (Byt_app h4 PZ_byt) hx.2.2)
      · rw [decide_eq_false hp]
        simp only
        rw [c_J11 N kk n ty z l nm key ver poi _ hl b _ i hin (by omega) (by omega)]
        exact ih m (i + 1) _ (by omega) (by omega) (by rw [List.length_append]; omega) (Byt_app h4 hx.2.2)
    · rw [decide_eq_false (by omega)]
      exact ⟨acc, by omega, h4, rfl⟩
theorem c_J16 (b : List Nat) (hb : b.length ≤ 1200) (hB : Byt b) : ∃ T : List Nat, T.length ≤ 1300 ∧ Byt T ∧ g18a_J16 realA N kk b ty z l = kk (tS (W1 48 T)) [(0, ⟨[.strs z l], ty, 0⟩)] := by
  unfold g18a_J16
  have h1 := W1_len (t := 48) (T := b) (by omega)
  have h2 : (W1 48 [5, 0]).length = 4 := by decide
  have h3 : (W1 3 [0, 115, 105, 103]).length = 6 := by decide
  refine ⟨(W1 48 b ++ W1 48 [5, 0]) ++ W1 3 [0, 115, 105, 103], by simp only [List.length_append]; omega, Byt_app (Byt_app (W1_bytes (by decide) (by omega) hB) (W1_bytes (t := 48) (T := [5, 0]) (by decide) (by decide) (by decide))) (W1_bytes (t := 3) (T := [0, 115, 105, 103]) (by decide) (by decide) (by decide)), ?_⟩
  have hl : ((W1 48 b ++ W1 48 [5, 0]) ++ W1 3 [0, 115, 105, 103]).length < 65536 := by simp only [List.length_append]; omega
  have i1 : g14ok realA 48 b = true := item_ok (by decide) (by omega)
  have i2 : g14r0 realA 48 b = W1 48 b := item_r (by decide) (by omega)
  have i3 : g14ok realA 48 [5, 0] = true := item_ok (by decide) (by decide)
  have i4 : g14r0 realA 48 [5, 0] = W1 48 [5, 0] := item_r (by decide) (by decide)
  have i5 : g14ok realA 3 [0, 115, 105, 103] = true := item_ok (by decide) (by decide)
  have i6 : g14r0 realA 3 [0, 115, 105, 103] = W1 3 [0, 115, 105, 103] := item_r (by decide) (by decide)
  have i7 : g14ok realA 48 ((W1 48 b ++ W1 48 [5, 0]) ++ W1 3 [0, 115, 105, 103]) = true := item_ok (by decide) hl
  have i8 : g14r0 realA 48 ((W1 48 b ++ W1 48 [5, 0]) ++ W1 3 [0, 115, 105, 103]) = W1 48 ((W1 48 b ++ W1 48 [5, 0]) ++ W1 3 [0, 115, 105, 103]) := item_r (by decide) hl
  rw [i1, i2, i3, i4, i5, i6, i7, i8, ar_le, ar_le, decide_eq_true (by omega), decide_eq_true (by rw [List.length_append]; omega)]
theorem c_J14 (b ext : List Nat) (hb : b.length ≤ 300) (hB : Byt b) (he : ext.length ≤ 700) (hE : Byt ext) : ∃ T : List Nat, T.length ≤ 1300 ∧ Byt T ∧ g18a_J14 realA N kk b ext ty z l = kk (tS (W1 48 T)) [(0, ⟨[.strs z l], ty, 0⟩)] := by
  unfold g18a_J14
  rw [ar_scne]
  by_cases h : ext = []
  · rw [decide_eq_true h]
    exact c_J16 N kk ty z l b (by omega) hB
  · rw [decide_eq_false h]
    have h1 := W1_len (t := 48) (T := ext) (by omega)
    have h2 := W1_len (t := 163) (T := W1 48 ext) (by omega)
    have i1 : g14ok realA 48 ext = true := item_ok (by decide) (by omega)
    have i2 : g14r0 realA 48 ext = W1 48 ext := item_r (by decide) (by omega)
    have i3 : g14ok realA 163 (W1 48 ext) = true := item_ok (by decide) (by omega)
    have i4 : g14r0 realA 163 (W1 48 ext) = W1 163 (W1 48 ext) := item_r (by decide) (by omega)
    rw [i1, i2, i3, i4, ar_le, decide_eq_true (by omega)]
    exact c_J16 N kk ty z l _ (by rw [List.length_append]; omega) (Byt_app hB (W1_bytes (by decide) (by omega) (W1_bytes (by decide) (by omega) hE)))
theorem c_J12 (b ext : List Nat) (hb : b.length ≤ 300) (hB : Byt b) (he : ext.length ≤ 600) (hE : Byt ext) : ∃ T : List Nat, T.length ≤ 1300 ∧ Byt T ∧ g18a_J12 realA N kk b ext ty z l nm key ver n poi = kk (tS (W1 48 T)) [(0, ⟨[.strs z l], ty, 0⟩)] := by
  unfold g18a_J12
  cases realA.ic .eql poi (realA.mn (realA.ofN n) 5) with
  | false => exact c_J14 N kk ty z l b ext hb hB (by omega) hE
  | true =>
    simp only
    rw [pz_ok, pz_r, ar_le, decide_eq_true (by rw [PZ_len]; omega)]
    exact c_J14 N kk ty z l b _ hb hB (by rw [List.length_append, PZ_len]; omega) (Byt_app hE PZ_byt)
theorem c_J4 (b : List Nat) (hN : 100 ≤ N) (hl : ∀ s ∈ l, Byt s) (hn : Byt nm) (hk : Byt key) (hb : b.length ≤ 10) (hB : Byt b) : ∃ T : List Nat, T.length ≤ 1300 ∧ Byt T ∧ g18a_J4 realA N kk b ty z l nm key ver n poi = kk (tS (W1 48 T)) [(0, ⟨[.strs z l], ty, 0⟩)] := by
  unfold g18a_J4
  have c1 := cut_len nm
  have c2 := cut_len key
  have h1 := W1_len (t := 4) (T := nm.take 60) (by omega)
  have h2 := W1_len (t := 48) (T := W1 4 (nm.take 60)) (by omega)
  have h3 := W1_len (t := 3) (T := key.take 60) (by omega)
  have h4 := W1_len (t := 48) (T := W1 3 (key.take 60)) (by omega)
  have b1 := W1_bytes (t := 48) (T := W1 4 (nm.take 60)) (by decide) (by omega) (W1_bytes (by decide) (by omega) (Byt_take 60 hn))
  have b2 := W1_bytes (t := 48) (T := W1 3 (key.take 60)) (by decide) (by omega) (W1_bytes (by decide) (by omega) (Byt_take 60 hk))
  have i1 : g14ok realA 2 [7] = true := item_ok (by decide) (by decide)
  have i2 : g14r0 realA 2 [7] = [2, 1, 7] := item_r (by decide) (by decide)
  have i3 : g14ok realA 48 [5, 0] = true := item_ok (by decide) (by decide)
  have i4 : g14r0 realA 48 [5, 0] = [48, 2, 5, 0] := item_r (by decide) (by decide)
  have i5 : g14ok realA 48 [] = true := item_ok (by decide) (by decide)
  have i6 : g14r0 realA 48 [] = [48, 0] := item_r (by decide) (by decide)
  have i7 : g14ok realA 4 (nm.take 60) = true := item_ok (by decide) (by omega)
  have i8 : g14r0 realA 4 (nm.take 60) = W1 4 (nm.take 60) := item_r (by decide) (by omega)
  have i9 : g14ok realA 48 (W1 4 (nm.take 60)) = true := item_ok (by decide) (by omega)
  have j0 : g14r0 realA 48 (W1 4 (nm.take 60)) = W1 48 (W1 4 (nm.take 60)) := item_r (by decide) (by omega)
  have j1 : g14ok realA 3 (key.take 60) = true := item_ok (by decide) (by omega)
  have j2 : g14r0 realA 3 (key.take 60) = W1 3 (key.take 60) := item_r (by decide) (by omega)
  have j3 : g14ok realA 48 (W1 3 (key.take 60)) = true := item_ok (by decide) (by omega)
  have j4 : g14r0 realA 48 (W1 3 (key.take 60)) = W1 48 (W1 3 (key.take 60)) := item_r (by decide) (by omega)
  rw [i1, i2, i3, i4, i5, i6, cut_ok, cut_r, i7, i8, i9, j0, cut_ok, cut_r, j1, j2, j3, j4]
  generalize hX : W1 48 (W1 4 (nm.take 60)) = X at *
  generalize hY : W1 48 (W1 3 (key.take 60)) = Y at *
  simp only [ar_le, List.length_append, List.length_cons, List.length_nil]
  rw [decide_eq_true (by omega), decide_eq_true (by omega), decide_eq_true (by omega), decide_eq_true (by omega), decide_eq_true (by omega), decide_eq_true (by omega)]
  simp only
  obtain ⟨ext, e1, e2, e3⟩ := c_L7 N kk n ty z l nm key ver poi hl (((((b ++ [2, 1, 7]) ++ [48, 2, 5, 0]) ++ [48, 0]) ++ [48, 0]) ++ X ++ Y) 5 N 0 [] (by omega) (by omega) (by simp) (by intro x hx; cases hx)
  have e3' : g18a_L7 realA N kk N (((((b ++ [2, 1, 7]) ++ [48, 2, 5, 0]) ++ [48, 0]) ++ [48, 0]) ++ X ++ Y) [] 0 ty z l nm key ver n poi = _ := e3
  rw [e3']
  refine c_J12 N kk n ty z l nm key ver poi _ ext (by simp only [List.length_append, List.length_cons, List.length_nil]; omega) ?_ e1 e2
  refine Byt_app (Byt_app (Byt_app (Byt_app (Byt_app (Byt_app hB ?_) ?_) ?_) ?_) b1) b2 <;> (unfold Byt; decide)
end
theorem cert_v (n ty z : Nat) (l : List (List Nat)) (nm key : List Nat) (ver : Bool) (poi : Int) (hl : ∀ s ∈ l, Byt s) (hn : Byt nm) (hk : Byt key) : ∃ T : List Nat, T.length ≤ 1300 ∧ Byt T ∧ g18a_ok realA nm key ver n poi ty z l = true ∧ g18a_r0 realA nm key ver n poi ty z l = W1 48 T ∧ g18a_r1 realA nm key ver n poi ty z l = ty ∧ g18a_r2 realA nm key ver n poi ty z l = z ∧ g18a_r3 realA nm key ver n poi ty z l = l := by
  have e : ∃ T : List Nat, T.length ≤ 1300 ∧ Byt T ∧ g18a_v realA nm key ver n poi ty z l = some (tS (W1 48 T), [(0, ⟨[.strs z l], ty, 0⟩)]) := by
    unfold g18a_v
    have hN : 100 ≤ 100000 := by decide
    generalize 100000 = N at hN
    unfold g18a_
    cases ver with
    | true =>
      simp only
      have i1 : g14ok realA 160 [2, 1, 2] = true := item_ok (by decide) (by decide)
      have i2 : g14r0 realA 160 [2, 1, 2] = [160, 3, 2, 1, 2] := item_r (by decide) (by decide)
      rw [i1, i2]
      exact c_J4 N (outH [0] none) n ty z l nm key true poi [160, 3, 2, 1, 2] hN hl hn hk (by decide) (by unfold Byt; decide)
    | false => exact c_J4 N (outH [0] none) n ty z l nm key false poi [] hN hl hn hk (by decide) (by unfold Byt; decide)
  obtain ⟨T, t1, t2, e⟩ := e
  exact ⟨T, t1, t2, (congrArg g18a_is e).trans rfl, (congrArg g18a_g0 e).trans rfl, (congrArg g18a_g1 e).trans rfl, (congrArg g18a_g2 e).trans rfl, (congrArg g18a_g3 e).trans rfl⟩
end Go.Sx
namespace Go.Sx
set_option linter.unusedSectionVars false
open Go.Proofs
set_option linter.unusedVariables false
theorem wrapB_lenA (a : Int) (b : List Nat) : (wrapB a b).1.length ≤ b.length + 5 := by
  unfold wrapB
  split
  · simp
  · split
    · simp
    · split
      · simp
      · split
        · simp
        · have := lenB_len (n := b.length) (by omega)
          simp only [List.length_cons, List.length_append]
          omega
def Sm (x : List Nat) : Prop := Byt x ∧ x.length ≤ 2000
theorem next_sm {s : List Nat} (hs : Sm s) {t : Nat} {x y : List Nat} (h : nextP s = some (t, x, y)) : Sm x ∧ Sm y := by
  obtain ⟨h1, h2, h3, h4⟩ := next_back hs.1 h
  have hl := hs.2
  rw [← h4] at hl
  simp only [List.length_cons, List.length_append] at hl
  refine ⟨⟨fun z hz => hs.1 z ?_, by omega⟩, ⟨fun z hz => hs.1 z ?_, by omega⟩⟩
  · rw [← h4]; simp [hz]
  · rw [← h4]; simp [hz]
theorem prt_sm : ∀ (f : Nat) (s : List Nat) (a : List Int) (b c : List (List Nat)), Sm s → (∀ x ∈ b, Sm x) → a.length ≤ 100 → (prt f s a b c).1.1.length ≤ 100 ∧ ∀ x ∈ (prt f s a b c).1.2.1, Sm x := by
  intro f
  induction f with
  | zero => intro s a b c _ _ _; exact ⟨by simp [prt], by simp [prt]⟩
  | succ f ih =>
    intro s a b c hs hb ha
    rw [prt]
    split
    · exact ⟨ha, hb⟩
    · split
      · exact ⟨by simp, by simp⟩
      · rename_i t x y hn
        split
        · exact ⟨by simp, by simp⟩
        · obtain ⟨h1, h2⟩ := next_sm hs hn
          refine ih y _ _ _ h2 (fun z hz => ?_) (by simp; omega)
          rcases List.mem_append.1 hz with h | h
          · exact hb z h
          · rw [List.mem_singleton.1 h]; exact h1
theorem Prt_sm {s : List Nat} (hs : Sm s) : (Prt s).1.1.length ≤ 100 ∧ ∀ x ∈ (Prt s).1.2.1, Sm x := prt_sm 101 s [] [] [] hs (by intro x hx; cases hx) (by simp)
theorem Sm_getD {l : List (List Nat)} (h : ∀ s ∈ l, Sm s) (i : Nat) : Sm (l.getD i []) := by
  by_cases hi : i < l.length
  · rw [List.getD_eq_getElem?_getD, List.getElem?_eq_getElem hi]
    exact h _ (List.getElem_mem hi)
  · rw [List.getD_eq_getElem?_getD, List.getElem?_eq_none (by omega)]
    exact ⟨(by intro x hx; cases hx), by simp⟩
theorem inner_tot {s : List Nat} (hs : Sm s) : g25ok realA s = true ∧ g25r0 realA s ≤ 100 ∧ ∀ x ∈ g25r4 realA s, Sm x := by
  have hl := hs.2
  have e : ∃ (n : Nat) (tags : List Int) (texts rests : List (List Nat)) (b : Bool), n ≤ 100 ∧ (∀ x ∈ texts, Sm x) ∧ g25v realA s = some (.tup [(.cell (.sl 700 none n 3)), (.cell (.bool b))], [(700, ⟨[.recs n [.ints .i64 tags, .strs texts, .strs rests]], 24, 2⟩)]) := by
    unfold g25v
    generalize 100000 = N
    unfold g25
    rw [next_ok hs.1 (by omega), next_0 hs.1 (by omega), next_1 hs.1 (by omega), next_2 hs.1 (by omega), next_3 hs.1 (by omega)]
    simp only
    have h0 : ∃ (n : Nat) (tags : List Int) (texts rests : List (List Nat)) (b : Bool), n ≤ 100 ∧ (∀ x ∈ texts, Sm x) ∧ outH [] none (AV.tup [V1.cell (Cell.sl 4000 none 0 3), V1.cell (Cell.bool false)]) [(4000, ⟨[Seg.recs 0 [Col.ints IntKind.i64 [], Col.strs [], Col.strs []]], 24, 2⟩)] = some (.tup [(.cell (.sl 700 none n 3)), (.cell (.bool b))], [(700, ⟨[.recs n [.ints .i64 tags, .strs texts, .strs rests]], 24, 2⟩)]) :=
      ⟨0, [], [], [], false, by omega, (by intro x hx; cases hx), rfl⟩
    cases h1 : realA.ic .neq (nx3 (nextP s)) 0 with
    | true => exact h0
    | false =>
      simp only
      cases h2 : realA.ic .neq (nx0 (nextP s)) 48 with
      | true => exact h0
      | false =>
        simp only
        cases h3 : realA.sc .neq (nx2 (nextP s)) [] with
        | true => exact h0
        | false =>
          simp only
          unfold g25J4
          have hx : Sm (nx1 (nextP s)) := by
            cases hn : nextP s with
            | none => exact ⟨(by intro x hx; cases hx), by simp [nx1]⟩
            | some p =>
              obtain ⟨t, x, y⟩ := p
              exact (next_sm hs hn).1
          have hxl := hx.2
          obtain ⟨p0, p1, p2, p3, p4, p5, p6⟩ := parts_v hx.1 (by omega : (nx1 (nextP s)).length < 1000000000000000)
          rw [p0, p1, p2, p3, p4, p5, p6]
          obtain ⟨r1, r2⟩ := Prt_sm hx
          exact ⟨_, _, _, _, _, r1, r2, rfl⟩
  obtain ⟨n, tags, texts, rests, b, h1, h2, e⟩ := e
  have e4 : g25r4 realA s = texts := (congrArg g25g4 e).trans rfl
  have e0 : g25r0 realA s = n := (congrArg g25g0 e).trans rfl
  exact ⟨(congrArg g25is e).trans rfl, by rw [e0]; exact h1, by rw [e4]; exact h2⟩
theorem body_tot {s : List Nat} (hs : Sm s) : g21ok realA s = true ∧ g21r0 realA s ≤ 100 ∧ ∀ x ∈ g21r4 realA s, Sm x := by
  have hl := hs.2
  obtain ⟨i0, i1, i2⟩ := inner_tot hs
  have e : ∃ (n : Nat) (tags : List Int) (texts rests : List (List Nat)) (b : Int), n ≤ 100 ∧ (∀ x ∈ texts, Sm x) ∧ g21v realA s = some (.tup [(.cell (.sl 700 none n 3)), (.cell (.int .i64 b))], [(700, ⟨[.recs n [.ints .i64 tags, .strs texts, .strs rests]], 24, 2⟩)]) := by
    unfold g21v
    generalize 100000 = N
    unfold g21
    rw [ar_ofN, ar_gtr, decide_eq_false (by omega)]
    simp only
    unfold g21J3
    rw [i0]
    simp only
    have h0 : ∃ (n : Nat) (tags : List Int) (texts rests : List (List Nat)) (b : Int), n ≤ 100 ∧ (∀ x ∈ texts, Sm x) ∧ outH [] none (AV.tup [V1.cell (Cell.sl 6000 none 0 3), V1.cell (Cell.int .i64 2)]) [(6000, ⟨[Seg.recs 0 [Col.ints IntKind.i64 [], Col.strs [], Col.strs []]], 24, 2⟩)] = some (.tup [(.cell (.sl 700 none n 3)), (.cell (.int .i64 b))], [(700, ⟨[.recs n [.ints .i64 tags, .strs texts, .strs rests]], 24, 2⟩)]) :=
      ⟨0, [], [], [], 2, by omega, (by intro x hx; cases hx), rfl⟩
    cases h1 : !(g25r1 realA s) with
    | true => exact h0
    | false =>
      simp only
      rw [ar_ofN, ar_eql]
      by_cases h2 : g25r0 realA s = 0
      · rw [decide_eq_true (by omega)]
        exact h0
      · rw [decide_eq_false (by omega), show Nat.blt 0 (g25r0 realA s) = true from by rw [Nat.blt_eq]; omega]
        simp only
        cases h3 : realA.ic .neq ((g25r3 realA s).getD 0 0) 48 with
        | true => exact h0
        | false =>
          simp only
          unfold g21J6
          have hx := Sm_getD i2 0
          have hxl := hx.2
          obtain ⟨p0, p1, p2, p3, p4, p5, p6⟩ := parts_v hx.1 (by omega : ((g25r4 realA s).getD 0 []).length < 1000000000000000)
          rw [show Nat.blt 0 (g25r0 realA s) = true from by rw [Nat.blt_eq]; omega]
          simp only
          rw [p0, p1, p2, p3, p4, p5, p6]
          simp only
          cases h4 : realA.ic .neq (Prt ((g25r4 realA s).getD 0 [])).2 0 with
          | true => exact ⟨0, [], [], [], 2, by omega, (by intro x hx; cases hx), rfl⟩
          | false =>
            obtain ⟨r1, r2⟩ := Prt_sm hx
            exact ⟨_, _, _, _, _, r1, r2, rfl⟩
  obtain ⟨n, tags, texts, rests, b, h1, h2, e⟩ := e
  have e4 : g21r4 realA s = texts := (congrArg g21g4 e).trans rfl
  have e0 : g21r0 realA s = n := (congrArg g21g0 e).trans rfl
  exact ⟨(congrArg g21is e).trans rfl, by rw [e0]; exact h1, by rw [e4]; exact h2⟩
def ClOut (o : Option AV) : Prop := ∃ (out : List Nat) (c : Int) (b : Bool), out.length ≤ 1000000 ∧ o = some (.tup [(.cell (.str out)), (.cell (.int .i64 c)), (.cell (.bool b))])
theorem cl_tot (N n z : Nat) (tags : List Int) (texts rests : List (List Nat)) (hn : n ≤ 100) (ht : ∀ x ∈ texts, Sm x) : ∀ (d m i : Nat) (acc : List Nat) (p : Int), i + d = n → d + 1 ≤ m → acc.length ≤ 2010 * i → ClOut (g23L5 realA N (fun v _ => some v) m acc p n (n : Int) (i : Int) z tags texts rests) := by
  intro d
  induction d with
  | zero =>
    intro m i acc p h1 h2 h3
    obtain ⟨m, rfl⟩ : ∃ m', m = m' + 1 := ⟨m - 1, by omega⟩
    rw [g23L5, ar_lss, decide_eq_false (by omega)]
    simp only
    unfold g23J14
    rw [ar_scne]
    by_cases h : acc = []
    · rw [decide_eq_true h]
      exact ⟨acc, _, _, by omega, rfl⟩
    · rw [decide_eq_false h, wr_ok, wr_ok, wr_r, wr_r]
      have w1 := wrapB_lenA 48 acc
      have w2 := wrapB_lenA 163 (wrapB 48 acc).1
      exact ⟨_, _, _, by omega, rfl⟩
  | succ d ih =>
    intro m i acc p h1 h2 h3
    obtain ⟨m, rfl⟩ : ∃ m', m = m' + 1 := ⟨m - 1, by omega⟩
    rw [g23L5, ar_lss, decide_eq_true (by omega)]
    simp only
    unfold g23J6
    have hx := Sm_getD ht i
    have hxl := hx.2
    obtain ⟨p0, p1, p2, p3, p4, p5, p6⟩ := parts_v hx.1 (by omega : (texts.getD i []).length < 1000000000000000)
    rw [ar_negN, ar_toNN, ar_lt, decide_eq_true (by omega), p0, p1, p2]
    simp only
    have h0 : ClOut (some (.tup [(.cell (.str [])), (.cell (.int .i64 0)), (.cell (.bool false))])) := ⟨[], 0, false, by simp, rfl⟩
    cases realA.ic .neq (tags.getD i 0) 48 with
    | true => exact h0
    | false =>
      simp only
      cases realA.ic .neq (Prt (texts.getD i [])).2 0 with
      | true => exact h0
      | false =>
        simp only
        cases realA.ic .eql (realA.ofN (Prt (texts.getD i [])).1.1.length) 0 with
        | true => exact h0
        | false =>
          simp only
          unfold g23J10
          have e2 : realA.ib .add .i64 (i : Int) 1 = ((i + 1 : Nat) : Int) := by rw [ar_add (by omega)]; omega
          rw [hasP_ok]
          simp only
          cases g26r0 realA (texts.getD i []) [6, 10, 43, 6, 1, 4, 1, 214, 121, 2, 4, 3] with
          | true =>
            simp only
            rw [e2]
            exact ih m (i + 1) acc _ (by omega) (by omega) (by omega)
          | false =>
            simp only
            unfold g23J12
            have hw := wrapB_lenA 48 (texts.getD i [])
            rw [wr_ok, wr_r, ar_le, decide_eq_true (by omega), e2]
            exact ih m (i + 1) _ _ (by omega) (by omega) (by rw [List.length_append]; omega)
theorem clean_tot {s : List Nat} (hs : Sm s) : g23ok realA s = true ∧ (g23r0 realA s).length ≤ 1000000 := by
  obtain ⟨i0, i1, i2⟩ := inner_tot hs
  have e : ClOut (g23v realA s) := by
    unfold g23v
    have hN : 200 ≤ 100000 := by decide
    generalize 100000 = N at hN
    unfold g23
    rw [i0]
    simp only
    cases !(g25r1 realA s) with
    | true => exact ⟨[], 0, false, by simp, rfl⟩
    | false =>
      simp only
      exact cl_tot N (g25r0 realA s) _ _ _ _ i1 i2 (g25r0 realA s) N 0 [] 0 (by omega) (by omega) (by simp)
  obtain ⟨out, c, b, h1, e⟩ := e
  have e0 : g23r0 realA s = out := (congrArg g23g0 e).trans rfl
  exact ⟨(congrArg g23is e).trans rfl, by rw [e0]; exact h1⟩
def StOut (o : Option AV) : Prop := ∃ (out : List Nat) (b : Bool) (c : Int), o = some (.tup [(.cell (.str out)), (.cell (.bool b)), (.cell (.int .i64 c))])
theorem st_J17 (N : Nat) (acc : List Nat) (p : Int) : StOut (g17J17 realA N (fun v _ => some v) acc p) := by
  unfold g17J17
  cases realA.ic .gtr p 1 with
  | true => exact ⟨_, _, _, rfl⟩
  | false =>
    simp only
    cases realA.ic .eql p 0 with
    | true => exact ⟨_, _, _, rfl⟩
    | false =>
      simp only
      unfold g17J21
      rw [wr_ok]
      exact ⟨_, _, _, rfl⟩
theorem st_tota (N n z : Nat) (tags : List Int) (texts rests : List (List Nat)) (hn : n ≤ 100) (ht : ∀ x ∈ texts, Sm x) : ∀ (d m i : Nat) (acc : List Nat) (p : Int), i + d = n → d + 1 ≤ m → acc.length ≤ 2000000 + 2010 * i → StOut (g17L6a realA N (fun v _ => some v) m acc p n (n : Int) (i : Int) z tags texts rests) := by
  intro d
  induction d with
  | zero =>
    intro m i acc p h1 h2 h3
    obtain ⟨m, rfl⟩ : ∃ m', m = m' + 1 := ⟨m - 1, by omega⟩
    rw [g17L6a, ar_lss, decide_eq_false (by omega)]
    exact st_J17 N acc p
  | succ d ih =>
    intro m i acc p h1 h2 h3
    obtain ⟨m, rfl⟩ : ∃ m', m = m' + 1 := ⟨m - 1, by omega⟩
    rw [g17L6a, ar_lss, decide_eq_true (by omega)]
    simp only
    unfold g17J7a
    have hx := Sm_getD ht i
    have hxl := hx.2
    have hw := wrapB_lenA (tags.getD i 0) (texts.getD i [])
    have e2 : realA.ib .add .i64 (i : Int) 1 = ((i + 1 : Nat) : Int) := by rw [ar_add (by omega)]; omega
    rw [ar_negN, ar_toNN, ar_lt, decide_eq_true (by omega), wr_ok, wr_r, ar_le, decide_eq_true (by omega), e2]
    have := ih m (i + 1) (acc ++ (wrapB (tags.getD i 0) (texts.getD i [])).1) p (by omega) (by omega) (by rw [List.length_append]; omega)
    cases realA.ic .eql (tags.getD i 0) 163 with
    | true => exact this
    | false => exact this
theorem st_tot (N n z : Nat) (tags : List Int) (texts rests : List (List Nat)) (hn : n ≤ 100) (ht : ∀ x ∈ texts, Sm x) : ∀ (d m i : Nat) (acc : List Nat) (p : Int), i + d = n → d + 1 ≤ m → acc.length ≤ 2010 * i → StOut (g17L6 realA N (fun v _ => some v) m acc p n (n : Int) (i : Int) z tags texts rests) := by
  intro d
  induction d with
  | zero =>
    intro m i acc p h1 h2 h3
    obtain ⟨m, rfl⟩ : ∃ m', m = m' + 1 := ⟨m - 1, by omega⟩
    rw [g17L6, ar_lss, decide_eq_false (by omega)]
    exact st_J17 N acc p
  | succ d ih =>
    intro m i acc p h1 h2 h3
    obtain ⟨m, rfl⟩ : ∃ m', m = m' + 1 := ⟨m - 1, by omega⟩
    rw [g17L6, ar_lss, decide_eq_true (by omega)]
    simp only
    unfold g17J7
    have hx := Sm_getD ht i
    have hxl := hx.2
    have hw := wrapB_lenA (tags.getD i 0) (texts.getD i [])
    have e2 : realA.ib .add .i64 (i : Int) 1 = ((i + 1 : Nat) : Int) := by rw [ar_add (by omega)]; omega
    obtain ⟨c0, c1⟩ := clean_tot hx
    rw [ar_negN, ar_toNN, ar_lt, decide_eq_true (by omega), wr_ok, wr_r, e2]
    simp only
    cases realA.ic .eql (tags.getD i 0) 163 with
    | true =>
      simp only
      rw [c0]
      simp only
      cases !(g23r2 realA (texts.getD i [])) with
      | true => exact ⟨_, _, _, rfl⟩
      | false =>
        simp only
        rw [ar_le, decide_eq_true (by omega)]
        exact st_tota N n z tags texts rests hn ht d m (i + 1) _ _ (by omega) (by omega) (by rw [List.length_append]; omega)
    | false =>
      simp only
      rw [ar_le, decide_eq_true (by omega)]
      exact ih m (i + 1) _ _ (by omega) (by omega) (by rw [List.length_append]; omega)
theorem strip_tot {s : List Nat} (hs : Sm s) : g17ok realA s = true := by
  obtain ⟨b0, b1, b2⟩ := body_tot hs
  have e : StOut (g17v realA s) := by
    unfold g17v
    have hN : 200 ≤ 100000 := by decide
    generalize 100000 = N at hN
    unfold g17
    rw [b0]
    simp only
    cases realA.ic .neq (g21r1 realA s) 0 with
    | true => exact ⟨_, _, _, rfl⟩
    | false =>
      simp only
      unfold g17J4
      exact st_tot N (g21r0 realA s) _ _ _ _ b1 b2 (g21r0 realA s) N 0 [] 0 (by omega) (by omega) (by simp)
  obtain ⟨out, b, c, e⟩ := e
  exact (congrArg g17is e).trans rfl
end Go.Sx
namespace Go.Sx
set_option linter.unusedSectionVars false
set_option maxRecDepth 100000
theorem ex14ok : g7ok realA = true := by kernel_rfl
theorem ex14r : g7r0 realA = true := by kernel_rfl
end Go.Sx
namespace Go.Sx
set_option linter.unusedSectionVars false
open Go.Proofs
set_option linter.unusedVariables false
theorem mn100 (l : List Nat) : realA.mn (realA.ofN l.length) 100 = ((min l.length 100 : Nat) : Int) := by rw [ar_ofN, ar_mn]; omega
theorem cut100 (l : List Nat) : (l.take (min l.length 100)).drop 0 = l.take 100 := by
  rw [List.drop_zero]
  by_cases h : l.length ≤ 100
  · rw [Nat.min_eq_left h, List.take_length, List.take_of_length_le h]
  · rw [Nat.min_eq_right (by omega)]
theorem m14_J9 (N : Nat) (a : Int) (more T : List Nat) (ty z : Nat) (l : List (List Nat)) (ha : 0 ≤ a) (hT : T.length ≤ 1300) (hB : Byt T) (hm : Byt more) : g5J9 realA N (outH [0] none) a more true 2 (W1 48 T) ty z l = outH [0] none (bO true) [(0, ⟨[.strs z l], ty, 0⟩)] := by
  have hw := W1_len (t := 48) (T := T) (by omega)
  obtain ⟨k, hk, hkl⟩ : ∃ k : Nat, a % ((W1 48 T).length : Int) = (k : Int) ∧ k < (W1 48 T).length := by
    have h1 := Int.emod_nonneg a (show ((W1 48 T).length : Int) ≠ 0 by omega)
    have h2 := Int.emod_lt_of_pos a (show 0 < ((W1 48 T).length : Int) by omega)
    exact ⟨(a % ((W1 48 T).length : Int)).toNat, by omega, by omega⟩
  obtain ⟨s0, s1⟩ := strip_cut hB (by omega) hkl
  unfold g5J9
  rw [ar_ofN, ar_eql, decide_eq_false (by omega), ar_rem ha, hk, ar_negN, ar_toNN, ar_le, decide_eq_true (by omega), List.drop_zero, s0, mn100, ar_negN, ar_toNN, ar_le, decide_eq_true (Nat.min_le_left _ _), cut100, s1]
  simp only
  have hc : (more.take 100).length ≤ 100 := by rw [List.length_take]; omega
  rw [ar_le, decide_eq_true (by omega), ar_sceq, ar_eql, decide_eq_true (rfl : (2 : Int) = 2)]
  simp only
  by_cases h : more = []
  · subst h
    have : g17ok realA (W1 48 T ++ [].take 100) = true := by
      rw [List.take_nil, List.append_nil]
      exact strip_tot ⟨W1_bytes (t := 48) (by decide) (by omega) hB, by omega⟩
    rw [this, decide_eq_true rfl]
  · have hne : more.take 100 ≠ [] := by
      intro he
      have := congrArg List.length he
      rw [List.length_take] at this
      have h0 : more.length ≠ 0 := fun q => h (List.length_eq_zero_iff.1 q)
      simp only [List.length_nil] at this
      omega
    obtain ⟨u0, u1⟩ := strip_more hB (by omega) (Byt_take 100 hm) hc hne
    rw [u0, u1, decide_eq_false h]
    rfl
theorem m14_J4 (N : Nat) (a : Int) (more nm key : List Nat) (ver : Bool) (n : Nat) (poi : Int) (ty z : Nat) (l : List (List Nat)) (ha : -9223372036854775808 ≤ a ∧ a < 9223372036854775808) (hl : ∀ s ∈ l, Byt s) (hn : Byt nm) (hk : Byt key) (hm : Byt more) : g5J4 realA N (outH [0] none) a more true ty z l nm key ver n poi = outH [0] none (bO true) [(0, ⟨[.strs z l], ty, 0⟩)] := by
  obtain ⟨T, t1, t2, k0, k1, k2, k3, k4⟩ := cert_v n ty z l nm key ver poi hl hn hk
  have c1 := cut_len nm
  have cb := Byt_take 60 hn
  obtain ⟨s0, s1⟩ := strip_two c1 cb
  unfold g5J4
  rw [cut_ok, cut_r]
  generalize nm.take 60 = q at c1 cb s0 s1
  have hq := W1_len (t := 6) (T := q) (by omega)
  have hq2 := W1_len (t := 48) (T := W1 6 q) (by omega)
  have hpz := PZ_len
  have he : (PZ ++ W1 48 (W1 6 q)) ++ PZ = exts3 (W1 6 q) := by
    unfold exts3
    rw [ws_W1, ws_W1, ws_one, PZ_W1, List.append_assoc]
  have hel : (exts3 (W1 6 q)).length ≤ 200 := by rw [← he]; simp only [List.length_append]; omega
  have hX := W1_len (t := 48) (T := exts3 (W1 6 q)) (by omega)
  have hX2 := W1_len (t := 163) (T := W1 48 (exts3 (W1 6 q))) (by omega)
  have h27 : (W1 2 [7]).length = 3 := by decide
  have hB : W1 2 [7] ++ W1 163 (W1 48 (exts3 (W1 6 q))) = body2 q := rfl
  have hBl : (body2 q).length ≤ 300 := by rw [← hB, List.length_append]; omega
  have hB2 := W1_len (t := 48) (T := body2 q) (by omega)
  have i1 : g14ok realA 2 [7] = true := item_ok (by decide) (by decide)
  have i2 : g14r0 realA 2 [7] = W1 2 [7] := item_r (by decide) (by decide)
  have i3 : g14ok realA 6 q = true := item_ok (by decide) (by omega)
  have i4 : g14r0 realA 6 q = W1 6 q := item_r (by decide) (by omega)
  have i5 : g14ok realA 48 (W1 6 q) = true := item_ok (by decide) (by omega)
  have i6 : g14r0 realA 48 (W1 6 q) = W1 48 (W1 6 q) := item_r (by decide) (by omega)
  have i7 : g14ok realA 48 (exts3 (W1 6 q)) = true := item_ok (by decide) (by omega)
  have i8 : g14r0 realA 48 (exts3 (W1 6 q)) = W1 48 (exts3 (W1 6 q)) := item_r (by decide) (by omega)
  have i9 : g14ok realA 163 (W1 48 (exts3 (W1 6 q))) = true := item_ok (by decide) (by omega)
  have j0 : g14r0 realA 163 (W1 48 (exts3 (W1 6 q))) = W1 163 (W1 48 (exts3 (W1 6 q))) := item_r (by decide) (by omega)
  have j1 : g14ok realA 48 (body2 q) = true := item_ok (by decide) (by omega)
  have j2 : g14r0 realA 48 (body2 q) = W1 48 (body2 q) := item_r (by decide) (by omega)
  have j3 : g14ok realA 48 (W1 48 (body2 q)) = true := item_ok (by decide) (by omega)
  have j4 : g14r0 realA 48 (W1 48 (body2 q)) = W1 48 (W1 48 (body2 q)) := item_r (by decide) (by omega)
  rw [i1, i2, pz_ok, pz_r, i3, i4, i5, i6, he, i7, i8, i9, j0, hB, j1, j2, j3, j4, s0, s1, k0, k1, k2, k3, k4]
  simp only [ar_le]
  rw [decide_eq_true (by omega : PZ.length + (W1 48 (W1 6 q)).length ≤ 9223372036854775807), decide_eq_true (by rw [List.length_append]; omega : (PZ ++ W1 48 (W1 6 q)).length + PZ.length ≤ 9223372036854775807), decide_eq_true (by omega : (W1 2 [7]).length + (W1 163 (W1 48 (exts3 (W1 6 q)))).length ≤ 9223372036854775807)]
  simp only
  rw [ar_lss]
  by_cases h : a < 0
  · rw [decide_eq_true h]
    simp only
    rw [ar_add (by omega), ar_sub (by omega)]
    exact m14_J9 N _ more T ty z l (by omega) t1 t2 hm
  · rw [decide_eq_false h]
    exact m14_J9 N a more T ty z l (by omega) t1 t2 hm
theorem law5v (n : Nat) (poi a : Int) (more nm key : List Nat) (ver : Bool) (ty z : Nat) (l : List (List Nat)) (ha : -9223372036854775808 ≤ a ∧ a < 9223372036854775808) (hl : ∀ s ∈ l, Byt s) (hn : Byt nm) (hk : Byt key) (hm : Byt more) : g5v realA nm key ver n poi a more ty z l = some (bO true, [(0, ⟨[.strs z l], ty, 0⟩)]) := by
  unfold g5v
  generalize 100000 = N
  unfold g5
  rw [ex14ok, ex14r]
  exact m14_J4 N a more nm key ver n poi ty z l ha hl hn hk hm
theorem law5o (nm key : List Nat) (ver : Bool) (n : Nat) (poi a : Int) (more : List Nat) (ty z : Nat) (l : List (List Nat)) (hn : ∀ x ∈ nm, x < 256) (hk : ∀ x ∈ key, x < 256) (hl : ∀ x ∈ l, (∀ b ∈ x, b < 256) ∧ x.length ≤ maxLen) (ha : (Lit.int .i64 a).wf = true) (hm : ∀ x ∈ more, x < 256) (_ : more.length < 2 ^ 47) :
    g5ok realA nm key ver n poi a more ty z l = true ∧ g5r0 realA nm key ver n poi a more ty z l = true := by
  have e := law5v n poi a more nm key ver ty z l (wf64 ha) (fun s h => (hl s h).1) hn hk hm
  exact ⟨(congrArg g5is e).trans rfl, (congrArg g5g0 e).trans rfl⟩
end Go.Sx
namespace Go.Sx
set_option linter.unusedSectionVars false
open Go.ChangeShapes Go.RowKit
theorem open_cert {H : Type} {enc : TypeId × Value → H} {P : Program} {w : World} {t e : TypeId} {f0 f1 f2 f3 f4 : Field} {r : Reach} {b0 : Nat} {held : Bool} {v : Value} {d : DataW H} {ps : List MemPlace}
    (hu : P.underlying t = some (.struct #[f0, f1, f2, f3, f4])) (ho : f0.offset = 0 ∧ f1.offset = 1 ∧ f2.offset = 2 ∧ f3.offset = 3 ∧ f4.offset = 4)
    (hc : P.cellsOf f0.type = 1 ∧ P.cellsOf f1.type = 1 ∧ P.cellsOf f2.type = 1 ∧ P.cellsOf f3.type = 1 ∧ P.cellsOf f4.type = 1) (hct : P.cellsOf t = 5)
    (h0 : P.underlying f0.type = some .string) (h1 : P.underlying f1.type = some .string) (h2 : P.underlying f2.type = some .bool) (h3 : P.underlying f3.type = some (.slice e)) (h4 : P.underlying f4.type = some (.int .i64))
    (hl : P.cellTypes P.depth t = some [f0.type, f1.type, f2.type, f3.type, f4.type]) (hz : 0 < P.cellsOf e)
    (hval : Value.okWide P w r b0 t v) (hd : DataW.Trod enc P w 0 (fun _ => true) held t v d ps) (b : Nat) (N : Nat) (S : Nat → Prop) (hz1 : P.cellsOf e = 1) :
    ∃ (x y : ByteArray) (c : Bool) (q : Int) (L : Option Loc) (n : Nat) (vs : List Value) (ty : TypeId), x.size ≤ maxLen ∧ y.size ≤ maxLen ∧ (Lit.int .i64 q).wf = true ∧ vs.length = n * P.cellsOf e ∧ (∀ i, i < n → ∃ m y, DataW.trod enc P w 0 (fun _ => true) held m e ((vs.drop (i * P.cellsOf e)).take (P.cellsOf e)) = some y) ∧
      (∀ ρ : Map, ρ b = L → RV ρ (.v (.agg [.one (.str (natsOf x)), .one (.str (natsOf y)), .one (.bool c), .one (.sl b none n 1), .one (.int .i64 q)])) v) ∧ (∀ (ρ : Map) (segs : List Seg), ρ b = L → RSegs ρ segs vs → BR N S ρ b ⟨segs, ty, 0⟩ w) := by
  simp only [Value.okWide, hu] at hval
  obtain ⟨cs, rfl, hsz, ts, hts, _, hrow⟩ := hval
  rw [hl] at hts
  obtain rfl := Option.some.inj hts
  obtain ⟨fuel, hf⟩ := hd
  obtain ⟨xs, m, _, _, hcl, hxl, hel⟩ := DataW.trod_struct hu hf
  rw [hct] at hsz
  obtain ⟨c0, c1, c2, c3, c4, hcs⟩ : ∃ c0 c1 c2 c3 c4, cs.toList = [c0, c1, c2, c3, c4] := by
    have : cs.toList.length = 5 := hsz
    match cs.toList, this with
    | [a, b, c, d, e], _ => exact ⟨a, b, c, d, e, rfl⟩
  obtain ⟨x0, x1, x2, x3, x4, rfl⟩ : ∃ x0 x1 x2 x3 x4, xs = [x0, x1, x2, x3, x4] := by
    have : xs.length = 5 := hxl
    match xs, this with
    | [a, b, c, d, e], _ => exact ⟨a, b, c, d, e, rfl⟩
  have e0 := hel 0 f0 rfl
  have e1 := hel 1 f1 rfl
  have e2 := hel 2 f2 rfl
  have e3 := hel 3 f3 rfl
  have e4 := hel 4 f4 rfl
  rw [show (Value.agg cs).cells.toList = cs.toList from rfl, hcs, ho.1, hc.1] at e0
  rw [show (Value.agg cs).cells.toList = cs.toList from rfl, hcs, ho.2.1, hc.2.1] at e1
  rw [show (Value.agg cs).cells.toList = cs.toList from rfl, hcs, ho.2.2.1, hc.2.2.1] at e2
  rw [show (Value.agg cs).cells.toList = cs.toList from rfl, hcs, ho.2.2.2.1, hc.2.2.2.1] at e3
  rw [show (Value.agg cs).cells.toList = cs.toList from rfl, hcs, ho.2.2.2.2, hc.2.2.2.2] at e4
  obtain ⟨x, g0, _, k0⟩ := DataW.trod_string h0 e0
  obtain ⟨y, g1, _, k1⟩ := DataW.trod_string h1 e1
  obtain ⟨c, g2, _⟩ := DataW.trod_bool h2 e2
  obtain ⟨q, g4, _, k4⟩ := DataW.trod_int h4 e4
  obtain rfl : c0 = .string x := (List.cons.inj g0).1
  obtain rfl : c1 = .string y := (List.cons.inj g1).1
  obtain rfl : c2 = .bool c := (List.cons.inj g2).1
  obtain rfl : c4 = .int .i64 q := (List.cons.inj g4).1
  have hv3 : Value.okWide P w r b0 f3.type c3 := by
    have : cs[3]? = some c3 := by rw [← Array.getElem?_toList, hcs]; rfl
    obtain ⟨u, hu3, hok⟩ := hrow 3 c3 this
    obtain rfl : f3.type = u := Option.some.inj hu3
    simp only [Value.okWide, h3]
    exact hok
  have ht3 : DataW.Trod enc P w 0 (fun _ => true) held f3.type c3 x3.1 x3.2 := by
    refine ⟨m, ?_⟩
    obtain ⟨a0, len, cap, rfl⟩ := WideShapes.okWide_slice h3 hv3
    exact e3
  obtain ⟨L, n, vs, ty, j1, j2, j3, j4⟩ := open_row h3 hz hv3 ht3 b N S
  refine ⟨x, y, c, q, L, n, vs, ty, k0, k1, k4, j1, j2, fun ρ hρ => ⟨cs, rfl, ?_, ?_, fun j cc v hj hv => ?_⟩, j4⟩
  · rw [hcs]; rfl
  · exact segsWf_cons.2 ⟨trivial, segsWf_cons.2 ⟨trivial, segsWf_cons.2 ⟨trivial, segsWf_cons.2 ⟨trivial, segsWf_cons.2 ⟨trivial, segsWf_nil⟩⟩⟩⟩⟩
  · rw [hcs] at hv
    have hr := j3 ρ hρ
    rw [hz1] at hr
    match j, hj, hv with
    | 0, hj, hv => cases hj; cases hv; exact ⟨⟨x, rfl, rfl⟩, rfl⟩
    | 1, hj, hv => cases hj; cases hv; exact ⟨⟨y, rfl, rfl⟩, rfl⟩
    | 2, hj, hv => cases hj; cases hv; exact ⟨rfl, rfl⟩
    | 3, hj, hv =>
      cases hj; cases hv
      obtain ⟨a0, len, cap, rfl⟩ := WideShapes.okWide_slice h3 hv3
      exact ⟨hr, rfl⟩
    | 4, hj, hv => cases hj; cases hv; exact ⟨rfl, rfl⟩
    | j + 5, hj, hv => cases hv
end Go.Sx
