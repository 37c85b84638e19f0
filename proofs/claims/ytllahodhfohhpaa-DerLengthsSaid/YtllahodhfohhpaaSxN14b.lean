import Derived.Test.YtllahodhfohhpaaSxN14
import Derived.Test.YtllahodhfohhpaaSxPl
namespace Go.Sx
set_option linter.unusedVariables false
set_option linter.unusedSectionVars false

def bval (l : List Nat) (a : Nat) : Nat := l.foldl (fun n b => n * 256 + b) a
theorem or8 (a b : Nat) (hb : b < 256) (ha : a < 1000000000000000000 / 256) : realA.ib .or .i64 (realA.ish .shl .i64 (a : Int) 8) (realA.ofN b) = ((a * 256 + b : Nat) : Int) := by
  rw [ar_shl (by decide) (by omega)]
  show IntKind.i64.wrap ((BitVec.ofInt 64 ((a : Int) * 2 ^ 8) ||| BitVec.ofInt 64 (b : Int)).toNat : Int) = _
  have e : (a : Int) * 2 ^ 8 = ((a * 256 : Nat) : Int) := by omega
  rw [e, BitVec.ofInt_natCast, BitVec.ofInt_natCast, BitVec.toNat_or, BitVec.toNat_ofNat, BitVec.toNat_ofNat, Nat.mod_eq_of_lt (by omega), Nat.mod_eq_of_lt (by omega)]
  have h := Nat.two_pow_add_eq_or_of_lt (i := 8) hb a
  rw [Nat.mul_comm a 256, ← h]
  exact wrap64 (by omega)
theorem and31 (n : Nat) : realA.ib .and .i64 (n : Int) 31 = ((n % 32 : Nat) : Int) := by
  show IntKind.wrap .i64 ((BitVec.ofInt 64 (n : Int) &&& BitVec.ofInt 64 31).toNat : Int) = _
  have e : (BitVec.ofInt 64 (n : Int) &&& BitVec.ofInt 64 31).toNat = n % 32 := by
    rw [BitVec.toNat_and]
    have h1 : (BitVec.ofInt 64 31).toNat = 31 := by decide
    have h2 : (BitVec.ofInt 64 (n : Int)).toNat = n % 2 ^ 64 := by simp [BitVec.ofInt_natCast]
    rw [h1, h2, show (31 : Nat) = 2 ^ 5 - 1 from rfl, Nat.and_two_pow_sub_one_eq_mod]
    omega
  rw [e]
  exact wrap64 (by omega)
theorem nand31 (n : Nat) : realA.nb .and .u8 n 31 = n % 32 := Nat.and_two_pow_sub_one_eq_mod n 5

def nx : Option (Nat × List Nat × List Nat) → AV
  | none => .tup [.agg [.one (.int .i64 0), .one (.str []), .one (.str [])], .cell (.int .i64 2)]
  | some (t, x, y) => .tup [.agg [.one (.int .i64 (t : Int)), .one (.str x), .one (.str y)], .cell (.int .i64 0)]
def tailP (s : List Nat) (n z : Nat) : Option (Nat × List Nat × List Nat) :=
  if lenB n = (s.take (1 + z)).drop 1 ∧ n ≤ s.length - (1 + z) then some (s.getD 0 0, (s.drop (1 + z)).take n, (s.drop (1 + z)).drop n) else none
def nextP (s : List Nat) : Option (Nat × List Nat × List Nat) :=
  if s.length < 2 then none else if s.getD 0 0 % 32 = 31 then none
  else if s.getD 1 0 < 128 then tailP s (s.getD 1 0) 1
  else if 132 ≤ s.getD 1 0 then none else if s.length ≤ s.getD 1 0 - 127 then none
  else tailP s (bval ((s.take (1 + (s.getD 1 0 - 127))).drop 2) 0) (s.getD 1 0 - 127)

theorem n14_tail (N : Nat) (s : List Nat) (n z : Nat) (hz : z ≤ 4) (hs : 1 + z ≤ s.length) (hl : s.length < 1000000000000) (hn : n < 256 ^ 7) : g8J14 realA N (fun v _ => some v) s (n : Int) (z : Int) 0 [] [] = some (nx (tailP s n z)) := by
  unfold g8J14
  have e : realA.ib .add .i64 1 (z : Int) = ((1 + z : Nat) : Int) := by rw [ar_add (by omega)]; omega
  have hn8 : n < 256 ^ 8 := by omega
  rw [e, ar_negN, ar_toNN, ar_le, decide_eq_true hs, n14_ok n hn8, n14_r n hn8, ar_le, decide_eq_true (by omega : 1 ≤ 1 + z), ar_scne, List.take_length, ar_ofN, ar_lss, List.length_drop]
  simp only
  unfold tailP
  by_cases h1 : lenB n = (s.take (1 + z)).drop 1
  · rw [decide_eq_true h1]
    simp only [Bool.not_true]
    by_cases h2 : n ≤ s.length - (1 + z)
    · rw [decide_eq_false (by omega), if_pos ⟨h1, h2⟩]
      simp only
      unfold g8J17
      rw [ar_negN, ar_toNN, ar_le, List.length_drop, decide_eq_true h2, List.take_of_length_le (l := s.drop (1 + z)) (i := s.length - (1 + z)) (by rw [List.length_drop]; exact Nat.le_refl _)]
      have h0 : Nat.blt 0 s.length = true := by rw [Nat.blt_eq]; omega
      rw [h0]
      simp [nx, ar_ofN]
    · rw [decide_eq_true (by omega), if_neg (fun q => h2 q.2)]
      rfl
  · rw [decide_eq_false h1, if_neg (fun q => h1 q.1)]
    rfl
theorem bval_snoc (l : List Nat) (b a : Nat) : bval (l ++ [b]) a = bval l a * 256 + b := by unfold bval; rw [List.foldl_append]; rfl
theorem take_snoc {l : List Nat} {i : Nat} (h : i < l.length) : l.take (i + 1) = l.take i ++ [l.getD i 0] := by
  rw [List.take_add_one, List.getElem?_eq_getElem h, List.getD_eq_getElem?_getD, List.getElem?_eq_getElem h]
  rfl
theorem bval_lt : ∀ (l : List Nat) (a : Nat), (∀ x ∈ l, x < 256) → bval l a < (a + 1) * 256 ^ l.length := by
  intro l
  induction l with
  | nil => intro a _; show a < (a + 1) * 1; omega
  | cons x l ih =>
    intro a h
    have h1 := ih (a * 256 + x) (fun y hy => h y (List.mem_cons_of_mem _ hy))
    have hx := h x List.mem_cons_self
    refine Nat.lt_of_lt_of_le h1 ?_
    rw [List.length_cons, Nat.pow_succ, Nat.mul_comm (256 ^ l.length) 256, ← Nat.mul_assoc]
    exact Nat.mul_le_mul_right _ (by omega)
theorem bval_take {l : List Nat} (hl : ∀ x ∈ l, x < 256) {i : Nat} (hi : i ≤ 6) : bval (l.take i) 0 < 256 ^ 6 := by
  have h1 := bval_lt (l.take i) 0 (fun x hx => hl x (List.mem_of_mem_take hx))
  have h2 : (l.take i).length ≤ 6 := by rw [List.length_take]; omega
  have h3 : 256 ^ (l.take i).length ≤ 256 ^ 6 := Nat.pow_le_pow_right (by decide) h2
  omega
theorem n14_L10 (N : Nat) (s l : List Nat) (z : Nat) (hz : z ≤ 4) (hs : 1 + z ≤ s.length) (hsl : s.length < 1000000000000) (hl : ∀ x ∈ l, x < 256) (hlen : l.length ≤ 4) : ∀ (d i m : Nat), i + d = l.length → d + 1 ≤ m → g8L10 realA N (fun v _ => some v) m s (bval (l.take i) 0 : Nat) (z : Int) l.length (l.length : Nat) (i : Nat) 0 [] [] l.length l = some (nx (tailP s (bval l 0) z)) := by
  intro d
  induction d with
  | zero =>
    intro i m h1 h2
    obtain ⟨m, rfl⟩ : ∃ m', m = m' + 1 := ⟨m - 1, by omega⟩
    rw [g8L10, ar_lss, decide_eq_false (by omega)]
    simp only
    rw [List.take_of_length_le (by omega)]
    refine n14_tail N s _ z hz hs hsl ?_
    have := bval_take hl (i := l.length) (by omega)
    rw [List.take_length] at this
    omega
  | succ d ih =>
    intro i m h1 h2
    obtain ⟨m, rfl⟩ : ∃ m', m = m' + 1 := ⟨m - 1, by omega⟩
    rw [g8L10, ar_lss, decide_eq_true (by omega)]
    simp only
    unfold g8J11
    have hb : l.getD i 0 < 256 := getD_lt hl i
    have ht := bval_take hl (i := i) (by omega)
    rw [ar_negN, ar_toNN, ar_lt, decide_eq_true (show i < l.length by omega), or8 _ _ hb (by omega), ar_add (by omega)]
    simp only
    have := ih (i + 1) m (by omega) (by omega)
    rw [take_snoc (by omega), bval_snoc] at this
    exact this
theorem n14_next (s : List Nat) (hs : ∀ x ∈ s, x < 256) (hl : s.length < 1000000000000) : g8v realA s = some (nx (nextP s)) := by
  unfold g8v
  generalize hN : 100000 = N
  unfold g8 nextP
  rw [ar_ofN, ar_lss]
  by_cases h1 : s.length < 2
  · rw [decide_eq_true (by omega), if_pos h1]
    rfl
  · rw [decide_eq_false (by omega), if_neg h1]
    have hb0 : Nat.blt 0 s.length = true := by rw [Nat.blt_eq]; omega
    have hb1 : Nat.blt 1 s.length = true := by rw [Nat.blt_eq]; omega
    simp only [hb0]
    rw [nand31, ar_neql]
    by_cases h2 : s.getD 0 0 % 32 = 31
    · rw [decide_eq_true h2, if_pos h2]
      rfl
    · rw [decide_eq_false h2, if_neg h2]
      simp only
      unfold g8J3
      rw [hb1]
      simp only
      have hc := getD_lt hs 1
      rw [ar_ofN, ar_ofN, ar_geq]
      by_cases h3 : s.getD 1 0 < 128
      · rw [decide_eq_false (by omega), if_pos h3]
        exact n14_tail N s _ 1 (by omega) (by omega) hl (by omega)
      · have e : realA.ib .add .i64 1 (realA.ib .sub .i64 ((s.getD 1 0 : Nat) : Int) 128) = ((s.getD 1 0 - 127 : Nat) : Int) := by
          rw [ar_sub (by omega), ar_add (by omega)]; omega
        rw [decide_eq_true (by omega), if_neg h3, e, ar_gtr, ar_leq]
        simp only
        by_cases h4 : 132 ≤ s.getD 1 0
        · rw [decide_eq_true (by omega), if_pos h4]
          rfl
        · rw [decide_eq_false (by omega), if_neg h4]
          simp only
          by_cases h5 : s.length ≤ s.getD 1 0 - 127
          · rw [decide_eq_true (by omega), if_pos h5]
            rfl
          · rw [decide_eq_false (by omega), if_neg h5]
            simp only
            unfold g8J8
            have e2 : realA.ib .add .i64 1 ((s.getD 1 0 - 127 : Nat) : Int) = ((1 + (s.getD 1 0 - 127) : Nat) : Int) := by
              rw [ar_add (by omega)]; omega
            have hlen : ((s.take (1 + (s.getD 1 0 - 127))).drop 2).length = (s.getD 1 0 - 127) - 1 := by
              rw [List.length_drop, List.length_take]; omega
            rw [e2, ar_negN, ar_toNN, ar_le, decide_eq_true (by omega), ar_le, decide_eq_true (by omega), ar_le, decide_eq_true (by omega), ar_ofN]
            simp only
            have := n14_L10 N s ((s.take (1 + (s.getD 1 0 - 127))).drop 2) (s.getD 1 0 - 127) (by omega) (by omega) hl (fun x hx => hs x (List.mem_of_mem_take (List.mem_of_mem_drop hx))) (by omega) ((s.take (1 + (s.getD 1 0 - 127))).drop 2).length 0 N (by omega) (by omega)
            exact this
end Go.Sx
