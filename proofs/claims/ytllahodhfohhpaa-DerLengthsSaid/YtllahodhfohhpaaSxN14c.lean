import Derived.Test.YtllahodhfohhpaaSxN14b
namespace Go.Sx
set_option linter.unusedVariables false
set_option linter.unusedSectionVars false
theorem lenB_1 {n : Nat} (h : n < 128) : lenB n = [n] := if_pos h
theorem beN_0 (f : Nat) : beN f 0 = [] := by cases f <;> rfl
theorem lenB_2 {n : Nat} (h : 128 ≤ n) (h2 : n < 256) : lenB n = [129, n] := by
  unfold lenB
  have e : beN 8 n = [n] := by
    rw [beN_succ 7 n (by omega), show n / 256 = 0 by omega, beN_0, Nat.mod_eq_of_lt h2]; rfl
  rw [if_neg (by omega), e]; rfl
theorem lenB_3 {n : Nat} (h : 256 ≤ n) (h2 : n < 65536) : lenB n = [130, n / 256, n % 256] := by
  unfold lenB
  have e : beN 8 n = [n / 256, n % 256] := by
    rw [beN_succ 7 n (by omega), beN_succ 6 (n / 256) (by omega), show n / 256 / 256 = 0 by omega, beN_0, Nat.mod_eq_of_lt (show n / 256 < 256 by omega)]; rfl
  rw [if_neg (by omega), e]; rfl
theorem lenB_4 {n : Nat} (h : 65536 ≤ n) (h2 : n < 16777216) : lenB n = [131, n / 65536, n / 256 % 256, n % 256] := by
  unfold lenB
  have e : beN 8 n = [n / 65536, n / 256 % 256, n % 256] := by
    rw [beN_succ 7 n (by omega), beN_succ 6 (n / 256) (by omega), beN_succ 5 (n / 256 / 256) (by omega), show n / 256 / 256 / 256 = 0 by omega, beN_0, Nat.mod_eq_of_lt (show n / 256 / 256 < 256 by omega), show n / 256 / 256 = n / 65536 by omega]; rfl
  rw [if_neg (by omega), e]; rfl
theorem lenB_len {n : Nat} (h2 : n < 16777216) : (lenB n).length ≤ 4 := by
  by_cases h1 : n < 128
  · rw [lenB_1 h1]; simp
  · by_cases h3 : n < 256
    · rw [lenB_2 (by omega) h3]; simp
    · by_cases h4 : n < 65536
      · rw [lenB_3 (by omega) h4]; simp
      · rw [lenB_4 (by omega) h2]; simp
def wrapB (t : Int) (x : List Nat) : List Nat × Int :=
  if t < 0 then ([], 1) else if 255 < t then ([], 1) else if t % 32 = 31 then ([], 1) else if 16777216 ≤ x.length then ([], 9) else (t.toNat :: (lenB x.length ++ x), 0)
theorem n14_wrap (t : Int) (x : List Nat) : g10v realA t x = some (.tup [.cell (.str (wrapB t x).1), .cell (.int .i64 (wrapB t x).2)]) := by
  unfold g10v
  generalize 100000 = N
  unfold g10 wrapB
  rw [ar_lss, ar_gtr]
  by_cases h1 : t < 0
  · rw [decide_eq_true h1, if_pos h1]
  · rw [decide_eq_false h1, if_neg h1]
    simp only
    by_cases h2 : 255 < t
    · rw [decide_eq_true h2, if_pos h2]
    · rw [decide_eq_false h2, if_neg h2]
      simp only
      obtain ⟨n, rfl⟩ : ∃ n : Nat, t = n := ⟨t.toNat, by omega⟩
      rw [and31, ar_eql, ar_geq, ar_ofN]
      by_cases h3 : (n : Int) % 32 = 31
      · rw [decide_eq_true (by omega), if_pos h3]
      · rw [decide_eq_false (by omega), if_neg h3]
        simp only
        by_cases h4 : 16777216 ≤ x.length
        · rw [decide_eq_true (by omega), if_pos h4]
        · rw [decide_eq_false (by omega), if_neg h4]
          simp only
          unfold g10J5
          have hn8 : x.length < 256 ^ 8 := by omega
          have hl := lenB_len (n := x.length) (by omega)
          rw [ar_ofN, n14_ok _ hn8, n14_r _ hn8, ar_i2nN, Nat.mod_eq_of_lt (by omega : n < 256), ar_le, decide_eq_true (by simp; omega), ar_le, decide_eq_true (by simp; omega)]
          simp
theorem wrap_ok (t : Int) (x : List Nat) : g10ok realA t x = true := (congrArg g10is (n14_wrap t x)).trans rfl
theorem wrap_0 (t : Int) (x : List Nat) : g10r0 realA t x = (wrapB t x).1 := (congrArg g10g0 (n14_wrap t x)).trans rfl
theorem wrap_1 (t : Int) (x : List Nat) : g10r1 realA t x = (wrapB t x).2 := (congrArg g10g1 (n14_wrap t x)).trans rfl
def nx0 : Option (Nat × List Nat × List Nat) → Int
  | none => 0
  | some (t, _, _) => t
def nx1 : Option (Nat × List Nat × List Nat) → List Nat
  | none => []
  | some (_, x, _) => x
def nx3 : Option (Nat × List Nat × List Nat) → Int
  | none => 2
  | some _ => 0
theorem next_ok {s : List Nat} (hs : ∀ x ∈ s, x < 256) (hl : s.length < 1000000000000) : g8ok realA s = true := by
  refine (congrArg g8is (n14_next s hs hl)).trans ?_
  rcases nextP s with _ | ⟨a, b, c⟩ <;> rfl
theorem next_0 {s : List Nat} (hs : ∀ x ∈ s, x < 256) (hl : s.length < 1000000000000) : g8r0 realA s = nx0 (nextP s) := by
  refine (congrArg g8g0 (n14_next s hs hl)).trans ?_
  rcases nextP s with _ | ⟨a, b, c⟩ <;> rfl
theorem next_1 {s : List Nat} (hs : ∀ x ∈ s, x < 256) (hl : s.length < 1000000000000) : g8r1 realA s = nx1 (nextP s) := by
  refine (congrArg g8g1 (n14_next s hs hl)).trans ?_
  rcases nextP s with _ | ⟨a, b, c⟩ <;> rfl
theorem next_3 {s : List Nat} (hs : ∀ x ∈ s, x < 256) (hl : s.length < 1000000000000) : g8r3 realA s = nx3 (nextP s) := by
  refine (congrArg g8g3 (n14_next s hs hl)).trans ?_
  rcases nextP s with _ | ⟨a, b, c⟩ <;> rfl
end Go.Sx
