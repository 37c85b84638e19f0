import Derived.Test.YtllahodhfohhpaaSxP14b
import Derived.Test.YtllahodhfohhpaaSxAr
namespace Go.Sx
set_option linter.unusedVariables false
set_option linter.unusedSectionVars false

def beN : Nat → Nat → List Nat
  | 0, _ => []
  | f + 1, n => if n = 0 then [] else beN f (n / 256) ++ [n % 256]
theorem beN_succ (f n : Nat) (h : n ≠ 0) : beN (f + 1) n = beN f (n / 256) ++ [n % 256] := by rw [beN, if_neg h]
def lenB (n : Nat) : List Nat := if n < 128 then [n] else (128 + (beN 8 n).length) :: beN 8 n

theorem n14_J7 (N : Nat) (acc : List Nat) (h : acc.length < 100) : g19J7 realA N (fun v _ => some v) acc.length acc.length acc = some (.v (.cell (.str ((128 + acc.length) :: acc)))) := by
  unfold g19J7
  have e : realA.ib .add .i64 128 (realA.ofN acc.length) = ((128 + acc.length : Nat) : Int) := by
    rw [ar_ofN, ar_add (by omega)]; omega
  rw [e, ar_i2nN, Nat.mod_eq_of_lt (by omega : 128 + acc.length < 256), ar_le]
  have e2 : decide ((([128 + acc.length].take 1).length + (acc.take acc.length).length) ≤ 9223372036854775807) = true := decide_eq_true (by simp; omega)
  rw [e2]
  simp
theorem n14_L4a (N : Nat) : ∀ (f m n : Nat) (acc : List Nat), n < 256 ^ f → f + 1 ≤ m → acc.length + f < 100 → g19L4a realA N (fun v _ => some v) m (n : Int) acc.length acc.length acc = some (.v (.cell (.str ((128 + (beN f n ++ acc).length) :: (beN f n ++ acc))))) := by
  intro f
  induction f with
  | zero =>
    intro m n acc h1 h2 h3
    obtain ⟨m, rfl⟩ : ∃ m', m = m' + 1 := ⟨m - 1, by omega⟩
    have : n = 0 := by simpa using h1
    subst this
    rw [g19L4a, ar_gtr, decide_eq_false (by simp)]
    simpa [beN] using n14_J7 N acc (by omega)
  | succ f ih =>
    intro m n acc h1 h2 h3
    obtain ⟨m, rfl⟩ : ∃ m', m = m' + 1 := ⟨m - 1, by omega⟩
    rw [g19L4a, ar_gtr]
    by_cases hn : n = 0
    · subst hn
      rw [decide_eq_false (by simp)]
      simpa [beN] using n14_J7 N acc (by omega)
    · rw [decide_eq_true (by omega)]
      simp only
      unfold g19J6a
      have e1 : realA.ish .shr .i64 (n : Int) 8 = ((n / 256 : Nat) : Int) := by
        rw [ar_shr (by decide)]
        show (n : Int) / 256 = ((n / 256 : Nat) : Int)
        omega
      rw [e1, ar_i2nN, List.take_length, ar_le, ar_eq, decide_eq_true (rfl : 1 = 1)]
      have hl : ([n % 256] ++ acc).length ≤ 140737488355328 := by simp; omega
      rw [decide_eq_true hl]
      simp only
      rw [ih m (n / 256) ([n % 256] ++ acc) (by rw [Nat.pow_succ] at h1; omega) (by omega) (by simp; omega)]
      rw [beN_succ f n hn]
      simp
theorem n14_J3 (N n : Nat) (hN : 100 ≤ N) (h : n < 256 ^ 8) : g19J3 realA N (fun v _ => some v) (n : Int) = some (.v (.cell (.str ((128 + (beN 8 n).length) :: beN 8 n)))) := by
  unfold g19J3
  obtain ⟨N, rfl⟩ : ∃ N', N = N' + 1 := ⟨N - 1, by omega⟩
  rw [g19L4, ar_gtr]
  by_cases hn : n = 0
  · subst hn
    rw [decide_eq_false (by simp)]
    exact n14_J7 (N + 1) [] (by simp)
  · rw [decide_eq_true (by omega)]
    simp only
    unfold g19J6
    have e1 : realA.ish .shr .i64 (n : Int) 8 = ((n / 256 : Nat) : Int) := by
      rw [ar_shr (by decide)]
      show (n : Int) / 256 = ((n / 256 : Nat) : Int)
      omega
    rw [e1, ar_i2nN, List.take_nil, ar_le, ar_eq, decide_eq_true (rfl : 1 = 1)]
    have hl : ([n % 256] ++ ([] : List Nat)).length ≤ 140737488355328 := by simp
    rw [decide_eq_true hl]
    simp only
    rw [n14_L4a (N + 1) 7 N (n / 256) ([n % 256] ++ []) (by have : n < 256 ^ 7 * 256 := h; omega) (by omega) (by simp)]
    rw [beN_succ 7 n hn]
    simp
theorem n14_len (n : Nat) (h : n < 256 ^ 8) : g19v realA (n : Int) = some (.v (.cell (.str (lenB n)))) := by
  unfold g19v
  generalize hN : 100000 = N
  unfold g19
  rw [ar_lss]
  unfold lenB
  by_cases h1 : n < 128
  · rw [decide_eq_true (by omega), if_pos h1, ar_i2nN, Nat.mod_eq_of_lt (by omega)]
    rfl
  · rw [decide_eq_false (by omega), if_neg h1]
    exact n14_J3 N n (by omega) h
theorem n14_ok (n : Nat) (h : n < 256 ^ 8) : g19ok realA (n : Int) = true := (congrArg g19is (n14_len n h)).trans rfl
theorem n14_r (n : Nat) (h : n < 256 ^ 8) : g19r0 realA (n : Int) = lenB n := (congrArg g19g0 (n14_len n h)).trans rfl
end Go.Sx
