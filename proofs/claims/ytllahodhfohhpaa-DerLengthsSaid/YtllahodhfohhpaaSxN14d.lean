import Derived.Test.YtllahodhfohhpaaSxN14c
namespace Go.Sx
set_option linter.unusedVariables false
set_option linter.unusedSectionVars false
theorem next_wrap {t k : Nat} {T more : List Nat} (ht : t % 32 ≠ 31) (hT : T.length = k) (hk : k < 16777216) : nextP (t :: (lenB k ++ (T ++ more))) = some (t, T, more) := by
  subst hT
  by_cases h1 : T.length < 128
  · rw [lenB_1 h1]
    unfold nextP
    rw [if_neg (by simp), if_neg (by simpa using ht), if_pos (by simpa using h1)]
    unfold tailP
    rw [if_pos ⟨by simp [lenB_1 h1], by simp⟩]
    simp
  · by_cases h2 : T.length < 256
    · rw [lenB_2 (by omega) h2]
      unfold nextP
      rw [if_neg (by simp), if_neg (by simpa using ht), if_neg (by simp), if_neg (by simp), if_neg (by simp)]
      unfold tailP
      have e : bval (((t :: ([129, T.length] ++ (T ++ more))).take (1 + ((t :: ([129, T.length] ++ (T ++ more))).getD 1 0 - 127))).drop 2) 0 = T.length := by simp [bval]
      rw [e, if_pos ⟨by simp [lenB_2 (n := T.length) (by omega) h2], by simp⟩]
      simp
    · by_cases h3 : T.length < 65536
      · rw [lenB_3 (by omega) h3]
        unfold nextP
        rw [if_neg (by simp), if_neg (by simpa using ht), if_neg (by simp), if_neg (by simp), if_neg (by simp)]
        unfold tailP
        have e : bval (((t :: ([130, T.length / 256, T.length % 256] ++ (T ++ more))).take (1 + ((t :: ([130, T.length / 256, T.length % 256] ++ (T ++ more))).getD 1 0 - 127))).drop 2) 0 = T.length := by simp [bval]; omega
        rw [e, if_pos ⟨by simp [lenB_3 (n := T.length) (by omega) h3], by simp⟩]
        simp
      · rw [lenB_4 (by omega) hk]
        unfold nextP
        rw [if_neg (by simp), if_neg (by simpa using ht), if_neg (by simp), if_neg (by simp), if_neg (by simp)]
        unfold tailP
        have e : bval (((t :: ([131, T.length / 65536, T.length / 256 % 256, T.length % 256] ++ (T ++ more))).take (1 + ((t :: ([131, T.length / 65536, T.length / 256 % 256, T.length % 256] ++ (T ++ more))).getD 1 0 - 127))).drop 2) 0 = T.length := by simp [bval]; omega
        rw [e, if_pos ⟨by simp [lenB_4 (n := T.length) (by omega) hk], by simp⟩]
        simp
theorem next_long {t k : Nat} {T : List Nat} (ht : t % 32 ≠ 31) (hT : T.length = k) (hk : k < 16777216) : nx3 (nextP (t :: ([131, k / 65536 % 256, k / 256 % 256, k % 256] ++ T))) = if 65535 < k then 0 else 2 := by
  subst hT
  unfold nextP
  rw [if_neg (by simp), if_neg (by simpa using ht), if_neg (by simp), if_neg (by simp), if_neg (by simp)]
  have e : bval (((t :: ([131, T.length / 65536 % 256, T.length / 256 % 256, T.length % 256] ++ T)).take (1 + ((t :: ([131, T.length / 65536 % 256, T.length / 256 % 256, T.length % 256] ++ T)).getD 1 0 - 127))).drop 2) 0 = T.length := by simp [bval]; omega
  rw [e]
  unfold tailP
  by_cases h : 65535 < T.length
  · have hq : lenB T.length = ((t :: ([131, T.length / 65536 % 256, T.length / 256 % 256, T.length % 256] ++ T)).take (1 + ((t :: ([131, T.length / 65536 % 256, T.length / 256 % 256, T.length % 256] ++ T)).getD 1 0 - 127))).drop 1 := by
      rw [lenB_4 (by omega) hk]
      simp; omega
    have hp : T.length ≤ (t :: ([131, T.length / 65536 % 256, T.length / 256 % 256, T.length % 256] ++ T)).length - (1 + ((t :: ([131, T.length / 65536 % 256, T.length / 256 % 256, T.length % 256] ++ T)).getD 1 0 - 127)) := by simp
    exact (congrArg nx3 (if_pos ⟨hq, hp⟩)).trans (if_pos h).symm
  · refine (congrArg nx3 (if_neg ?_)).trans (if_neg h).symm
    · rintro ⟨q, _⟩
      have hl := congrArg List.length q
      by_cases h1 : T.length < 128
      · rw [lenB_1 h1] at hl; simp at hl
      · by_cases h2 : T.length < 256
        · rw [lenB_2 (by omega) h2] at hl; simp at hl
        · rw [lenB_3 (by omega) (by omega)] at hl; simp at hl
end Go.Sx
