import Derived.Test.YtllahodhfohhpaaSxN14d
import Derived.Test.YtllahodhfohhpaaSxE14
import Derived.Test.YtllahodhfohhpaaSxP14i
namespace Go.Sx
set_option linter.unusedVariables false
set_option linter.unusedSectionVars false
theorem m14_fill {R : Type} (N : Nat) (kk : AV → Heap → Option R) (c k : Nat) (b : Bool) (hk : k < 1000000) : ∀ (d i m : Nat), i + d = k → d + 1 ≤ m → g6L7 realA N kk m c b (k : Int) k (i : Nat) k (List.replicate i c ++ List.replicate d 0) = g6J10 realA N kk b (k : Int) k k (List.replicate k c) := by
  intro d
  induction d with
  | zero =>
    intro i m h1 h2
    obtain ⟨m, rfl⟩ : ∃ m', m = m' + 1 := ⟨m - 1, by omega⟩
    rw [g6L7, ar_lss, decide_eq_false (by omega)]
    have : i = k := by omega
    subst this
    simp
  | succ d ih =>
    intro i m h1 h2
    obtain ⟨m, rfl⟩ : ∃ m', m = m' + 1 := ⟨m - 1, by omega⟩
    rw [g6L7, ar_lss, decide_eq_true (by omega)]
    simp only
    unfold g6J9
    rw [ar_negN, ar_toNN, ar_lt, decide_eq_true (by omega), ar_add (by omega)]
    simp only
    have e : (List.replicate i c ++ List.replicate (d + 1) 0).set i c = List.replicate (i + 1) c ++ List.replicate d 0 := by
      rw [List.set_append_right _ _ (by simp), List.length_replicate, Nat.sub_self, List.replicate_succ' (n := i), List.append_assoc]
      rfl
    rw [e]
    exact ih (i + 1) m (by omega) (by omega)
theorem m14_top {R : Type} (N m : Nat) (kk : AV → Heap → Option R) (x0 : Bool) (x1 : Int) (x2 : Nat) (x3 : List Nat) (x4 x5 : Int) (i x8 : Nat) (x9 : List Nat) (tops : List Int) (hi : i < 3) (h5 : 0 ≤ x5 ∧ x5 < 100) : g6L14 realA N kk (m + 1) x0 x1 x2 x3 x4 x5 3 (i : Nat) x8 x9 3 tops = g6L14 realA N kk m x0 x1 x2 x3 x4 (if tops.getD i 0 < x1 then x5 + 1 else x5) 3 ((i + 1 : Nat) : Int) x8 x9 3 tops := by
  rw [g6L14, ar_lss, decide_eq_true (by omega)]
  simp only
  unfold g6J16
  rw [ar_negN, ar_toNN, ar_lt, decide_eq_true hi, ar_gtr, ar_add (a := (i : Int)) (by omega), ar_add (by omega)]
  simp only
  by_cases h : tops.getD i 0 < x1
  · rw [decide_eq_true h, if_pos h]; rfl
  · rw [decide_eq_false h, if_neg h]; rfl
def more14 (k : Nat) : Int := if 65535 < k then 5 else if 255 < k then 4 else if 127 < k then 3 else 2
theorem m14_tops {R : Type} (N m : Nat) (kk : AV → Heap → Option R) (x0 : Bool) (k : Nat) (x2 : Nat) (x3 : List Nat) (x4 : Int) (x8 : Nat) (x9 : List Nat) : g6L14 realA N kk (m + 4) x0 (k : Int) x2 x3 x4 2 3 0 x8 x9 3 [127, 255, 65535] = g6J18 realA N kk x0 (k : Int) x2 x3 x4 (more14 k) x8 x9 := by
  have h0 := m14_top N (m + 3) kk x0 (k : Int) x2 x3 x4 2 0 x8 x9 [127, 255, 65535] (by omega) (by omega)
  rw [show ((0 : Nat) : Int) = 0 from rfl] at h0
  rw [h0]
  simp only [List.getD_cons_zero]
  rw [m14_top N (m + 2) kk x0 (k : Int) x2 x3 x4 _ 1 x8 x9 [127, 255, 65535] (by omega) (by split <;> omega)]
  rw [m14_top N (m + 1) kk x0 (k : Int) x2 x3 x4 _ 2 x8 x9 [127, 255, 65535] (by omega) (by split <;> split <;> omega)]
  simp only [List.getD_cons_succ, List.getD_cons_zero]
  rw [g6L14, ar_lss, decide_eq_false (by omega)]
  simp only
  congr 1
  unfold more14
  by_cases h1 : 65535 < k
  · rw [if_pos (by omega), if_pos (by omega), if_pos (by omega), if_pos h1]; rfl
  · by_cases h2 : 255 < k
    · rw [if_neg (by omega), if_pos (by omega), if_pos (by omega), if_neg h1, if_pos h2]; rfl
    · by_cases h3 : 127 < k
      · rw [if_neg (by omega), if_neg (by omega), if_pos (by omega), if_neg h1, if_neg h2, if_pos h3]; rfl
      · rw [if_neg (by omega), if_neg (by omega), if_neg (by omega), if_neg h1, if_neg h2, if_neg h3]
theorem lenB_more {k : Nat} (hk : k < 16777216) : ((lenB k).length : Int) + 1 = more14 k := by
  unfold more14
  by_cases h1 : 65535 < k
  · rw [if_pos h1, lenB_4 (by omega) hk]; rfl
  · by_cases h2 : 255 < k
    · rw [if_neg h1, if_pos h2, lenB_3 (by omega) (by omega)]; rfl
    · by_cases h3 : 127 < k
      · rw [if_neg h1, if_neg h2, if_pos h3, lenB_2 (by omega) (by omega)]; rfl
      · rw [if_neg h1, if_neg h2, if_neg h3, lenB_1 (by omega)]; rfl
theorem lenB_bytes {k : Nat} (hk : k < 16777216) : ∀ x ∈ lenB k, x < 256 := by
  intro x hx
  by_cases h1 : 65535 < k
  · rw [lenB_4 (by omega) hk] at hx; simp at hx; omega
  · by_cases h2 : 255 < k
    · rw [lenB_3 (by omega) (by omega)] at hx; simp at hx; omega
    · by_cases h3 : 127 < k
      · rw [lenB_2 (by omega) (by omega)] at hx; simp at hx; omega
      · rw [lenB_1 (by omega)] at hx; simp at hx; omega
theorem m14_J18 (N k c : Nat) (T : List Nat) (hk : k < 70001) (hT : T.length = k) (hb : ∀ x ∈ T, x < 256) : g6J18 realA N (fun v _ => some v) true (k : Int) k (4 :: (lenB k ++ T)) 0 (more14 k) k T = some (.v (.cell (.bool true))) := by
  unfold g6J18
  have hs : ∀ x ∈ 4 :: (lenB k ++ T), x < 256 := by
    intro x hx
    rcases List.mem_cons.1 hx with rfl | hx
    · omega
    · rcases List.mem_append.1 hx with hx | hx
      · exact lenB_bytes (by omega) x hx
      · exact hb x hx
  have hll := lenB_len (n := k) (by omega)
  have hsl : (4 :: (lenB k ++ T)).length < 1000000000000 := by simp; omega
  have e16 : realA.ish .shr .i64 (k : Int) 16 = ((k / 65536 : Nat) : Int) := by
    rw [ar_shr (by decide)]; show (k : Int) / 65536 = _; omega
  have e8 : realA.ish .shr .i64 (k : Int) 8 = ((k / 256 : Nat) : Int) := by
    rw [ar_shr (by decide)]; show (k : Int) / 256 = _; omega
  have hT' : T.take k = T := List.take_of_length_le (by omega)
  rw [next_ok hs hsl, next_0 hs hsl, next_1 hs hsl, next_3 hs hsl, e16, e8, ar_i2nN, ar_i2nN, ar_i2nN, hT']
  have hw : nextP (4 :: (lenB k ++ T)) = some (4, T, []) := by
    have := next_wrap (t := 4) (k := k) (T := T) (more := []) (by decide) hT (by omega)
    rwa [List.append_nil] at this
  rw [hw]
  have hlong : [4, 131] ++ [k / 65536 % 256, k / 256 % 256, k % 256].take 3 ++ T = 4 :: ([131, k / 65536 % 256, k / 256 % 256, k % 256] ++ T) := rfl
  rw [hlong]
  have hs2 : ∀ x ∈ 4 :: ([131, k / 65536 % 256, k / 256 % 256, k % 256] ++ T), x < 256 := by
    intro x hx
    simp only [List.cons_append, List.nil_append, List.mem_cons] at hx
    rcases hx with rfl | rfl | rfl | rfl | rfl | hx
    · omega
    · omega
    · omega
    · omega
    · omega
    · exact hb x hx
  have hsl2 : (4 :: ([131, k / 65536 % 256, k / 256 % 256, k % 256] ++ T)).length < 1000000000000 := by simp; omega
  rw [next_ok hs2 hsl2, next_3 hs2 hsl2, next_long (by decide) hT (by omega), ar_le, decide_eq_true (by simp), ar_le, decide_eq_true (by simp; omega)]
  simp only
  rw [ar_eql, decide_eq_true rfl, ar_ofN, ar_add (by unfold more14; split <;> (try split) <;> (try split) <;> omega), ar_eql]
  have hlen : (((4 :: (lenB k ++ T)).length : Nat) : Int) = (k : Int) + more14 k := by
    rw [← lenB_more (by omega)]
    simp; omega
  rw [decide_eq_true hlen]
  simp only [nx0, nx1, nx3]
  rw [ar_eql, decide_eq_true (show ((4 : Nat) : Int) = 4 from rfl), ar_sceq, decide_eq_true (rfl : T = T)]
  simp only
  rw [ar_eql 0 0, decide_eq_true (rfl : (0 : Int) = 0)]
  simp only
  rw [ar_eql, ar_gtr]
  by_cases h : 65535 < k
  · rw [if_pos h, decide_eq_true (rfl : (0 : Int) = 0), decide_eq_true (show (65535 : Int) < (k : Int) by omega)]; rfl
  · rw [if_neg h, decide_eq_false (show ¬ (2 : Int) = 0 by decide), decide_eq_false (show ¬ (65535 : Int) < (k : Int) by omega)]; rfl
theorem law6m (a b : Nat) (ha : a < 4294967296) (hb : b < 256) : g6v realA a b = some (.v (.cell (.bool true))) := by
  unfold g6v
  have hN : (100000 : Nat) = 99900 + 100 := rfl
  generalize hM : 99900 = M at hN
  rw [hN]
  have hM2 : 90000 ≤ M := by omega
  clear hN hM
  unfold g6
  rw [ex14ok, ex14r]
  simp only [Bool.not_true]
  unfold g6J4
  have hr : realA.nb .rem .u32 a 70001 = a % 70001 := rfl
  have hk : a % 70001 < 70001 := Nat.mod_lt _ (by decide)
  rw [hr]
  generalize a % 70001 = k at hk
  rw [ar_ofN, ar_negN, ar_toNN, ar_le, decide_eq_true (Nat.le_refl _), ar_le, decide_eq_true (by omega)]
  simp only
  have hf := m14_fill (R := AV) (M + 100) (fun v _ => some v) b k true (by omega) k 0 (M + 100) (by omega) (by omega)
  simp only [List.replicate_zero, List.nil_append] at hf
  rw [show ((0 : Nat) : Int) = 0 from rfl] at hf
  rw [hf]
  unfold g6J10
  have hT : (List.replicate k b).take k = List.replicate k b := List.take_of_length_le (by simp)
  rw [hT, wrap_ok, wrap_0, wrap_1]
  have hw : wrapB 4 (List.replicate k b) = (4 :: (lenB k ++ List.replicate k b), 0) := by
    unfold wrapB
    rw [if_neg (by decide), if_neg (by decide), if_neg (by decide), if_neg (by simp; omega)]
    simp
  rw [hw]
  simp only
  rw [m14_tops (M + 100) (M + 96)]
  exact m14_J18 (M + 100) k 0 (List.replicate k b) hk (by simp) (fun x hx => by rw [(List.mem_replicate.1 hx).2]; exact hb)
theorem law6 (x : Int) (hx : (Lit.int .u32 x).wf = true) (y : Int) (hy : (Lit.int .u8 y).wf = true) :
    g6o realA [.v (.cell (.nat .u32 x.toNat)), .v (.cell (.nat .u8 y.toNat))] = some (true, .v (.cell (.bool true))) := by
  have h1 : (0 ≤ x ∧ x ≤ 4294967295) := by simpa [Lit.wf, IntKind.min, IntKind.max, IntKind.signed, IntKind.bits] using hx
  have h2 : (0 ≤ y ∧ y ≤ 255) := by simpa [Lit.wf, IntKind.min, IntKind.max, IntKind.signed, IntKind.bits] using hy
  have e : g6v realA x.toNat y.toNat = some (.v (.cell (.bool true))) := law6m _ _ (by omega) (by omega)
  have e1 : g6ok realA x.toNat y.toNat = true := (congrArg g6is e).trans rfl
  have e2 : g6r0 realA x.toNat y.toNat = true := (congrArg g6g0 e).trans rfl
  show some (g6ok realA x.toNat y.toNat, AV.v (.cell (.bool (g6r0 realA x.toNat y.toNat)))) = _
  rw [e1, e2]
end Go.Sx
