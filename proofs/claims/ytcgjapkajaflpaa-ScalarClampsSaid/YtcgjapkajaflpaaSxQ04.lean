import Derived.Test.YtcgjapkajaflpaaSxP04c
import Derived.Laws.BitsLemmas
namespace Go.Sx
theorem ex9 : g9v = some (.v (.cell (.bool true))) := by kernel_rfl
theorem and248 (x : Nat) (h : x < 256) : x &&& 248 = (x / 8 * 8) % 256 :=
  beq_true (allLt_spec (p := fun x => Nat.beq (x &&& 248) ((x / 8 * 8) % 256)) (n := 256) (by kernel_rfl) x h)
theorem or64 (x : Nat) (h : x < 256) : (x &&& 63) ||| 64 = (x % 64 + 64) % 256 :=
  beq_true (allLt_spec (p := fun x => Nat.beq ((x &&& 63) ||| 64) ((x % 64 + 64) % 256)) (n := 256) (by kernel_rfl) x h)

theorem clamp (a : List Nat) (h : ∀ x ∈ a, x < 256) : ∃ t b, g18v a = some (.tup [.cell (.str t), .cell (.bool b)]) ∧ g19v a = some (.tup [.cell (.str t), .cell (.bool b)]) := by
  by_cases hl : a.length = 32
  · have h0 : a.getD 0 0 < 256 := by
      rw [List.getD_eq_getElem?_getD, List.getElem?_eq_getElem (by omega)]
      exact h _ (List.getElem_mem _)
    have h31 : ∀ y, (a.set 0 y).getD 31 0 = a.getD 31 0 := by
      intro y
      simp [List.getD_eq_getElem?_getD, List.getElem?_set]
    have h31' : a.getD 31 0 < 256 := by
      rw [List.getD_eq_getElem?_getD, List.getElem?_eq_getElem (by omega)]
      exact h _ (List.getElem_mem _)
    refine ⟨((a.set 0 (a.getD 0 0 &&& 248)).set 31 ((a.getD 31 0 &&& 63) ||| 64)).take 32, true, ?_, ?_⟩
    · simp only [g18v, g18, g18J3, realA, hl, h31]
      rfl
    · have e2 : a.getD 31 0 % 64 < 256 := by omega
      simp only [g19v, g19, g19J3, realA, hl, h31]
      rw [and248 _ h0, or64 _ h31']
      rfl
  · refine ⟨[], false, ?_, ?_⟩
    · simp only [g18v, g18, realA]
      rw [decide_eq_false (by omega)]
      rfl
    · simp only [g19v, g19, realA]
      rw [decide_eq_false (by omega)]
      rfl

theorem bit (a : List Nat) (i : Int) (h : -9223372036854775808 ≤ i ∧ i < 9223372036854775808) : ∃ x, g20v a i = some (.v (.cell (.int .i64 x))) ∧ g21v a i = some (.v (.cell (.int .i64 x))) := by
  have e : g21v a i = g20v a i := rfl
  rw [e]
  suffices ∃ x, g20v a i = some (.v (.cell (.int .i64 x))) by
    obtain ⟨x, hx⟩ := this
    exact ⟨x, hx, hx⟩
  by_cases h0 : i < 0
  · exact ⟨0, by simp only [g20v, g20, realA, decide_eq_true h0]⟩
  · have hq : IntKind.wrap .i64 (i.tdiv 8) = i / 8 := by
      rw [Int.tdiv_eq_ediv_of_nonneg (by omega), IntKind.wrap_i64]
      omega
    have hm : i.tmod 8 = i % 8 := Int.tmod_eq_emod_of_nonneg (by omega)
    by_cases h1 : (a.length : Int) ≤ i / 8
    · exact ⟨0, by simp only [g20v, g20, realA, decide_eq_false h0, hq, decide_eq_true h1]⟩
    · have h2 : ¬ i / 8 < 0 := by omega
      have h3 : (i / 8).toNat < a.length := by omega
      have h4 : ¬ i % 8 < 0 := by omega
      exact ⟨_, by simp only [g20v, g20, g20J3, realA, decide_eq_false h0, hq, decide_eq_false h1, decide_eq_false h2, decide_eq_true h3, hm, decide_eq_false h4]; rfl⟩

theorem law7 (a : List Nat) (i : Int) (ha : ∀ x ∈ a, x < 256) (hi : -9223372036854775808 ≤ i ∧ i < 9223372036854775808) : g7o [.v (.cell (.str a)), .v (.cell (.int .i64 i))] = some (true, .v (.cell (.bool true))) := by
  obtain ⟨t, b, c1, c2⟩ := clamp a ha
  obtain ⟨x, b1, b2⟩ := bit a i hi
  have e9 : g9ok = true := by unfold g9ok; rw [ex9]; rfl
  have e9' : g9r0 = true := by unfold g9r0; rw [ex9]; rfl
  have k18 : g18ok a = true := by unfold g18ok; rw [c1]; rfl
  have k19 : g19ok a = true := by unfold g19ok; rw [c2]; rfl
  have k20 : g20ok a i = true := by unfold g20ok; rw [b1]; rfl
  have k21 : g21ok a i = true := by unfold g21ok; rw [b2]; rfl
  have r18 : g18r0 a = t := by unfold g18r0; rw [c1]; rfl
  have r19 : g19r0 a = t := by unfold g19r0; rw [c2]; rfl
  have q18 : g18r1 a = b := by unfold g18r1; rw [c1]; rfl
  have q19 : g19r1 a = b := by unfold g19r1; rw [c2]; rfl
  have r20 : g20r0 a i = x := by unfold g20r0; rw [b1]; rfl
  have r21 : g21r0 a i = x := by unfold g21r0; rw [b2]; rfl
  have e : g7v a i = some (.v (.cell (.bool true))) := by
    unfold g7v
    generalize 100000 = n
    unfold g7 g7J4
    rw [e9, e9', k18, k19, k20, k21, r18, r19, q18, q19, r20, r21]
    simp only [realA, decide_true]
    cases b <;> rfl
  simp only [g7o, g7ok, g7r0, e, g7is, g7g0]

theorem law7' (a : List Nat) (ha : ∀ x ∈ a, x < 256) (_ : a.length < 2 ^ 47) (i : Int) (hi : (Lit.int .i64 i).wf = true) : g7o [.v (.cell (.str a)), .v (.cell (.int .i64 i))] = some (true, .v (.cell (.bool true))) :=
  law7 a i ha (by
    have : (-9223372036854775808 ≤ i ∧ i ≤ 9223372036854775807) := by simpa [Lit.wf, IntKind.min, IntKind.max, IntKind.signed, IntKind.bits] using hi
    omega)
end Go.Sx
