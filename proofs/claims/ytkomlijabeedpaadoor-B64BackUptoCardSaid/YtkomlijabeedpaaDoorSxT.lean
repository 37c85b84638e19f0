import Derived.Test.YtkomlijabeedpaaDoorSxW2
import Derived.Tactics
namespace Go.Sx

section
variable {P : Program} {T : Tys} {O : Orc} {N : Nat} {S : Nat → Prop} {ρ₀ : Map} {w₀ : World} {cx : Cx} {R : Type} {r : R}

def resRun (tmps : Array Value) : ResultVar → Sem Value
  | .tmp t => pure (tmps.getD t undef)
  | .cell a t => do loadVar t (← asAddr (tmps.getD a undef))

theorem results_eq (fn : Func) (tmps : Array Value) : results fn tmps = (do let vs ← fn.results.mapM (resRun tmps); pure (if h : vs.size = 1 then vs[0] else .tuple vs)) := by
  unfold results
  congr 1

theorem resOne_sound (hT : TyOK P T) {ρ : Map} {s : St} {a : Act} {w : World} (h : Rel N S ρ₀ w₀ cx ρ s a w) {x : ResultVar} {v : V1} (hv : resOne T s x = some v) : ∃ u, (resRun a.tmps x).run P w = .ok u w ∧ RV1 ρ v u := by
  unfold resOne at hv
  split at hv
  · rename_i t
    split at hv
    · rename_i x hx
      simp only [Option.some.injEq] at hv
      subst hv
      exact ⟨_, rfl, h.sl _ _ hx⟩
    · cases hv
  · rename_i p t
    split at hv
    · rename_i av hp
      have hpv := h.sl _ _ hp
      obtain ⟨u, h1, h2⟩ := loadE_sound (P := P) hT h.hr hv hpv
      refine ⟨u, ?_, h2⟩
      have : ∃ A, a.tmps.getD p undef = .pointer (some A) := by
        unfold loadE at hv
        split at hv
        · obtain ⟨L, _, hx'⟩ := hpv
          split at hx'
          · exact ⟨_, hx'⟩
          · exact ⟨_, hx'.1⟩
        · cases hv
      obtain ⟨A, hA⟩ := this
      rw [hA] at h1
      simp only [resRun, hA]
      simpa [Instr.loadAt, Instr.sureAddr, asAddr] using h1
    · cases hv

theorem resAll_sound (hT : TyOK P T) {ρ : Map} {s : St} {a : Act} {w : World} (h : Rel N S ρ₀ w₀ cx ρ s a w) {l : List ResultVar} {vs : List V1} (hv : resAll T s l = some vs) :
    ∃ us : List Value, (l.mapM (resRun a.tmps)).run P w = .ok us w ∧ us.length = vs.length ∧ ∀ (i : Nat) x, vs[i]? = some x → ∃ u, us[i]? = some u ∧ RV1 ρ x u := by
  induction l generalizing vs with
  | nil =>
    simp only [resAll, Option.some.injEq] at hv
    subst hv
    exact ⟨[], by simp, rfl, fun i x hx => by simp at hx⟩
  | cons y q ih =>
    simp only [resAll] at hv
    split at hv
    · rename_i v hv1
      split at hv
      · rename_i l hl
        simp only [Option.some.injEq] at hv
        subst hv
        obtain ⟨u, h1, h2⟩ := resOne_sound hT h hv1
        obtain ⟨us, h3, h4, h5⟩ := ih hl
        refine ⟨u :: us, by simp [h1, h3], by simp [h4], fun i x hx => ?_⟩
        cases i with
        | zero =>
          simp at hx
          subst hx
          exact ⟨u, rfl, h2⟩
        | succ i => exact h5 i x (by simpa using hx)
      · cases hv
    · cases hv

theorem res_sound (hT : TyOK P T) {ρ : Map} {s : St} {a : Act} {w : World} (h : Rel N S ρ₀ w₀ cx ρ s a w) {fn : Func} {v : AV} (hv : resE T fn.results.toList s = some v) :
    ∃ u, (results fn a.tmps).run P w = .ok u w ∧ RV ρ v u := by
  rw [results_eq]
  have e : fn.results.mapM (resRun a.tmps) = (do let l ← fn.results.toList.mapM (resRun a.tmps); pure l.toArray) := by
    rw [Array.mapM_eq_mapM_toList]
    rfl
  rw [e]
  unfold resE at hv
  split at hv
  · rename_i x hx
    rw [hx]
    split at hv
    · rename_i v' hv'
      simp only [Option.some.injEq] at hv
      subst hv
      unfold fnOf at hv'
      split at hv'
      · rename_i t
        split at hv'
        · rename_i f p q hl
          simp only [Option.some.injEq] at hv'
          subst hv'
          exact ⟨a.tmps.getD t undef, by simp [resRun], h.sl _ _ hl⟩
        · cases hv'
      · cases hv'
    · split at hv
      · rename_i v' hv'
        simp only [Option.some.injEq] at hv
        subst hv
        obtain ⟨u, h1, h2⟩ := resOne_sound hT h hv'
        exact ⟨u, by simp [h1], h2⟩
      · cases hv
  · rename_i hx
    split at hv
    · rename_i l hl
      simp only [Option.some.injEq] at hv
      subst hv
      obtain ⟨us, h1, h2, h3⟩ := resAll_sound hT h hl
      refine ⟨.tuple us.toArray, ?_, us.toArray, rfl, by simpa using h2, fun i x hxx => by simpa using h3 i x hxx⟩
      have hne : us.length ≠ 1 := by
        intro e1
        have : fn.results.toList.length = 1 := by
          have hl2 : ∀ (q : List ResultVar) (l : List V1), resAll T s q = some l → l.length = q.length := by
            intro q
            induction q with
            | nil => intro l hl; simp only [resAll, Option.some.injEq] at hl; subst hl; rfl
            | cons y q ih =>
              intro l hl
              simp only [resAll] at hl
              split at hl
              · split at hl
                · rename_i l' hl'
                  simp only [Option.some.injEq] at hl
                  subst hl
                  simp [ih l' hl']
                · cases hl
              · cases hl
          rw [← hl2 _ _ hl, ← h2, e1]
        obtain ⟨y, hy⟩ := List.length_eq_one_iff.1 this
        exact hx y hy
      simp [h1, hne]
    · cases hv

theorem lk_slotsOf {vs : List AV} {i t : Nat} {v : AV} (h : lk t (slotsOf i vs) = some v) : i ≤ t ∧ vs[t - i]? = some v := by
  induction vs generalizing i with
  | nil => simp [slotsOf, lk] at h
  | cons x q ih =>
    simp only [slotsOf] at h
    rw [lk_cons] at h
    split at h
    · rename_i e
      subst e
      simp only [Option.some.injEq] at h
      subst h
      exact ⟨Nat.le_refl _, by simp⟩
    · obtain ⟨h1, h2⟩ := ih h
      refine ⟨by omega, ?_⟩
      rw [show t - i = (t - (i + 1)) + 1 by omega]
      simpa using h2

end
end Go.Sx
