import Derived.Test.YtkomlijabeedpaaDoorSxHp
namespace Go.Sx
section
variable {P : Program} {T : Tys} {O : Orc} {R : Type} {r : R}

theorem avsRen_sound {ρ ρ' : Map} {m : List (Nat × Nat)} {as : List AV} {us : List Value} (hm : allL (AV.men m) as = true) (he : ∀ b d, lk b m = some d → ρ' d = ρ b) (h : RVs ρ as us) : RVs ρ' (avsRen (rn m) as) us := by
  have key : ∀ (as : List AV) (i : Nat), (avsRen (rn m) as)[i]? = (as[i]?).map (AV.ren (rn m)) := by
    intro as
    induction as with
    | nil => intro i; simp [avsRen]
    | cons x r ih =>
      intro i
      cases i with
      | zero => simp [avsRen]
      | succ i => simpa [avsRen] using ih i
  have len : ∀ as : List AV, (avsRen (rn m) as).length = as.length := by
    intro as
    induction as with
    | nil => rfl
    | cons x r ih => simp [avsRen, ih]
  refine ⟨h.1.trans (len as).symm, fun i v u hv hu => ?_⟩
  rw [key] at hv
  cases hx : as[i]? with
  | none => rw [hx] at hv; cases hv
  | some x =>
    rw [hx] at hv
    simp only [Option.map_some, Option.some.injEq] at hv
    subst hv
    exact RV_to (allL_spec hm x (List.mem_of_getElem? hx)) he (h.2 i x u hx hu)

theorem hoRun_sound {e : HEnt} {f : FuncId} (hh : ∀ args h v h', e.run args h = some (true, v, h') → FnH P f args h v h') {sid : Nat} {args : List AV} {H : Heap} {k : AV → Heap → List Nat → Option R} {m : List (Nat × Nat)} (hk : hoRun e sid args H k m (swp m) = some r)
    {N : Nat} {S : Nat → Prop} {ρ : Map} {w : World} {us : Array Value} (hr : HR N S ρ H w) (hsid : lk sid H = none) (hfree : heapFree sid H = true) (hvs : RVs ρ args us.toList) :
    ∃ v h' mv, k v h' mv = some r ∧ Good P N S ρ sid true mv v h' w ((callFunc f us).run P w) := by
  unfold hoRun at hk
  split at hk
  case h_2 => cases hk
  rename_i hchk
  simp only [Bool.and_eq_true] at hchk
  have hb := chk_spec hchk.1
  split at hk
  case h_2 => cases hk
  rename_i hc hhc
  split at hk
  rename_i hc' conv hnl
  split at hk
  case h_2 => cases hk
  rename_i c v h' hrun
  split at hk
  case h_2 => cases hk
  have he : ∀ b d, lk b (swp m) = some d → cmap ρ m d = ρ b := fun b d hd => cmap_some (hb.from hd)
  have hvs' := avsRen_sound hchk.2 he hvs
  have h600 : ∀ n, nidOf conv h' = some n → lk n m = none := by
    intro n hn
    rw [hn] at hk
    simp only [hoRet] at hk
    split at hk
    · rename_i hok
      simp only [Bool.and_eq_true] at hok
      have := hok.2.1
      unfold hasKey at this
      cases hl : lk n m with
      | none => rfl
      | some x => rw [hl] at this; cases this
    · cases hk
  have hr1 := HR_nilIn (HR_can hr hb hhc) hnl (fun hconv => by
    subst hconv
    unfold cmap
    rw [h600 600 rfl])
  have hcall := hh _ _ _ _ hrun _ _ _ w us hr1 hvs'
  generalize nidOf conv h' = nid at hk h600
  generalize (callFunc f us).run P w = res at hcall
  -- the caller's side, once the callee has ended
  have back : ∃ m2 H1 H', m2 = m2Of m sid nid ∧ (∀ n, nid = some n → lk n m = none ∧ 500 ≤ n) ∧ movOk (movs m) (swp m) H = true ∧ lay m2 h' m H = some H1 ∧ topOf H' H1 h' m2 sid nid ∧ v.men m2 = true ∧ k (v.ren (rn m2)) H' (movs m) = some r := by
    cases nid with
    | none =>
      simp only [hoRet] at hk
      split at hk
      · rename_i hok
        simp only [Bool.and_eq_true] at hok
        split at hk
        · rename_i H1 hl
          exact ⟨m, H1, H1, rfl, fun n hn => (by cases hn), hok.2, hl, rfl, hok.1, hk⟩
        · cases hk
      · cases hk
    | some n =>
      simp only [hoRet] at hk
      split at hk
      · rename_i hok
        simp only [Bool.and_eq_true] at hok
        split at hk
        · rename_i H1 hl
          split at hk
          · rename_i x hx
            split at hk
            · rename_i hx2
              simp only [Bool.and_eq_true] at hx2
              refine ⟨(n, sid) :: m, H1, _, rfl, fun n' hn => ?_, hok.1.2, hl, ⟨x, hx, hx2.1, by have := blt_true hx2.2; omega, rfl⟩, hok.1.1, hk⟩
              simp only [Option.some.injEq] at hn
              subst hn
              exact ⟨h600 _ rfl, Nat.le_of_ble_eq_true hok.2.2⟩
            · cases hk
          · cases hk
        · cases hk
      · cases hk
  obtain ⟨m2, H1, H', e1, e2, e3, e4, e5, e6, e7⟩ := back
  refine ⟨v.ren (rn m2), H', movs m, e7, ?_⟩
  unfold OutH at hcall
  unfold Good
  split at hcall
  · refine ⟨hcall.1, Calls.mono hcall.2 fun en w'' hen => ?_⟩
    obtain ⟨u, ρ', g1, g2, g3, g4, g5⟩ := hen
    obtain ⟨ρC, c1, c2, c3, c4⟩ := ho_back (nid := nid) hr hsid hfree hb hhc g3 g4 g5 e3 e1 e2 e4 e5
    exact ⟨u, ρC, g1, RV_to e6 c1 g2, c3, c4, fun b hb1 hb2 => c2 b hb1 (fun q => by have := hb2 q; cases this)⟩
  · exact hcall.elim

theorem orcH_sound {tv : List (Nat × (List AV → Option (Bool × AV)))} {th : List (Nat × HEnt)} (hv : ∀ f g, (f, g) ∈ tv → ∀ args v, g args = some (true, v) → Fn1 P f args v)
    (hh : ∀ f e, (f, e) ∈ th → ∀ args h v h', e.run args h = some (true, v, h') → FnH P f args h v h') : OSound P (orcH tv th) := by
  intro R f sid args h k r hk N S ρ w us hr hn hfree hvs
  simp only [orcH] at hk
  split at hk
  · rename_i e he
    split at hk
    · exact hoRun_sound (hh f e (lk_mem he)) hk hr hn hfree hvs
    · cases hk
  · exact orc_sound hv f sid args h k r hk N S ρ w us hr hn hfree hvs

theorem hoRet_det {sid : Nat} {H : Heap} {k : AV → Heap → List Nat → Option R} {m inv : List (Nat × Nat)} {v : AV} {h' : Heap} {nid : Option Nat} (hk : hoRet sid H k m inv v h' nid = some r) :
    ∃ v2 h2 mv, k v2 h2 mv = some r ∧ ∀ (R' : Type) (k' : AV → Heap → List Nat → Option R'), hoRet sid H k' m inv v h' nid = k' v2 h2 mv := by
  cases nid with
  | none =>
    simp only [hoRet] at hk ⊢
    split at hk
    · split at hk
      · exact ⟨_, _, _, hk, fun R' k' => by simp only [*]⟩
      · cases hk
    · cases hk
  | some n =>
    simp only [hoRet] at hk ⊢
    split at hk
    · split at hk
      · split at hk
        · split at hk
          · exact ⟨_, _, _, hk, fun R' k' => by simp only [*]⟩
          · cases hk
        · cases hk
      · cases hk
    · cases hk

theorem orcH_det (tv : List (Nat × (List AV → Option (Bool × AV)))) (th : List (Nat × HEnt)) : ODet (orcH tv th) := by
  intro R f sid args h k r hk
  simp only [orcH] at hk ⊢
  cases hf : lk f th with
  | none =>
    rw [hf] at hk
    exact orc_det tv f sid args h k r hk
  | some e =>
    rw [hf] at hk
    simp only at hk ⊢
    cases hfi : find h 1000 (avsCells args) [] with
    | none => rw [hfi] at hk; cases hk
    | some bs =>
      rw [hfi] at hk
      simp only at hk ⊢
      unfold hoRun at hk ⊢
      split at hk
      case h_2 => cases hk
      rename_i hchk
      split at hk
      case h_2 => cases hk
      rename_i hc hhc
      cases hnl : nilIn e.nl hc with
      | mk hc' conv =>
        rw [hnl] at hk
        simp only at hk
        split at hk
        case h_2 => cases hk
        rename_i c v h' hrun
        split at hk
        case h_2 => cases hk
        obtain ⟨v2, h2, mv, g1, g2⟩ := hoRet_det hk
        refine ⟨v2, h2, mv, g1, fun R' k' => ?_⟩
        simp only [hnl, hrun]
        exact g2 R' k'
end
end Go.Sx
