import Derived.Test.YtkomlijabeedpaaDoorSxGo
import Derived.Test.YtkomlijabeedpaaDoorSxNi
namespace Go.Sx
section
variable {P : Program} {T : Tys} {O : Orc} {N : Nat} {S : Nat → Prop} {R : Type} {r : R}

theorem HR_putObj {ρ : Map} {h : Heap} {w : World} {D : Nat} {o : Obj} (hr : HR N S ρ h w) (hD : w.heap[D]? = some o) (ho : o.isCells = false) (o' : Obj) : HR N S ρ h (w.putObj D o') := by
  refine ⟨by simpa using hr.low, fun b x hb => ?_, hr.inj⟩
  rcases hr.blk b x hb with h1 | ⟨L, cur, fz, h1, h2, h3⟩
  · exact .inl h1
  · refine .inr ⟨L, cur, fz, h1, ?_, h3⟩
    rw [World.putObj_heap_other (fun e => by rw [e, hD] at h2; cases h2; cases ho)]
    exact h2
theorem Fr_putObj {w₀ w : World} {D : Nat} (hf : Fr N S w₀ w) (hN : N ≤ w₀.heap.size) (hD : w₀.heap.size ≤ D) (o' : Obj) : Fr N S w₀ (w.putObj D o') :=
  ⟨hf.os, hf.tape, hf.output, by simpa using hf.size, fun k hk hs => by rw [World.putObj_heap_other (by omega)]; exact hf.block k hk hs, fun k o hk ho => by
    have := (Array.getElem?_eq_some_iff.1 hk).1
    rw [World.putObj_heap_other (by omega)]
    exact hf.oth k o hk ho⟩

theorem leaves_marks {F : Fence} {n : Nat} {fn : Func} {tmps : Array Value} {Q : Ending → World → Prop} {lo : Nat} (I : World → Prop) (hI : ∀ w D, I w → lo ≤ D → w.heap[D]? = some (.deferred (some [])) → I (w.putObj D (.deferred none))) (hQ : ∀ w, I w → ∃ v, (results fn tmps).run P w = .ok v w ∧ Q (.returned v) w) : ∀ (ds : List Deferred) (w : World), ds.Pairwise (· ≠ ·) → (∀ d ∈ ds, ∃ D, d = { target := .collected D, args := #[] } ∧ lo ≤ D ∧ w.heap[D]? = some (.deferred (some []))) → I w → LeavesInM F n P fn tmps Q ds .returning w := by
  intro ds
  induction ds with
  | nil => intro w _ _ h; exact hQ w h
  | cons d ds ih =>
    intro w hp hm h
    obtain ⟨D, rfl, h1, h2⟩ := hm d List.mem_cons_self
    refine ⟨by simp, .inl ⟨D, _, rfl, run_takeDeferred h2, ih _ (List.pairwise_cons.1 hp).2 (fun d' hd' => ?_) (hI w D h h1 h2)⟩⟩
    obtain ⟨D', rfl, g1, g2⟩ := hm d' (List.mem_cons_of_mem _ hd')
    refine ⟨D', rfl, g1, ?_⟩
    rw [World.putObj_heap_other (fun e => (List.pairwise_cons.1 hp).1 _ hd' (by rw [e]))]
    exact g2

theorem funG_sound (hM : P.follows .mixedOrders = true) (hT : TyOK P T) (hO : OSound P O) (hD : ODet O) (hpb : O.pb ≤ 500) (htk : O.tk = false) (hyl : ∀ vs h, O.yl vs h = none) (hnx : O.nx = none) {an : Ann} {cut : List Nat} {f : FuncId} {fn : Func} {c : Code} (hf : P.funcs[f]? = some fn) (hb : fn.body = some c) (hok : codeOk fn.ntmps c = true) {vs : List AV} {us : Array Value} {h : Heap} {ρ : Map} {w : World} (hR : RngOk P O Fence.wide 0 N S ρ w ⟨fn.ntmps, [], fun _ => undef, O.pb, hpb, w.heap.size⟩ (rngs c))
    (hn : vs.length ≤ fn.ntmps) (hvs : RVs ρ vs us.toList) (hr : HR N S ρ h w) {k : AV → Heap → Option R} (hk : ∃ m, funN realA T O an cut c fn.results.toList vs h k (goD realA T O an cut c (finD T fn.results.toList k) m) = some r) :
    Calls P f us w fun e w' => ∃ u ρ' v h', e = .returned u ∧ k v h' = some r ∧ RV ρ' v u ∧ HR N S ρ' h' w' ∧ Fr N S w w' ∧ ∀ b, b < O.pb → ρ' b = ρ b := by
  obtain ⟨m, hk⟩ := hk
  refine callsIn_wide.1 (callsIn_of_wp_marks (n := 0) hf hb trivial ?_)
  have hsz : us.size = vs.length := by have := hvs.1; simpa using this
  have h0 : Rel N S ρ w ⟨fn.ntmps, [], fun _ => undef, O.pb, hpb, w.heap.size⟩ ρ ⟨slotsOf 0 vs, h⟩ { tmps := us ++ Array.replicate (fn.ntmps - us.size) undef, defers := [] } w := by
    refine ⟨hr, fun t v hv => ?_, by simp; omega, DfOk.nil rfl rfl, Fr.refl _ _ _, fun _ _ => rfl⟩
    obtain ⟨_, h2⟩ := lk_slotsOf hv
    simp only [Nat.sub_zero] at h2
    have hlt : t < us.size := by rw [hsz]; exact (List.getElem?_eq_some_iff.1 h2).1
    have hu : us.toList[t]? = some us[t] := by simp [hlt]
    have hg : (us ++ Array.replicate (fn.ntmps - us.size) undef).getD t undef = us[t] := by
      rw [Array.getD_eq_getD_getElem?, Array.getElem?_append_left hlt]
      simp [hlt]
    rw [hg]
    exact hvs.2 t v _ h2 hu
  have hw := go_sound (P := P) (F := Fence.wide) (fu := 0) (G := fun _ _ => True) (I := fun _ _ => True) (.inl rfl) hM hT hO hD rfl (fun _ _ _ _ _ => trivial) (fun _ _ _ => trivial) (fun _ _ _ _ _ => trivial) (fun _ _ _ => trivial) (fun t sI e => by rw [hnx] at e; cases e) (fun _ _ _ _ => ysound_none hyl) (yexit_none hyl) (an := an) (cut := cut) (body := c) hR (K0 := finD T fn.results.toList k) m c [] _ rfl hok (.inl rfl) _ _ _ _ hk ⟨h0, fun _ _ => trivial, fun _ _ => trivial⟩
  have fin : ∀ x ρ' s (a : Act) w', finD T fn.results.toList k x s = some r → RelG N S (fun _ _ => True) (fun _ _ => True) ρ w ⟨fn.ntmps, [], fun _ => undef, O.pb, hpb, w.heap.size⟩ ρ' s a w' → LeavesInM Fence.wide 0 P fn a.tmps (fun e w' => ∃ u ρ' v h', e = .returned u ∧ k v h' = some r ∧ RV ρ' v u ∧ HR N S ρ' h' w' ∧ Fr N S w w' ∧ ∀ b, b < O.pb → ρ' b = ρ b) a.defers .returning w' := by
    intro x ρ' s a w' hx hrel
    unfold finD at hx
    split at hx
    · cases hx
    · split at hx
      · rename_i v hv
        refine leaves_marks (lo := w.heap.size) (fun w2 => HR N S ρ' s.hp w2 ∧ Fr N S w w2) (fun w2 D hI hD h2 => ⟨HR_putObj hI.1 h2 rfl _, Fr_putObj hI.2 hr.low hD _⟩) (fun w2 hI => ?_) a.defers w' hrel.rel.df.n hrel.rel.df.m ⟨hrel.rel.hr, hrel.rel.fr⟩
        have hrel2 : Rel N S ρ w ⟨fn.ntmps, [], fun _ => undef, O.pb, hpb, w.heap.size⟩ ρ' s { a with defers := [] } w2 := ⟨hI.1, hrel.rel.sl, hrel.rel.sz, DfOk.nil rfl rfl, hI.2, hrel.rel.pin⟩
        obtain ⟨u, h1, h2⟩ := res_sound hT hrel2 hv
        exact ⟨u, h1, u, ρ', v, s.hp, rfl, hx, h2, hI.1, hI.2, hrel.rel.pin⟩
      · cases hx
  refine wpIn_mono hw fun e a' w' hp => ?_
  cases e with
  | normal =>
    obtain ⟨ρ', s, g1, g2⟩ := hp
    exact fin _ _ _ _ _ g1 g2
  | ret =>
    obtain ⟨ρ', s, g1, g2⟩ := hp
    exact fin _ _ _ _ _ g1 g2
  | exit i =>
    obtain ⟨ρ', s, g1, g2⟩ := hp
    cases g1
  | _ => exact hp.elim

theorem funN_sound (hM : P.follows .mixedOrders = true) (hT : TyOK P T) (hO : OSound P O) (hD : ODet O) (hpb : O.pb = 500) (htk : O.tk = false) (hyl : ∀ vs h, O.yl vs h = none) (hnx : O.nx = none) (hrg : ∀ i v sl hp, O.rng i v sl hp = none) {an : Ann} {cut : List Nat} {f : FuncId} {fn : Func} {c : Code} (hf : P.funcs[f]? = some fn) (hb : fn.body = some c) (hok : codeOk fn.ntmps c = true) {vs : List AV} {us : Array Value} {h : Heap} {ρ : Map} {w : World}
    (hn : vs.length ≤ fn.ntmps) (hvs : RVs ρ vs us.toList) (hr : HR N S ρ h w) {k : AV → Heap → Option R} (hk : ∃ m, funN realA T O an cut c fn.results.toList vs h k (goD realA T O an cut c (finD T fn.results.toList k) m) = some r) :
    Calls P f us w fun e w' => ∃ u ρ' v h', e = .returned u ∧ k v h' = some r ∧ RV ρ' v u ∧ HR N S ρ' h' w' ∧ Fr N S w w' ∧ ∀ b, b < 500 → ρ' b = ρ b := by
  have := funG_sound hM hT hO hD (Nat.le_of_eq hpb) htk hyl hnx hf hb hok (rng_none hrg) hn hvs hr hk
  rwa [hpb] at this

theorem via_tb {an : Ann} {cut : List Nat} {c : Code} {rs : List ResultVar} {vs : List AV} {h : Heap} {k : AV → Heap → Option R} {a : Option R}
    (hp : ∀ tb : Nat → List Bool → St → Option R, Stp (fun t p s => nodeN realA T O an cut t c (finD T rs k) p s) tb → Prs (fun m => funN realA T O an cut c rs vs h k (tb m)) a) (ha : a = some r) :
    ∃ m, funN realA T O an cut c rs vs h k (goD realA T O an cut c (finD T rs k) m) = some r := hp _ goD_stp r ha

theorem fn1_ofG (hM : P.follows .mixedOrders = true) (hT : TyOK P T) (hO : OSound P O) (hD : ODet O) {an : Ann} {cut : List Nat} {f g : FuncId} {fn : Func} {c : Code} (hf : P.funcs[g]? = some fn) (hb : fn.body = some c) (hok : codeOk fn.ntmps c = true)
    (hcall : ∀ us w, (callFunc f us).run P w = .ok (.enter g us) w) {vs : List AV} {v : AV} (hn : vs.length ≤ fn.ntmps) (hm : ∀ b, v.mentions b = false) {a : Option AV} (ha : (∃ ρ us, RVs ρ vs us) → a = some v)
    (hp : ∀ tb : Nat → List Bool → St → Option AV, Stp (fun t p s => nodeN realA T O an cut t c (finD T fn.results.toList fun v _ => some v) p s) tb → Prs (fun m => funN realA T O an cut c fn.results.toList vs [] (fun v _ => some v) (tb m)) a) (hpb : O.pb = 500 := by rfl) (htk : O.tk = false := by rfl) (hyl : ∀ vs h, O.yl vs h = none := by exact fun _ _ => rfl) (hrg : ∀ i v sl hp, O.rng i v sl hp = none := by exact fun _ _ _ _ => rfl) (hnx : O.nx = none := by rfl) : Fn1 P f vs v := by
  intro ρ w us hvs
  rw [hcall]
  refine ⟨rfl, Calls.mono (funN_sound hM hT hO hD hpb htk hyl hnx hrg hf hb hok hn hvs (HR_nil ρ w) (via_tb hp (ha ⟨ρ, _, hvs⟩))) fun e w' he => ?_⟩
  obtain ⟨u, ρ', v', h', e1, e2, e3, _, e5, _⟩ := he
  simp only [Option.some.injEq] at e2
  subst e2
  exact ⟨u, e1, RV_agree (fun b hb => by rw [hm b] at hb; cases hb) e3, e5⟩

theorem fnh_ofG (hM : P.follows .mixedOrders = true) (hT : TyOK P T) (hO : OSound P O) (hD : ODet O) {an : Ann} {cut : List Nat} {f g : FuncId} {fn : Func} {c : Code} (hf : P.funcs[g]? = some fn) (hb : fn.body = some c) (hok : codeOk fn.ntmps c = true)
    (hcall : ∀ us w, (callFunc f us).run P w = .ok (.enter g us) w) {vs : List AV} {h : Heap} {v2 : AV} {h2 : Heap} (hn : vs.length ≤ fn.ntmps) {pins : List Nat} {nilr : Option (Nat × Nat × Blk)} {a : Option (AV × Heap)} (ha : (∃ N S ρ us w, RVs ρ vs us ∧ HR N S ρ h w) → a = some (v2, h2))
    (hp : ∀ tb : Nat → List Bool → St → Option (AV × Heap), Stp (fun t p s => nodeN realA T O an cut t c (finD T fn.results.toList (outH pins nilr)) p s) tb → Prs (fun m => funN realA T O an cut c fn.results.toList vs h (outH pins nilr) (tb m)) a) (hpb : O.pb = 500 := by rfl) (htk : O.tk = false := by rfl) (hyl : ∀ vs h, O.yl vs h = none := by exact fun _ _ => rfl) (hrg : ∀ i v sl hp, O.rng i v sl hp = none := by exact fun _ _ _ _ => rfl) (hnx : O.nx = none := by rfl) : FnH P f vs h v2 h2 := by
  intro N S ρ w us hr hvs
  rw [hcall]
  refine ⟨rfl, Calls.mono (funN_sound hM hT hO hD hpb htk hyl hnx hrg hf hb hok hn hvs hr (via_tb hp (ha ⟨N, S, ρ, _, w, hvs, hr⟩))) fun e w' he => ?_⟩
  obtain ⟨u, ρ', v', h', e1, e2, e3, e4, e5, e6⟩ := he
  obtain ⟨ρ2, g1, g2, g3⟩ := outH_sound e2 e3 e4
  exact ⟨u, ρ2, e1, g1, g2, e5, fun b hb => (g3 b hb).trans (e6 b hb)⟩

end
end Go.Sx
