import Derived.Test.YtojnnbolfmefkaaSxW
namespace Go.Sx

section
variable {P : Program} {T : Tys} {O : Orc} {N : Nat} {S : Nat → Prop} {ρ₀ : Map} {w₀ : World} {nt : Nat} {R : Type} {r : R}
variable {ops : Array Oper} {tab : List Nat} {base : Nat} {k : St → Option R}

theorem drop_get {α : Type} {l : List α} {i : Nat} {x : α} {q : List α} (h : l.drop i = x :: q) : l[i]? = some x ∧ l.drop (i + 1) = q ∧ i < l.length := by
  have h1 : (l.drop i)[0]? = some x := by rw [h]; rfl
  rw [List.getElem?_drop] at h1
  simp only [Nat.add_zero] at h1
  exact ⟨h1, by rw [← List.drop_drop, h]; rfl, (List.getElem?_eq_some_iff.1 h1).1⟩

theorem extract (hT : TyOK P T) (hO : OSound P O) (hD : ODet O) (p : Nat) (he : Heap) (rest : List Oper) :
    ∀ (i : Nat) (s : St) (grp : List Nat), p ≤ i → i ≤ ops.size → ops.toList.drop i = rest → drawD realA T O ops tab base i rest s he grp k = some r → (∀ b x, lk b he = some x → lk b s.hp = some x) → (∀ c, heapFree c s.hp = true → heapFree c he = true) →
      (∀ m, p ≤ m → m < i → m ∈ grp) →
      ∃ (q : Nat) (st : Nat → St) (V : Nat → AV) (NB : Nat → Option Blk) (grp' : List Nat), i ≤ q ∧ q ≤ ops.size ∧ st i = s ∧ drawD realA T O ops tab base q (ops.toList.drop q) (st q) he grp' k = some r ∧ (q < ops.size → barrier ops tab ops.size q = true) ∧
        (∀ (j : Nat) (o : Oper), i ≤ j → j < q → ops[j]? = some o → st (j + 1) = put (st j) o.dst (V j) (consNb (base + j) (NB j) (st j).hp) ∧ ∃ HE : Heap, (∀ b x, lk b HE = some x → lk b he = some x ∨ ∃ m, (tab.getD j 0).testBit m = true ∧ b = base + m ∧ lk b (st j).hp = some x) ∧ LightOk P ops j o (base + j) (pick (st j).sl (o.looksAt ops)) HE (V j) (NB j)) ∧
        (∀ j, i ≤ j → j < q → (NB j ≠ none → freshIn (base + j) (st j) = true) ∧ ∀ m, p ≤ m → m < j → ((V j).mentions (base + m) || nbMen (NB j) (base + m)) = true → (tab.getD j 0).testBit m = true) := by
  induction rest with
  | nil =>
    intro i s grp hp hi hl hk _ _ _
    refine ⟨i, fun _ => s, fun _ => .v (.cell .top), fun _ => none, grp, Nat.le_refl _, hi, rfl, by rw [hl]; exact hk, fun h => ?_, fun j o h1 h2 => by omega, fun j h1 h2 => by omega⟩
    have : ops.toList.length ≤ i := by simpa using hl
    rw [Array.length_toList] at this
    omega
  | cons o rest ih =>
    intro i s grp hp hi hl hk hsub hfree hgrp
    obtain ⟨g1, g2, g3⟩ := drop_get hl
    have hoi : ops[i]? = some o := by rw [← Array.getElem?_toList]; exact g1
    have hlt := get_lt hoi
    cases hb : barrier ops tab ops.size i with
    | true => exact ⟨i, fun _ => s, fun _ => .v (.cell .top), fun _ => none, grp, Nat.le_refl _, hi, rfl, by rw [hl]; exact hk, fun _ => hb, fun j o h1 h2 => by omega, fun j h1 h2 => by omega⟩
    | false =>
      simp only [drawD, hb] at hk
      obtain ⟨v, nb, hk1, hfr, hlight⟩ := light_sound hT hO hD hoi (fun b x hb => heL_sub hsub hb) (fun hf => heL_free hf (hfree _ hf)) hk
      split at hk1
      · rename_i hmen
        rw [force_eq] at hk1
        have hmen := menOk_spec hmen
        have hhp : (put s o.dst v (consNb (base + i) nb s.hp)).hp = consNb (base + i) nb s.hp := by unfold put; split <;> rfl
        obtain ⟨q, st, V, NB, grp', e1, e2, e3, e4, e5, e6, e7⟩ := ih (i + 1) _ (i :: grp) (by omega) hlt g2 hk1 (fun b x hbx => by
            rw [hhp]
            cases nb with
            | none => exact hsub b x hbx
            | some blk =>
              simp only [consNb]
              have := (freshIn_spec (hfr (by simp))).1
              rw [lk_cons, if_neg (fun e => by have h2 := hsub b x hbx; rw [← e, this] at h2; cases h2)]
              exact hsub b x hbx) (fun c hc => by
            rw [hhp] at hc
            cases nb with
            | none => exact hfree c hc
            | some blk => exact hfree c (heapFree_cons hc)) (fun m h1 h2 => by
            by_cases hm : m = i
            · subst hm; exact List.mem_cons_self
            · exact List.mem_cons_of_mem _ (hgrp m h1 (by omega)))
        refine ⟨q, fun j => if j = i then s else st j, fun j => if j = i then v else V j, fun j => if j = i then nb else NB j, grp', by omega, e2, if_pos rfl, by simp only [if_neg (show ¬ q = i by omega)]; exact e4, e5, fun j oj h1 h2 h3 => ?_, fun j h1 h2 => ?_⟩
        · by_cases hj : j = i
          · subst hj
            rw [hoi] at h3
            simp only [Option.some.injEq] at h3
            subst h3
            simp only [if_true]
            rw [if_neg (by omega)]
            exact ⟨e3, _, fun b x hb => heL_spec hb, hlight⟩
          · simp only [if_neg hj]
            rw [if_neg (by omega)]
            exact e6 j oj (by omega) h2 h3
        · by_cases hj : j = i
          · subst hj
            simp only [if_true]
            exact ⟨hfr, fun m h3 h4 h5 => hmen m (hgrp m h3 h4) h5⟩
          · simp only [if_neg hj]
            exact e7 j (by omega) h2
      · cases hk1

def Phase (P : Program) (T : Tys) (O : Orc) (N : Nat) (S : Nat → Prop) (ρ₀ : Map) (w₀ : World) (nt : Nat) (ops : Array Oper) (tab : List Nat) (base : Nat) (k : St → Option R) (r : R) (listed : Array Bool) (a : Act) (w : World) : Prop :=
  ∃ (p q : Nat) (st : Nat → St) (V : Nat → AV) (NB : Nat → Option Blk) (grp : List Nat) (ρ : Map) (h : Heap), p ≤ q ∧ q ≤ ops.size ∧ Text P ops tab base p q st V NB ∧ drawD realA T O ops tab base q (ops.toList.drop q) (st q) (st p).hp grp k = some r ∧ (q < ops.size → barrier ops tab ops.size q = true) ∧
    listed.size = ops.size ∧ (∀ j, j < p → Lst listed j) ∧ (∀ j, q ≤ j → ¬ Lst listed j) ∧ Dc tab listed ∧
    HR N S ρ h w ∧ (∀ j x, p ≤ j → j < q → Lst listed j → NB j = some x → lk (base + j) h = some x) ∧ (∀ b, (∀ j, p ≤ j → j < q → Lst listed j → NB j ≠ none → b ≠ base + j) → lk b h = lk b (st p).hp) ∧
    (∀ t v, lk t (st p).sl = some v → (∀ (j : Nat) (o : Oper), p ≤ j → j < q → Lst listed j → ops[j]? = some o → o.dst ≠ some t) → RV ρ v (a.tmps.getD t undef)) ∧
    (∀ (j : Nat) (o : Oper) t, p ≤ j → j < q → Lst listed j → ops[j]? = some o → o.dst = some t → RV ρ (V j) (a.tmps.getD t undef)) ∧
    a.tmps.size = nt ∧ a.defers = [] ∧ Fr N S w₀ w ∧ ∀ b, b < 500 → ρ b = ρ₀ b

theorem Phase.start (hT : TyOK P T) (hO : OSound P O) (hD : ODet O) {p : Nat} (hp : p ≤ ops.size) {listed : Array Bool} (hsz : listed.size = ops.size) (h1 : ∀ j, j < p → Lst listed j) (h2 : ∀ j, p ≤ j → ¬ Lst listed j) (hdc : Dc tab listed)
    {ρ : Map} {s : St} {a : Act} {w : World} (h : Rel N S ρ₀ w₀ nt ρ s a w) {grp : List Nat} (hk : drawD realA T O ops tab base p (ops.toList.drop p) s s.hp grp k = some r) : Phase P T O N S ρ₀ w₀ nt ops tab base k r listed a w := by
  obtain ⟨q, st, V, NB, grp', e1, e2, e3, e4, e5, e6, e7⟩ := extract hT hO hD p s.hp _ p s grp (Nat.le_refl _) hp rfl hk (fun b x hb => hb) (fun c hc => hc) (fun m g1 g2 => by omega)
  refine ⟨p, q, st, V, NB, grp', ρ, s.hp, e1, e2, ⟨fun i o g1 g2 g3 => (e6 i o g1 g2 g3).1, fun i o g1 g2 g3 => by rw [e3]; exact (e6 i o g1 g2 g3).2, fun i g1 g2 => (e7 i g1 g2).1, fun i j g1 g2 g3 => (e7 i (by omega) g3).2 j g1 g2⟩, by rw [e3]; exact e4, e5, hsz, h1, fun j hj => h2 j (by omega), hdc,
    h.hr, fun j x g1 _ g3 => absurd g3 (h2 j g1), fun b _ => by rw [e3], fun t v hv _ => h.sl t v (by rw [e3] at hv; exact hv), fun j o t g1 _ g3 => absurd g3 (h2 j g1), h.sz, h.df, h.fr, h.pin⟩

theorem lst_set {listed : Array Bool} {i j : Nat} (hi : i < listed.size) : Lst (listed.setIfInBounds i true) j ↔ (j = i ∨ Lst listed j) := by
  by_cases hj : j = i
  · subst hj
    simp [Lst, hi]
  · have : i ≠ j := fun e => hj e.symm
    simp only [Lst, getD_set_ne false this]
    constructor
    · exact .inr
    · rintro (e | e)
      · exact absurd e hj
      · exact e

theorem first_not {f : Nat → Prop} [DecidablePred f] {n : Nat} (h : ¬ ∀ j, j < n → f j) : ∃ j, j < n ∧ ¬ f j ∧ ∀ i, i < j → f i := by
  induction n with
  | zero => exact absurd (fun j hj => by omega) h
  | succ n ih =>
    by_cases h1 : ∀ j, j < n → f j
    · refine ⟨n, by omega, fun hf => h fun j hj => ?_, h1⟩
      rcases Nat.lt_or_eq_of_le (Nat.le_of_lt_succ hj) with g | g
      · exact h1 j g
      · subst g; exact hf
    · obtain ⟨j, g1, g2, g3⟩ := ih h1
      exact ⟨j, by omega, g2, g3⟩

theorem phase_done {listed : Array Bool} {a : Act} {w : World} (hph : Phase P T O N S ρ₀ w₀ nt ops tab base k r listed a w) (hall : ∀ j, j < ops.size → Lst listed j) :
    ∃ ρ s, k s = some r ∧ Rel N S ρ₀ w₀ nt ρ s a w := by
  obtain ⟨p, q, st, V, NB, grp, ρ, h, hpq, hq, htx, hk, hbar, hsz, hl1, hl2, hdc, hr, c1, c2, s1, s2, z1, z2, z3, z4⟩ := hph
  have hqe : q = ops.size := by
    rcases Nat.lt_or_eq_of_le hq with g | g
    · exact absurd (hall q g) (hl2 q (Nat.le_refl _))
    · exact g
  have hnil : ops.toList.drop q = [] := by rw [hqe, ← Array.length_toList]; exact List.drop_length
  rw [hnil] at hk
  simp only [drawD] at hk
  have hpn : p + (q - p) = q := by omega
  refine ⟨ρ, st q, hk, ⟨⟨hr.low, fun b x hb => ?_, fun b c x y L M hb hc => ?_⟩, fun t v hv => ?_, z1, z2, z3, z4⟩⟩
  · have := htx.heap hq (q - p) (by omega)
    rw [hpn] at this
    refine hr.blk b x ?_
    rcases this.2.2.1 b x hb with ⟨j, g1, g2, rfl, g3⟩ | g
    · exact c1 j x g1 g2 (hall j (by omega)) g3
    · by_cases hx : ∀ j, p ≤ j → j < q → Lst listed j → NB j ≠ none → b ≠ base + j
      · rw [c2 b hx]; exact g
      · have : ∃ j, p ≤ j ∧ j < q ∧ NB j ≠ none ∧ b = base + j := by
          refine Classical.byContradiction fun hcon => hx fun j g1 g2 g3 g4 e => hcon ⟨j, g1, g2, g4, e⟩
        obtain ⟨j, g1, g2, g3, rfl⟩ := this
        have hf := (freshIn_spec (htx.fresh j g1 g2 g3)).1
        have := (htx.heap hq (j - p) (by omega)).1 _ _ g
        rw [show p + (j - p) = j by omega, hf] at this
        cases this
  · have sub : ∀ b x, lk b (st q).hp = some x → lk b h = some x := by
      intro b x hb
      have := htx.heap hq (q - p) (by omega)
      rw [hpn] at this
      rcases this.2.2.1 b x hb with ⟨j, g1, g2, rfl, g3⟩ | g
      · exact c1 j x g1 g2 (hall j (by omega)) g3
      · by_cases hx : ∀ j, p ≤ j → j < q → Lst listed j → NB j ≠ none → b ≠ base + j
        · rw [c2 b hx]; exact g
        · have : ∃ j, p ≤ j ∧ j < q ∧ NB j ≠ none ∧ b = base + j := by
            refine Classical.byContradiction fun hcon => hx fun j g1 g2 g3 g4 e => hcon ⟨j, g1, g2, g4, e⟩
          obtain ⟨j, g1, g2, g3, rfl⟩ := this
          have hf := (freshIn_spec (htx.fresh j g1 g2 g3)).1
          have := (htx.heap hq (j - p) (by omega)).1 _ _ g
          rw [show p + (j - p) = j by omega, hf] at this
          cases this
    exact hr.inj b c x y L M (sub b x hb) (sub c y hc)
  · have := htx.slots hq (q - p) (by omega) (t := t) (v := v)
    rw [hpn] at this
    rcases this hv with ⟨j, o, g1, g2, g3, g4, rfl⟩ | ⟨g1, g2⟩
    · exact s2 j o t g1 g2 (hall j (by omega)) g3 g4
    · exact s1 t v g1 fun j o h1 h2 _ h4 => g2 j o h1 h2 h4

theorem phase_light (hc : Chk ops tab) (hdst : ∀ o ∈ ops.toList, ∀ d, o.dst = some d → d < nt) (hbase : 500 ≤ base) {listed : Array Bool} {a : Act} {w : World} {i : Nat} {o : Oper} (hi : ops[i]? = some o) (hun : ¬ Lst listed i) (hpre : ∀ m, (tab.getD i 0).testBit m = true → Lst listed m)
    {p q : Nat} {st : Nat → St} {V : Nat → AV} {NB : Nat → Option Blk} {grp : List Nat} {ρ : Map} {h : Heap} (hpq : p ≤ q) (hq : q ≤ ops.size) (htx : Text P ops tab base p q st V NB) (hk : drawD realA T O ops tab base q (ops.toList.drop q) (st q) (st p).hp grp k = some r) (hbar : q < ops.size → barrier ops tab ops.size q = true)
    (hsz : listed.size = ops.size) (hl1 : ∀ j, j < p → Lst listed j) (hl2 : ∀ j, q ≤ j → ¬ Lst listed j) (hdc : Dc tab listed)
    (hr : HR N S ρ h w) (c1 : ∀ j x, p ≤ j → j < q → Lst listed j → NB j = some x → lk (base + j) h = some x) (c2 : ∀ b, (∀ j, p ≤ j → j < q → Lst listed j → NB j ≠ none → b ≠ base + j) → lk b h = lk b (st p).hp)
    (s1 : ∀ t v, lk t (st p).sl = some v → (∀ (j : Nat) (o : Oper), p ≤ j → j < q → Lst listed j → ops[j]? = some o → o.dst ≠ some t) → RV ρ v (a.tmps.getD t undef))
    (s2 : ∀ (j : Nat) (o : Oper) t, p ≤ j → j < q → Lst listed j → ops[j]? = some o → o.dst = some t → RV ρ (V j) (a.tmps.getD t undef))
    (z1 : a.tmps.size = nt) (z2 : a.defers = []) (z3 : Fr N S w₀ w) (z4 : ∀ b, b < 500 → ρ b = ρ₀ b) (hpi : p ≤ i) (hiq : i < q) {Q : Exit → Act → World → Prop} {K : Act → World → Prop}
    (hK : ∀ a w, Phase P T O N S ρ₀ w₀ nt ops tab base k r (listed.setIfInBounds i true) a w → K a w) : wpOp P ops Q i K a w := by
  have hil : i < listed.size := by omega
  have hpn : p + (i - p) = i := by omega
  have hheap := htx.heap hq (i - p) (by omega)
  have hraw := htx.raw hq (i - p) (by omega)
  have hslots := fun t v => htx.slots hq (i - p) (by omega) (t := t) (v := v)
  rw [hpn] at hheap hraw hslots
  have ho : o ∈ ops.toList := by rw [← Array.getElem?_toList] at hi; exact List.mem_of_getElem? hi
  -- a listed new block's name is none of the region's start
  have newid : ∀ j, p ≤ j → j < q → NB j ≠ none → lk (base + j) (st p).hp = none := by
    intro j g1 g2 g3
    have hf := (freshIn_spec (htx.fresh j g1 g2 g3)).1
    cases hl : lk (base + j) (st p).hp with
    | none => rfl
    | some x =>
      have := (htx.heap hq (j - p) (by omega)).1 _ _ hl
      rw [show p + (j - p) = j by omega, hf] at this
      cases this
  have menj : ∀ j, p ≤ j → j < q → Lst listed j → i < j → ((V j).mentions (base + i) || nbMen (NB j) (base + i)) = false := by
    intro j g1 g2 g3 g4
    cases hm : ((V j).mentions (base + i) || nbMen (NB j) (base + i)) with
    | false => rfl
    | true => exact absurd (hdc j i g3 (htx.men j i hpi g4 g2 hm)) hun
  obtain ⟨HE, hHE, hlo⟩ := htx.light i o hpi hiq hi
  refine hlo N S ρ h a w hr (fun b x hb => ?_) (fun t x hx => ?_) (fun hnb => ?_) Q K (fun ρ' u w' hv hr' hf hρ hρ2 => hK _ _ ?_)
  · have old : lk b (st p).hp = some x → lk b h = some x := by
      intro hb
      rw [c2 b (fun j g1 g2 g3 g4 e => by subst e; rw [newid j g1 g2 g4] at hb; cases hb)]
      exact hb
    rcases hHE b x hb with hb | ⟨m, hm, rfl, hb⟩
    · exact old hb
    · rcases hheap.2.2.1 _ x hb with ⟨j, g1, g2, g3, g4⟩ | g
      · have e : m = j := by omega
        subst e
        exact c1 m x g1 (by omega) (hpre m hm) g4
      · exact old g
  · have ht := mem_pick hx
    have hx := lk_pick2 hx
    rcases hslots t x hx with ⟨j, oj, g1, g2, g3, g4, rfl⟩ | ⟨g1, g2⟩
    · exact s2 j oj t g1 (by omega) (hpre j ((hc.read i o hi t ht j oj g3 g4).resolve_right (fun h => by omega)).2) g3 g4
    · exact s1 t x g1 fun j oj h1 h2 h3 h4 h5 => (hc.read i o hi t ht j oj h4 h5).elim (fun h => g2 j oj h1 h.1 h4 h5) (fun h => hun (hdc j i h3 h.2))
  · have hfr := htx.fresh i hpi hiq hnb
    obtain ⟨f1, f2, _⟩ := freshIn_spec hfr
    refine ⟨?_, fun c x hcx => ?_⟩
    · rw [c2 (base + i) (fun j g1 g2 g3 g4 e => by have : i = j := (by omega); subst this; exact hun g3)]
      exact newid i hpi hiq hnb
    · by_cases hx : ∀ j, p ≤ j → j < q → Lst listed j → NB j ≠ none → c ≠ base + j
      · rw [c2 c hx] at hcx
        exact heapFree_spec f2 (hheap.1 c x hcx)
      · have : ∃ j, p ≤ j ∧ j < q ∧ Lst listed j ∧ NB j ≠ none ∧ c = base + j := by
          refine Classical.byContradiction fun hcon => hx fun j g1 g2 g3 g4 e => hcon ⟨j, g1, g2, g3, g4, e⟩
        obtain ⟨j, g1, g2, g3, g4, rfl⟩ := this
        cases hnbj : NB j with
        | none => exact absurd hnbj g4
        | some y =>
          have := c1 j y g1 g2 g3 hnbj
          rw [hcx] at this
          simp only [Option.some.injEq] at this
          subst this
          rcases Nat.lt_trichotomy j i with h1 | h1 | h1
          · exact heapFree_spec f2 (hheap.2.1 j x g1 h1 hnbj)
          · subst h1; exact absurd g3 hun
          · have := menj j g1 g2 g3 h1
            rw [hnbj, Bool.or_eq_false_iff] at this
            exact this.2
  · -- the new state
    have keepv : ∀ v : AV, (NB i ≠ none → v.mentions (base + i) = false) → ∀ u, RV ρ v u → RV ρ' v u := by
      intro v hm u hv
      cases hnb : NB i with
      | none => rw [hρ2 hnb]; exact hv
      | some y =>
        refine RV_agree (fun b hb => hρ b (fun e => ?_)) hv
        subst e
        rw [hm (by rw [hnb]; simp)] at hb
        cases hb
    have rawm : NB i ≠ none → ∀ x ∈ (st i).sl, x.2.mentions (base + i) = false := fun hnb => freshIn_raw (htx.fresh i hpi hiq hnb)
    have get : ∀ t, (o.dst ≠ some t) → (a.put o.dst u).tmps.getD t undef = a.tmps.getD t undef := by
      intro t ht
      cases hd : o.dst with
      | none => rfl
      | some d =>
        rw [hd] at ht
        simp only [Act.put]
        rw [Array.getD_eq_getD_getElem?, Array.getElem?_setIfInBounds_ne (by intro e; exact ht (by rw [e])), ← Array.getD_eq_getD_getElem?]
    refine ⟨p, q, st, V, NB, grp, ρ', consNb (base + i) (NB i) h, hpq, hq, htx, hk, hbar, by simp [hsz], fun j hj => (lst_set hil).2 (.inr (hl1 j hj)), fun j hj hl => ?_, fun j m hj hm => ?_, hr', fun j x g1 g2 g3 g4 => ?_, fun b hb => ?_, fun t v hv' hno => ?_, fun j oj t g1 g2 g3 g4 g5 => ?_, ?_, ?_, z3.trans hf, fun b hb => (hρ b (by omega)).trans (z4 b hb)⟩
    · rcases (lst_set hil).1 hl with e | e
      · omega
      · exact hl2 j hj e
    · refine (lst_set hil).2 ?_
      rcases (lst_set hil).1 hj with e | e
      · subst e; exact .inr (hpre m hm)
      · exact .inr (hdc j m e hm)
    · rcases (lst_set hil).1 g3 with e | e
      · subst e
        rw [g4]
        simp only [consNb]
        rw [lk_cons, if_pos rfl]
      · have := c1 j x g1 g2 e g4
        cases hnb : NB i with
        | none => exact this
        | some y =>
          simp only [consNb]
          rw [lk_cons, if_neg (fun e2 => by have : i = j := (by omega); subst this; exact hun e)]
          exact this
    · have h1 := c2 b (fun j g1 g2 g3 g4 => hb j g1 g2 ((lst_set hil).2 (.inr g3)) g4)
      cases hnb : NB i with
      | none => exact h1
      | some y =>
        simp only [consNb]
        rw [lk_cons, if_neg (fun e => hb i hpi hiq ((lst_set hil).2 (.inl rfl)) (by rw [hnb]; simp) e.symm)]
        exact h1
    · have hne : o.dst ≠ some t := hno i o hpi hiq ((lst_set hil).2 (.inl rfl)) hi
      rw [get t hne]
      refine keepv v (fun hnb => rawm hnb (t, v) (hraw.1 _ (lk_mem hv'))) _ (s1 t v hv' fun j oj g1 g2 g3 => hno j oj g1 g2 ((lst_set hil).2 (.inr g3)))
    · by_cases hji : j = i
      · subst hji
        rw [hi] at g4
        simp only [Option.some.injEq] at g4
        subst g4
        have hlt : t < a.tmps.size := by rw [z1]; exact hdst o ho t g5
        rw [g5]
        simp only [Act.put]
        rw [Array.getD_eq_getD_getElem?, Array.getElem?_setIfInBounds_self_of_lt hlt]
        exact hv
      · have hlj : Lst listed j := ((lst_set hil).1 g3).resolve_left hji
        rw [get t (fun e => hc.dst i o hi t e j oj g4 hji g5)]
        refine keepv (V j) (fun hnb => ?_) _ (s2 j oj t g1 g2 hlj g4 g5)
        rcases Nat.lt_trichotomy j i with h1 | h1 | h1
        · exact rawm hnb (t, V j) (hraw.2 j oj t g1 h1 g4 g5)
        · exact absurd h1 hji
        · have := menj j g1 g2 hlj h1
          rw [Bool.or_eq_false_iff] at this
          exact this.1
    · cases hd : o.dst with
      | none => exact z1
      | some d => simp [Act.put, z1]
    · cases hd : o.dst with
      | none => exact z2
      | some d => exact z2

theorem draw_sound (hT : TyOK P T) (hO : OSound P O) (hD : ODet O) (hbase : 500 ≤ base) (hc : Chk ops tab) (hdst : ∀ o ∈ ops.toList, ∀ d, o.dst = some d → d < nt) {Q : Exit → Act → World → Prop} (hQ : ∀ ρ s a w, k s = some r → Rel N S ρ₀ w₀ nt ρ s a w → Q .normal a w) (hQp : ∀ c a w, ¬ Q (.panic c) a w) (fuel : Nat) :
    ∀ (listed : Array Bool) (a : Act) (w : World), Phase P T O N S ρ₀ w₀ nt ops tab base k r listed a w → listed.toList.count false ≤ fuel → wpAny P .any ops Q fuel listed a w := by
  have done : ∀ (listed : Array Bool) (a : Act) (w : World), Phase P T O N S ρ₀ w₀ nt ops tab base k r listed a w → Region.ready .any ops listed = [] → Q .normal a w := by
    intro listed a w hph hre
    have hsz : listed.size = ops.size := by obtain ⟨p, q, st, V, NB, grp, ρ, h, _, _, _, _, _, hsz, _⟩ := hph; exact hsz
    have hall : ∀ j, j < ops.size → Lst listed j := by
      refine Classical.byContradiction fun hcon => ?_
      obtain ⟨j, g1, g2, g3⟩ := first_not (f := Lst listed) (n := ops.size) hcon
      have hoj : ops[j]? = some ops[j] := Array.getElem?_eq_getElem g1
      have : j ∈ Region.ready .any ops listed := by
        rw [mem_ready]
        refine ⟨?_, ops[j], hoj, fun e he hb => g3 _ (hc.lt j _ hoj e (by simpa using he) hb)⟩
        have hlt : j < listed.size := by omega
        simp only [Lst, Array.getD_eq_getD_getElem?, Array.getElem?_eq_getElem hlt, Option.getD_some] at g2 ⊢
        simpa using g2
      rw [hre] at this
      cases this
    obtain ⟨ρ, s, g1, g2⟩ := phase_done hph hall
    exact hQ ρ s a w g1 g2
  have count : ∀ (listed : Array Bool) (i fuel : Nat), i < listed.size → ¬ Lst listed i → listed.toList.count false ≤ fuel + 1 → (listed.setIfInBounds i true).toList.count false ≤ fuel := by
    intro listed i fuel hi hun hle
    have hlt : i < listed.toList.length := by simpa using hi
    have hv : listed.toList[i] = false := by
      simp only [Lst, Array.getD_eq_getD_getElem?, Array.getElem?_eq_getElem hi, Option.getD_some] at hun
      simpa using hun
    rw [Array.toList_setIfInBounds, List.count_set hlt]
    simp only [hv]
    have : 0 < listed.toList.count false := List.count_pos_iff.2 (by rw [← hv]; exact List.getElem_mem hlt)
    rw [if_pos (show (false == false) = true from rfl), if_neg (show ¬ (true == false) = true by decide)]
    omega
  induction fuel with
  | zero =>
    intro listed a w hph hle
    have hn : Region.ready .any ops listed = [] := by
      cases hre : Region.ready .any ops listed with
      | nil => rfl
      | cons j _ =>
        have hj : j ∈ Region.ready .any ops listed := by rw [hre]; exact List.mem_cons_self
        rw [mem_ready] at hj
        obtain ⟨g1, _⟩ := hj
        have hsz : listed.size = ops.size := by obtain ⟨p, q, st, V, NB, grp, ρ, h, _, _, _, _, _, hsz, _⟩ := hph; exact hsz
        have hlt : j < listed.size := by
          rcases Nat.lt_or_ge j listed.size with g | g
          · exact g
          · simp [Array.getD_eq_getD_getElem?, Array.getElem?_eq_none g] at g1
        have : false ∈ listed.toList := by
          simp only [Array.getD_eq_getD_getElem?, Array.getElem?_eq_getElem hlt, Option.getD_some] at g1
          rw [← g1]
          simp
        have := List.count_pos_iff.2 this
        omega
    exact ⟨hn, done listed a w hph hn⟩
  | succ fuel ih =>
    intro listed a w hph hle
    have hph0 := hph
    obtain ⟨p, q, st, V, NB, grp, ρ, h, hpq, hq, htx, hk, hbar, hsz, hl1, hl2, hdc, hr, c1, c2, s1, s2, z1, z2, z3, z4⟩ := hph0
    by_cases hfr : ∃ j, j < q ∧ freeOp ops tab j = true ∧ j ∈ Region.ready .any ops listed
    · obtain ⟨j, hjq, hfj, hrj⟩ := hfr
      obtain ⟨oj, hoj, hmv, hgd, hsel, hap⟩ := freeOp_spec hfj
      obtain ⟨hj0, o', ho', hall⟩ := mem_ready.1 hrj
      rw [hoj] at ho'
      simp only [Option.some.injEq] at ho'
      subst ho'
      have hjl : j < listed.size := by have := get_lt hoj; omega
      have hun : ¬ Lst listed j := by
        simp only [Lst, Array.getD_eq_getD_getElem?, Array.getElem?_eq_getElem hjl, Option.getD_some] at hj0 ⊢
        simp [hj0]
      have hpj : p ≤ j := by
        rcases Nat.lt_or_ge j p with g | g
        · exact absurd (hl1 j g) hun
        · exact g
      have hpre : ∀ m, (tab.getD j 0).testBit m = true → Lst listed m := by
        intro m hm
        rw [hc.mask j oj hoj] at hm
        exact maskOf_listed hdc (fun e he hb => hall e (by simpa using he) hb) hm
      have hw : Region.wanted oj (yielded ops a.tmps) = true := by unfold Region.wanted; rw [hgd]
      have hrun : (∃ u, ∀ w, (execOp a.eval oj).run P w = .ok (.value u) w) ∨ ∀ w, ∃ m, (execOp a.eval oj).run P w = .halt (.stuck m) w := by
        obtain ⟨dst, op, type, pos, after, guard⟩ := oj
        simp only at hmv
        rcases hmv with ⟨x, rfl⟩ | ⟨x, k, rfl⟩
        · exact .inl ⟨_, fun w => rfl⟩
        · cases hx : a.eval x with
          | tuple vs =>
            cases hk : vs[k]? with
            | some u => exact .inl ⟨u, fun w => by simp [execOp, Instr.extract, hx, hk]⟩
            | none => exact .inr fun w => ⟨_, by simp [execOp, Instr.extract, hx, hk]; rfl⟩
          | _ => exact .inr fun w => ⟨_, by simp [execOp, Instr.extract, hx]; rfl⟩
      have hl := phase_light (Q := fun _ _ _ => False) (K := fun a' w' => Phase P T O N S ρ₀ w₀ nt ops tab base k r (listed.setIfInBounds j true) a' w') hc hdst hbase hoj hun hpre hpq hq htx hk hbar hsz hl1 hl2 hdc hr c1 c2 s1 s2 z1 z2 z3 z4 hpj hjq (fun _ _ h => h)
      rcases hrun with ⟨u, hrun⟩ | hrun
      · have hph' : Phase P T O N S ρ₀ w₀ nt ops tab base k r (listed.setIfInBounds j true) (a.put oj.dst u) w := by
          unfold wpOp at hl
          simp only [hoj, hw, if_true] at hl
          rcases hl with hl | ⟨_, _, _, hl⟩
          · unfold Oper.wp at hl
            rw [hrun w] at hl
            exact hl
          · exact hl.elim
        exact wpAny_first hoj hsel (fun c a w h => absurd h (hQp c _ w)) fuel listed a w (fun i oi hi hne hul hno => hap i oi hi hne (by
          cases htb : (tab.getD j 0).testBit i with
          | false => rfl
          | true =>
            have hl1 := hpre i htb
            have hlt : i < listed.size := by have := get_lt hi; omega
            simp only [Lst, Array.getD_eq_getD_getElem?, Array.getElem?_eq_getElem hlt, Option.getD_some] at hl1 hul
            rw [hl1] at hul
            cases hul) hno) hrj (.inl ⟨hw, hrun⟩) (ih _ _ _ hph' (count listed j fuel hjl hun hle))
      · exfalso
        unfold wpOp at hl
        simp only [hoj, hw, if_true] at hl
        rcases hl with hl | ⟨_, _, _, hl⟩
        · unfold Oper.wp at hl
          obtain ⟨m, hm⟩ := hrun w
          rw [hm] at hl
          exact hl.elim
        · exact hl.elim
    refine ⟨done listed a w hph, fun i hi => ?_⟩
    rw [mem_ready] at hi
    obtain ⟨hi0, o, ho, hall⟩ := hi
    have hlt : i < listed.size := by
      rcases Nat.lt_or_ge i listed.size with g | g
      · exact g
      · simp [Array.getD_eq_getD_getElem?, Array.getElem?_eq_none g] at hi0
    have hun : ¬ Lst listed i := by
      simp only [Lst, Array.getD_eq_getD_getElem?, Array.getElem?_eq_getElem hlt, Option.getD_some] at hi0 ⊢
      simp [hi0]
    have hpre : ∀ m, (tab.getD i 0).testBit m = true → Lst listed m := by
      intro m hm
      rw [hc.mask i o ho] at hm
      exact maskOf_listed hdc (fun e he hb => hall e (by simpa using he) hb) hm
    have hio := get_lt ho
    have next : ∀ a w, Phase P T O N S ρ₀ w₀ nt ops tab base k r (listed.setIfInBounds i true) a w → wpAny P .any ops Q fuel (listed.setIfInBounds i true) a w := fun a w hp => ih _ a w hp (count listed i fuel hlt hun hle)
    by_cases hiq : i < q
    · have hpi : p ≤ i := by
        rcases Nat.lt_or_ge i p with g | g
        · exact absurd (hl1 i g) hun
        · exact g
      exact phase_light hc hdst hbase ho hun hpre hpq hq htx hk hbar hsz hl1 hl2 hdc hr c1 c2 s1 s2 z1 z2 z3 z4 hpi hiq next
    · have hqn : q < ops.size := by omega
      have hb := hbar hqn
      have hqi : q = i := by
        rcases Nat.lt_or_eq_of_le (Nat.le_of_not_lt hiq) with g | g
        · exact absurd (hpre q (barrier_after hb g hio)) (hl2 q (Nat.le_refl _))
        · exact g
      subst hqi
      have hbef : ∀ j, j < q → Lst listed j := by
        intro j
        induction j using Nat.strongRecOn with
        | ind j ihj =>
          intro hj
          rcases barrier_before hb hj hqn with g | g
          · exact hpre j g
          · refine Classical.byContradiction fun hunj => hfr ⟨j, hj, g, ?_⟩
            have hjl : j < listed.size := by omega
            have hoj : ops[j]? = some ops[j] := Array.getElem?_eq_getElem (by omega)
            refine mem_ready.2 ⟨?_, ops[j], hoj, fun e he hb2 => ?_⟩
            · simp only [Lst, Array.getD_eq_getD_getElem?, Array.getElem?_eq_getElem hjl, Option.getD_some] at hunj ⊢
              simpa using hunj
            · have := hc.lt j _ hoj e (by simpa using he) hb2
              exact ihj e.on this (by omega)
      -- all ahead of the barrier is done
      have hdrop : ops.toList.drop q = o :: ops.toList.drop (q + 1) := by
        have : q < ops.toList.length := by simpa using hqn
        rw [List.drop_eq_getElem_cons this]
        congr 1
        have h2 : ops[q]? = some ops[q] := Array.getElem?_eq_getElem hqn
        rw [h2] at ho
        simpa using ho
      have hrel : ∃ ρ, Rel N S ρ₀ w₀ nt ρ (st q) a w := by
        have hpn : p + (q - p) = q := by omega
        have hheap := htx.heap hq (q - p) (by omega)
        have hslots := fun t v => htx.slots hq (q - p) (by omega) (t := t) (v := v)
        rw [hpn] at hheap hslots
        have sub : ∀ b x, lk b (st q).hp = some x → lk b h = some x := by
          intro b x hb
          rcases hheap.2.2.1 b x hb with ⟨j, g1, g2, rfl, g3⟩ | g
          · exact c1 j x g1 g2 (hbef j g2) g3
          · by_cases hx : ∀ j, p ≤ j → j < q → Lst listed j → NB j ≠ none → b ≠ base + j
            · rw [c2 b hx]; exact g
            · have : ∃ j, p ≤ j ∧ j < q ∧ NB j ≠ none ∧ b = base + j := by
                refine Classical.byContradiction fun hcon => hx fun j g1 g2 g3 g4 e => hcon ⟨j, g1, g2, g4, e⟩
              obtain ⟨j, g1, g2, g3, rfl⟩ := this
              have hf := (freshIn_spec (htx.fresh j g1 g2 g3)).1
              have := (htx.heap hq (j - p) (by omega)).1 _ _ g
              rw [show p + (j - p) = j by omega, hf] at this
              cases this
        refine ⟨ρ, ⟨⟨hr.low, fun b x hb => hr.blk b x (sub b x hb), fun b c x y L M hb hc => hr.inj b c x y L M (sub b x hb) (sub c y hc)⟩, fun t v hv => ?_, z1, z2, z3, z4⟩⟩
        rcases hslots t v hv with ⟨j, o, g1, g2, g3, g4, rfl⟩ | ⟨g1, g2⟩
        · exact s2 j o t g1 g2 (hbef j g2) g3 g4
        · exact s1 t v g1 fun j o h1 h2 _ h4 => g2 j o h1 h2 h4
      obtain ⟨ρ1, hrel⟩ := hrel
      have hom : o ∈ ops.toList := by rw [← Array.getElem?_toList] at ho; exact List.mem_of_getElem? ho
      have restart : ∀ {ρ' s' a' w' grp'}, Rel N S ρ₀ w₀ nt ρ' s' a' w' → drawD realA T O ops tab base (q + 1) (ops.toList.drop (q + 1)) s' s'.hp grp' k = some r → wpAny P .any ops Q fuel (listed.setIfInBounds q true) a' w' := by
        intro ρ' s' a' w' grp' hrel' hk'
        refine next _ _ (Phase.start hT hO hD (p := q + 1) (by omega) (by simp [hsz]) (fun j hj => (lst_set hlt).2 ?_) (fun j hj hl => ?_) (fun j m hj hm => (lst_set hlt).2 ?_) hrel' hk')
        · rcases Nat.lt_or_eq_of_le (Nat.le_of_lt_succ hj) with g | g
          · exact .inr (hbef j g)
          · exact .inl g
        · rcases (lst_set hlt).1 hl with e | e
          · omega
          · exact hl2 j (by omega) e
        · rcases (lst_set hlt).1 hj with e | e
          · subst e; exact .inr (hpre m hm)
          · exact .inr (hdc j m e hm)
      rw [hdrop] at hk
      simp only [drawD, hb] at hk
      obtain ⟨b, hk, hw⟩ := want_sound hrel hk
      simp only [wpOp, ho]
      rw [hw]
      cases b with
      | true =>
        simp only [if_true]
        refine .inl (oper_sound hT hO hrel (by omega) (hdst o hom) hk fun v hh mv ρ' a' w' hk' hrel' => restart hrel' (grp' := []) ?_)
        have : (put ⟨invals mv (st q).sl, (st q).hp⟩ o.dst v hh).hp = hh := by unfold put; split <;> rfl
        rw [this]
        rw [force_eq] at hk'
        exact hk'
      | false =>
        simp only [Bool.false_eq_true, if_false]
        refine restart (hrel.step (sid := base + q) (mv := []) (by omega) rfl (show RV ρ1 (.v (.cell .un)) undef from rfl) hrel.hr (Fr.refl _ _ _) (fun _ _ _ => rfl) (hdst o hom)) (grp' := []) ?_
        have : (put ⟨invals [] (st q).sl, (st q).hp⟩ o.dst (.v (.cell .un)) (st q).hp).hp = (st q).hp := by unfold put; split <;> rfl
        rw [this]
        exact hk

end
end Go.Sx
