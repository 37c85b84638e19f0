import Derived.Test.YtkomlijabeedpaaDoorSxTn
namespace Go.Sx
section
variable {P : Program} {T : Tys} {O : Orc} {N : Nat} {S : Nat → Prop} {R : Type} {r : R}

structure CellEq (w w' : World) : Prop where
  os : w'.os = w.os
  tape : w'.tape = w.tape
  output : w'.output = w.output
  size : w'.heap.size = w.heap.size
  same : ∀ (k : Nat) (o : Obj), w.heap[k]? = some o → (∀ r, o ≠ .loop r) → w'.heap[k]? = some o
theorem CellEq.putObj {w : World} {l : Nat} {r : Loop} (h : w.heap[l]? = some (.loop r)) (o : Obj) : CellEq w (w.putObj l o) :=
  ⟨rfl, rfl, rfl, by simp, fun k o' hk hn => by
    rw [World.putObj_heap_other (fun e => by subst e; rw [h] at hk; cases hk; exact hn _ rfl)]; exact hk⟩
theorem HR_cells {ρ : Map} {h : Heap} {w w' : World} (hr : HR N S ρ h w) (he : CellEq w w') : HR N S ρ h w' := by
  refine ⟨by rw [he.size]; exact hr.low, fun b x hb => ?_, hr.inj⟩
  rcases hr.blk b x hb with h1 | ⟨L, cur, fz, h1, h2, h3⟩
  · exact .inl h1
  · exact .inr ⟨L, cur, fz, h1, he.same _ _ h2 (fun r e => by cases e), h3⟩

def zipS : List Nat → List AV → Slots
  | t :: r, v :: q => (t, v) :: zipS r q
  | _, _ => []

def BodyH (P : Program) (nt : Nat) (as bd : Code) (ps : List Nat) (sl : Slots) (vs : List AV) (g : Heap) (ex : Ex) (g' : Heap) : Prop := ∀ (F : Fence) (n : Nat), WideF F → ∀ (N : Nat) (S : Nat → Prop) (ρ : Map) (w : World) (tmps : Array Value), HR N S ρ g w → tmps.size = nt → (∀ t v, lk t (zipS ps vs ++ sl) = some v → RV ρ v (tmps.getD t undef)) →
  as.wpIn F n P (Exit.then (fun a₁ w₁ => Fr N S w w₁ ∧ ∀ w₂, CellEq w₁ w₂ → bd.wpIn F n P (fun e _ w₃ => e = exOf ex ∧ ∃ ρ', HR N S ρ' g' w₃ ∧ Fr N S w₂ w₃ ∧ ∀ b, b < 500 → ρ' b = ρ b) a₁ w₂) (fun _ _ _ => False)) { tmps := tmps, defers := [] } w

def straight (cut : List Nat) : Code → Bool
  | .skip => true
  | .label _ => true
  | .region _ _ _ => true
  | .seq a b => (straight cut a && straight cut b) && !isCut cut b
  | _ => false
theorem straight_eq {A : Ar} {an : Ann} {cut : List Nat} (c : Code) : ∀ {tbl tbl' : List Bool → St → Option R} {p p' : List Bool} {K K' : Ex → St → Option R} (s : St), straight cut c = true → K .normal = K' .normal → codeN A T O an cut tbl p c K s = codeN A T O an cut tbl' p' c K' s := by
  induction c with
  | skip => intro tbl tbl' p p' K K' s _ hK; exact congrFun hK s
  | label l => intro tbl tbl' p p' K K' s _ hK; exact congrFun hK s
  | region id ops draw => intro tbl tbl' p p' K K' s _ hK; simp only [codeN, hK]
  | seq a b iha ihb =>
    intro tbl tbl' p p' K K' s hs hK
    simp only [straight, Bool.and_eq_true, Bool.not_eq_true'] at hs
    simp only [codeN]
    refine iha s hs.1.1 (funext fun s' => ?_)
    simp only [hs.2, goC]
    exact ihb s' hs.1.2 hK
  | _ => intro tbl tbl' p p' K K' s hs _; cases hs
def bdP (bs : List Nat) (kk : Ex → Heap → Option R) : Ex → St → Option R := fun ex s => kk ex (pick s.hp bs)
theorem bodyH_ofM (hM : P.follows .mixedOrders = true) (hT : TyOK P T) (hO : OSound P O) (hD : ODet O) {an : Ann} {cut bs : List Nat} {nt : Nat} {as bd : Code} {ps : List Nat} {sl : Slots} {vs : List AV} {g g' : Heap} {ex : Ex} (hs : straight cut as = true) (hcut : isCut cut bd = false) (hka : codeOk nt as = true) (hkb : codeOk nt bd = true) (hna : noDraw as = true) (hnb : noDraw bd = true)
    {m : Nat} (hAB : codeN realA T O an cut (goD realA T O an cut (.seq as bd) (bdP bs fun ex h => some (ex, h)) m) [] (.seq as bd) (bdP bs fun ex h => some (ex, h)) ⟨zipS ps vs ++ sl, g⟩ = some (ex, g'))
    (hpb : O.pb = 500 := by rfl) (htk : O.tk = false := by rfl) (hyl : ∀ vs h, O.yl vs h = none := by exact fun _ _ => rfl) (hrg : ∀ i v sl hp, O.rng i v sl hp = none := by exact fun _ _ _ _ => rfl) (hnx : O.nx = none := by rfl) : BodyH P nt as bd ps sl vs g ex g' := by
  intro F n hF N S ρ w tmps hr hsz hsl
  simp only [codeN, hcut] at hAB
  let cx : Cx := ⟨nt, [], fun _ => undef, 500, Nat.le_refl _, 0⟩
  have r0 : RelG N S (fun _ _ => True) (fun _ _ => True) ρ w cx ρ ⟨zipS ps vs ++ sl, g⟩ { tmps := tmps, defers := [] } w :=
    ⟨⟨hr, hsl, hsz, DfOk.nil rfl rfl, Fr.refl _ _ _, fun _ _ => rfl⟩, fun _ _ => trivial, fun _ _ => trivial⟩
  let f : St → Option (Ex × Heap) := codeN realA T O an cut (goD realA T O an cut (.seq as bd) (bdP bs fun ex h => some (ex, h)) m) [true] bd (bdP bs fun ex h => some (ex, h))
  let K1 : Ex → St → Option (Ex × Heap) := seqC f fun _ _ => none
  have hA : codeN realA T O an cut (goD realA T O an cut as K1 m) [] as K1 ⟨zipS ps vs ++ sl, g⟩ = some (ex, g') := by
    rw [← hAB]
    exact straight_eq (O := O) (T := T) as _ hs rfl
  refine wpIn_mono (go_sound (P := P) (F := F) (fu := n) (G := fun _ _ => True) (I := fun _ _ => True) (cx := cx) hF hM hT hO hD hpb.symm (fun _ _ _ _ _ => trivial) (fun _ _ _ => trivial) (fun _ _ _ _ _ => trivial) (fun _ _ _ => trivial) (fun t sI e => by rw [hnx] at e; cases e) (fun _ _ _ _ => ysound_none hyl) (yexit_none hyl) (rng_none hrg) m as [] _ rfl hka (.inr hna) _ _ _ _ hA r0) fun e a₁ w₁ hq => ?_
  cases e with
  | normal =>
    obtain ⟨ρ1, s, e1, h1⟩ := hq
    have e1 : f s = some (ex, g') := e1
    refine ⟨h1.rel.fr, fun w₂ hc => ?_⟩
    have r1 : RelG N S (fun _ _ => True) (fun _ _ => True) ρ1 w₂ cx ρ1 s a₁ w₂ :=
      ⟨⟨HR_cells h1.rel.hr hc, h1.rel.sl, h1.rel.sz, ⟨fun d hd => by obtain ⟨D, q1, q2, q3⟩ := h1.rel.df.m d hd; exact ⟨D, q1, q2, hc.same _ _ q3 (fun r e => by cases e)⟩, h1.rel.df.n, h1.rel.df.b⟩, Fr.refl _ _ _, fun _ _ => rfl⟩, fun _ _ => trivial, fun _ _ => trivial⟩
    refine wpIn_mono (go_sound (P := P) (F := F) (fu := n) (G := fun _ _ => True) (I := fun _ _ => True) (cx := cx) hF hM hT hO hD hpb.symm (fun _ _ _ _ _ => trivial) (fun _ _ _ => trivial) (fun _ _ _ _ _ => trivial) (fun _ _ _ => trivial) (fun t sI e => by rw [hnx] at e; cases e) (fun _ _ _ _ => ysound_none hyl) (yexit_none hyl) (body := .seq as bd) (rng_none hrg) m bd [true] _ rfl hkb (.inr hnb) _ _ _ _ e1 r1) fun e a₂ w₃ hq => ?_
    have fin : ∀ x ρ2 s2, bdP bs (fun ex h => some (ex, h)) x s2 = some (ex, g') → RelG N S (fun _ _ => True) (fun _ _ => True) ρ1 w₂ cx ρ2 s2 a₂ w₃ → exOf x = exOf ex ∧ ∃ ρ', HR N S ρ' g' w₃ ∧ Fr N S w₂ w₃ ∧ ∀ b, b < 500 → ρ' b = ρ b := by
      intro x ρ2 s2 e2 h2
      simp only [bdP, Option.some.injEq, Prod.mk.injEq] at e2
      obtain ⟨rfl, rfl⟩ := e2
      exact ⟨rfl, ρ2, HR_sub h2.rel.hr fun b x hb => lk_pick2 hb, h2.rel.fr, fun b hb => (h2.rel.pin b hb).trans (h1.rel.pin b hb)⟩
    cases e with
    | normal => obtain ⟨ρ2, s2, e2, h2⟩ := hq; exact fin .normal ρ2 s2 e2 h2
    | exit i => obtain ⟨ρ2, s2, e2, h2⟩ := hq; exact fin (.exit i) ρ2 s2 e2 h2
    | ret => obtain ⟨ρ2, s2, e2, h2⟩ := hq; exact fin .ret ρ2 s2 e2 h2
    | _ => exact hq.elim
  | exit i => obtain ⟨_, s, e1, _⟩ := hq; cases e1
  | ret => obtain ⟨_, s, e1, _⟩ := hq; cases e1
  | _ => exact hq.elim
theorem bodyH_of2 (hM : P.follows .mixedOrders = true) (hT : TyOK P T) (hO : OSound P O) (hD : ODet O) {an : Ann} {cut bs : List Nat} {nt : Nat} {as bd : Code} {ps : List Nat} {sl : Slots} {vs : List AV} {g g' : Heap} {ex : Ex} (hs : straight cut as = true) (hcut : isCut cut bd = false) (hka : codeOk nt as = true) (hkb : codeOk nt bd = true) (hna : noDraw as = true) (hnb : noDraw bd = true)
    {a : Option (Ex × Heap)} (ha : a = some (ex, g'))
    (hp : ∀ tb : Nat → List Bool → St → Option (Ex × Heap), Stp (fun t p s => nodeN realA T O an cut t (.seq as bd) (bdP bs fun ex h => some (ex, h)) p s) tb → Prs (fun m => codeN realA T O an cut (tb m) [] (.seq as bd) (bdP bs fun ex h => some (ex, h)) ⟨zipS ps vs ++ sl, g⟩) a)
    (hpb : O.pb = 500 := by rfl) (htk : O.tk = false := by rfl) (hyl : ∀ vs h, O.yl vs h = none := by exact fun _ _ => rfl) (hrg : ∀ i v sl hp, O.rng i v sl hp = none := by exact fun _ _ _ _ => rfl) (hnx : O.nx = none := by rfl) : BodyH P nt as bd ps sl vs g ex g' := by
  obtain ⟨m, hAB⟩ := hp _ goD_stp _ ha
  exact bodyH_ofM hM hT hO hD hs hcut hka hkb hna hnb hAB hpb htk hyl hrg hnx

theorem HR_glue {ρ ρ' : Map} {h e g g' : Heap} {w w' : World} (hr : HR N S ρ h w) (he : ∀ b x, lk b e = some x → lk b h = some x) (hg : ∀ b x, lk b g = some x → lk b h = some x) (hd : ∀ b x, lk b e = some x → lk b g = none)
    (ho : ∀ b x, lk b e = some x → x.own ≠ 0 ∨ ρ b = none) (hρ : ∀ b, b < 500 → ρ' b = ρ b) (hlow : ∀ b x, lk b e = some x → b < 500 ∧ ∀ c, anyB (Seg.mentions c) x.segs = true → c < 500)
    (hr' : HR w.heap.size (Of ρ g) ρ' g' w') (hsz : w.heap.size ≤ w'.heap.size) (hbl : ∀ k cs ty fz, w.heap[k]? = some (.cells cs ty fz) → ¬ Of ρ g k → w'.heap[k]? = w.heap[k]?)
    (hold : ∀ b x, lk b g' = some x → x.own = 0 → b < 500 ∧ ∃ y, lk b g = some y) : HR N S ρ' (e ++ g') w' := by
  have apart : ∀ b x L, lk b e = some x → ρ b = some L → ¬ Of ρ g L.g := by
    rintro b x L hb hL ⟨c, y, M, hc, _, hM, hg2⟩
    have hbc : b ≠ c := by
      rintro rfl
      rw [hd b x hb] at hc; cases hc
    have hx : x.own ≠ 0 := (ho b x hb).resolve_right (fun q => by rw [q] at hL; cases hL)
    exact hr.inj b c x y L M (he b x hb) (hg c y hc) hL hM hbc (.inl hx) hg2.symm
  have hE : HR N S ρ' e w' := by
    refine HR_agree (ρ := ρ) ⟨by have := hr.low; omega, fun b x hb => ?_, fun b c x y L M hb hc => hr.inj b c x y L M (he b x hb) (he c y hc)⟩ (fun b x hb => hρ b (hlow b x hb).1) (fun b x c hb hc => hρ c ((hlow b x hb).2 c hc))
    rcases hr.blk b x (he b x hb) with h1 | ⟨L, cur, fz, h1, h2, h3⟩
    · exact .inl h1
    · exact .inr ⟨L, cur, fz, h1, by rw [hbl _ _ _ _ h2 (apart b x L hb h1)]; exact h2, h3⟩
  have cross : ∀ b c x y L M, lk b e = some x → lk c e = none → lk c g' = some y → ρ' b = some L → ρ' c = some M → L.g ≠ M.g := by
    intro b c x y L M hb hce hc hL hM
    have hL' : ρ b = some L := by rw [← hρ b (hlow b x hb).1]; exact hL
    have hx : x.own ≠ 0 := (ho b x hb).resolve_right (fun q => by rw [q] at hL'; cases hL')
    have hlt : L.g < w.heap.size := by
      rcases hr.blk b x (he b x hb) with ⟨_, h2, _⟩ | ⟨L', cur, fz, h1, h2, _⟩
      · rw [h2] at hL'; cases hL'
      · rw [h1] at hL'
        simp only [Option.some.injEq] at hL'
        subst hL'
        exact (Array.getElem?_eq_some_iff.1 h2).1
    by_cases h0 : y.own = 0
    · obtain ⟨hc5, z, hz⟩ := hold c y hc h0
      rw [hρ c hc5] at hM
      have hbc : b ≠ c := by
        rintro rfl
        rw [hb] at hce; cases hce
      exact hr.inj b c x z L M (he b x hb) (hg c z hz) hL' hM hbc (.inl hx)
    · intro heq
      rcases hr'.blk c y hc with ⟨_, h2, _⟩ | ⟨M', cur, fz, h1, h2, h3, h4, h5, h6, h7, h8⟩
      · rw [h2] at hM; cases hM
      · rw [h1] at hM
        simp only [Option.some.injEq] at hM
        subst hM
        rcases (h7 h0).2 with h | h
        · rw [← heq] at h
          exact apart b x L hb hL' h
        · omega
  refine ⟨hE.low, fun b x hb => ?_, fun b c x y L M hb hc hL hM hne how => ?_⟩
  · rw [lk_append] at hb
    split at hb
    · rename_i z hz
      simp only [Option.some.injEq] at hb
      subst hb
      exact hE.blk b z hz
    · rcases hr'.blk b x hb with h1 | ⟨L, cur, fz, h1, h2, h3, h4, h5, h6, h7, h8⟩
      · exact .inl h1
      · refine .inr ⟨L, cur, fz, h1, h2, h3, h4, h5, h6, fun e => ⟨(h7 e).1, ?_⟩, h8⟩
        rcases (h7 e).2 with h | h
        · exact of_SN hr hg h
        · exact .inr (by have := hr.low; omega)
  · rw [lk_append] at hb hc
    split at hb
    · rename_i z hz
      simp only [Option.some.injEq] at hb
      subst hb
      split at hc
      · rename_i z' hz'
        simp only [Option.some.injEq] at hc
        subst hc
        exact hE.inj b c z z' L M hz hz' hL hM hne how
      · rename_i hz'
        exact cross b c z y L M hz hz' hc hL hM
    · rename_i hz
      split at hc
      · rename_i z' hz'
        simp only [Option.some.injEq] at hc
        subst hc
        exact (cross c b z' x M L hz' hz hb hM hL).symm
      · exact hr'.inj b c x y L M hb hc hL hM hne how

def hKeep (E : List Nat) : Heap → Heap
  | [] => []
  | (b, x) :: r => match memB b E with
    | true => (b, x) :: hKeep E r
    | false => hKeep E r
def hDrop (E : List Nat) : Heap → Heap
  | [] => []
  | (b, x) :: r => match memB b E with
    | true => hDrop E r
    | false => (b, x) :: hDrop E r
theorem lk_hKeep {E : List Nat} {h : Heap} {b : Nat} : lk b (hKeep E h) = if memB b E = true then lk b h else none := by
  induction h with
  | nil => simp [hKeep, lk]
  | cons p r ih =>
    obtain ⟨i, x⟩ := p
    unfold hKeep
    split
    · rename_i h1
      rw [lk_cons, lk_cons, ih]
      by_cases e : i = b
      · subst e; rw [if_pos rfl, if_pos rfl, if_pos h1]
      · rw [if_neg e, if_neg e]
    · rename_i h1
      rw [ih, lk_cons]
      by_cases e : i = b
      · subst e; rw [if_neg (by rw [h1]; simp), if_neg (by rw [h1]; simp)]
      · rw [if_neg e]
theorem lk_hDrop {E : List Nat} {h : Heap} {b : Nat} : lk b (hDrop E h) = if memB b E = true then none else lk b h := by
  induction h with
  | nil => simp [hDrop, lk]
  | cons p r ih =>
    obtain ⟨i, x⟩ := p
    unfold hDrop
    split
    · rename_i h1
      rw [ih, lk_cons]
      by_cases e : i = b
      · subst e; rw [if_pos h1, if_pos h1]
      · rw [if_neg e]
    · rename_i h1
      rw [lk_cons, lk_cons, ih]
      by_cases e : i = b
      · subst e; rw [if_pos rfl, if_pos rfl, if_neg (by rw [h1]; simp)]
      · rw [if_neg e, if_neg e]
def segsUnder : List Seg → Bool
  | [] => true
  | .one (.ptr b _ _) :: r => Nat.blt b 500 && segsUnder r
  | .one (.sl b _ _ _) :: r => Nat.blt b 500 && segsUnder r
  | _ :: r => segsUnder r
def eOk : Heap → Bool
  | [] => true
  | (b, x) :: r => ((Nat.blt b 500 && segsUnder x.segs) && (Nat.blt 0 x.own || Nat.beq b 448)) && eOk r
def gOk (E : List Nat) (g : Heap) : Heap → Bool
  | [] => true
  | (b, x) :: r => (!memB b E && (Nat.blt 0 x.own || (Nat.blt b 500 && hasKey b g))) && gOk E g r
theorem segsUnder_spec {l : List Seg} (h : segsUnder l = true) {c : Nat} (hc : anyB (Seg.mentions c) l = true) : c < 500 := by
  induction l with
  | nil => cases hc
  | cons s r ih =>
    unfold anyB at hc
    split at hc
    · rename_i hs
      cases s with
      | one d =>
        cases d with
        | ptr b o i =>
          simp only [segsUnder, Bool.and_eq_true] at h
          have := beq_true (show Nat.beq b c = true from hs)
          rw [← this]; exact blt_true h.1
        | sl b o n z =>
          simp only [segsUnder, Bool.and_eq_true] at h
          have := beq_true (show Nat.beq b c = true from hs)
          rw [← this]; exact blt_true h.1
        | _ => cases hs
      | _ => cases hs
    · refine ih ?_ hc
      cases s with
      | one d =>
        cases d with
        | ptr b o i => simp only [segsUnder, Bool.and_eq_true] at h; exact h.2
        | sl b o n z => simp only [segsUnder, Bool.and_eq_true] at h; exact h.2
        | _ => exact h
      | _ => exact h
theorem eOk_spec {e : Heap} (h : eOk e = true) {b : Nat} {x : Blk} (hb : lk b e = some x) : b < 500 ∧ segsUnder x.segs = true ∧ (x.own ≠ 0 ∨ b = 448) := by
  induction e with
  | nil => cases hb
  | cons p r ih =>
    obtain ⟨i, y⟩ := p
    simp only [eOk, Bool.and_eq_true, Bool.or_eq_true] at h
    rw [lk_cons] at hb
    split at hb
    · rename_i e
      subst e
      simp only [Option.some.injEq] at hb
      subst hb
      exact ⟨blt_true h.1.1.1, h.1.1.2, h.1.2.imp (fun q => by have := blt_true q; omega) (fun q => beq_true q)⟩
    · exact ih h.2 hb
theorem gOk_spec {E : List Nat} {g g' : Heap} (h : gOk E g g' = true) {b : Nat} {x : Blk} (hb : lk b g' = some x) : memB b E = false ∧ (x.own = 0 → b < 500 ∧ ∃ y, lk b g = some y) := by
  induction g' with
  | nil => cases hb
  | cons p r ih =>
    obtain ⟨i, y⟩ := p
    simp only [gOk, Bool.and_eq_true, Bool.or_eq_true, Bool.not_eq_true'] at h
    rw [lk_cons] at hb
    split at hb
    · rename_i e
      subst e
      simp only [Option.some.injEq] at hb
      subst hb
      refine ⟨h.1.1, fun h0 => ?_⟩
      rcases h.1.2 with q | q
      · have := blt_true q; omega
      · exact ⟨blt_true q.1, hasKey_spec q.2⟩
    · exact ih h.2 hb
def exCode : Ex → Nat
  | .normal => 0
  | .ret => 1
  | .exit i => i + 2
def tokPlain (h : Heap) : Bool :=
  match lk 448 h with
  | some ⟨[], _, 0⟩ => true
  | _ => false
theorem tokPlain_spec {h : Heap} (ht : tokPlain h = true) {x : Blk} (hx : lk 448 h = some x) : x.segs = [] ∧ x.own = 0 := by
  unfold tokPlain at ht
  rw [hx] at ht
  split at ht
  · rename_i e
    simp only [Option.some.injEq] at e
    subst e
    exact ⟨rfl, rfl⟩
  · cases ht
def yRound (E : List Nat) (np : Nat) (bodyE : List AV → Heap → Option (Ex × Heap)) (vs : List AV) (h : Heap) : Option (Bool × Heap) :=
  match tokReady h && (eOk (hKeep E h) && (Nat.beq vs.length np && (memB 448 E && tokPlain h))) with
  | true => match bodyE vs (hDrop E h) with
    | some (ex, g') => match gOk E (hDrop E h) g' with
      | true => match ex with
        | .normal => some (true, hKeep E h ++ g')
        | ex => some (false, hset 448 ⟨[], exCode ex, 0⟩ (hKeep E h) ++ g')
      | false => none
    | none => none
  | false => none

def yRoundG (E : List Nat) (np : Nat) (bodyG : List AV → Heap → GL (Ex × Heap)) (vs : List AV) (h : Heap) : GL (Bool × Heap) :=
  match tokReady h && (eOk (hKeep E h) && (Nat.beq vs.length np && (memB 448 E && tokPlain h))) with
  | true => mapG (fun p => match p with
    | (ex, g') => match gOk E (hDrop E h) g' with
      | true => match ex with
        | .normal => some (true, hKeep E h ++ g')
        | ex => some (false, hset 448 ⟨[], exCode ex, 0⟩ (hKeep E h) ++ g')
      | false => none) (bodyG vs (hDrop E h))
  | false => []
theorem yRoundG_pick {E : List Nat} {np : Nat} {bodyG : List AV → Heap → GL (Ex × Heap)} {vs : List AV} {h : Heap} : pickG (yRoundG E np bodyG vs h) = yRound E np (fun vs g => pickG (bodyG vs g)) vs h := by
  unfold yRoundG yRound
  split
  · rw [pickG_map]
    generalize hx : pickG (bodyG vs (hDrop E h)) = x
    simp only [hx]
    cases x <;> rfl
  · rfl

def jumpOf : Nat → Option Code
  | 0 => none
  | 1 => some .ret
  | i + 2 => some (.exit i)
def recOf (D : Nat) (fn : FuncId) (tmps : Array Value) (ps : Array Tmp) (as bd : Code) (c : Nat) : Loop :=
  { state := if c = 0 then .ready else .done, pending := jumpOf c, fn := fn, tmps := tmps, params := ps, assign := as, body := bd, defers := D }
def Gl (l D : Nat) (fn : FuncId) (tmps : Array Value) (ps : Array Tmp) (as bd : Code) (c : Nat) (w : World) : Prop := w.heap[l]? = some (.loop (recOf D fn tmps ps as bd c)) ∧ w.heap[D]? = some (.deferred (some []))
theorem Gl.oth {l D : Nat} {fn : FuncId} {tmps : Array Value} {ps : Array Tmp} {as bd : Code} {c : Nat} {w w' : World} (h : Gl l D fn tmps ps as bd c w) (ho : Oth w w') : Gl l D fn tmps ps as bd c w' := ⟨ho _ _ h.1 rfl, ho _ _ h.2 rfl⟩

theorem lk_mvOf {h : Heap} {b : Nat} (hb : b ∉ mvOf h) (h5 : 500 ≤ b) : lk b h = none ∧ ∀ c x, lk c h = some x → anyB (Seg.mentions b) x.segs = false := by
  have seg : ∀ l : List Seg, b ∉ segsBig l → anyB (Seg.mentions b) l = false := by
    intro l
    induction l with
    | nil => intro _; rfl
    | cons s r ih =>
      intro hm
      have tl : b ∉ segsBig r := by
        cases s with
        | one c => exact fun q => hm (List.mem_append_right _ q)
        | _ => exact hm
      simp only [anyB, ih tl]
      cases s with
      | one c =>
        have hc : b ∉ c.big := fun q => hm (List.mem_append_left _ q)
        cases c with
        | ptr d o i =>
          simp only [Seg.mentions, Cell.mentions]
          cases e : Nat.beq d b with
          | false => rfl
          | true =>
            have := beq_true e
            subst this
            exact absurd (by simp only [Cell.big, Nat.ble_eq_true_of_le h5]; exact List.mem_singleton_self _) hc
        | sl d o n z =>
          simp only [Seg.mentions, Cell.mentions]
          cases e : Nat.beq d b with
          | false => rfl
          | true =>
            have := beq_true e
            subst this
            exact absurd (by simp only [Cell.big, Nat.ble_eq_true_of_le h5]; exact List.mem_singleton_self _) hc
        | _ => rfl
      | _ => rfl
  induction h with
  | nil => exact ⟨rfl, fun c x hc => by cases hc⟩
  | cons p r ih =>
    obtain ⟨i, y⟩ := p
    simp only [mvOf] at hb
    have hne : i ≠ b := by
      rintro rfl
      rw [Nat.ble_eq_true_of_le h5] at hb
      exact hb List.mem_cons_self
    have hs : b ∉ segsBig y.segs ∧ b ∉ mvOf r := by
      split at hb
      · exact ⟨fun q => hb (List.mem_cons_of_mem _ (List.mem_append_left _ q)), fun q => hb (List.mem_cons_of_mem _ (List.mem_append_right _ q))⟩
      · exact ⟨fun q => hb (List.mem_append_left _ q), fun q => hb (List.mem_append_right _ q)⟩
    obtain ⟨g1, g2⟩ := ih hs.2
    refine ⟨by rw [lk_cons, if_neg hne]; exact g1, fun c x hc => ?_⟩
    rw [lk_cons] at hc
    split at hc
    · simp only [Option.some.injEq] at hc
      subst hc
      exact seg _ hs.1
    · exact g2 c x hc

theorem lk_zipS {ps : List Nat} {t : Nat} (h : t ∉ ps) : ∀ vs : List AV, lk t (zipS ps vs) = none := by
  induction ps with
  | nil => intro vs; rfl
  | cons p ps ih =>
    intro vs
    cases vs with
    | nil => rfl
    | cons v vs =>
      simp only [zipS]
      rw [lk_cons, if_neg (fun e => h (by rw [e]; exact List.mem_cons_self))]
      exact ih (fun q => h (List.mem_cons_of_mem _ q)) vs
theorem fold_rel {ρ : Map} : ∀ (ps : List Nat) (vs : List AV) (us : List Value) (tmps : Array Value) (sl : Slots), RVs ρ vs us → ps.length = vs.length → ps.Nodup → (∀ p ∈ ps, p < tmps.size) → (∀ t v, lk t sl = some v → RV ρ v (tmps.getD t undef)) →
    ((ps.zip us).foldl (fun t (x : Nat × Value) => t.setIfInBounds x.1 x.2) tmps).size = tmps.size ∧ ∀ t v, lk t (zipS ps vs ++ sl) = some v → RV ρ v (((ps.zip us).foldl (fun t (x : Nat × Value) => t.setIfInBounds x.1 x.2) tmps).getD t undef)
  | [], vs, us, tmps, sl, _, hl, _, _, hs => ⟨rfl, fun t v hv => hs t v (by simpa [zipS] using hv)⟩
  | p :: ps, [], us, tmps, sl, _, hl, _, _, hs => by simp at hl
  | p :: ps, v :: vs, [], tmps, sl, hr, _, _, _, _ => by have := hr.1; simp at this
  | p :: ps, v :: vs, u :: us, tmps, sl, hr, hl, hn, hlt, hs => by
    have hn' := List.nodup_cons.1 hn
    have hp := hlt p List.mem_cons_self
    have hs' : ∀ t x, lk t ((p, v) :: sl) = some x → RV ρ x ((tmps.setIfInBounds p u).getD t undef) := by
      intro t x hx
      rw [lk_cons] at hx
      split at hx
      · rename_i e
        subst e
        simp only [Option.some.injEq] at hx
        subst hx
        rw [Array.getD_eq_getD_getElem?, Array.getElem?_setIfInBounds_self_of_lt hp]
        exact hr.2 0 v u rfl rfl
      · rename_i e
        rw [Array.getD_eq_getD_getElem?, Array.getElem?_setIfInBounds_ne e, ← Array.getD_eq_getD_getElem?]
        exact hs t x hx
    obtain ⟨g1, g2⟩ := fold_rel ps vs us (tmps.setIfInBounds p u) ((p, v) :: sl) ⟨by have := hr.1; simpa using this, fun i x y hx hy => hr.2 (i + 1) x y (by simpa using hx) (by simpa using hy)⟩ (by simpa using hl) hn'.2 (fun q hq => by rw [Array.size_setIfInBounds]; exact hlt q (List.mem_cons_of_mem _ hq)) hs'
    simp only [List.zip_cons_cons, List.foldl_cons]
    refine ⟨by rw [g1, Array.size_setIfInBounds], fun t x hx => g2 t x ?_⟩
    simp only [zipS, List.cons_append] at hx
    rw [lk_cons] at hx
    rw [lk_append]
    by_cases e : p = t
    · subst e
      rw [if_pos rfl] at hx
      rw [lk_zipS hn'.1 vs]
      simp only
      rw [lk_cons, if_pos rfl]
      exact hx
    · rw [if_neg e, lk_append] at hx
      split at hx
      · exact hx
      · rw [lk_cons, if_neg e]
        exact hx

theorem round_in {l D : Nat} {fn : FuncId} {tmps : Array Value} {ps : Array Tmp} {as bd : Code} {np : Nat} {E : List Nat} {bodyE : List AV → Heap → Option (Ex × Heap)} {nt : Nat} {sl : Slots}
    (hb : ∀ vs g ex g', bodyE vs g = some (ex, g') → BodyH P nt as bd ps.toList sl vs g ex g') (hps : ps.size = np) (hpn : ps.toList.Nodup) (hpl : ∀ p ∈ ps.toList, p < nt) (htm : tmps.size = nt)
    {ρ : Map} {h : Heap} {w : World} (hr : HR N S ρ h w) (hg0 : Gl l D fn tmps ps as bd 0 w) (hsl : ∀ t v, lk t sl = some v → RV ρ v (tmps.getD t undef)) (h448 : ρ 448 = none) {vs : List AV} {us : Array Value} {b : Bool} {h' : Heap} (hy : yRound E np bodyE vs h = some (b, h')) (hus : RVs ρ vs us.toList) :
    ∃ tm, (Instr.yield l us).run P w = .ok (.round l fn tm as bd) w ∧ ∀ (F : Fence) (n : Nat), WideF F → RoundIn F n P l fn tm as bd w fun e w'' => ∃ ρ' ex, e = .returned (.bool b) ∧ (b = true ↔ exCode ex = 0) ∧ HR N S ρ' h' w'' ∧ (∀ c, c ∉ mvOf h' → ρ' c = ρ c) ∧
      w''.os = w.os ∧ w''.tape = w.tape ∧ w''.output = w.output ∧ w.heap.size ≤ w''.heap.size ∧ (∀ k, k < N → ¬ S k → k ≠ l → w''.heap[k]? = w.heap[k]?) ∧ (∀ (k : Nat) (o : Obj), k ≠ l → w.heap[k]? = some o → o.isCells = false → w''.heap[k]? = some o) ∧ w''.heap[l]? = some (.loop (recOf D fn tmps ps as bd (exCode ex))) ∧ (∀ x, lk 448 h' = some x → x.ty = exCode ex) := by
  unfold yRound at hy
  split at hy
  · rename_i hchk
    simp only [Bool.and_eq_true] at hchk
    obtain ⟨htok, heok, hlen, h448E, hplain⟩ := hchk
    have hlen := beq_true hlen
    split at hy
    · rename_i ex g' hbody
      split at hy
      · rename_i hgok
        have hsz : us.size = ps.size := by have := hus.1; simp at this; omega
        refine ⟨_, run_yield hg0.1 (by rw [hsz]; rfl), fun F n hF => ?_⟩
        have hfold : (Array.foldl (fun tmps (x : Tmp × Value) => tmps.setIfInBounds x.1 x.2) tmps (ps.zip us)) = ((ps.toList.zip us.toList).foldl (fun t (x : Nat × Value) => t.setIfInBounds x.1 x.2) tmps) := by
          rw [← Array.foldl_toList, Array.toList_zip]
        obtain ⟨f1, f2⟩ := fold_rel ps.toList vs us.toList tmps sl hus (by simpa using (by omega : ps.size = vs.length)) hpn (fun p hp => by rw [htm]; exact hpl p hp) hsl
        have sub1 : ∀ b x, lk b (hKeep E h) = some x → lk b h = some x := by
          intro b x hx
          rw [lk_hKeep] at hx
          split at hx
          · exact hx
          · cases hx
        have sub2 : ∀ b x, lk b (hDrop E h) = some x → lk b h = some x := by
          intro b x hx
          rw [lk_hDrop] at hx
          split at hx
          · cases hx
          · exact hx
        have hl : l < w.heap.size := (Array.getElem?_eq_some_iff.1 hg0.1).1
        have hbh := hb _ _ _ _ hbody (F.inRound l) n (hF.inRound l) w.heap.size (Of ρ (hDrop E h)) ρ w _ (HR_part hr sub2) (f1.trans htm) f2
        refine roundIn_of_wpIn (hF.fn fn) (wpIn_mono (by
          show as.wpIn (F.inRound l) n P _ { tmps := Array.foldl (fun tmps (x : Tmp × Value) => tmps.setIfInBounds x.1 x.2) tmps (ps.zip us), defers := [] } w
          rw [hfold]; exact hbh) fun e a₁ w₁ hq => ?_)
        cases e with
        | normal =>
          obtain ⟨hf1, hrest⟩ := hq
          have hl1 : w₁.heap[l]? = some (.loop (recOf D fn tmps ps as bd 0)) := hf1.oth l _ hg0.1 rfl
          refine ⟨_, run_beginRound hl1 rfl, wpIn_mono (hrest _ (CellEq.putObj hl1 _)) fun e2 a2 w₃ hq2 => ?_⟩
          obtain ⟨rfl, ρ', hr', hf2, hpin⟩ := hq2
          have hlt1 : l < w₁.heap.size := (Array.getElem?_eq_some_iff.1 hl1).1
          have hl3 : w₃.heap[l]? = some (.loop { recOf D fn tmps ps as bd 0 with state := .busy }) := hf2.oth l _ (World.putObj_heap_same hlt1) rfl
          have hlt3 : l < w₃.heap.size := (Array.getElem?_eq_some_iff.1 hl3).1
          -- the end of the round
          have fin : ∀ (o' : Obj), o'.isCells = false → HR w.heap.size (Of ρ (hDrop E h)) ρ' g' (w₃.putObj l o') := fun o' _ => HR_cells hr' (CellEq.putObj hl3 o')
          have blk : ∀ (o' : Obj) k, k < w.heap.size → ¬ Of ρ (hDrop E h) k → k ≠ l → (w₃.putObj l o').heap[k]? = w.heap[k]? := by
            intro o' k hk hn hne
            rw [World.putObj_heap_other hne, hf2.block k hk hn, World.putObj_heap_other hne, hf1.block k hk hn]
          have oth : ∀ (o' : Obj) (k : Nat) (o : Obj), k ≠ l → w.heap[k]? = some o → o.isCells = false → (w₃.putObj l o').heap[k]? = some o := by
            intro o' k o hne hk ho
            rw [World.putObj_heap_other hne]
            exact hf2.oth k o (by rw [World.putObj_heap_other hne]; exact hf1.oth k o hk ho) ho
          have siz : ∀ o' : Obj, w.heap.size ≤ (w₃.putObj l o').heap.size := fun o' => by
            have h1 := hf1.size
            have h2 := hf2.size
            simp at h2 ⊢
            omega
          have glue : ∀ (o' : Obj) (e : Heap), o'.isCells = false → (∀ b x, lk b e = some x → ∃ y, lk b (hKeep E h) = some y ∧ x.own = y.own ∧ (x = y ∨ b = 448)) → (∀ b x, lk b e = some x → b ≠ 448 → lk b h = some x) → (∀ x, lk 448 e = some x → x.segs = [] ∧ x.own = 0) → HR N S ρ' (e ++ g') (w₃.putObj l o') := by
            intro o' e ho' h1 h2 h3
            -- the token aside
            have hr2 : HR N S ρ (hset 448 ((lk 448 e).getD ⟨[], 0, 0⟩) h) w := by
              refine ⟨hr.low, fun b x hb => ?_, fun b c x y L M hb hc hL hM hne how => ?_⟩
              · rw [lk_hset'] at hb
                split at hb
                · rename_i eb
                  subst eb
                  simp only [Option.some.injEq] at hb
                  subst hb
                  cases h4 : lk 448 e with
                  | none => exact .inl ⟨by decide, h448, rfl, segsWf_nil⟩
                  | some z =>
                    obtain ⟨q1, q2⟩ := h3 z h4
                    exact .inl ⟨by simp [q2], h448, by simp [q1, segsLen], by simp only [Option.getD_some, q1]; exact segsWf_nil⟩
                · exact hr.blk b x hb
              · have nb : b ≠ 448 := fun e => by subst e; rw [h448] at hL; cases hL
                have nc : c ≠ 448 := fun e => by subst e; rw [h448] at hM; cases hM
                rw [lk_hset', if_neg nb] at hb
                rw [lk_hset', if_neg nc] at hc
                exact hr.inj b c x y L M hb hc hL hM hne how
            refine HR_glue (h := hset 448 ((lk 448 e).getD ⟨[], 0, 0⟩) h) (g := hDrop E h) hr2 (fun b x hb => ?_) (fun b x hb => ?_) (fun b x hb => ?_) (fun b x hb => ?_) hpin (fun b x hb => ?_) (fin o' ho') (siz o') (fun k cs ty fz hk hn => ?_) (fun b x hb h0 => (gOk_spec hgok hb).2 h0)
            · rw [lk_hset']
              split
              · rename_i eb; subst eb; rw [hb]; rfl
              · rename_i eb; exact h2 b x hb eb
            · rw [lk_hset', if_neg]
              · exact sub2 b x hb
              · rintro rfl
                rw [lk_hDrop, if_pos h448E] at hb; cases hb
            · obtain ⟨y, hy, _⟩ := h1 b x hb
              rw [lk_hKeep] at hy
              split at hy
              · rename_i hE; rw [lk_hDrop, if_pos hE]
              · cases hy
            · obtain ⟨y, hy, ho, _⟩ := h1 b x hb
              rcases (eOk_spec heok hy).2.2 with q | q
              · exact .inl (by rw [ho]; exact q)
              · exact .inr (by rw [q]; exact h448)
            · obtain ⟨y, hy, ho, hx⟩ := h1 b x hb
              obtain ⟨q1, q2, _⟩ := eOk_spec heok hy
              refine ⟨q1, fun c hc => ?_⟩
              rcases hx with rfl | rfl
              · exact segsUnder_spec q2 hc
              · rw [(h3 x hb).1] at hc; cases hc
            · refine blk o' k (Array.getElem?_eq_some_iff.1 hk).1 hn ?_
              rintro rfl
              rw [hg0.1] at hk; cases hk
          -- the map, where nothing speaks of a block
          have out : ∀ (o' : Obj) (hh : Heap), HR N S ρ' hh (w₃.putObj l o') → ∃ ρ2 : Map, HR N S ρ2 hh (w₃.putObj l o') ∧ ∀ c, c ∉ mvOf hh → ρ2 c = ρ c := by
            intro o' hh hH
            refine ⟨fun c => if memB c (mvOf hh) = true ∨ c < 500 then ρ' c else ρ c, HR_agree hH (fun b x hb => ?_) (fun b x c hb hc => ?_), fun c hc => ?_⟩
            · refine if_pos ?_
              by_cases h5 : b < 500
              · exact .inr h5
              · refine .inl ?_
                cases hm : memB b (mvOf hh) with
                | true => rfl
                | false =>
                  have := (lk_mvOf (h := hh) (memB_spec hm) (by omega)).1
                  rw [hb] at this; cases this
            · refine if_pos ?_
              by_cases h5 : c < 500
              · exact .inr h5
              · refine .inl ?_
                cases hm : memB c (mvOf hh) with
                | true => rfl
                | false =>
                  have := (lk_mvOf (h := hh) (memB_spec hm) (by omega)).2 b x hb
                  rw [hc] at this; cases this
            · by_cases h5 : c < 500
              · simp only [if_pos (Or.inr h5 : memB c (mvOf hh) = true ∨ c < 500)]
                exact hpin c h5
              · refine if_neg ?_
                rintro (q | q)
                · exact hc (by
                    clear hH
                    generalize mvOf hh = L at q
                    induction L with
                    | nil => cases q
                    | cons y r ih =>
                      simp only [memB] at q
                      split at q
                      · rename_i e; rw [← beq_true e]; exact List.mem_cons_self
                      · exact List.mem_cons_of_mem _ (ih q))
                · exact h5 q
          have keepT : ∀ x, lk 448 (hKeep E h) = some x → lk 448 h = some x := fun x hx => sub1 _ _ hx
          have exitCase : ∀ (c : Code) (m : Nat), jumpOf m = some c → m ≠ 0 → HR N S ρ' (hset 448 ⟨[], m, 0⟩ (hKeep E h) ++ g') (w₃.putObj l (.loop { recOf D fn tmps ps as bd 0 with state := .done, pending := some c })) := by
            intro c m hj hm
            refine glue _ _ rfl (fun b x hb => ?_) (fun b x hb hne => ?_) (fun x hx => ?_)
            · rw [lk_hset'] at hb
              split at hb
              · rename_i eb
                subst eb
                simp only [Option.some.injEq] at hb
                subst hb
                obtain ⟨y, hy, _⟩ := ready_spec htok
                exact ⟨y, by rw [lk_hKeep, if_pos h448E]; exact hy, (tokPlain_spec hplain hy).2.symm, .inr rfl⟩
              · exact ⟨x, hb, rfl, .inl rfl⟩
            · rw [lk_hset', if_neg hne] at hb
              exact sub1 b x hb
            · rw [lk_hset', if_pos rfl] at hx
              simp only [Option.some.injEq] at hx
              subst hx
              exact ⟨rfl, rfl⟩
          have tokX : ∀ (m : Nat) x, lk 448 (hset 448 ⟨[], m, 0⟩ (hKeep E h) ++ g') = some x → x.ty = m := by
            intro m x hx
            rw [lk_append, lk_hset', if_pos rfl] at hx
            simp only [Option.some.injEq] at hx
            subst hx
            rfl
          have frm : ∀ (o' : Obj) k, k < N → ¬ S k → k ≠ l → (w₃.putObj l o').heap[k]? = w.heap[k]? := fun o' k hk hs hne => blk o' k (by have := hr.low; omega) (fun h => (of_SN hr sub2 h).elim hs (by omega)) hne
          have e1 : w₃.os = w.os := hf2.os.trans hf1.os
          have e2 : w₃.tape = w.tape := hf2.tape.trans hf1.tape
          have e3 : w₃.output = w.output := hf2.output.trans hf1.output
          cases ex with
          | normal =>
            simp only [Option.some.injEq, Prod.mk.injEq] at hy
            obtain ⟨rfl, rfl⟩ := hy
            have hH := glue (.loop (recOf D fn tmps ps as bd 0)) (hKeep E h) rfl (fun b x hb => ⟨x, hb, rfl, .inl rfl⟩) (fun b x hb _ => sub1 b x hb) (fun x hx => tokPlain_spec hplain (keepT x hx))
            obtain ⟨ρ2, hH2, hm⟩ := out _ _ hH
            refine ⟨_, _, run_endRound none hl3, ρ2, .normal, rfl, ⟨fun _ => rfl, fun _ => rfl⟩, hH2, hm, e1, e2, e3, siz _, frm _, oth _, World.putObj_heap_same hlt3, fun x hx => ?_⟩
            obtain ⟨y, hy, hy0⟩ := ready_spec htok
            rw [lk_append, lk_hKeep, if_pos h448E, hy] at hx
            simp only [Option.some.injEq] at hx
            subst hx
            exact hy0
          | ret =>
            simp only [Option.some.injEq, Prod.mk.injEq] at hy
            obtain ⟨rfl, rfl⟩ := hy
            obtain ⟨ρ2, hH2, hm⟩ := out _ _ (exitCase .ret 1 rfl (by decide))
            exact ⟨_, _, run_endRound (some .ret) hl3, ρ2, .ret, rfl, ⟨fun h => (by cases h), fun h => (by cases h)⟩, hH2, hm, e1, e2, e3, siz _, frm _, oth _, World.putObj_heap_same hlt3, tokX _⟩
          | exit i =>
            simp only [Option.some.injEq, Prod.mk.injEq] at hy
            obtain ⟨rfl, rfl⟩ := hy
            obtain ⟨ρ2, hH2, hm⟩ := out _ _ (exitCase (.exit i) (i + 2) rfl (by omega))
            exact ⟨_, _, run_endRound (some (.exit i)) hl3, ρ2, .exit i, rfl, ⟨fun h => (by cases h), fun h => (by simp [exCode] at h)⟩, hH2, hm, e1, e2, e3, siz _, frm _, oth _, World.putObj_heap_same hlt3, tokX _⟩
        | _ => exact hq.elim
      · cases hy
    · cases hy
  · cases hy

theorem low_men {v : AV} (h : v.low = true) {b : Nat} (hb : v.mentions b = true) : b < 448 := by
  have cel : ∀ c : Cell, c.low = true → c.mentions b = true → b < 448 := by
    intro c h hb
    cases c with
    | ptr d o i => rw [← beq_true (show Nat.beq d b = true from hb)]; exact blt_true h
    | sl d o n z => rw [← beq_true (show Nat.beq d b = true from hb)]; exact blt_true h
    | _ => cases hb
  have seg : ∀ l : List Seg, segsLow l = true → anyB (Seg.mentions b) l = true → b < 448 := by
    intro l
    induction l with
    | nil => intro _ hb; cases hb
    | cons s r ih =>
      intro h hb
      unfold anyB at hb
      split at hb
      · rename_i hs
        cases s with
        | one c => simp only [segsLow, Bool.and_eq_true] at h; exact cel c h.1 hs
        | _ => cases hs
      · refine ih ?_ hb
        cases s with
        | one c => simp only [segsLow, Bool.and_eq_true] at h; exact h.2
        | _ => exact h
  have v1 : ∀ x : V1, x.low = true → x.mentions b = true → b < 448 := by
    intro x h hb
    cases x with
    | cell c => exact cel c h hb
    | agg l => exact seg l h hb
  cases v with
  | v x => exact v1 x h hb
  | tup l =>
    obtain ⟨y, h1, h2⟩ := anyB_spec hb
    exact v1 y (allL_spec h y h1) h2
  | fn f a c =>
    have h' : (allL V1.low a && allL V1.low c) = true := h
    rw [Bool.and_eq_true] at h'
    rcases fn_men.1 hb with hb | hb
    · obtain ⟨y, h1, h2⟩ := anyB_spec hb
      exact v1 y (allL_spec h'.1 y h1) h2
    · obtain ⟨y, h1, h2⟩ := anyB_spec hb
      exact v1 y (allL_spec h'.2 y h1) h2
  | yld b => cases h
theorem slLow_spec {sl : Slots} (h : slLow sl = true) {t : Nat} {v : AV} (hv : lk t sl = some v) : v.low = true := by
  induction sl with
  | nil => cases hv
  | cons p r ih =>
    obtain ⟨i, x⟩ := p
    simp only [slLow, Bool.and_eq_true] at h
    rw [lk_cons] at hv
    split at hv
    · simp only [Option.some.injEq] at hv
      subst hv
      exact h.1
    · exact ih h.2 hv

theorem y_sound {l D : Nat} {fn : FuncId} {tmps : Array Value} {ps : Array Tmp} {as bd : Code} {np : Nat} {E : List Nat} {bodyE : List AV → Heap → Option (Ex × Heap)} {nt : Nat} {sl : Slots}
    (hyl : ∀ vs h, O.yl vs h = yRound E np bodyE vs h) (hb : ∀ vs g ex g', bodyE vs g = some (ex, g') → BodyH P nt as bd ps.toList sl vs g ex g') (hps : ps.size = np) (hpn : ps.toList.Nodup) (hpl : ∀ p ∈ ps.toList, p < nt) (htm : tmps.size = nt)
    (hlow : slLow sl = true) {ρ₀ : Map} (h448 : ρ₀ 448 = none) (h449 : ∃ L, ρ₀ 449 = some L ∧ L.g = l) (hsl : ∀ t v, lk t sl = some v → RV ρ₀ v (tmps.getD t undef)) :
    (∀ (ρ : Map) (w : World), (∀ b, b < 450 → ρ b = ρ₀ b) → Gl l D fn tmps ps as bd 0 w → YSound P O 450 ρ w) ∧ ∀ w₀ : World, w₀.heap.size ≤ l → N ≤ w₀.heap.size → YExit P O N S (Gl l D fn tmps ps as bd) 450 ρ₀ w₀ := by
  obtain ⟨L0, hL0, hLl⟩ := h449
  have sl' : ∀ ρ : Map, (∀ b, b < 450 → ρ b = ρ₀ b) → ∀ t v, lk t sl = some v → RV ρ v (tmps.getD t undef) := fun ρ hp t v hv => RV_agree (fun b hb => hp b (by have := low_men (slLow_spec hlow hv) hb; omega)) (hsl t v hv)
  constructor
  · intro ρ w hp hg N' S' ρ' h w' hp' ho hr vs h' us L hy hus hL sid fr
    have hp2 : ∀ b, b < 450 → ρ' b = ρ₀ b := fun b hb => (hp' b hb).trans (hp b hb)
    have hLg : L.g = l := by
      have := hp2 449 (by decide)
      rw [hL, hL0] at this
      simp only [Option.some.injEq] at this
      rw [this]; exact hLl
    have hg' := hg.oth ho
    obtain ⟨tm, hrun, hR⟩ := round_in (P := P) hb hps hpn hpl htm hr hg' (sl' ρ' hp2) ((hp2 448 (by decide)).trans h448) ((hyl vs h).symm.trans hy) hus
    rw [hLg, hrun]
    refine ⟨rfl, fun F n hF => (hR F n hF).mono fun e w'' he => ?_⟩
    obtain ⟨ρ2, ex, e1, e2, h1, h2, h3, h4, h5, h6, h7, h8, h9, _⟩ := he
    have hex : exCode ex = 0 := e2.1 rfl
    rw [hex] at h9
    refine ⟨_, ρ2, e1, rfl, h1, ⟨h3, h4, h5, h6, fun k hk hs => ?_, fun k o hk ho => ?_⟩, fun b hb _ => h2 b hb⟩
    · by_cases hkl : k = l
      · subst hkl; rw [h9, hg'.1]
      · exact h7 k hk hs hkl
    · by_cases hkl : k = l
      · subst hkl; rw [h9]; rw [hg'.1] at hk; exact hk
      · exact h8 k o hkl hk ho
  · intro w₀ hlo hN ρ h w vs h' us L hp hg hf hr hy hus hL
    have hLg : L.g = l := by
      have := hp 449 (by decide)
      rw [hL, hL0] at this
      simp only [Option.some.injEq] at this
      rw [this]; exact hLl
    obtain ⟨tm, hrun, hR⟩ := round_in (P := P) hb hps hpn hpl htm hr hg (sl' ρ hp) ((hp 448 (by decide)).trans h448) ((hyl vs h).symm.trans hy) hus
    rw [hLg]
    refine ⟨_, _, _, _, hrun, fun F n hF => (hR F n hF).mono fun e w'' he => ?_⟩
    obtain ⟨ρ2, ex, e1, e2, h1, h2, h3, h4, h5, h6, h7, h8, h9, h10⟩ := he
    have hDl : D ≠ l := by
      rintro rfl
      have := hg.1
      rw [hg.2] at this; cases this
    refine ⟨ρ2, e1, h1, ⟨h3.trans hf.os, h4.trans hf.tape, h5.trans hf.output, Nat.le_trans hf.size h6, fun k hk hs => ?_, fun k o hk ho => ?_⟩, fun k o hk hd => ?_, h2, fun x hx => ?_⟩
    · rw [h7 k hk hs (by omega)]; exact hf.block k hk hs
    · have := (Array.getElem?_eq_some_iff.1 hk).1
      exact h8 k o (by omega) (hf.oth k o hk ho) ho
    · obtain ⟨d, rfl⟩ := hd
      have hkl : k ≠ l := by
        rintro rfl
        rw [hg.1] at hk; cases hk
      exact h8 k _ hkl hk rfl
    · rw [h10 x hx]
      exact ⟨h9, h8 D _ hDl hg.2 rfl⟩
end
end Go.Sx
