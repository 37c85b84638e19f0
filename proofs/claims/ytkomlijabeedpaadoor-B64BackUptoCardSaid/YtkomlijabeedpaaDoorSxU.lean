import Derived.Test.YtkomlijabeedpaaDoorSxS
import Derived.Test.YtkomlijabeedpaaDoorSxX
namespace Go.Sx

section
variable {P : Program} {T : Tys} {O : Orc} {N : Nat} {S : Nat → Prop} {ρ₀ : Map} {w₀ : World} {cx : Cx} {F : Fence} {fu : Nat} {R : Type} {r : R}

theorem lk_ro (b : Nat) (h : Heap) : lk b (roHeap h) = (lk b h).map fun x => ⟨x.segs, x.ty, 0⟩ := by
  induction h with
  | nil => rfl
  | cons p q ih =>
    obtain ⟨i, x⟩ := p
    simp only [roHeap]
    rw [lk_cons, lk_cons, ih]
    split <;> rfl

theorem heapFree_ro {b : Nat} {h : Heap} (hf : heapFree b h = true) : heapFree b (roHeap h) = true := by
  induction h with
  | nil => rfl
  | cons p q ih =>
    obtain ⟨i, x⟩ := p
    simp only [heapFree] at hf
    split at hf
    · cases hf
    · rename_i hx
      simp only [roHeap]
      unfold heapFree
      split
      · rename_i hy
        rw [show anyB (Seg.mentions b) x.segs = true from hy] at hx
        cases hx
      · exact ih hf

abbrev Nil : Nat → Prop := fun _ => False

theorem HR_ro {ρ : Map} {h he : Heap} {w : World} (hr : HR N S ρ h w) (hs : ∀ b x, lk b he = some x → lk b h = some x) : HR w.heap.size Nil ρ (roHeap he) w := by
  have get : ∀ b x, lk b (roHeap he) = some x → ∃ y, lk b h = some y ∧ x = ⟨y.segs, y.ty, 0⟩ := by
    intro b x hx
    rw [lk_ro] at hx
    cases hl : lk b he with
    | none => rw [hl] at hx; cases hx
    | some y =>
      rw [hl] at hx
      simp only [Option.map_some, Option.some.injEq] at hx
      exact ⟨y, hs b y hl, hx.symm⟩
  refine ⟨Nat.le_refl _, fun b x hb => ?_, fun b c x y L M hb hc _ _ _ how => ?_⟩
  · obtain ⟨y, hy, rfl⟩ := get b x hb
    rcases hr.blk b y hy with ⟨h1, h2, h3, h4⟩ | ⟨L, cur, fz, h1, h2, h3, h4, h5, h6, h7, h8⟩
    · exact .inl ⟨(show (0 : Nat) ≠ 1 by decide), h2, h3, h4⟩
    · exact .inr ⟨L, cur, fz, h1, h2, h3, h4, h5, h6, fun e => absurd rfl e, (fun e => by cases e), fun e => by cases e⟩
  · obtain ⟨x', _, rfl⟩ := get b x hb
    obtain ⟨y', _, rfl⟩ := get c y hc
    rcases how with how | how <;> exact absurd rfl how

theorem HR_frame {ρ : Map} {h : Heap} {w w' : World} (hr : HR N S ρ h w) (hf : Fr w.heap.size Nil w w') : HR N S ρ h w' := by
  refine ⟨by have := hr.low; have := hf.size; omega, fun b x hb => ?_, hr.inj⟩
  rcases hr.blk b x hb with h1 | ⟨L, cur, fz, h1, h2, h3⟩
  · exact .inl h1
  · exact .inr ⟨L, cur, fz, h1, by rw [hf.block _ (Array.getElem?_eq_some_iff.1 h2).1 (fun h => h)]; exact h2, h3⟩

theorem Fr_up {w w' : World} (hN : N ≤ w.heap.size) (hf : Fr w.heap.size Nil w w') : Fr N S w w' :=
  ⟨hf.os, hf.tape, hf.output, hf.size, fun k hk _ => hf.block k (by omega) (fun h => h), hf.oth⟩

theorem HR_cons {ρ ρ' : Map} {h h' : Heap} {w w' : World} {sid : Nat} {blk : Blk} (hr : HR N S ρ h w) (hf : Fr w.heap.size Nil w w') (hρ : ∀ b, b ≠ sid → ρ' b = ρ b) (hn : lk sid h = none) (hfree : ∀ c x, lk c h = some x → anyB (Seg.mentions sid) x.segs = false)
    (hr' : HR w.heap.size Nil ρ' h' w') (hb : lk sid h' = some blk) (hown : blk.own ≠ 0) : HR N S ρ' ((sid, blk) :: h) w' := by
  have ne : ∀ c x, lk c h = some x → c ≠ sid := by
    rintro c x hx rfl
    rw [hn] at hx; cases hx
  have h1 : HR N S ρ' h w := HR_agree hr (fun c x hx => hρ c (ne c x hx)) (fun c x d hx hd => hρ d (fun e => by subst e; rw [hfree c x hx] at hd; cases hd))
  have h2 := HR_frame h1 hf
  have hbig : ∀ L, ρ' sid = some L → w.heap.size ≤ L.g := by
    intro L hL
    rcases hr'.blk sid blk hb with ⟨_, g2, _⟩ | ⟨L', cur, fz, g1, g2, g3, g4, g5, g6, g7, g8⟩
    · rw [g2] at hL; cases hL
    · rw [g1] at hL
      simp only [Option.some.injEq] at hL
      subst hL
      exact (g7 hown).2.resolve_left (fun h => h)
  have hlt : ∀ c x L, lk c h = some x → ρ' c = some L → L.g < w.heap.size := by
    intro c x L hx hL
    rcases h1.blk c x hx with ⟨_, g2, _⟩ | ⟨L', cur, fz, g1, g2, _⟩
    · rw [g2] at hL; cases hL
    · rw [g1] at hL
      simp only [Option.some.injEq] at hL
      subst hL
      exact (Array.getElem?_eq_some_iff.1 g2).1
  refine ⟨h2.low, fun c x hc => ?_, fun c d x y L M hc hd hL hM hne how => ?_⟩
  · rw [lk_cons] at hc
    split at hc
    · rename_i e
      subst e
      simp only [Option.some.injEq] at hc
      subst hc
      rcases hr'.blk _ _ hb with g | ⟨L', cur, fz, g1, g2, g3, g4, g5, g6, g7, g8⟩
      · exact .inl g
      · refine .inr ⟨L', cur, fz, g1, g2, g3, g4, g5, g6, fun e => ⟨(g7 e).1, ?_⟩, g8⟩
        have := hbig L' g1
        have := hr.low
        exact .inr (by omega)
    · exact h2.blk c x hc
  · rw [lk_cons] at hc hd
    split at hc
    · rename_i e1
      split at hd
      · rename_i e2; exact absurd (e1.symm.trans e2) hne
      · subst e1
        have g1 := hbig L hL
        have g2 := hlt d y M hd hM
        omega
    · split at hd
      · rename_i e2
        subst e2
        have g1 := hbig M hM
        have g2 := hlt c x L hc hL
        omega
      · exact h2.inj c d x y L M hc hd hL hM hne how

def LightOk (P : Program) (ops : Array Oper) (i : Nat) (o : Oper) (sid : Nat) (sl : Slots) (he : Heap) (v : AV) (nb : Option Blk) : Prop :=
  ∀ (F : Fence) (fu : Nat), WideF F → ∀ (N : Nat) (S : Nat → Prop) (ρ : Map) (h : Heap) (a : Act) (w : World), HR N S ρ h w → (∀ b x, lk b he = some x → lk b h = some x) → (∀ t x, lk t sl = some x → RV ρ x (a.tmps.getD t undef)) →
    (nb ≠ none → lk sid h = none ∧ ∀ c x, lk c h = some x → anyB (Seg.mentions sid) x.segs = false) → ∀ (Q : Exit → Act → World → Prop) (K : Act → World → Prop),
    (∀ ρ' u w', RV ρ' v u → HR N S ρ' (consNb sid nb h) w' → Fr N S w w' → (∀ b, b ≠ sid → ρ' b = ρ b) → (nb = none → ρ' = ρ) → K (a.put o.dst u) w') → wpOpIn F fu P ops Q i K a w

theorem wantD_det {ops : List Oper} {o : Oper} {s : St} {k : Bool → Option R} (hk : wantD ops o s k = some r) : ∃ b, k b = some r ∧ ∀ (R' : Type) (k' : Bool → Option R'), wantD ops o s k' = k' b := by
  unfold wantD at hk
  (repeat' (split at hk)) <;> first
    | (cases hk; done)
    | exact ⟨_, hk, fun R' k' => by simp only [wantD, *]⟩

def lightK (sid : Nat) (f : Bool) (k : AV → Option Blk → Option R) (v : AV) (h' : Heap) (mv : List Nat) : Option R :=
  match mv with
  | [] => match h' with
    | [] => notMen sid v k
    | (b, blk) :: _ => match Nat.beq b sid with
      | true => match blk.own, f with
        | _ + 1, true => k v (some blk)
        | _, _ => none
      | false => notMen sid v k
  | _ => none

theorem lightK_spec {sid : Nat} {f : Bool} {k : AV → Option Blk → Option R} {v : AV} {h' : Heap} {mv : List Nat} (hk : lightK sid f k v h' mv = some r) :
    ∃ nb, k v nb = some r ∧ mv = [] ∧ (∀ (R' : Type) (k' : AV → Option Blk → Option R'), lightK sid f k' v h' mv = k' v nb) ∧
      (nb = none → v.mentions sid = false) ∧ (∀ blk, nb = some blk → f = true ∧ blk.own ≠ 0 ∧ lk sid h' = some blk) := by
  have men : notMen sid v k = some r → v.mentions sid = false ∧ k v none = some r := by
    intro h
    unfold notMen at h
    split at h
    · cases h
    · rename_i hm; exact ⟨hm, h⟩
  unfold lightK at hk
  split at hk
  · split at hk
    · obtain ⟨h1, h2⟩ := men hk
      exact ⟨none, h2, rfl, fun R' k' => by simp only [lightK, notMen, h1], fun _ => h1, fun _ e => by cases e⟩
    · rename_i b blk q
      split at hk
      · rename_i hb
        have hb' := beq_true hb
        split at hk
        · rename_i n heq
          refine ⟨some blk, hk, rfl, fun R' k' => by simp only [lightK, hb, heq], fun e => (by cases e), fun blk' e => ?_⟩
          simp only [Option.some.injEq] at e
          subst e
          exact ⟨rfl, by rw [heq]; simp, by rw [lk_cons, if_pos hb']⟩
        · cases hk
      · rename_i hb
        obtain ⟨h1, h2⟩ := men hk
        exact ⟨none, h2, rfl, fun R' k' => by simp only [lightK, notMen, h1, hb], fun _ => h1, fun _ e => by cases e⟩
  · cases hk

theorem lightD_eq {A : Ar} {ops : Array Oper} {sid : Nat} {o : Oper} {s : St} {he : Heap} {k : AV → Option Blk → Option R} :
    lightD A T O ops sid o s he k = wantD ops.toList o ⟨pick s.sl (o.looksAt ops), roHeap he⟩ fun b => match b with
      | false => k (.v (.cell .un)) none
      | true => opE A T O.noYl sid o (ev ⟨pick s.sl (o.looksAt ops), roHeap he⟩) (roHeap he) (freshIn sid s) (lightK sid (freshIn sid s) k) := rfl

theorem freshIn_raw {b : Nat} {s : St} (h : freshIn b s = true) : ∀ p ∈ s.sl, p.2.mentions b = false := by
  unfold freshIn at h
  split at h
  · cases h
  · split at h
    · cases h
    · split at h
      · cases h
      · rename_i h3
        intro p hp
        cases hm : p.2.mentions b with
        | false => rfl
        | true => exact absurd (anyB_mem (p := fun p : Nat × AV => p.2.mentions b) hp hm) (by rw [h3]; simp)

theorem light_sound (hT : TyOK P T) (hO : OSound P O) (hD : ODet O) {ops : Array Oper} {i : Nat} {o : Oper} (hi : ops[i]? = some o) {sid : Nat} {s : St} {he : Heap} (hsub : ∀ b x, lk b he = some x → lk b s.hp = some x) (hfree : heapFree sid s.hp = true → heapFree sid he = true) {k : AV → Option Blk → Option R} (hk : lightD realA T O ops sid o s he k = some r) :
    ∃ v nb, k v nb = some r ∧ (nb ≠ none → freshIn sid s = true) ∧ LightOk P ops i o sid (pick s.sl (o.looksAt ops)) he v nb := by
  rw [lightD_eq] at hk
  obtain ⟨b, hk, hdet⟩ := wantD_det hk
  have want : ∀ (ρ : Map) (a : Act), (∀ t x, lk t (pick s.sl (o.looksAt ops)) = some x → RV ρ x (a.tmps.getD t undef)) → Region.wanted o (yielded ops a.tmps) = b := by
    intro ρ a hsl
    obtain ⟨b', h1, h2⟩ := want_sl (ops := ops) (s := ⟨pick s.sl (o.looksAt ops), roHeap he⟩) (o := o) (k := fun b => some b) (r := b) hsl (hdet _ _)
    simp only [Option.some.injEq] at h1
    rw [h2, h1]
  cases b with
  | false =>
    refine ⟨_, none, hk, fun e => absurd rfl e, ?_⟩
    intro F fu hF N S ρ h a w hr _ hsl _ Q K hK
    have hw := want ρ a hsl
    simp only [wpOpIn, hi]
    rw [hw]
    simp only [Bool.false_eq_true, if_false]
    exact ⟨fun f _ => hF.fn f, hK ρ undef w rfl hr (Fr.refl _ _ _) (fun _ _ => rfl) (fun _ => rfl)⟩
  | true =>
    simp only at hk
    obtain ⟨v, h', mv, hk1, hdet1⟩ := opE_det (O := O.noYl) hD hk
    obtain ⟨nb, hk2, hmv, _, g1, g2⟩ := lightK_spec hk1
    refine ⟨v, nb, hk2, fun e => ?_, ?_⟩
    · cases nb with
      | none => exact absurd rfl e
      | some blk => exact (g2 blk rfl).1
    · intro F fu hF N S ρ h a w hr hs hsl hnew Q K hK
      have hw := want ρ a hsl
      simp only [wpOpIn, hi]
      rw [hw]
      simp only [if_true]
      have hfr : freshIn sid s = true → lk sid (roHeap he) = none ∧ heapFree sid (roHeap he) = true := by
        intro hf
        obtain ⟨f1, f2, _⟩ := freshIn_spec hf
        refine ⟨?_, heapFree_ro (hfree f2)⟩
        rw [lk_ro]
        cases hl : lk sid he with
        | none => rfl
        | some y => rw [hsub sid y hl] at f1; cases f1
      have hnm : freshIn sid s = true → NoMen sid (ev ⟨pick s.sl (o.looksAt ops), roHeap he⟩) := fun hf => noMen_ev fun t x hx => (freshIn_spec hf).2.2 t x (lk_pick2 hx)
      obtain ⟨v', h'', mv', e1, hg⟩ := op_sound (P := P) (O := O.noYl) (N := w.heap.size) (S := Nil) (ρ := ρ) (w := w) (fr := freshIn sid s) hT hO (yok_none fun _ _ => rfl) (HR_ro hr hs) hfr hnm (er_sl (a := a) (s := ⟨pick s.sl (o.looksAt ops), roHeap he⟩) hsl) o (hdet1 _ fun v h mv => some (v, h, mv))
      simp only [Option.some.injEq, Prod.mk.injEq] at e1
      obtain ⟨e2, e3, e4⟩ := e1
      rw [e2, e3, e4, hmv] at hg
      have fin : ∀ u w' ρ', RV ρ' v u → HR w.heap.size Nil ρ' h' w' → Fr w.heap.size Nil w w' → (∀ b, b ∉ ([] : List Nat) → (b = sid → freshIn sid s = false) → ρ' b = ρ b) → K (a.put o.dst u) w' := by
        intro u w' ρ' hv hr' hf hρ
        have hρ' : ∀ b, b ≠ sid → ρ' b = ρ b := fun b hb => hρ b (by simp) (fun e => absurd e hb)
        cases nb with
        | none =>
          have hm := g1 rfl
          exact hK ρ u w' (RV_agree (fun b hb => (hρ' b (fun e => by subst e; rw [hm] at hb; cases hb)).symm) hv) (HR_frame hr hf) (Fr_up hr.low hf) (fun _ _ => rfl) (fun _ => rfl)
        | some blk =>
          obtain ⟨_, f2, f3⟩ := g2 blk rfl
          obtain ⟨n1, n2⟩ := hnew (by simp)
          exact hK ρ' u w' hv (HR_cons hr hf hρ' n1 n2 hr' f3 f2) (Fr_up hr.low hf) hρ' (fun e => by cases e)
      refine ⟨fun f _ => hF.fn f, ?_⟩
      rw [Oper.semAt_eq _ _ _ (opE_notDefer hk)]
      generalize (execOp a.eval o).run P w = res at hg ⊢
      unfold Good at hg
      split at hg
      · obtain ⟨ρ', q1, q2, q3, q4⟩ := hg
        exact fin _ _ ρ' q1 q2 q3 q4
      · obtain ⟨ρ', q1, q2, q3, q4⟩ := hg
        exact fin _ _ ρ' q1 q2 q3 q4
      · obtain ⟨e1, hc⟩ := hg
        subst e1
        refine ⟨fun q => (by rw [hF.depth] at q; cases q), (hF.calls hc).mono fun e w'' he => ?_⟩
        obtain ⟨u, ρ', e2, q1, q2, q3, q4⟩ := he
        subst e2
        exact fin _ _ ρ' q1 q2 q3 q4
      · obtain ⟨e1, hc⟩ := hg
        subst e1
        refine ⟨fun q => (by rw [hF.depth] at q; cases q), (hc F _ hF).mono fun e w'' he => ?_⟩
        obtain ⟨u, ρ', e2, q1, q2, q3, q4⟩ := he
        subst e2
        exact fin _ _ ρ' q1 q2 q3 q4
      · exact hg.elim

theorem lk_append {α : Type} (t : Nat) (a b : List (Nat × α)) : lk t (a ++ b) = (match lk t a with
    | some x => some x
    | none => lk t b) := by
  induction a with
  | nil => rfl
  | cons p q ih =>
    obtain ⟨i, x⟩ := p
    rw [List.cons_append, lk_cons, lk_cons]
    by_cases e : i = t
    · rw [if_pos e, if_pos e]
    · rw [if_neg e, if_neg e]; exact ih

theorem lk_cutT (p : Nat → Bool) (h : Heap) (b : Nat) (hp : p b = true) : lk b (cutH p h).1 = lk b h ∧ lk b (cutH p h).2 = none := by
  induction h with
  | nil => exact ⟨rfl, rfl⟩
  | cons q r ih =>
    obtain ⟨c, x⟩ := q
    obtain ⟨i1, i2⟩ := ih
    simp only [cutH]
    cases hc : p c with
    | true =>
      simp only
      rw [lk_cons, lk_cons, i1]
      exact ⟨rfl, i2⟩
    | false =>
      have e : ¬ c = b := by rintro rfl; rw [hp] at hc; cases hc
      simp only
      rw [lk_cons, lk_cons, if_neg e, if_neg e]
      exact ⟨i1, i2⟩
theorem lk_cutF (p : Nat → Bool) (h : Heap) (b : Nat) (hp : p b = false) : lk b (cutH p h).1 = none ∧ lk b (cutH p h).2 = lk b h := by
  induction h with
  | nil => exact ⟨rfl, rfl⟩
  | cons q r ih =>
    obtain ⟨c, x⟩ := q
    obtain ⟨i1, i2⟩ := ih
    simp only [cutH]
    cases hc : p c with
    | false =>
      simp only
      rw [lk_cons, lk_cons, i2]
      exact ⟨i1, rfl⟩
    | true =>
      have e : ¬ c = b := by rintro rfl; rw [hp] at hc; cases hc
      simp only
      rw [lk_cons, lk_cons, if_neg e, if_neg e]
      exact ⟨i1, i2⟩

theorem cut1 {p : Nat → Bool} {h : Heap} {b : Nat} {x : Blk} (hb : lk b (cutH p h).1 = some x) : p b = true ∧ lk b h = some x := by
  cases hp : p b with
  | true => rw [(lk_cutT p h b hp).1] at hb; exact ⟨rfl, hb⟩
  | false => rw [(lk_cutF p h b hp).1] at hb; cases hb
theorem cut2 {p : Nat → Bool} {h : Heap} {b : Nat} {x : Blk} (hb : lk b (cutH p h).2 = some x) : p b = false ∧ lk b h = some x := by
  cases hp : p b with
  | true => rw [(lk_cutT p h b hp).2] at hb; cases hb
  | false => rw [(lk_cutF p h b hp).2] at hb; exact ⟨rfl, hb⟩

theorem ownAll_spec {h : Heap} (ho : ownAll h = true) {b : Nat} {x : Blk} (hb : lk b h = some x) : x.own ≠ 0 := by
  induction h with
  | nil => simp [lk] at hb
  | cons q r ih =>
    obtain ⟨c, y⟩ := q
    simp only [ownAll] at ho
    split at ho
    · cases ho
    · rename_i n hn
      rw [lk_cons] at hb
      split at hb
      · simp only [Option.some.injEq] at hb
        subst hb
        rw [hn]; simp
      · exact ih ho hb

theorem oldOrOwn_spec {g h : Heap} (ho : oldOrOwn g h = true) {b : Nat} {x : Blk} (hb : lk b h = some x) (h0 : x.own = 0) : ∃ y, lk b g = some y := by
  induction h with
  | nil => simp [lk] at hb
  | cons q r ih =>
    obtain ⟨c, y⟩ := q
    simp only [oldOrOwn, Bool.and_eq_true] at ho
    rw [lk_cons] at hb
    split at hb
    · rename_i e
      simp only [Option.some.injEq] at hb
      subst hb
      have h1 := ho.1
      rw [h0] at h1
      simp only at h1
      split at h1
      · rename_i z hz; exact ⟨z, by rw [← e]; exact hz⟩
      · cases h1
    · exact ih ho.2 hb

def Of (ρ : Map) (h : Heap) (g : Nat) : Prop := ∃ b x L, lk b h = some x ∧ x.own ≠ 0 ∧ ρ b = some L ∧ L.g = g

theorem HR_part {ρ : Map} {h g : Heap} {w : World} (hr : HR N S ρ h w) (hs : ∀ b x, lk b g = some x → lk b h = some x) : HR w.heap.size (Of ρ g) ρ g w := by
  refine ⟨Nat.le_refl _, fun b x hb => ?_, fun b c x y L M hb hc => hr.inj b c x y L M (hs b x hb) (hs c y hc)⟩
  rcases hr.blk b x (hs b x hb) with h1 | ⟨L, cur, fz, h1, h2, h3, h4, h5, h6, h7, h8⟩
  · exact .inl h1
  · exact .inr ⟨L, cur, fz, h1, h2, h3, h4, h5, h6, fun e => ⟨(h7 e).1, .inl ⟨b, x, L, hb, e, h1, rfl⟩⟩, h8⟩

theorem of_SN {ρ : Map} {h g : Heap} {w : World} (hr : HR N S ρ h w) (hs : ∀ b x, lk b g = some x → lk b h = some x) {n : Nat} (ho : Of ρ g n) : S n ∨ N ≤ n := by
  obtain ⟨b, x, L, hb, e, hL, rfl⟩ := ho
  rcases hr.blk b x (hs b x hb) with ⟨_, h2, _⟩ | ⟨L', cur, fz, h1, h2, h3, h4, h5, h6, h7, h8⟩
  · rw [h2] at hL; cases hL
  · rw [h1] at hL
    simp only [Option.some.injEq] at hL
    subst hL
    exact (h7 e).2

theorem HR_join {ρ ρ' : Map} {h e g g' : Heap} {w w' : World} {sid : Nat} (hr : HR N S ρ h w) (he : ∀ b x, lk b e = some x → lk b h = some x) (hg : ∀ b x, lk b g = some x → lk b h = some x) (hd : ∀ b x, lk b e = some x → lk b g = none)
    (ho : ∀ b x, lk b e = some x → x.own ≠ 0) (hs1 : lk sid h = none) (hs2 : heapFree sid h = true) (hr' : HR w.heap.size (Of ρ g) ρ' g' w') (hf : Fr w.heap.size (Of ρ g) w w') (hρ : ∀ b, b ≠ sid → ρ' b = ρ b)
    (hold : ∀ b x, lk b g' = some x → x.own = 0 → ∃ y, lk b g = some y) : HR N S ρ' (e ++ g') w' ∧ Fr N S w w' := by
  have fr : Fr N S w w' := ⟨hf.os, hf.tape, hf.output, hf.size, fun k hk hn => hf.block k (by have := hr.low; omega) (fun h => (of_SN hr hg h).elim hn (by omega)), hf.oth⟩
  have ne : ∀ b x, lk b e = some x → b ≠ sid := by
    rintro b x hb rfl
    rw [he b x hb] at hs1; cases hs1
  -- an early block's place is none of the others'
  have apart : ∀ b x L, lk b e = some x → ρ b = some L → ¬ Of ρ g L.g := by
    rintro b x L hb hL ⟨c, y, M, hc, _, hM, hg2⟩
    have hbc : b ≠ c := by
      rintro rfl
      rw [hd b x hb] at hc; cases hc
    exact hr.inj b c x y L M (he b x hb) (hg c y hc) hL hM hbc (.inl (ho b x hb)) hg2.symm
  have hE : HR N S ρ' e w' := by
    refine HR_agree (ρ := ρ) ⟨by have := hr.low; have := hf.size; omega, fun b x hb => ?_, fun b c x y L M hb hc => hr.inj b c x y L M (he b x hb) (he c y hc)⟩ (fun b x hb => hρ b (ne b x hb)) (fun b x c hb hc => hρ c (fun e2 => by
      subst e2
      rw [heapFree_spec hs2 (he b x hb)] at hc; cases hc))
    rcases hr.blk b x (he b x hb) with h1 | ⟨L, cur, fz, h1, h2, h3⟩
    · exact .inl h1
    · exact .inr ⟨L, cur, fz, h1, by rw [hf.block _ (Array.getElem?_eq_some_iff.1 h2).1 (apart b x L hb h1)]; exact h2, h3⟩
  have cross : ∀ b c x y L M, lk b e = some x → lk c e = none → lk c g' = some y → ρ' b = some L → ρ' c = some M → L.g ≠ M.g := by
    intro b c x y L M hb hce hc hL hM
    have hL' : ρ b = some L := by rw [← hρ b (ne b x hb)]; exact hL
    have hlt : L.g < w.heap.size := by
      rcases hr.blk b x (he b x hb) with ⟨_, h2, _⟩ | ⟨L', cur, fz, h1, h2, _⟩
      · rw [h2] at hL'; cases hL'
      · rw [h1] at hL'
        simp only [Option.some.injEq] at hL'
        subst hL'
        exact (Array.getElem?_eq_some_iff.1 h2).1
    by_cases h0 : y.own = 0
    · obtain ⟨z, hz⟩ := hold c y hc h0
      have hcs : c ≠ sid := by
        rintro rfl
        rw [hg c z hz] at hs1; cases hs1
      rw [hρ c hcs] at hM
      have hbc : b ≠ c := by
        rintro rfl
        rw [hb] at hce; cases hce
      exact hr.inj b c x z L M (he b x hb) (hg c z hz) hL' hM hbc (.inl (ho b x hb))
    · intro heq
      rcases hr'.blk c y hc with ⟨_, h2, _⟩ | ⟨M', cur, fz, h1, h2, h3, h4, h5, h6, h7, h8⟩
      · rw [h2] at hM; cases hM
      · rw [h1] at hM
        simp only [Option.some.injEq] at hM
        subst hM
        rcases (h7 h0).2 with h | h
        · rw [← heq] at h
          exact apart b x L hb hL' h
        · omega
  refine ⟨⟨hE.low, fun b x hb => ?_, fun b c x y L M hb hc hL hM hne how => ?_⟩, fr⟩
  · rw [lk_append] at hb
    split at hb
    · rename_i z hz
      simp only [Option.some.injEq] at hb
      subst hb
      exact hE.blk b z hz
    · rcases hr'.blk b x hb with h1 | ⟨L, cur, fz, h1, h2, h3, h4, h5, h6, h7, h8⟩
      · exact .inl h1
      · refine .inr ⟨L, cur, fz, h1, h2, h3, h4, h5, h6, fun e => ⟨(h7 e).1, ?_⟩, h8⟩
        rcases (h7 e).2 with h | h
        · exact of_SN hr hg h
        · exact .inr (by have := hr.low; omega)
  · rw [lk_append] at hb hc
    split at hb
    · rename_i z hz
      simp only [Option.some.injEq] at hb
      subst hb
      split at hc
      · rename_i z2 hz2
        simp only [Option.some.injEq] at hc
        subst hc
        exact hE.inj b c _ _ L M hz hz2 hL hM hne how
      · rename_i hce
        exact cross b c _ _ L M hz hce hc hL hM
    · rename_i hbe
      split at hc
      · rename_i z2 hz2
        simp only [Option.some.injEq] at hc
        subst hc
        exact fun h => cross c b _ _ M L hz2 hbe hb hM hL h.symm
      · exact hr'.inj b c x y L M hb hc hL hM hne how

end
end Go.Sx
