import Derived.Test.YtloapdnklljaoaaSxHs
namespace Go.Sx
section
variable {R : Type}
def noKey {α : Type} (b : Nat) (h : List (Nat × α)) : Bool :=
  match lk b h with
  | some _ => false
  | none => true
def nilOut (sid : Nat) (c : Option (Nat × Nat × Blk)) (k : AV → Heap → List Nat → Option R) (v : AV) (h : Heap) (mv : List Nat) : Option R :=
  match c with
  | none => k v h mv
  | some (o, z, blk) => match lk sid h with
    | some x => match setNil x.segs o (.sl (sid + 500) none 0 z) with
      | some q => match ((Nat.beq (segsLen blk.segs) 0 && wfB blk.segs) && (Nat.beq blk.own 2 && noPtr blk.segs)) && ((noKey (sid + 500) h && heapFree (sid + 500) h) && !v.mentions (sid + 500)) with
        | true => k v ((sid + 500, blk) :: hset sid ⟨q, x.ty, x.own⟩ h) ((sid + 500) :: mv)
        | false => none
      | none => k v h mv
    | none => k v h mv
end
def orcN (cfg : List (Nat × (Nat × Nat × Blk))) (O : Orc) : Orc := ⟨fun f sid args h k => O.run f sid args h (nilOut sid (lk f cfg) k)⟩
theorem noKey_spec {α : Type} {b : Nat} {h : List (Nat × α)} (hn : noKey b h = true) : lk b h = none := by
  unfold noKey at hn
  split at hn
  · cases hn
  · assumption
theorem HR_nilB {N : Nat} {S : Nat → Prop} {ρ : Map} {h : Heap} {w : World} {n i o z : Nat} {x blk : Blk} {q : List Seg} (hr : HR N S ρ h w) (hn : ρ n = none) (hx : lk i h = some x) (hq : setNil x.segs o (.sl n none 0 z) = some q)
    (o1 : segsLen blk.segs = 0) (o2 : wfB blk.segs = true) (o3 : blk.own = 2) : HR N S ρ ((n, blk) :: hset i ⟨q, x.ty, x.own⟩ h) w := by
  have cvt : ∀ v, RC ρ .nils v → RC ρ (.sl n none 0 z) v := fun v hv => .inl ⟨hn, rfl, hv⟩
  have get : ∀ b y, lk b ((n, blk) :: hset i ⟨q, x.ty, x.own⟩ h) = some y → (b = n ∧ y = blk) ∨ (b = i ∧ y = ⟨q, x.ty, x.own⟩) ∨ (lk b h = some y) := by
    intro b y hb
    rw [lk_cons] at hb
    split at hb
    · rename_i e
      simp only [Option.some.injEq] at hb
      exact .inl ⟨e.symm, hb.symm⟩
    · rw [lk_hset'] at hb
      split at hb
      · rename_i e
        simp only [Option.some.injEq] at hb
        exact .inr (.inl ⟨e, hb.symm⟩)
      · exact .inr (.inr hb)
  have old : ∀ b y, lk b ((n, blk) :: hset i ⟨q, x.ty, x.own⟩ h) = some y → ρ b ≠ none → ∃ y0, lk b h = some y0 ∧ y0.own = y.own := by
    intro b y hb hne
    rcases get b y hb with ⟨rfl, rfl⟩ | ⟨rfl, rfl⟩ | h1
    · exact absurd hn hne
    · exact ⟨x, hx, rfl⟩
    · exact ⟨y, h1, rfl⟩
  refine ⟨hr.low, fun b y hb => ?_, fun b c y y' L M hb hc' hL hM hne ho => ?_⟩
  · rcases get b y hb with ⟨rfl, rfl⟩ | ⟨rfl, rfl⟩ | h1
    · exact .inl ⟨by rw [o3]; decide, hn, o1, wfB_spec o2⟩
    · rcases hr.blk _ x hx with ⟨h1, h2, h3, h4⟩ | ⟨L, cur, fz, h1, h2, h3, h4, h5, h6, h7, h8⟩
      · obtain ⟨a, b, _⟩ := setNil_key _ _ _ hq
        exact .inl ⟨h1, h2, a.trans h3, b h4⟩
      · obtain ⟨a, b⟩ := setNil_spec cvt hq h6
        exact .inr ⟨L, cur, fz, h1, h2, h3.trans b.symm, h4, h5, a, h7, h8⟩
    · exact hr.blk b y h1
  · obtain ⟨y0, a1, a2⟩ := old b y hb (by rw [hL]; exact fun h => by cases h)
    obtain ⟨y1, b1, b2⟩ := old c y' hc' (by rw [hM]; exact fun h => by cases h)
    exact hr.inj b c y0 y1 L M a1 b1 hL hM hne (by rw [a2, b2]; exact ho)
section
variable {P : Program}
theorem orcN_sound {cfg : List (Nat × (Nat × Nat × Blk))} {O : Orc} (hO : OSound P O) : OSound P (orcN cfg O) := by
  intro R f sid args h k r hk N S ρ w us hr hn hfree hvs
  obtain ⟨v, h', mv, g1, g2⟩ := hO f sid args h _ r hk N S ρ w us hr hn hfree hvs
  unfold nilOut at g1
  split at g1
  · exact ⟨v, h', mv, g1, g2⟩
  · rename_i o z blk _
    split at g1
    · rename_i x hx
      split at g1
      · rename_i q hq
        split at g1
        · rename_i hok
          simp only [Bool.and_eq_true, Bool.not_eq_true'] at hok
          obtain ⟨⟨⟨o1, o2⟩, o3, o4⟩, ⟨o5, o6⟩, o7⟩ := hok
          have o5 := noKey_spec o5
          refine ⟨v, _, _, g1, ?_⟩
          have fin : ∀ (ρ' : Map) (w' : World), HR N S ρ' h' w' → (∀ b, b ∉ mv → (b = sid → true = false) → ρ' b = ρ b) → ∃ ρ2 : Map, (∀ u, RV ρ' v u → RV ρ2 v u) ∧ HR N S ρ2 ((sid + 500, blk) :: hset sid ⟨q, x.ty, x.own⟩ h') w' ∧ ∀ b, b ∉ ((sid + 500) :: mv) → (b = sid → true = false) → ρ2 b = ρ b := by
            intro ρ' w' hr' ha
            let ρ2 : Map := fun b => if b = sid + 500 then none else ρ' b
            have ne : ∀ b, b ≠ sid + 500 → ρ2 b = ρ' b := fun b hb => if_neg hb
            have hs : ρ2 (sid + 500) = none := if_pos rfl
            have hr2 : HR N S ρ2 h' w' := HR_agree hr' (fun b y hb => ne b (fun e => by subst e; rw [o5] at hb; cases hb)) (fun b y c hb hc => ne c (fun e => by subst e; rw [heapFree_spec o6 hb] at hc; cases hc))
            refine ⟨ρ2, fun u hu => RV_agree (fun b hb => ne b (fun e => by subst e; rw [o7] at hb; cases hb)) hu, HR_nilB hr2 hs hx hq (beq_true o1) o2 (beq_true o3), fun b hb hc => ?_⟩
            rw [ne b (fun e => hb (by rw [e]; exact List.mem_cons_self))]
            exact ha b (fun hm => hb (List.mem_cons_of_mem _ hm)) hc
          generalize (callFunc f us).run P w = res at g2 ⊢
          unfold Good at g2
          split at g2
          · obtain ⟨ρ', q1, q2, q3, q4⟩ := g2
            obtain ⟨ρ2, a1, a2, a3⟩ := fin ρ' _ q2 q4
            exact ⟨ρ2, a1 _ q1, a2, q3, a3⟩
          · obtain ⟨ρ', q1, q2, q3, q4⟩ := g2
            obtain ⟨ρ2, a1, a2, a3⟩ := fin ρ' _ q2 q4
            exact ⟨ρ2, a1 _ q1, a2, q3, a3⟩
          · refine ⟨g2.1, Calls.mono g2.2 fun e w'' he => ?_⟩
            obtain ⟨u, ρ', e1, q1, q2, q3, q4⟩ := he
            obtain ⟨ρ2, a1, a2, a3⟩ := fin ρ' _ q2 q4
            exact ⟨u, ρ2, e1, a1 _ q1, a2, q3, a3⟩
          · exact g2.elim
        · cases g1
      · exact ⟨v, h', mv, g1, g2⟩
    · exact ⟨v, h', mv, g1, g2⟩
theorem orcN_det {cfg : List (Nat × (Nat × Nat × Blk))} {O : Orc} (hO : ODet O) : ODet (orcN cfg O) := by
  intro R f sid args h k r hk
  obtain ⟨v, h', mv, g1, g2⟩ := hO f sid args h _ r hk
  unfold nilOut at g1
  (repeat' (split at g1)) <;> first
    | (cases g1; done)
    | exact ⟨_, _, _, g1, fun R' k' => (g2 R' _).trans (by simp only [nilOut, *])⟩
end
end Go.Sx
