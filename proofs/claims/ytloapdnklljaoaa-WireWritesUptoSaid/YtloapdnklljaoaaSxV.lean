import Derived.Test.YtloapdnklljaoaaSxW2
import Derived.Scope
namespace Go.Sx

section
variable {P : Program} {T : Tys} {O : Orc} {N : Nat} {S : Nat → Prop} {ρ₀ : Map} {w₀ : World} {nt : Nat} {R : Type} {r : R}

theorem Rel.drew {ρ : Map} {s : St} {a : Act} {w w' : World} (h : Rel N S ρ₀ w₀ nt ρ s a w) (hh : w'.heap = w.heap) (h1 : w'.os = w.os) (h2 : w'.tape = w.tape) (h3 : w'.output = w.output) : Rel N S ρ₀ w₀ nt ρ s a w' :=
  ⟨HR_drewN h.hr hh, h.sl, h.sz, h.df, ⟨h1.trans h.fr.os, h2.trans h.fr.tape, h3.trans h.fr.output, by rw [hh]; exact h.fr.size, fun k hk hs => by rw [hh]; exact h.fr.block k hk hs⟩, h.pin⟩

theorem code_sound (hM : P.follows .mixedOrders = true) (hT : TyOK P T) (hO : OSound P O) (hD : ODet O) {an : Ann} {n : Nat} (c : Code) (hok : codeOk nt c = true) :
    ∀ (K : Ex → St → Option R) (s : St) (ρ : Map) (a : Act) (w : World), codeD realA T O an n c K s = some r → Rel N S ρ₀ w₀ nt ρ s a w → c.wp P (Post N S ρ₀ w₀ nt K r) a w := by
  induction c with
  | skip => intro K s ρ a w hk h; exact wp_skip ⟨ρ, s, hk, h⟩
  | label l => intro K s ρ a w hk h; exact wp_label ⟨ρ, s, hk, h⟩
  | exit i => intro K s ρ a w hk h; exact wp_exit ⟨ρ, s, hk, h⟩
  | ret => intro K s ρ a w hk h; exact wp_ret ⟨ρ, s, hk, h⟩
  | region id ops draw =>
    intro K s ρ a w hk h
    simp only [codeD] at hk
    split at hk
    · refine wp_region ?_
      rw [List.range_eq_range']
      have := ops_sound (P := P) (Q := Post N S ρ₀ w₀ nt K r) hT hO (base := (id + 1) * 1000) (by omega) (opsOk_spec hok) (fun ρ s a w hk h => ⟨ρ, s, hk, h⟩) ops.toList 0 ρ (keep an id s) a w rfl (by rw [Nat.add_zero]; exact hk) (h.keep an id)
      simpa using this
    · split at hk
      · rename_i hok2
        refine wp_region_any hM ?_
        have hrel : Rel N S ρ₀ w₀ nt ρ (keep an id s) a { w with drawn := w.drawn + 1 } := (h.keep an id).drew rfl rfl rfl rfl
        refine draw_sound (P := P) hT hO hD (base := (id + 1) * 1000) (by omega) (drawOk_spec hok2) (opsOk_spec hok) (fun ρ s a w hk h => ⟨ρ, s, hk, h⟩) (fun _ _ _ h => h.elim) ops.size _ a _ (Phase.start hT hO hD (Nat.zero_le _) (by simp) (fun j hj => by omega) (fun j _ hl => ?_) (fun j m hj _ => ?_) hrel hk) ?_
        · simp only [Lst, Array.getD_eq_getD_getElem?, Array.getElem?_replicate] at hl
          split at hl <;> simp at hl
        · simp only [Lst, Array.getD_eq_getD_getElem?, Array.getElem?_replicate] at hj
          split at hj <;> simp at hj
        · rw [Array.toList_replicate]
          have := List.count_le_length (a := false) (l := List.replicate ops.size false)
          rw [List.length_replicate] at this
          exact this
      · cases hk
  | seq x y ihx ihy =>
    simp only [codeOk, Bool.and_eq_true] at hok
    intro K s ρ a w hk h
    simp only [codeD] at hk
    refine wp_seq (wp_mono (ihx hok.1 _ s ρ a w hk h) fun e a' w' hp => ?_)
    cases e with
    | normal =>
      obtain ⟨ρ', s', g1, g2⟩ := hp
      exact ihy hok.2 _ _ _ _ _ g1 g2
    | exit i => exact hp
    | ret => exact hp
    | _ => exact hp.elim
  | cond c x y ihx ihy =>
    simp only [codeOk, Bool.and_eq_true] at hok
    intro K s ρ a w hk h
    simp only [codeD] at hk
    split at hk
    · rename_i t hc
      have hv : a.eval c = .bool t := h.er c _ hc
      split at hk
      · exact wp_cond_true hv (ihx hok.1 _ s ρ a w hk h)
      · exact wp_cond_false hv (ihy hok.2 _ s ρ a w hk h)
    · cases hk
  | block id c ih =>
    intro K s ρ a w hk h
    simp only [codeD] at hk
    refine wp_block (wp_mono (ih hok _ s ρ a w hk h) fun e a' w' hp => ?_)
    cases e with
    | normal => exact hp
    | exit i =>
      obtain ⟨ρ', s', g1, g2⟩ := hp
      simp only [Exit.inBlock]
      unfold blockK at g1
      simp only at g1
      split at g1
      · rename_i hi
        rw [if_pos (beq_true hi)]
        exact ⟨ρ', s', g1, g2⟩
      · rename_i hi
        rw [if_neg (by intro e; subst e; simp at hi)]
        exact ⟨ρ', s', g1, g2⟩
    | ret => exact hp
    | _ => exact hp.elim
  | loop c ih =>
    intro K s ρ a w hk h b k cs
    simp only [codeD] at hk
    have key : ∀ m s ρ a w, loopD (fun K' s' => codeD realA T O an n c K' s') m K s = some r → Rel N S ρ₀ w₀ nt ρ s a w →
        ∃ e a' w', Post N S ρ₀ w₀ nt K r e a' w' ∧ Arrives P (lone (b.at a (.code c :: .inLoop c :: k)) cs w) b k cs e a' w' := by
      intro m
      induction m with
      | zero => intro s ρ a w hk; cases hk
      | succ m ihm =>
        intro s ρ a w hk h
        simp only [loopD] at hk
        obtain ⟨e, a₁, w₁, hq, harr⟩ := ih hok _ s ρ a w hk h b (.inLoop c :: k) cs
        cases e with
        | normal =>
          obtain ⟨ρ', s', g1, g2⟩ := hq
          obtain ⟨e₂, a₂, w₂, hq₂, harr₂⟩ := ihm _ _ _ _ g1 g2
          exact ⟨e₂, a₂, w₂, hq₂, .of_steps (Steps.trans harr (.one step_inLoop)) harr₂⟩
        | exit id =>
          obtain ⟨ρ', s', g1, g2⟩ := hq
          exact ⟨.exit id, a₁, w₁, ⟨ρ', s', g1, g2⟩, .pass (x := .inLoop c) rfl (fun _ _ => .inl (by simp)) harr⟩
        | ret =>
          obtain ⟨ρ', s', g1, g2⟩ := hq
          exact ⟨.ret, a₁, w₁, ⟨ρ', s', g1, g2⟩, .pass (x := .inLoop c) rfl (fun _ _ => .inl (by simp)) harr⟩
        | _ => exact hq.elim
    obtain ⟨e, a', w', hq, harr⟩ := key _ s ρ a w hk h
    exact ⟨e, a', w', hq, .of_steps (.one step_loop) harr⟩
  | scope c ih =>
    intro K s ρ a w hk h
    simp only [codeD] at hk
    refine wp_scope_straight (wp_mono (ih hok _ s ρ a w hk h) fun e a' w' hp => ?_)
    cases e with
    | goto l => exact hp.elim
    | _ => exact hp
  | _ => intro K s ρ a w hk h; simp [codeD] at hk

end
end Go.Sx
