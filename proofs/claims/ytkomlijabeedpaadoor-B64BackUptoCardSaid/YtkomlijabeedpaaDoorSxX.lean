import Derived.Test.YtkomlijabeedpaaDoorSxR
namespace Go.Sx

section
variable {R : Type} {A : Ar} {T : Tys} {O : Orc} {e : Operand → Option AV} {r : R} {sid : Nat} {hp : Heap} {fr : Bool} {k : AV → Heap → List Nat → Option R}

theorem idxD_det {x : Operand} {n : Nat} {k : Nat → Option R} (hk : idxD A e x n k = some r) : ∃ j, k j = some r ∧ ∀ (R' : Type) (k' : Nat → Option R'), idxD A e x n k' = k' j := by
  unfold idxD at hk
  (repeat' (split at hk)) <;> first
    | cases hk
    | exact ⟨_, hk, fun R' k' => by simp only [idxD, *]⟩

theorem boundD_det {x : Option Operand} {d n : Nat} {k : Nat → Option R} (hk : boundD A e x d n k = some r) : ∃ j, k j = some r ∧ ∀ (R' : Type) (k' : Nat → Option R'), boundD A e x d n k' = k' j := by
  unfold boundD at hk
  (repeat' (split at hk)) <;> first
    | cases hk
    | exact ⟨_, hk, fun R' k' => by simp only [boundD, *]⟩

theorem countD_det {x : Operand} {k : Nat → Option R} (hk : countD A e x k = some r) : ∃ j, k j = some r ∧ ∀ (R' : Type) (k' : Nat → Option R'), countD A e x k' = k' j := by
  unfold countD at hk
  (repeat' (split at hk)) <;> first
    | cases hk
    | exact ⟨_, hk, fun R' k' => by simp only [countD, *]⟩

theorem newBlk_det {blk : Blk} {v : AV} (hk : newBlk sid hp fr blk k v = some r) : ∃ v' h' mv, k v' h' mv = some r ∧ ∀ (R' : Type) (k' : AV → Heap → List Nat → Option R'), newBlk sid hp fr blk k' v = k' v' h' mv := by
  unfold newBlk at hk
  (repeat' (split at hk)) <;> first
    | cases hk
    | exact ⟨_, _, _, hk, fun R' k' => by simp only [newBlk, *]⟩

theorem binD_det {op : BinOp} {x y : Operand} {k : Cell → Option R} (hk : binD A op e x y k = some r) : ∃ c, k c = some r ∧ ∀ (R' : Type) (k' : Cell → Option R'), binD A op e x y k' = k' c := by
  unfold binD at hk
  split at hk
  · split at hk
    · rename_i h1
      obtain ⟨j, g1, g2⟩ := countD_det hk
      exact ⟨_, g1, fun R' k' => by simp only [binD, h1, g2]⟩
    · rename_i h1
      obtain ⟨j, g1, g2⟩ := countD_det hk
      exact ⟨_, g1, fun R' k' => by simp only [binD, h1, g2]⟩
    · cases hk
  · split at hk
    · rename_i h1
      obtain ⟨j, g1, g2⟩ := countD_det hk
      exact ⟨_, g1, fun R' k' => by simp only [binD, h1, g2]⟩
    · rename_i h1
      obtain ⟨j, g1, g2⟩ := countD_det hk
      exact ⟨_, g1, fun R' k' => by simp only [binD, h1, g2]⟩
    · cases hk
  all_goals
    (repeat' (split at hk)) <;> first
      | cases hk
      | exact ⟨_, hk, fun R' k' => by simp only [binD, *]⟩

theorem appendD_det {t : TypeId} {a x : AV} (hk : appendD A T t hp a x k = some r) : ∃ v' h' mv, k v' h' mv = some r ∧ ∀ (R' : Type) (k' : AV → Heap → List Nat → Option R'), appendD A T t hp a x k' = k' v' h' mv := by
  unfold appendD at hk
  (repeat' (split at hk)) <;> first
    | cases hk
    | exact ⟨_, _, _, hk, fun R' k' => by simp only [appendD, *]⟩

theorem appendN_det {sid : Nat} {fr : Bool} {t : TypeId} {x : AV} (hk : appendN A T sid fr t hp x k = some r) : ∃ v' h' mv, k v' h' mv = some r ∧ ∀ (R' : Type) (k' : AV → Heap → List Nat → Option R'), appendN A T sid fr t hp x k' = k' v' h' mv := by
  unfold appendN at hk
  split at hk
  · split at hk
    · split at hk
      · rename_i h1 _ h2
        obtain ⟨v', h', mv, g1, g2⟩ := appendD_det hk
        split at g1
        · split at g1
          · rename_i h3
            exact ⟨_, _, _, g1, fun R' k' => by simp only [appendN, *]⟩
          · cases g1
        · cases g1
      · cases hk
    · cases hk
  · cases hk
theorem builtinD_det {b : Builtin} {sid : Nat} {fr : Bool} {args : List Operand} {types : List TypeId} (hk : builtinD A T b e sid fr hp args types k = some r) : ∃ v' h' mv, k v' h' mv = some r ∧ ∀ (R' : Type) (k' : AV → Heap → List Nat → Option R'), builtinD A T b e sid fr hp args types k' = k' v' h' mv := by
  unfold builtinD at hk
  (repeat' (split at hk)) <;> first
    | cases hk
    | exact ⟨_, _, _, hk, fun R' k' => by simp only [builtinD, *]⟩
    | (obtain ⟨v', h', mv, g1, g2⟩ := appendD_det hk
       exact ⟨_, _, _, g1, fun R' k' => by simp only [builtinD, *]⟩)
    | (obtain ⟨v', h', mv, g1, g2⟩ := appendN_det hk
       exact ⟨_, _, _, g1, fun R' k' => by simp only [builtinD, *]⟩)

def ODet (O : Orc) : Prop := ∀ {R : Type} (f sid : Nat) (args : List AV) (h : Heap) (k : AV → Heap → List Nat → Option R) (r : R), O.run f sid args h k = some r →
  ∃ v h' mv, k v h' mv = some r ∧ ∀ (R' : Type) (k' : AV → Heap → List Nat → Option R'), O.run f sid args h k' = k' v h' mv

theorem opE_det (hO : ODet O) {o : Oper} (hk : opE A T O sid o e hp fr k = some r) : ∃ v h' mv, k v h' mv = some r ∧ ∀ (R' : Type) (k' : AV → Heap → List Nat → Option R'), opE A T O sid o e hp fr k' = k' v h' mv := by
  cases ho : o.op
  all_goals simp only [opE, ho, caseG_eq] at hk ⊢
  all_goals try (cases hk; done)
  all_goals (repeat' (split at hk))
  all_goals first
    | (cases hk; done)
    | exact ⟨_, _, _, hk, fun R' k' => by simp only [*]⟩
    | (obtain ⟨v', h', mv, g1, g2⟩ := newBlk_det hk
       exact ⟨_, _, _, g1, fun R' k' => by simp only [*]⟩)
    | (obtain ⟨c, g1, g2⟩ := binD_det hk
       exact ⟨_, _, _, g1, fun R' k' => by simp only [*]⟩)
    | (obtain ⟨c, g1, g2⟩ := idxD_det hk
       exact ⟨_, _, _, g1, fun R' k' => by simp only [*]⟩)
    | (obtain ⟨v', h', mv, g1, g2⟩ := builtinD_det hk
       exact ⟨_, _, _, g1, fun R' k' => by simp only [*]⟩)
    | (obtain ⟨v', h', mv, g1, g2⟩ := hO _ _ _ _ _ _ hk
       exact ⟨_, _, _, g1, fun R' k' => by simp only [*]⟩)
    | (obtain ⟨c, g1, g2⟩ := boundD_det hk
       exact ⟨_, _, _, g1, fun R' k' => by simp only [*]⟩)
    | (obtain ⟨c, g1, g2⟩ := boundD_det hk
       obtain ⟨c', g3, g4⟩ := boundD_det g1
       exact ⟨_, _, _, g3, fun R' k' => by simp only [*]⟩)
    | (obtain ⟨c, g1, g2⟩ := countD_det hk
       obtain ⟨c', g3, g4⟩ := countD_det g1
       clear hk g1
       (repeat' (split at g3)) <;> first
         | (cases g3; done)
         | (obtain ⟨v', h', mv, g5, g6⟩ := newBlk_det g3
            exact ⟨_, _, _, g5, fun R' k' => by simp only [*]⟩))

end
end Go.Sx
