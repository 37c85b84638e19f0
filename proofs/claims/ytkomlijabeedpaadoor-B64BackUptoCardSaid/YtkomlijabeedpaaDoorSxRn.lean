import Derived.Test.YtkomlijabeedpaaDoorSxS
import Derived.Test.YtkomlijabeedpaaDoorSxY
namespace Go.Sx

def rn (m : List (Nat × Nat)) (b : Nat) : Nat :=
  match lk b m with
  | some c => c
  | none => 400

def Cell.ren (f : Nat → Nat) : Cell → Cell
  | .ptr b o i => .ptr (f b) o i
  | .sl b o n z => .sl (f b) o n z
  | c => c
def Seg.ren (f : Nat → Nat) : Seg → Seg
  | .one c => .one (c.ren f)
  | s => s
def segsRen (f : Nat → Nat) : List Seg → List Seg
  | [] => []
  | s :: r => s.ren f :: segsRen f r
def V1.ren (f : Nat → Nat) : V1 → V1
  | .cell c => .cell (c.ren f)
  | .agg l => .agg (segsRen f l)
def v1sRen (f : Nat → Nat) : List V1 → List V1
  | [] => []
  | x :: r => x.ren f :: v1sRen f r
def AV.ren (f : Nat → Nat) : AV → AV
  | .v x => .v (x.ren f)
  | .tup l => .tup (v1sRen f l)
  | .fn g a c => .fn g (v1sRen f a) (v1sRen f c)
  | .yld b => .yld (f b)
def avsRen (f : Nat → Nat) : List AV → List AV
  | [] => []
  | x :: r => x.ren f :: avsRen f r
def Blk.ren (f : Nat → Nat) (x : Blk) : Blk := ⟨segsRen f x.segs, x.ty, x.own⟩

def hasKey {α : Type} (b : Nat) (m : List (Nat × α)) : Bool :=
  match lk b m with
  | some _ => true
  | none => false

def Cell.men (m : List (Nat × Nat)) : Cell → Bool
  | .ptr b _ _ => hasKey b m
  | .sl b _ _ _ => hasKey b m
  | _ => true
def segsMen (m : List (Nat × Nat)) : List Seg → Bool
  | [] => true
  | .one c :: r => c.men m && segsMen m r
  | _ :: r => segsMen m r
def V1.men (m : List (Nat × Nat)) : V1 → Bool
  | .cell c => c.men m
  | .agg l => segsMen m l
def AV.men (m : List (Nat × Nat)) : AV → Bool
  | .v x => x.men m
  | .tup l => allL (V1.men m) l
  | .fn _ a c => allL (V1.men m) a && allL (V1.men m) c
  | .yld b => hasKey b m

theorem RC_ren {ρ : Map} {f : Nat → Nat} {c : Cell} {v : Value} : RC ρ (c.ren f) v ↔ RC (fun b => ρ (f b)) c v := by
  cases c <;> exact Iff.rfl

theorem seg_len_ren (f : Nat → Nat) (s : Seg) : (s.ren f).len = s.len := by cases s <;> rfl
theorem segsLen_ren (f : Nat → Nat) (l : List Seg) : segsLen (segsRen f l) = segsLen l := by
  induction l with
  | nil => rfl
  | cons s r ih => simp only [segsRen, segsLen, seg_len_ren, ih]
theorem colsCell_ren (f : Nat → Nat) (cols : List Col) (i r : Nat) : (colsCell cols i r).ren f = colsCell cols i r := by
  induction cols generalizing i with
  | nil => cases i <;> rfl
  | cons c q ih =>
    cases i with
    | zero => cases c <;> rfl
    | succ i => exact ih i
theorem seg_cell_ren (f : Nat → Nat) (s : Seg) (j : Nat) : (s.ren f).cell j = (s.cell j).ren f := by
  cases s with
  | recs n cols => exact (colsCell_ren f cols _ _).symm
  | _ => rfl
theorem getCell_ren (f : Nat → Nat) (l : List Seg) (j : Nat) : getCell (segsRen f l) j = (getCell l j).map (Cell.ren f) := by
  induction l generalizing j with
  | nil => rfl
  | cons s r ih =>
    simp only [segsRen]
    rw [getCell_cons, getCell_cons, seg_len_ren]
    split
    · rw [seg_cell_ren]; rfl
    · exact ih _
theorem segsWf_ren (f : Nat → Nat) {l : List Seg} : segsWf (segsRen f l) ↔ segsWf l := by
  induction l with
  | nil => exact Iff.rfl
  | cons s r ih =>
    simp only [segsRen]
    rw [segsWf_cons, segsWf_cons, ih]
    have : (s.ren f).wf ↔ s.wf := by cases s <;> exact Iff.rfl
    rw [this]
theorem RSegs_ren {ρ : Map} {f : Nat → Nat} {l : List Seg} {vs : List Value} : RSegs ρ (segsRen f l) vs ↔ RSegs (fun b => ρ (f b)) l vs := by
  unfold RSegs
  rw [segsLen_ren, segsWf_ren]
  constructor
  · rintro ⟨h1, h2, h3⟩
    refine ⟨h1, h2, fun j c v hc hv => ?_⟩
    obtain ⟨g1, g2⟩ := h3 j (c.ren f) v (by rw [getCell_ren, hc]; rfl) hv
    exact ⟨RC_ren.1 g1, g2⟩
  · rintro ⟨h1, h2, h3⟩
    refine ⟨h1, h2, fun j c v hc hv => ?_⟩
    rw [getCell_ren] at hc
    cases hg : getCell l j with
    | none => rw [hg] at hc; cases hc
    | some c' =>
      rw [hg] at hc
      simp only [Option.map_some, Option.some.injEq] at hc
      subst hc
      obtain ⟨g1, g2⟩ := h3 j c' v hg hv
      exact ⟨RC_ren.2 g1, g2⟩
theorem RV1_ren {ρ : Map} {f : Nat → Nat} {x : V1} {v : Value} : RV1 ρ (x.ren f) v ↔ RV1 (fun b => ρ (f b)) x v := by
  cases x with
  | cell c => exact RC_ren
  | agg l =>
    constructor
    · rintro ⟨cs, h1, h2⟩; exact ⟨cs, h1, RSegs_ren.1 h2⟩
    · rintro ⟨cs, h1, h2⟩; exact ⟨cs, h1, RSegs_ren.2 h2⟩
theorem v1sRen_get (f : Nat → Nat) (l : List V1) (i : Nat) : (v1sRen f l)[i]? = (l[i]?).map (V1.ren f) := by
  induction l generalizing i with
  | nil => simp [v1sRen]
  | cons x r ih =>
    cases i with
    | zero => simp [v1sRen]
    | succ i => simpa [v1sRen] using ih i
theorem v1sRen_len (f : Nat → Nat) (l : List V1) : (v1sRen f l).length = l.length := by
  induction l with
  | nil => rfl
  | cons x r ih => simp [v1sRen, ih]
theorem RL_ren {ρ : Map} {f : Nat → Nat} {l : List V1} {vs : Array Value} : RL ρ (v1sRen f l) vs ↔ RL (fun b => ρ (f b)) l vs := by
  constructor
  · rintro ⟨h2, h3⟩
    refine ⟨by rw [h2, v1sRen_len], fun i x hx => ?_⟩
    obtain ⟨u, g1, g2⟩ := h3 i (x.ren f) (by rw [v1sRen_get, hx]; rfl)
    exact ⟨u, g1, RV1_ren.1 g2⟩
  · rintro ⟨h2, h3⟩
    refine ⟨by rw [h2, v1sRen_len], fun i x hx => ?_⟩
    rw [v1sRen_get] at hx
    cases hg : l[i]? with
    | none => rw [hg] at hx; cases hx
    | some y =>
      rw [hg] at hx
      simp only [Option.map_some, Option.some.injEq] at hx
      subst hx
      obtain ⟨u, g1, g2⟩ := h3 i y hg
      exact ⟨u, g1, RV1_ren.2 g2⟩
theorem RV_ren {ρ : Map} {f : Nat → Nat} {x : AV} {v : Value} : RV ρ (x.ren f) v ↔ RV (fun b => ρ (f b)) x v := by
  cases x with
  | v x => exact RV1_ren
  | tup l =>
    constructor
    · rintro ⟨vs, h1, h2, h3⟩
      refine ⟨vs, h1, by rw [h2, v1sRen_len], fun i x hx => ?_⟩
      obtain ⟨u, g1, g2⟩ := h3 i (x.ren f) (by rw [v1sRen_get, hx]; rfl)
      exact ⟨u, g1, RV1_ren.1 g2⟩
    · rintro ⟨vs, h1, h2, h3⟩
      refine ⟨vs, h1, by rw [h2, v1sRen_len], fun i x hx => ?_⟩
      rw [v1sRen_get] at hx
      cases hg : l[i]? with
      | none => rw [hg] at hx; cases hx
      | some y =>
        rw [hg] at hx
        simp only [Option.map_some, Option.some.injEq] at hx
        subst hx
        obtain ⟨u, g1, g2⟩ := h3 i y hg
        exact ⟨u, g1, RV1_ren.2 g2⟩
  | yld b => exact Iff.rfl
  | fn g a c =>
    constructor
    · rintro ⟨xs, ys, e, h1, h2⟩; exact ⟨xs, ys, e, RL_ren.1 h1, RL_ren.1 h2⟩
    · rintro ⟨xs, ys, e, h1, h2⟩; exact ⟨xs, ys, e, RL_ren.2 h1, RL_ren.2 h2⟩


def zipP : List Nat → List Nat → List (Nat × Nat)
  | a :: r, c :: q => (a, c) :: zipP r q
  | _, _ => []
def rnD (m : List (Nat × Nat)) (b : Nat) : Nat :=
  match lk b m with
  | some c => c
  | none => b
def slRen (f : Nat → Nat) : Slots → Slots
  | [] => []
  | (t, v) :: r => (t, v.ren f) :: slRen f r
def hpRen (f : Nat → Nat) : Heap → Heap
  | [] => []
  | (b, x) :: r => (f b, ⟨segsRen f x.segs, x.ty, x.own⟩) :: hpRen f r
def isTo (c : Nat) : List (Nat × Nat) → Bool
  | [] => false
  | (_, d) :: r => match Nat.beq d c with
    | true => true
    | false => isTo c r
def renOk (pb : Nat) (s : St) : List (Nat × Nat) → Bool
  | [] => true
  | (_, c) :: r => (Nat.ble pb c && !(Nat.beq c 448 || Nat.beq c 409)) && (freshIn c s && (!isTo c r && renOk pb s r))
def renS (pb : Nat) (m : List (Nat × Nat)) (s : St) : St :=
  match renOk pb s m with
  | true => ⟨slRen (rnD m) s.sl, hpRen (rnD m) s.hp⟩
  | false => ⟨[], []⟩
def invL : List (Nat × Nat) → Nat → Nat
  | [], c => c
  | (a, d) :: r, c => match Nat.beq d c with
    | true => a
    | false => invL r c
theorem isTo_rnD {m : List (Nat × Nat)} {b : Nat} : rnD m b = b ∨ isTo (rnD m b) m = true := by
  induction m with
  | nil => exact .inl rfl
  | cons p r ih =>
    obtain ⟨a, c⟩ := p
    unfold rnD
    rw [lk_cons]
    by_cases h : a = b
    · rw [if_pos h]
      refine .inr ?_
      simp only [isTo, Nat.beq_refl]
    · rw [if_neg h]
      unfold rnD at ih
      rcases ih with ih | ih
      · exact .inl ih
      · refine .inr ?_
        simp only [isTo]
        split
        · rfl
        · exact ih
theorem inv_rnD {m : List (Nat × Nat)} {pb : Nat} {s : St} (hm : renOk pb s m = true) {b : Nat} (hb : isTo b m = false) : invL m (rnD m b) = b := by
  induction m with
  | nil => rfl
  | cons p r ih =>
    obtain ⟨a, c⟩ := p
    simp only [renOk, Bool.and_eq_true, Bool.not_eq_true'] at hm
    simp only [isTo] at hb
    split at hb
    · cases hb
    · rename_i hcb
      have ih := ih hm.2.2.2 hb
      have e : rnD ((a, c) :: r) b = if a = b then c else rnD r b := by
        unfold rnD
        rw [lk_cons]
        by_cases h : a = b
        · rw [if_pos h, if_pos h]
        · rw [if_neg h, if_neg h]
      rw [e]
      by_cases h : a = b
      · rw [if_pos h]
        simp only [invL, Nat.beq_refl]
        exact h
      · rw [if_neg h]
        have hne : Nat.beq c (rnD r b) = false := by
          cases hq : Nat.beq c (rnD r b) with
          | false => rfl
          | true =>
            have hq := beq_true hq
            rcases isTo_rnD (m := r) (b := b) with g | g
            · rw [g] at hq
              subst hq
              simp at hcb
            · rw [← hq] at g
              rw [hm.2.2.1] at g; cases g
        simp only [invL, hne]
        exact ih
theorem inv_pin {m : List (Nat × Nat)} {pb : Nat} {s : St} (hm : renOk pb s m = true) {b : Nat} (hb : b < pb) : invL m b = b := by
  induction m with
  | nil => rfl
  | cons p r ih =>
    obtain ⟨a, c⟩ := p
    simp only [renOk, Bool.and_eq_true] at hm
    have h1 := ble_true hm.1.1
    have hne : Nat.beq c b = false := by
      cases hq : Nat.beq c b with
      | false => rfl
      | true => have := beq_true hq; omega
    simp only [invL, hne]
    exact ih hm.2.2.2
theorem isTo_tok {m : List (Nat × Nat)} {pb : Nat} {s : St} (hm : renOk pb s m = true) : isTo 448 m = false := by
  induction m with
  | nil => rfl
  | cons p r ih =>
    obtain ⟨a, c⟩ := p
    simp only [renOk, Bool.and_eq_true, Bool.not_eq_true', Bool.or_eq_false_iff] at hm
    simp only [isTo, hm.1.2.1]
    exact ih hm.2.2.2
theorem isTo_it {m : List (Nat × Nat)} {pb : Nat} {s : St} (hm : renOk pb s m = true) : isTo 409 m = false := by
  induction m with
  | nil => rfl
  | cons p r ih =>
    obtain ⟨a, c⟩ := p
    simp only [renOk, Bool.and_eq_true, Bool.not_eq_true', Bool.or_eq_false_iff] at hm
    simp only [isTo, hm.1.2.2]
    exact ih hm.2.2.2
theorem isTo_fresh {m : List (Nat × Nat)} {pb : Nat} {s : St} (hm : renOk pb s m = true) {b : Nat} (hb : isTo b m = true) : freshIn b s = true := by
  induction m with
  | nil => cases hb
  | cons p r ih =>
    obtain ⟨a, c⟩ := p
    simp only [renOk, Bool.and_eq_true] at hm
    simp only [isTo] at hb
    split at hb
    · rename_i h
      rw [← beq_true h]; exact hm.2.1
    · exact ih hm.2.2.2 hb
theorem lk_slRen {f : Nat → Nat} {l : Slots} {t : Nat} {v : AV} (h : lk t (slRen f l) = some v) : ∃ x, lk t l = some x ∧ v = x.ren f := by
  induction l with
  | nil => cases h
  | cons p r ih =>
    obtain ⟨i, x⟩ := p
    simp only [slRen] at h
    rw [lk_cons] at h ⊢
    split at h
    · rename_i e
      rw [if_pos e]
      simp only [Option.some.injEq] at h
      exact ⟨x, rfl, h.symm⟩
    · rename_i e
      rw [if_neg e]
      exact ih h
theorem lk_hpRen {f : Nat → Nat} {h : Heap} {c : Nat} {y : Blk} (hy : lk c (hpRen f h) = some y) : ∃ b x, lk b h = some x ∧ f b = c ∧ y = ⟨segsRen f x.segs, x.ty, x.own⟩ := by
  induction h with
  | nil => cases hy
  | cons p r ih =>
    obtain ⟨i, x⟩ := p
    simp only [hpRen] at hy
    rw [lk_cons] at hy
    split at hy
    · rename_i e
      simp only [Option.some.injEq] at hy
      exact ⟨i, x, by rw [lk_cons, if_pos rfl], e, hy.symm⟩
    · rename_i e
      obtain ⟨b, z, h1, h2, h3⟩ := ih hy
      refine ⟨b, z, ?_, h2, h3⟩
      rw [lk_cons, if_neg (by rintro rfl; exact e h2)]
      exact h1
theorem Rel.ren {N : Nat} {S : Nat → Prop} {ρ₀ : Map} {w₀ : World} {cx : Cx} {ρ : Map} {s : St} {a : Act} {w : World} (h : Rel N S ρ₀ w₀ cx ρ s a w) (m : List (Nat × Nat)) : ∃ ρ', Rel N S ρ₀ w₀ cx ρ' (renS cx.pb m s) a w := by
  unfold renS
  split
  · rename_i hm
    refine ⟨fun c => ρ (invL m c), ?_⟩
    have inv : ∀ b, isTo b m = false → ρ (invL m (rnD m b)) = ρ b := fun b hb => by rw [inv_rnD hm hb]
    have key : ∀ b x, lk b s.hp = some x → isTo b m = false := by
      intro b x hb
      cases ht : isTo b m with
      | false => rfl
      | true => rw [(freshIn_spec (isTo_fresh hm ht)).1] at hb; cases hb
    have cel : ∀ b x c, lk b s.hp = some x → anyB (Seg.mentions c) x.segs = true → isTo c m = false := by
      intro b x c hb hc
      cases ht : isTo c m with
      | false => rfl
      | true => rw [heapFree_spec (freshIn_spec (isTo_fresh hm ht)).2.1 hb] at hc; cases hc
    have slt : ∀ t v c, lk t s.sl = some v → v.mentions c = true → isTo c m = false := by
      intro t v c hv hc
      cases ht : isTo c m with
      | false => rfl
      | true => rw [(freshIn_spec (isTo_fresh hm ht)).2.2 t v hv] at hc; cases hc
    refine ⟨⟨h.hr.low, fun c y hy => ?_, fun c d y z L M hc hd hL hM hne how => ?_⟩, fun t v hv => ?_, h.sz, h.df, h.fr, fun b hb => ?_⟩
    · obtain ⟨b, x, h1, rfl, rfl⟩ := lk_hpRen hy
      have e := inv b (key b x h1)
      rcases h.hr.blk b x h1 with ⟨g1, g2, g3, g4⟩ | ⟨L, cur, fz, g1, g2, g3, g4, g5, g6, g7⟩
      · exact .inl ⟨g1, e.trans g2, by rw [segsLen_ren]; exact g3, (segsWf_ren _).2 g4⟩
      · exact .inr ⟨L, cur, fz, e.trans g1, g2, by rw [segsLen_ren]; exact g3, g4, g5, RSegs_ren.2 (RSegs_agree (fun c hc => inv c (cel b x c h1 hc)) g6), g7⟩
    · obtain ⟨b, x, h1, rfl, rfl⟩ := lk_hpRen hc
      obtain ⟨b', x', h1', rfl, rfl⟩ := lk_hpRen hd
      exact h.hr.inj b b' x x' L M h1 h1' ((inv b (key b x h1)).symm.trans hL) ((inv b' (key b' x' h1')).symm.trans hM) (fun e => hne (by rw [e])) how
    · obtain ⟨x, h1, rfl⟩ := lk_slRen hv
      exact RV_ren.2 (RV_agree (fun c hc => inv c (slt t x c h1 hc)) (h.sl t x h1))
    · rw [← h.pin b hb, inv_pin hm hb]
  · exact ⟨ρ, h.less (fun t v hv => by cases hv) (fun b x hb => by cases hb)⟩
end Go.Sx
