import Derived.Test.YtkomlijabeedpaaDoorSxZ
import Derived.Test.YtkomlijabeedpaaDoorSxR
namespace Go.Sx

def memB (b : Nat) : List Nat → Bool
  | [] => false
  | c :: r => match Nat.beq c b with
    | true => true
    | false => memB b r

def opsOkL (nt : Nat) (L : List Nat) : List Oper → Bool
  | [] => true
  | o :: r => (match o.dst with
    | some d => Nat.blt d nt && !memB d L
    | none => true) && opsOkL nt L r

def codeOkL (nt : Nat) (L : List Nat) : Code → Bool
  | .region _ ops _ => opsOkL nt L ops.toList
  | .seq a b => codeOkL nt L a && codeOkL nt L b
  | .cond _ a b => codeOkL nt L a && codeOkL nt L b
  | .block _ c => codeOkL nt L c
  | .loop c => codeOkL nt L c
  | .scope c => codeOkL nt L c
  | _ => true
abbrev codeOk (nt : Nat) (c : Code) : Bool := codeOkL nt [] c

structure Cx where
  nt : Nat
  L : List Nat
  base : Nat → Value
  pb : Nat
  le : pb ≤ 500
  lo : Nat
def Cx.ok (cx : Cx) (d : Nat) : Prop := d < cx.nt ∧ memB d cx.L = false

def Oth (w w' : World) : Prop := ∀ (k : Nat) (o : Obj), w.heap[k]? = some o → o.isCells = false → w'.heap[k]? = some o
theorem Oth.refl (w : World) : Oth w w := fun _ _ h _ => h
theorem Oth.trans {a b c : World} (h : Oth a b) (k : Oth b c) : Oth a c := fun i o hi ho => k i o (h i o hi ho) ho

structure DfOk (cx : Cx) (a : Act) (w : World) : Prop where
  m : ∀ d ∈ a.defers, ∃ D, d = { target := .collected D, args := #[] } ∧ cx.lo ≤ D ∧ w.heap[D]? = some (.deferred (some []))
  n : a.defers.Pairwise (· ≠ ·)
  b : ∀ t, memB t cx.L = true → a.tmps.getD t undef = cx.base t
theorem DfOk.world {cx : Cx} {a : Act} {w w' : World} (h : DfOk cx a w) (ho : Oth w w') : DfOk cx a w' :=
  ⟨fun d hd => by obtain ⟨D, h1, h2, h3⟩ := h.m d hd; exact ⟨D, h1, h2, ho D _ h3 rfl⟩, h.n, h.b⟩
theorem DfOk.put {cx : Cx} {a : Act} {w : World} (h : DfOk cx a w) {dst : Option Nat} (hd : ∀ d, dst = some d → cx.ok d) (u : Value) : DfOk cx (a.put dst u) w := by
  cases dst with
  | none => exact h
  | some d =>
    refine ⟨h.m, h.n, fun t ht => ?_⟩
    have hne : d ≠ t := by
      rintro rfl
      have := (hd d rfl).2
      rw [ht] at this; cases this
    rw [← h.b t ht]
    simp only [Act.put, Array.getD_eq_getD_getElem?, Array.getElem?_setIfInBounds_ne hne]
theorem DfOk.nil {cx : Cx} {a : Act} {w : World} (h1 : a.defers = []) (h2 : cx.L = []) : DfOk cx a w :=
  ⟨fun d hd => (by rw [h1] at hd; cases hd), by rw [h1]; exact List.Pairwise.nil, fun t ht => by rw [h2] at ht; cases ht⟩

structure Rel (N : Nat) (S : Nat → Prop) (ρ₀ : Map) (w₀ : World) (cx : Cx) (ρ : Map) (s : St) (a : Act) (w : World) : Prop where
  hr : HR N S ρ s.hp w
  sl : ∀ t v, lk t s.sl = some v → RV ρ v (a.tmps.getD t undef)
  sz : a.tmps.size = cx.nt
  df : DfOk cx a w
  fr : Fr N S w₀ w
  pin : ∀ b, b < cx.pb → ρ b = ρ₀ b

def YSound (P : Program) (O : Orc) (pb : Nat) (ρ₀ : Map) (w₀ : World) : Prop := ∀ (N : Nat) (S : Nat → Prop) (ρ : Map) (h : Heap) (w : World), (∀ b, b < pb → ρ b = ρ₀ b) → Oth w₀ w → HR N S ρ h w → YOk P O N S ρ h w
theorem ysound_none {P : Program} {O : Orc} {pb : Nat} {ρ₀ : Map} {w₀ : World} (hy : ∀ vs h, O.yl vs h = none) : YSound P O pb ρ₀ w₀ := fun _ _ _ _ _ _ _ _ => yok_none hy

section
variable {P : Program} {T : Tys} {O : Orc} {N : Nat} {S : Nat → Prop} {ρ₀ : Map} {w₀ : World} {cx : Cx} {F : Fence} {fu : Nat} {R : Type} {r : R}

theorem er_sl {ρ : Map} {s : St} {a : Act} (h : ∀ t v, lk t s.sl = some v → RV ρ v (a.tmps.getD t undef)) : ER ρ (ev s) a := by
  intro x v hv
  cases x with
  | tmp t => exact h t v hv
  | const c =>
    simp only [ev] at hv
    split at hv
    · rename_i c' hc
      simp only [Option.some.injEq] at hv
      subst hv
      exact ofVal_sound hc
    · cases hv
  | _ => cases hv

theorem Rel.er {ρ : Map} {s : St} {a : Act} {w : World} (h : Rel N S ρ₀ w₀ cx ρ s a w) : ER ρ (ev s) a := er_sl h.sl

theorem lk_inval2 {b t : Nat} {sl : Slots} {v : AV} (h : lk t (inval b sl) = some v) : v.mentions b = false ∧ (lk t sl = some v ∨ v = .v (.cell .top)) := by
  induction sl with
  | nil => simp [inval, lk] at h
  | cons p q ih =>
    obtain ⟨i, x⟩ := p
    simp only [inval] at h
    split at h
    · rw [lk_cons] at h
      split at h
      · simp only [Option.some.injEq] at h
        subst h
        exact ⟨rfl, .inr rfl⟩
      · rename_i hi
        obtain ⟨h1, h2⟩ := ih h
        exact ⟨h1, h2.imp (fun h2 => by rw [lk_cons, if_neg hi]; exact h2) id⟩
    · rename_i hx
      rw [lk_cons] at h
      split at h
      · rename_i hi
        simp only [Option.some.injEq] at h
        subst h
        exact ⟨hx, .inl (by rw [lk_cons, if_pos hi])⟩
      · rename_i hi
        obtain ⟨h1, h2⟩ := ih h
        exact ⟨h1, h2.imp (fun h2 => by rw [lk_cons, if_neg hi]; exact h2) id⟩

theorem lk_invals2 {mv : List Nat} {t : Nat} {sl : Slots} {v : AV} (h : lk t (invals mv sl) = some v) : (∀ b ∈ mv, v.mentions b = false) ∧ (lk t sl = some v ∨ v = .v (.cell .top)) := by
  induction mv generalizing sl with
  | nil => exact ⟨fun b hb => (by cases hb), .inl h⟩
  | cons c q ih =>
    simp only [invals] at h
    obtain ⟨h1, h2⟩ := ih h
    rcases h2 with h2 | rfl
    · obtain ⟨g1, g2⟩ := lk_inval2 h2
      refine ⟨fun b hb => ?_, g2⟩
      cases hb with
      | head => exact g1
      | tail _ hb => exact h1 b hb
    · exact ⟨fun b _ => rfl, .inr rfl⟩

theorem freshIn_spec {b : Nat} {s : St} (h : freshIn b s = true) : lk b s.hp = none ∧ heapFree b s.hp = true ∧ ∀ t v, lk t s.sl = some v → v.mentions b = false := by
  unfold freshIn at h
  split at h
  · cases h
  · rename_i h1
    split at h
    · cases h
    · rename_i h2
      split at h
      · cases h
      · rename_i h3
        refine ⟨h1, h2, fun t v hv => ?_⟩
        clear h1 h2 h
        generalize s.sl = l at h3 hv
        induction l with
        | nil => simp [lk] at hv
        | cons p q ih =>
          obtain ⟨i, x⟩ := p
          unfold anyB at h3
          split at h3
          · cases h3
          · rename_i hp
            rw [lk_cons] at hv
            split at hv
            · simp only [Option.some.injEq] at hv
              subst hv
              exact hp
            · exact ih h3 hv

theorem pinOk_spec {mv : List Nat} (h : pinOk mv = true) : ∀ b ∈ mv, 500 ≤ b := by
  induction mv with
  | nil => intro b hb; cases hb
  | cons c q ih =>
    simp only [pinOk, Bool.and_eq_true] at h
    intro b hb
    cases hb with
    | head => exact ble_true h.1
    | tail _ hb => exact ih h.2 b hb

theorem noMen_ev {s : St} {b : Nat} (h : ∀ t v, lk t s.sl = some v → v.mentions b = false) : NoMen b (ev s) := by
  intro x v hv
  cases x with
  | tmp t => exact h t v hv
  | const c =>
    simp only [ev] at hv
    split at hv
    · rename_i c' hc
      simp only [Option.some.injEq] at hv
      subst hv
      unfold ofVal at hc
      split at hc
      all_goals first
        | (split at hc
           · simp only [Option.some.injEq] at hc; subst hc; rfl
           · cases hc)
        | (simp only [Option.some.injEq] at hc; subst hc; rfl)
        | cases hc
    · cases hv
  | _ => cases hv

theorem Rel.step {ρ ρ' : Map} {s : St} {a : Act} {w w' : World} {sid : Nat} {mv : List Nat} {v : AV} {u : Value} {h' : Heap} {dst : Option Nat} (h : Rel N S ρ₀ w₀ cx ρ s a w) (hs : 500 ≤ sid) (hmv : pinOk mv = true)
    (hv : RV ρ' v u) (hr : HR N S ρ' h' w') (hf : Fr N S w w') (hm : ∀ b, b ∉ mv → (b = sid → freshIn sid s = false) → ρ' b = ρ b) (hd : ∀ d, dst = some d → cx.ok d) :
    Rel N S ρ₀ w₀ cx ρ' (put ⟨invals mv s.sl, s.hp⟩ dst v h') (a.put dst u) w' := by
  have old : ∀ t x, lk t (invals mv s.sl) = some x → RV ρ' x (a.tmps.getD t undef) := by
    intro t x hx
    obtain ⟨h1, h2⟩ := lk_invals2 hx
    rcases h2 with h2 | rfl
    · refine RV_agree (fun b hb => hm b (fun hb' => ?_) (fun e => ?_)) (h.sl t x h2)
      · rw [h1 b hb'] at hb; cases hb
      · subst e
        cases hfr : freshIn b s with
        | false => rfl
        | true => rw [(freshIn_spec hfr).2.2 t x h2] at hb; cases hb
    · trivial
  have pin : ∀ b, b < cx.pb → ρ' b = ρ₀ b := fun b hb => (hm b (fun hb' => by have := pinOk_spec hmv b hb'; have := cx.le; omega) (fun e => by have := cx.le; omega)).trans (h.pin b hb)
  have df := (h.df.put hd u).world hf.oth
  cases dst with
  | none => exact ⟨hr, old, h.sz, df, h.fr.trans hf, pin⟩
  | some d =>
    refine ⟨hr, fun t x hx => ?_, by simp [Act.put, h.sz], df, h.fr.trans hf, pin⟩
    simp only [put] at hx
    rw [lk_cons] at hx
    split at hx
    · rename_i e
      subst e
      simp only [Option.some.injEq] at hx
      subst hx
      have hlt : d < a.tmps.size := by rw [h.sz]; exact (hd d rfl).1
      simp only [Act.put]
      rw [Array.getD_eq_getD_getElem?, Array.getElem?_setIfInBounds_self_of_lt hlt]
      exact hv
    · rename_i e
      simp only [Act.put]
      rw [Array.getD_eq_getD_getElem?, Array.getElem?_setIfInBounds_ne (by simpa using e), ← Array.getD_eq_getD_getElem?]
      exact old t x hx

theorem want_sl {ops : Array Oper} {ρ : Map} {s : St} {a : Act} (hsl : ∀ t v, lk t s.sl = some v → RV ρ v (a.tmps.getD t undef)) {o : Oper} {k : Bool → Option R} (hk : wantD ops.toList o s k = some r) :
    ∃ b, k b = some r ∧ Region.wanted o (yielded ops a.tmps) = b := by
  unfold wantD at hk
  unfold Region.wanted
  split at hk
  · rename_i hg
    exact ⟨true, hk, by rw [hg]⟩
  · rename_i j want hg
    rw [hg]
    split at hk
    · rename_i oj hj
      split at hk
      · rename_i d hd
        have hj' : ops[j]? = some oj := by rw [← Array.getElem?_toList]; exact hj
        split at hk
        · rename_i b hb
          have hv : a.tmps.getD d undef = .bool b := hsl d _ hb
          have hy : yielded ops a.tmps j = some b := by
            have : a.tmps[d]? = some (.bool b) := by
              rw [Array.getD_eq_getD_getElem?] at hv
              cases ht : a.tmps[d]? with
              | none => rw [ht] at hv; simp [undef] at hv
              | some x => rw [ht] at hv; simp at hv; rw [hv]
            simp [yielded, hj', hd, this]
          simp only [hy]
          split at hk
          · exact ⟨want, hk, by cases want <;> rfl⟩
          · exact ⟨!want, hk, by cases want <;> rfl⟩
        · rename_i hb
          have hv : a.tmps.getD d undef = undef := hsl d _ hb
          have hy : yielded ops a.tmps j = none := by
            cases ht : a.tmps[d]? with
            | none => simp [yielded, hj', hd, ht]
            | some x =>
              rw [Array.getD_eq_getD_getElem?, ht] at hv
              simp at hv
              subst hv
              simp [yielded, hj', hd, ht, undef]
          refine ⟨false, hk, ?_⟩
          simp only [hy]
          cases want <;> rfl
        · cases hk
      · cases hk
    · cases hk

theorem want_sound {ops : Array Oper} {ρ : Map} {s : St} {a : Act} {w : World} (h : Rel N S ρ₀ w₀ cx ρ s a w) {o : Oper} {k : Bool → Option R} (hk : wantD ops.toList o s k = some r) :
    ∃ b, k b = some r ∧ Region.wanted o (yielded ops a.tmps) = b := want_sl h.sl hk

theorem opsOk_spec {l : List Oper} (h : opsOkL cx.nt cx.L l = true) : ∀ o ∈ l, ∀ d, o.dst = some d → cx.ok d := by
  induction l with
  | nil => intro o ho; cases ho
  | cons x q ih =>
    simp only [opsOkL, Bool.and_eq_true] at h
    intro o ho d hd
    cases ho with
    | head =>
      have h1 := h.1
      rw [hd] at h1
      simp only [Bool.and_eq_true, Bool.not_eq_true'] at h1
      exact ⟨blt_true h1.1, h1.2⟩
    | tail _ ho => exact ih h.2 o ho d hd

theorem opE_notDefer {A : Ar} {e : Operand → Option AV} {hp : Heap} {fr : Bool} {sid : Nat} {o : Oper} {k : AV → Heap → List Nat → Option R} (h : opE A T O sid o e hp fr k = some r) : ∀ c, o.op ≠ .defer c := by
  intro c e
  simp only [opE, e] at h
  cases h

theorem oper_sound (hF : WideF F) (hT : TyOK P T) (hO : OSound P O) (hY : YSound P O cx.pb ρ₀ w₀) {ρ : Map} {s : St} {a : Act} {w : World} {sid : Nat} {o : Oper} {k : AV → Heap → List Nat → Option R} (h : Rel N S ρ₀ w₀ cx ρ s a w) (hs : 500 ≤ sid) (hd : ∀ d, o.dst = some d → cx.ok d)
    (hk : opD realA T O sid o s (fun v h' mv => match pinOk mv with
      | true => k v h' mv
      | false => none) = some r) {next : Act → World → Prop} {Q : Exit → Act → World → Prop}
    (hn : ∀ v h' mv ρ' a' w', k v h' mv = some r → Rel N S ρ₀ w₀ cx ρ' (put ⟨invals mv s.sl, s.hp⟩ o.dst v h') a' w' → next a' w') : o.wpIn F fu P a w next Q := by
  obtain ⟨v, h', mv, hk', hg⟩ := op_sound (P := P) (fr := freshIn sid s) hT hO (hY _ _ _ _ _ h.pin h.fr.oth h.hr) h.hr (fun hf => ⟨(freshIn_spec hf).1, (freshIn_spec hf).2.1⟩) (fun hf => noMen_ev (freshIn_spec hf).2.2) h.er o hk
  split at hk'
  · rename_i hpin
    refine ⟨fun f _ => hF.fn f, ?_⟩
    rw [Oper.semAt_eq _ _ _ (opE_notDefer hk)]
    generalize (execOp a.eval o).run P w = res at hg ⊢
    unfold Good at hg
    split at hg
    · obtain ⟨ρ', g1, g2, g3, g4⟩ := hg
      exact hn _ _ _ _ _ _ hk' (h.step hs hpin g1 g2 g3 g4 hd)
    · obtain ⟨ρ', g1, g2, g3, g4⟩ := hg
      exact hn _ _ _ _ _ _ hk' (h.step hs hpin g1 g2 g3 g4 hd)
    · obtain ⟨e1, hc⟩ := hg
      subst e1
      refine ⟨fun q => (by rw [hF.depth] at q; cases q), (hF.calls hc).mono fun e w'' he => ?_⟩
      obtain ⟨u, ρ', e2, g1, g2, g3, g4⟩ := he
      subst e2
      exact hn _ _ _ _ _ _ hk' (h.step hs hpin g1 g2 g3 g4 hd)
    · obtain ⟨e1, hc⟩ := hg
      subst e1
      refine ⟨fun q => (by rw [hF.depth] at q; cases q), (hc F _ hF).mono fun e w'' he => ?_⟩
      obtain ⟨u, ρ', e2, g1, g2, g3, g4⟩ := he
      subst e2
      exact hn _ _ _ _ _ _ hk' (h.step hs hpin g1 g2 g3 g4 hd)
    · exact hg.elim
  · cases hk'

theorem ops_sound (hF : WideF F) (hT : TyOK P T) (hO : OSound P O) (hY : YSound P O cx.pb ρ₀ w₀) {ops : Array Oper} {base : Nat} (hb : 500 ≤ base) (hok : ∀ o ∈ ops.toList, ∀ d, o.dst = some d → cx.ok d) {k : St → Option R} {Q : Exit → Act → World → Prop}
    (hQ : ∀ ρ s a w, k s = some r → Rel N S ρ₀ w₀ cx ρ s a w → Q .normal a w) (l : List Oper) :
    ∀ (i : Nat) (ρ : Map) (s : St) (a : Act) (w : World), ops.toList.drop i = l → opsD realA T O ops.toList (base + i) l s k = some r → Rel N S ρ₀ w₀ cx ρ s a w → wpOpsIn F fu P ops Q (List.range' i l.length) a w := by
  induction l with
  | nil => intro i ρ s a w _ hk h; exact hQ ρ s a w hk h
  | cons o l ih =>
    intro i ρ s a w hl hk h
    have hi : ops[i]? = some o := by
      have : (ops.toList.drop i)[0]? = some o := by rw [hl]; rfl
      rw [List.getElem?_drop] at this
      simpa using this
    have ho : o ∈ ops.toList := by
      have : o ∈ ops.toList.drop i := by rw [hl]; exact List.mem_cons_self
      exact List.mem_of_mem_drop this
    have hl' : ops.toList.drop (i + 1) = l := by
      rw [← List.drop_drop, hl]; rfl
    simp only [List.length_cons, List.range'_succ, wpOpsIn, hi]
    simp only [opsD] at hk
    obtain ⟨b, hk, hw⟩ := want_sound h hk
    rw [hw]
    cases b with
    | true =>
      simp only [if_true]
      refine (oper_sound hF hT hO hY h (by omega) (hok o ho) hk fun v h' mv ρ' a' w' hk' h' => ih (i + 1) _ _ _ _ hl' (by rw [← Nat.add_assoc]; rw [force_eq] at hk'; exact hk') h')
    | false =>
      simp only [Bool.false_eq_true, if_false]
      refine ⟨fun f _ => hF.fn f, ih (i + 1) ρ _ _ _ hl' (by rw [← Nat.add_assoc]; exact hk) ?_⟩
      exact h.step (sid := base + i) (mv := []) (by omega) rfl (show RV ρ (.v (.cell .un)) undef from rfl) h.hr (Fr.refl _ _ _) (fun _ _ _ => rfl) (hok o ho)

theorem lk_pick2 {α : Type} {s : List (Nat × α)} {l : List Nat} {t : Nat} {v : α} (h : lk t (pick s l) = some v) : lk t s = some v := by
  induction l with
  | nil => simp [pick, lk] at h
  | cons x q ih =>
    simp only [pick] at h
    split at h
    · rename_i y hy
      rw [lk_cons] at h
      split at h
      · rename_i e
        subst e
        simp only [Option.some.injEq] at h
        subst h
        exact hy
      · exact ih h
    · exact ih h

theorem Rel.less {ρ : Map} {s s' : St} {a : Act} {w : World} (h : Rel N S ρ₀ w₀ cx ρ s a w) (h1 : ∀ t v, lk t s'.sl = some v → lk t s.sl = some v) (h2 : ∀ b x, lk b s'.hp = some x → lk b s.hp = some x) : Rel N S ρ₀ w₀ cx ρ s' a w :=
  ⟨⟨h.hr.low, fun b x hb => h.hr.blk b x (h2 b x hb), fun b c x y L M hb hc => h.hr.inj b c x y L M (h2 b x hb) (h2 c y hc)⟩, fun t v hv => h.sl t v (h1 t v hv), h.sz, h.df, h.fr, h.pin⟩

theorem Rel.keep {ρ : Map} {s : St} {a : Act} {w : World} (h : Rel N S ρ₀ w₀ cx ρ s a w) (an : Ann) (id : Nat) : Rel N S ρ₀ w₀ cx ρ (keep an id s) a w := by
  unfold Sx.keep
  split
  · exact h.less (fun t v hv => lk_pick2 hv) (fun b x hb => lk_pick2 hb)
  · exact h

end
end Go.Sx
