import Derived.Test.YtkomlijabeedpaaDoorSxHo
namespace Go.Sx

theorem lk_hset' {b : Nat} {x : Blk} {h : Heap} {c : Nat} : lk c (hset b x h) = if c = b then some x else lk c h := by
  induction h with
  | nil =>
    simp only [hset]
    rw [lk_cons]
    by_cases e : c = b
    · rw [if_pos e.symm, if_pos e]
    · rw [if_neg (fun q => e q.symm), if_neg e]
  | cons p r ih =>
    obtain ⟨i, y⟩ := p
    simp only [hset]
    split
    · rename_i hi
      have := beq_true hi
      subst this
      rw [lk_cons, lk_cons]
      by_cases e : i = c
      · rw [if_pos e, if_pos e.symm]
      · rw [if_neg e, if_neg (fun q => e q.symm), if_neg e]
    · rename_i hi
      rw [lk_cons, lk_cons, ih]
      by_cases e : i = c
      · rw [if_pos e]
        by_cases e2 : c = b
        · subst e; subst e2
          simp [Nat.beq_refl] at hi
        · rw [if_neg e2, if_pos e]
      · rw [if_neg e, if_neg e]
theorem lk_app {α : Type} {a b : List (Nat × α)} {c : Nat} {x : α} (h : lk c (a ++ b) = some x) : lk c a = some x ∨ (lk c a = none ∧ lk c b = some x) := by
  induction a with
  | nil => exact .inr ⟨rfl, h⟩
  | cons p r ih =>
    obtain ⟨i, y⟩ := p
    rw [List.cons_append, lk_cons] at h
    rw [lk_cons]
    split at h
    · rename_i e; rw [if_pos e]; exact .inl h
    · rename_i e; rw [if_neg e]; exact ih h
theorem lk_swp {m : List (Nat × Nat)} {a b : Nat} (h : lk a (swp m) = some b) : (b, a) ∈ m := by
  induction m with
  | nil => simp [swp, lk] at h
  | cons p r ih =>
    obtain ⟨i, y⟩ := p
    simp only [swp] at h
    rw [lk_cons] at h
    split at h
    · rename_i e
      simp only [Option.some.injEq] at h
      subst e; subst h
      exact List.mem_cons_self
    · exact List.mem_cons_of_mem _ (ih h)
theorem lkIs_spec {a b : Nat} {m : List (Nat × Nat)} (h : lkIs a b m = true) : lk a m = some b := by
  unfold lkIs at h
  split at h
  · rename_i c hc
    rw [hc, beq_true h]
  · cases h
structure Bij (m : List (Nat × Nat)) : Prop where
  fw : ∀ id b, (id, b) ∈ m → lk id m = some b ∧ lk b (swp m) = some id
theorem chk_spec {m : List (Nat × Nat)} (h : chk m (swp m) = true) : Bij m :=
  ⟨fun id b hm => by
    have := allL_spec h _ hm
    simp only [Bool.and_eq_true] at this
    exact ⟨lkIs_spec this.1, lkIs_spec this.2⟩⟩
theorem Bij.to {m : List (Nat × Nat)} (h : Bij m) {id b : Nat} (hl : lk id m = some b) : lk b (swp m) = some id := (h.fw _ _ (lk_mem hl)).2
theorem Bij.from {m : List (Nat × Nat)} (h : Bij m) {id b : Nat} (hl : lk b (swp m) = some id) : lk id m = some b := (h.fw _ _ (lk_swp hl)).1

def cmap (ρ : Map) (m : List (Nat × Nat)) : Map := fun i => match lk i m with
  | some b => ρ b
  | none => none
theorem cmap_some {ρ : Map} {m : List (Nat × Nat)} {i b : Nat} (h : lk i m = some b) : cmap ρ m i = ρ b := by unfold cmap; rw [h]
theorem hcan_spec {inv : List (Nat × Nat)} {H : Heap} {l : List (Nat × Nat)} {hc : Heap} (h : hcan inv H l = some hc) :
    (∀ id x, lk id hc = some x → ∃ b y, (id, b) ∈ l ∧ lk b H = some y ∧ segsMen inv y.segs = true ∧ x = y.ren (rn inv)) ∧ (∀ id b, (id, b) ∈ l → ∃ y, lk b H = some y) := by
  induction l generalizing hc with
  | nil =>
    simp only [hcan, Option.some.injEq] at h
    subst h
    exact ⟨fun id x hx => by simp [lk] at hx, fun id b hm => by cases hm⟩
  | cons p r ih =>
    obtain ⟨i, b⟩ := p
    simp only [hcan] at h
    split at h
    · rename_i y hy
      split at h
      · rename_i hm
        split at h
        · rename_i q hq
          simp only [Option.some.injEq] at h
          subst h
          obtain ⟨g1, g2⟩ := ih hq
          refine ⟨fun id x hx => ?_, fun id c hmm => ?_⟩
          · rw [lk_cons] at hx
            split at hx
            · rename_i e
              simp only [Option.some.injEq] at hx
              subst e; subst hx
              exact ⟨b, y, List.mem_cons_self, hy, hm, rfl⟩
            · obtain ⟨b', y', h1, h2⟩ := g1 id x hx
              exact ⟨b', y', List.mem_cons_of_mem _ h1, h2⟩
          · cases hmm with
            | head => exact ⟨y, hy⟩
            | tail _ hmm => exact g2 id c hmm
        · cases h
      · cases h
    · cases h
def ownS (ρ : Map) (m : List (Nat × Nat)) (H : Heap) : Nat → Prop := fun g => ∃ id b y L, lk id m = some b ∧ lk b H = some y ∧ y.own ≠ 0 ∧ ρ b = some L ∧ L.g = g
theorem HR_can {N : Nat} {S : Nat → Prop} {ρ : Map} {H hc : Heap} {w : World} {m : List (Nat × Nat)} (hr : HR N S ρ H w) (hb : Bij m) (h : hcan (swp m) H m = some hc) : HR w.heap.size (ownS ρ m H) (cmap ρ m) hc w := by
  obtain ⟨g1, _⟩ := hcan_spec h
  have to : ∀ b d, lk b (swp m) = some d → cmap ρ m d = ρ b := fun b d hd => cmap_some (hb.from hd)
  refine ⟨Nat.le_refl _, fun id x hx => ?_, fun i j x y L M hx hy hL hM hne ho => ?_⟩
  · obtain ⟨b, y, hm, hy, hmen, rfl⟩ := g1 id x hx
    have hl := (hb.fw _ _ hm).1
    rcases hr.blk b y hy with ⟨h1, h2, h3, h4⟩ | ⟨L, cur, fz, h1, h2, h3, h4, h5, h6, h7, h8⟩
    · exact .inl ⟨h1, (cmap_some hl).trans h2, (segsLen_ren _ _).trans h3, (segsWf_ren _).2 h4⟩
    · exact .inr ⟨L, cur, fz, (cmap_some hl).trans h1, h2, h3.trans (segsLen_ren _ _).symm, h4, h5, RSegs_to hmen to h6, fun ho => ⟨(h7 ho).1, .inl ⟨id, b, y, L, hl, hy, ho, h1, rfl⟩⟩, h8⟩
  · obtain ⟨b, x', hm, hx', _, rfl⟩ := g1 i x hx
    obtain ⟨c, y', hm', hy', _, rfl⟩ := g1 j y hy
    rw [cmap_some (hb.fw _ _ hm).1] at hL
    rw [cmap_some (hb.fw _ _ hm').1] at hM
    refine hr.inj b c x' y' L M hx' hy' hL hM (fun e => ?_) ho
    subst e
    have e1 := (hb.fw _ _ hm).2
    have e2 := (hb.fw _ _ hm').2
    rw [e1] at e2
    exact hne (Option.some.inj e2)
theorem setNil_key {c : Cell} : ∀ (l q : List Seg) (o : Nat), setNil l o c = some q → segsLen q = segsLen l ∧ (segsWf l → segsWf q) ∧ ∀ j d, getCell q j = some d → getCell l j = some d ∨ (d = c ∧ getCell l j = some .nils) := by
  intro l
  induction l with
  | nil => intro q o h; simp [setNil] at h
  | cons s r ih =>
    intro q o h
    cases o with
    | zero =>
      have : s = .one .nils ∧ q = .one c :: r := by
        cases s with
        | one d => cases d <;> first | (simp only [setNil, Option.some.injEq] at h; exact ⟨rfl, h.symm⟩) | (simp [setNil] at h)
        | _ => simp [setNil] at h
      obtain ⟨rfl, rfl⟩ := this
      refine ⟨rfl, fun hw => segsWf_cons.2 ⟨trivial, (segsWf_cons.1 hw).2⟩, fun j d hd => ?_⟩
      rw [getCell_cons] at hd ⊢
      split at hd
      · rename_i hj
        rw [if_pos (show j < (Seg.one Cell.nils).len from hj)]
        simp only [Option.some.injEq] at hd
        exact .inr ⟨hd.symm, rfl⟩
      · rename_i hj
        rw [if_neg (show ¬ j < (Seg.one Cell.nils).len from hj)]
        exact .inl hd
    | succ n =>
      have : ∃ q', setNil r n c = some q' ∧ q = s :: q' := by
        simp only [setNil] at h
        split at h
        · rename_i q' hq
          simp only [Option.some.injEq] at h
          exact ⟨q', hq, h.symm⟩
        · cases h
      obtain ⟨q', hq, rfl⟩ := this
      obtain ⟨g1, g2, g3⟩ := ih _ _ hq
      refine ⟨by show s.len + segsLen q' = s.len + segsLen r; rw [g1], fun hw => segsWf_cons.2 ⟨(segsWf_cons.1 hw).1, g2 (segsWf_cons.1 hw).2⟩, fun j d hd => ?_⟩
      rw [getCell_cons] at hd ⊢
      split at hd
      · rename_i hj; rw [if_pos hj]; exact .inl hd
      · rename_i hj; rw [if_neg hj]; exact g3 _ _ hd
theorem setNil_spec {ρ : Map} {c : Cell} (hc : ∀ v, RC ρ .nils v → RC ρ c v) {l q : List Seg} {o : Nat} (h : setNil l o c = some q) {vs : List Value} (hs : RSegs ρ l vs) : RSegs ρ q vs ∧ segsLen q = segsLen l := by
  obtain ⟨g1, g2, g3⟩ := setNil_key l q o h
  refine ⟨⟨hs.1.trans g1.symm, g2 hs.2.1, fun j d v hd hv => ?_⟩, g1⟩
  rcases g3 j d hd with h1 | ⟨rfl, h1⟩
  · exact hs.2.2 j d v h1 hv
  · obtain ⟨a, b⟩ := hs.2.2 j _ v h1 hv
    exact ⟨hc v a, b⟩
theorem HR_nilIn {N : Nat} {S : Nat → Prop} {ρ : Map} {hc hc' : Heap} {w : World} {nl : Option (Nat × Nat × Nat × Blk)} {conv : Bool} (hr : HR N S ρ hc w) (h : nilIn nl hc = (hc', conv)) (hn : conv = true → ρ 600 = none) : HR N S ρ hc' w := by
  unfold nilIn at h
  split at h
  · simp only [Prod.mk.injEq] at h; obtain ⟨rfl, rfl⟩ := h; exact hr
  · rename_i i o z blk
    split at h
    · rename_i x hx
      split at h
      · rename_i q hq
        split at h
        · rename_i hok
          simp only [Prod.mk.injEq] at h
          obtain ⟨rfl, rfl⟩ := h
          have hn := hn rfl
          simp only [Bool.and_eq_true] at hok
          obtain ⟨⟨o1, o2⟩, o3, o4⟩ := hok
          have cvt : ∀ v, RC ρ .nils v → RC ρ (.sl 600 none 0 z) v := fun v hv => .inl ⟨hn, rfl, hv⟩
          have get : ∀ b y, lk b (hset i ⟨q, x.ty, x.own⟩ hc ++ [(600, blk)]) = some y → (b = i ∧ y = ⟨q, x.ty, x.own⟩) ∨ (lk b hc = some y) ∨ (b = 600 ∧ y = blk) := by
            intro b y hb
            rcases lk_app hb with h1 | ⟨_, h1⟩
            · rw [lk_hset'] at h1
              split at h1
              · rename_i e
                simp only [Option.some.injEq] at h1
                exact .inl ⟨e, h1.symm⟩
              · exact .inr (.inl h1)
            · rw [lk_cons] at h1
              split at h1
              · rename_i e
                simp only [Option.some.injEq] at h1
                exact .inr (.inr ⟨e.symm, h1.symm⟩)
              · simp [lk] at h1
          have old : ∀ b y, lk b (hset i ⟨q, x.ty, x.own⟩ hc ++ [(600, blk)]) = some y → ρ b ≠ none → ∃ y0, lk b hc = some y0 ∧ y0.own = y.own := by
            intro b y hb hne
            rcases get b y hb with ⟨rfl, rfl⟩ | h1 | ⟨rfl, rfl⟩
            · exact ⟨x, hx, rfl⟩
            · exact ⟨y, h1, rfl⟩
            · exact absurd hn hne
          refine ⟨hr.low, fun b y hb => ?_, fun b c y y' L M hb hc' hL hM hne ho => ?_⟩
          · rcases get b y hb with ⟨rfl, rfl⟩ | h1 | ⟨rfl, rfl⟩
            · rcases hr.blk _ x hx with ⟨h1, h2, h3, h4⟩ | ⟨L, cur, fz, h1, h2, h3, h4, h5, h6, h7, h8⟩
              · obtain ⟨a, b, _⟩ := setNil_key _ _ _ hq
                exact .inl ⟨h1, h2, a.trans h3, b h4⟩
              · obtain ⟨a, b⟩ := setNil_spec cvt hq h6
                exact .inr ⟨L, cur, fz, h1, h2, h3.trans b.symm, h4, h5, a, h7, h8⟩
            · exact hr.blk b y h1
            · exact .inl ⟨by rw [beq_true o3]; decide, hn, beq_true o1, wfB_spec o2⟩
          · obtain ⟨y0, a1, a2⟩ := old b y hb (by rw [hL]; exact fun h => by cases h)
            obtain ⟨y1, b1, b2⟩ := old c y' hc' (by rw [hM]; exact fun h => by cases h)
            exact hr.inj b c y0 y1 L M a1 b1 hL hM hne (by rw [a2, b2]; exact ho)
        · simp only [Prod.mk.injEq] at h; obtain ⟨rfl, rfl⟩ := h; exact hr
      · simp only [Prod.mk.injEq] at h; obtain ⟨rfl, rfl⟩ := h; exact hr
    · simp only [Prod.mk.injEq] at h; obtain ⟨rfl, rfl⟩ := h; exact hr

theorem lay_spec {m2 : List (Nat × Nat)} {h' : Heap} {l : List (Nat × Nat)} {H H1 : Heap} (h : lay m2 h' l H = some H1) {c : Nat} {y : Blk} (hy : lk c H1 = some y) :
    (∃ id x, (id, c) ∈ l ∧ lk id h' = some x ∧ segsMen m2 x.segs = true ∧ (id < 500 ∨ x.own ≠ 0) ∧ y = x.ren (rn m2)) ∨ ((∀ id, (id, c) ∉ l) ∧ lk c H = some y) := by
  induction l generalizing H with
  | nil =>
    simp only [lay, Option.some.injEq] at h
    subst h
    exact .inr ⟨fun id hm => (by cases hm), hy⟩
  | cons p r ih =>
    obtain ⟨i, b⟩ := p
    simp only [lay] at h
    split at h
    · rename_i x hx
      split at h
      · rename_i hok
        simp only [Bool.and_eq_true, Bool.or_eq_true] at hok
        rcases ih h with ⟨id, x', g1, g2⟩ | ⟨g1, g2⟩
        · exact .inl ⟨id, x', List.mem_cons_of_mem _ g1, g2⟩
        · rw [lk_hset'] at g2
          split at g2
          · rename_i e
            simp only [Option.some.injEq] at g2
            subst e
            refine .inl ⟨i, x, List.mem_cons_self, hx, hok.1, ?_, g2.symm⟩
            rcases hok.2 with q | q
            · exact .inl (blt_true q)
            · exact .inr (by have := blt_true q; omega)
          · rename_i e
            refine .inr ⟨fun id hm => ?_, g2⟩
            cases hm with
            | head => exact e rfl
            | tail _ hm => exact g1 id hm
      · cases h
    · cases h
theorem movs_spec {m : List (Nat × Nat)} {b : Nat} (h : b ∉ movs m) {id : Nat} (hm : (id, b) ∈ m) : id < 500 := by
  induction m with
  | nil => cases hm
  | cons p r ih =>
    obtain ⟨i, c⟩ := p
    simp only [movs] at h
    split at h
    · rename_i hi
      simp only [List.mem_cons, not_or] at h
      cases hm with
      | head => exact absurd rfl h.1
      | tail _ hm => exact ih h.2 hm
    · rename_i hi
      cases hm with
      | head =>
        have : ¬ 500 ≤ id := fun q => by rw [Nat.ble_eq_true_of_le q] at hi; cases hi
        omega
      | tail _ hm => exact ih h hm
theorem movOk_spec {mv : List Nat} {inv : List (Nat × Nat)} {H : Heap} (h : movOk mv inv H = true) {c : Nat} {y : Blk} (hy : lk c H = some y) (hc : lk c inv = none) {b : Nat} (hb : b ∈ mv) : anyB (Seg.mentions b) y.segs = false := by
  induction H with
  | nil => simp [lk] at hy
  | cons p r ih =>
    obtain ⟨i, x⟩ := p
    simp only [movOk, Bool.and_eq_true] at h
    rw [lk_cons] at hy
    split at hy
    · rename_i e
      simp only [Option.some.injEq] at hy
      subst e; subst hy
      have h1 := h.1
      unfold hasKey at h1
      rw [hc] at h1
      have := allL_spec h1 b hb
      simpa using this
    · exact ih h.2 hy

def m2Of (m : List (Nat × Nat)) (sid : Nat) : Option Nat → List (Nat × Nat)
  | none => m
  | some n => (n, sid) :: m
def topOf (H' H1 h' : Heap) (m2 : List (Nat × Nat)) (sid : Nat) : Option Nat → Prop
  | none => H' = H1
  | some n => ∃ x, lk n h' = some x ∧ segsMen m2 x.segs = true ∧ x.own ≠ 0 ∧ H' = (sid, x.ren (rn m2)) :: H1
def newMap (ρ ρ' : Map) (m : List (Nat × Nat)) (sid : Nat) (nid : Option Nat) : Map := fun b =>
  match lk b (m2Of [] sid nid |> swp) with
  | some n => ρ' n
  | none => match lk b (swp m) with
    | some id => ρ' id
    | none => ρ b
theorem newMap_sid {ρ ρ' : Map} {m : List (Nat × Nat)} {sid n : Nat} : newMap ρ ρ' m sid (some n) sid = ρ' n := by
  show (match lk sid [(sid, n)] with | some n => ρ' n | none => _) = _
  rw [lk_cons, if_pos rfl]
theorem newMap_ne {ρ ρ' : Map} {m : List (Nat × Nat)} {sid b : Nat} {nid : Option Nat} (h : b ≠ sid) : newMap ρ ρ' m sid nid b = (match lk b (swp m) with | some id => ρ' id | none => ρ b) := by
  cases nid with
  | none => rfl
  | some n =>
    show (match lk b [(sid, n)] with | some n => ρ' n | none => _) = _
    rw [lk_cons, if_neg (fun e => h e.symm)]
    rfl
theorem ho_back {N : Nat} {S : Nat → Prop} {ρ ρ' : Map} {H h' H1 H' : Heap} {w w' : World} {sid : Nat} {m m2 : List (Nat × Nat)} {nid : Option Nat} (hr : HR N S ρ H w) (hsid : lk sid H = none) (hfree : heapFree sid H = true) (hb : Bij m) {hc : Heap} (hcan' : hcan (swp m) H m = some hc)
    (hr' : HR w.heap.size (ownS ρ m H) ρ' h' w') (hf : Fr w.heap.size (ownS ρ m H) w w') (hpin : ∀ b, b < 500 → ρ' b = cmap ρ m b) (hmv : movOk (movs m) (swp m) H = true)
    (hm2 : m2 = m2Of m sid nid) (hn : ∀ n, nid = some n → lk n m = none ∧ 500 ≤ n) (hlay : lay m2 h' m H = some H1)
    (hH' : topOf H' H1 h' m2 sid nid) :
    ∃ ρC : Map, (∀ id c, lk id m2 = some c → ρC c = ρ' id) ∧ (∀ b, b ∉ movs m → b ≠ sid → ρC b = ρ b) ∧ HR N S ρC H' w' ∧ Fr N S w w' := by
  obtain ⟨_, gc⟩ := hcan_spec hcan'
  have nosid : ∀ id, lk id m ≠ some sid := fun id h => by
    obtain ⟨y, hy⟩ := gc _ _ (lk_mem h)
    rw [hsid] at hy
    cases hy
  have at_m : ∀ id c, lk id m = some c → (newMap ρ ρ' m sid nid) c = ρ' id := by
    intro id c h
    have hne : c ≠ sid := fun e => nosid id (e ▸ h)
    rw [newMap_ne hne, hb.to h]
  have at_m2 : ∀ id c, lk id m2 = some c → (newMap ρ ρ' m sid nid) c = ρ' id := by
    intro id c h
    rw [hm2] at h
    cases nid with
    | none => exact at_m id c h
    | some n =>
      simp only [m2Of] at h
      rw [lk_cons] at h
      split at h
      · rename_i e
        simp only [Option.some.injEq] at h
        subst h
        rw [newMap_sid, e]
      · exact at_m id c h
  have keep : ∀ b, b ∉ movs m → b ≠ sid → (newMap ρ ρ' m sid nid) b = ρ b := by
    intro b h1 h2
    rw [newMap_ne h2]
    cases hl : lk b (swp m) with
    | none => rfl
    | some id =>
      have hm := lk_swp hl
      have := movs_spec h1 hm
      rw [← cmap_some (ρ := ρ) (hb.from hl)]
      exact hpin id this
  have inS : ∀ g, ownS ρ m H g → S g ∨ N ≤ g := by
    rintro g ⟨id, b, y, L, h1, h2, h3, h4, rfl⟩
    rcases hr.blk b y h2 with ⟨_, q, _⟩ | ⟨L', cur, fz, q1, q2, q3, q4, q5, q6, q7, q8⟩
    · rw [q] at h4; cases h4
    · rw [q1] at h4
      simp only [Option.some.injEq] at h4
      subst h4
      exact (q7 h3).2
  have hfr : Fr N S w w' := ⟨hf.os, hf.tape, hf.output, hf.size, fun k hk hs => hf.block k (by have := hr.low; omega) (fun h => (inS k h).elim hs (fun h => by omega)), hf.oth⟩
  -- what stands in H'
  have kind : ∀ c y, lk c H' = some y → (∃ id x, lk id m2 = some c ∧ lk id h' = some x ∧ segsMen m2 x.segs = true ∧ ((id < 500 ∧ lk id m = some c) ∨ x.own ≠ 0) ∧ y = x.ren (rn m2)) ∨ (lk c (swp m) = none ∧ c ≠ sid ∧ lk c H = some y) := by
    intro c y hy
    have base : lk c H1 = some y → (∃ id x, lk id m2 = some c ∧ lk id h' = some x ∧ segsMen m2 x.segs = true ∧ ((id < 500 ∧ lk id m = some c) ∨ x.own ≠ 0) ∧ y = x.ren (rn m2)) ∨ (lk c (swp m) = none ∧ c ≠ sid ∧ lk c H = some y) := by
      intro h1
      rcases lay_spec hlay h1 with ⟨id, x, g1, g2, g3, g4, g5⟩ | ⟨g1, g2⟩
      · have hl := (hb.fw _ _ g1).1
        refine .inl ⟨id, x, ?_, g2, g3, g4.imp (fun h => ⟨h, hl⟩) (fun h => h), g5⟩
        rw [hm2]
        cases nid with
        | none => exact hl
        | some n =>
          simp only [m2Of]
          rw [lk_cons, if_neg (fun e => by have := (hn n rfl).1; rw [e, hl] at this; cases this)]
          exact hl
      · refine .inr ⟨?_, fun e => (by rw [e, hsid] at g2; cases g2), g2⟩
        cases hl : lk c (swp m) with
        | none => rfl
        | some id => exact absurd (lk_swp hl) (g1 id)
    cases nid with
    | none =>
      have hH2 : H' = H1 := hH'
      rw [hH2] at hy
      exact base hy
    | some n =>
      obtain ⟨x, q1, q2, q3, rfl⟩ := hH'
      rw [lk_cons] at hy
      split at hy
      · rename_i e
        simp only [Option.some.injEq] at hy
        subst e
        refine .inl ⟨n, x, ?_, q1, q2, .inr q3, hy.symm⟩
        rw [hm2]
        simp only [m2Of]
        rw [lk_cons, if_pos rfl]
      · exact base hy
  have unaff : ∀ c y, lk c (swp m) = none → c ≠ sid → lk c H = some y → (newMap ρ ρ' m sid nid) c = ρ c := by
    intro c y h1 h2 _
    rw [newMap_ne h2, h1]
  have far : ∀ d y M, lk d (swp m) = none → lk d H = some y → ρ d = some M → ¬ ownS ρ m H M.g := by
    rintro d y M h1 h2 h3 ⟨id, b, y', L, q1, q2, q3, q4, q5⟩
    refine hr.inj b d y' y L M q2 h2 q4 h3 (fun e => ?_) (.inl q3) q5
    subst e
    rw [hb.to q1] at h1
    cases h1
  have low : ∀ d y M, lk d H = some y → ρ d = some M → M.g < w.heap.size := by
    intro d y M h1 h2
    rcases hr.blk d y h1 with ⟨_, q, _⟩ | ⟨L', cur, fz, q1, q2, _⟩
    · rw [q] at h2; cases h2
    · rw [q1] at h2
      simp only [Option.some.injEq] at h2
      subst h2
      exact (Array.getElem?_eq_some_iff.1 q2).1
  have cross : ∀ c id x d y L M, lk id m2 = some c → lk id h' = some x → ((id < 500 ∧ lk id m = some c) ∨ x.own ≠ 0) → lk d (swp m) = none → d ≠ sid → lk d H = some y → ρ' id = some L → ρ d = some M → (x.own ≠ 0 ∨ y.own ≠ 0) → L.g ≠ M.g := by
    intro c id x d y L M a1 a2 a3 b1 b2 b3 hL hM ho
    by_cases hx : x.own = 0
    · rcases a3 with ⟨p1, p2⟩ | p
      · obtain ⟨y0, hy0⟩ := gc _ _ (lk_mem p2)
        have e : ρ c = some L := by rw [← cmap_some (ρ := ρ) p2, ← hpin id p1]; exact hL
        refine hr.inj c d y0 y L M hy0 b3 e hM (fun q => ?_) (ho.elim (fun q => absurd hx q) .inr)
        subst q
        rw [hb.to p2] at b1
        cases b1
      · exact absurd hx p
    · rcases hr'.blk id x a2 with ⟨_, q, _⟩ | ⟨L', cur, fz, q1, q2, q3, q4, q5, q6, q7, q8⟩
      · rw [q] at hL; cases hL
      · rw [q1] at hL
        simp only [Option.some.injEq] at hL
        subst hL
        rcases (q7 hx).2 with p | p
        · intro e
          rw [e] at p
          exact far d y M b1 b3 hM p
        · have := low d y M b3 hM
          omega
  refine ⟨newMap ρ ρ' m sid nid, at_m2, keep, ⟨by have := hr.low; have := hf.size; omega, fun c y hy => ?_, fun c d y z L M hy hz hL hM hne ho => ?_⟩, hfr⟩
  · rcases kind c y hy with ⟨id, x, a1, a2, a3, a4, rfl⟩ | ⟨b1, b2, b3⟩
    · rcases hr'.blk id x a2 with ⟨q1, q2, q3, q4⟩ | ⟨L', cur, fz, q1, q2, q3, q4, q5, q6, q7, q8⟩
      · exact .inl ⟨q1, (at_m2 id c a1).trans q2, (segsLen_ren _ _).trans q3, (segsWf_ren _).2 q4⟩
      · refine .inr ⟨L', cur, fz, (at_m2 id c a1).trans q1, q2, q3.trans (segsLen_ren _ _).symm, q4, q5, RSegs_to a3 at_m2 q6, fun ho => ⟨(q7 ho).1, ?_⟩, q8⟩
        rcases (q7 ho).2 with p | p
        · exact inS _ p
        · exact .inr (by have := hr.low; omega)
    · rcases hr.blk c y b3 with ⟨q1, q2, q3⟩ | ⟨L', cur, fz, q1, q2, q3, q4, q5, q6, q7⟩
      · exact .inl ⟨q1, (unaff c y b1 b2 b3).trans q2, q3⟩
      · refine .inr ⟨L', cur, fz, (unaff c y b1 b2 b3).trans q1, ?_, q3, q4, q5, RSegs_agree (fun d hd => ?_) q6, q7⟩
        · rw [hf.block _ (low c y L' b3 q1) (far c y L' b1 b3 q1)]
          exact q2
        · refine keep d (fun hmm => ?_) (fun e => ?_)
          · rw [movOk_spec hmv b3 b1 hmm] at hd
            cases hd
          · subst e
            rw [heapFree_spec hfree b3] at hd
            cases hd
  · rcases kind c y hy with ⟨id, x, a1, a2, a3, a4, rfl⟩ | ⟨b1, b2, b3⟩ <;> rcases kind d z hz with ⟨id', x', c1, c2, c3, c4, rfl⟩ | ⟨d1, d2, d3⟩
    · rw [at_m2 id c a1] at hL
      rw [at_m2 id' d c1] at hM
      refine hr'.inj id id' x x' L M a2 c2 hL hM (fun e => ?_) ho
      subst e
      rw [a1] at c1
      exact hne (Option.some.inj c1)
    · rw [at_m2 id c a1] at hL
      rw [unaff d z d1 d2 d3] at hM
      exact cross c id x d z L M a1 a2 a4 d1 d2 d3 hL hM ho
    · rw [at_m2 id' d c1] at hM
      rw [unaff c y b1 b2 b3] at hL
      exact fun e => cross d id' x' c y M L c1 c2 c4 b1 b2 b3 hM hL ho.symm e.symm
    · rw [unaff c y b1 b2 b3] at hL
      rw [unaff d z d1 d2 d3] at hM
      exact hr.inj c d y z L M b3 d3 hL hM hne ho
end Go.Sx
