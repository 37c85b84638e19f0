import Derived.Test.YtkomlijabeedpaaDoorSxM
namespace Go.Sx

theorem RSegs_append {ρ : Map} {x y : List Seg} {u v : List Value} (hx : RSegs ρ x u) (hy : RSegs ρ y v) : RSegs ρ (x ++ y) (u ++ v) := by
  refine ⟨by rw [List.length_append, segsLen_append, hx.1, hy.1], segsWf_append.2 ⟨hx.2.1, hy.2.1⟩, fun j c q hc hq => ?_⟩
  rw [getCell_append] at hc
  by_cases hj : j < segsLen x
  · rw [if_pos hj] at hc
    rw [List.getElem?_append_left (by rw [hx.1]; exact hj)] at hq
    exact hx.2.2 j c q hc hq
  · rw [if_neg hj] at hc
    rw [List.getElem?_append_right (by rw [hx.1]; omega), hx.1] at hq
    exact hy.2.2 _ c q hc hq

theorem fold_cells (off0 : Nat) : ∀ (l : List Value) (n : Nat) (c0 : Array Value), off0 + n + l.length ≤ c0.size → ((l.zipIdx n).foldl (fun cs (p : Value × Nat) => cs.setIfInBounds (off0 + p.2) p.1) c0).size = c0.size ∧
    ∀ j, ((l.zipIdx n).foldl (fun cs (p : Value × Nat) => cs.setIfInBounds (off0 + p.2) p.1) c0)[j]? = if off0 + n ≤ j ∧ j < off0 + n + l.length then l[j - (off0 + n)]? else c0[j]? := by
  intro l
  induction l with
  | nil => intro n c0 _; exact ⟨rfl, fun j => by rw [if_neg (by simp)]; rfl⟩
  | cons y l ihl =>
    intro n c0 hle
    simp only [List.zipIdx_cons, List.foldl_cons]
    simp only [List.length_cons] at hle ⊢
    obtain ⟨g1, g2⟩ := ihl (n + 1) (c0.setIfInBounds (off0 + n) y) (by simp; omega)
    refine ⟨by rw [g1]; simp, fun j => ?_⟩
    rw [g2]
    by_cases hj : off0 + (n + 1) ≤ j ∧ j < off0 + (n + 1) + l.length
    · rw [if_pos hj, if_pos (by omega)]
      rw [show j - (off0 + n) = (j - (off0 + (n + 1))) + 1 by omega, List.getElem?_cons_succ]
    · rw [if_neg hj]
      by_cases hj2 : j = off0 + n
      · subst hj2
        rw [if_pos (by omega), Array.getElem?_setIfInBounds_self_of_lt (by omega)]
        simp
      · rw [if_neg (by omega), Array.getElem?_setIfInBounds_ne (by omega)]

theorem fill_row (size : Nat) : ∀ (us : List (Nat × Value)) (i0 : Nat) (c0 : Array Value), (∀ (i : Nat) x, us[i]? = some x → x.1 = i0 + i ∧ x.2.cells.size = size) → (i0 + us.length) * size ≤ c0.size →
    ∃ c, Instr.fill (fun i => some (i * size, size)) c0 us = some c ∧ c.size = c0.size ∧ (us.flatMap fun x => x.2.cells.toList).length = us.length * size ∧
      ∀ j, c[j]? = if i0 * size ≤ j ∧ j < (i0 + us.length) * size then (us.flatMap fun x => x.2.cells.toList)[j - i0 * size]? else c0[j]? := by
  intro us
  induction us with
  | nil => intro i0 c0 _ _; exact ⟨c0, rfl, rfl, by simp, fun j => by rw [if_neg (by simp)]⟩
  | cons x us ih =>
    intro i0 c0 hx hle
    obtain ⟨i, v⟩ := x
    obtain ⟨e1, e2⟩ := hx 0 (i, v) rfl
    simp only [Nat.add_zero] at e1 e2
    subst e1
    simp only [List.length_cons] at hle
    have hle2 : i * size + size ≤ c0.size := by
      have : i * size + size ≤ (i + (us.length + 1)) * size := by rw [← Nat.succ_mul]; exact Nat.mul_le_mul_right _ (by omega)
      omega
    obtain ⟨f1, f2⟩ := fold_cells (i * size) v.cells.toList 0 c0 (by rw [Array.length_toList, e2]; omega)
    simp only [Nat.add_zero, Array.length_toList, e2] at f1 f2
    have hfold : (v.cells.zipIdx.foldl (fun cs (c, j) => cs.setIfInBounds (i * size + j) c) c0) = ((v.cells.toList.zipIdx 0).foldl (fun cs (p : Value × Nat) => cs.setIfInBounds (i * size + p.2) p.1) c0) := by
      rw [← Array.foldl_toList]
      simp
    obtain ⟨c, g1, g2, g3, g4⟩ := ih (i + 1) (v.cells.zipIdx.foldl (fun cs (c, j) => cs.setIfInBounds (i * size + j) c) c0) (fun j x hj => by
      have := hx (j + 1) x (by simpa using hj)
      exact ⟨by omega, this.2⟩) (by rw [hfold, f1]; rw [show i + 1 + us.length = i + (us.length + 1) by omega]; exact hle)
    refine ⟨c, ?_, by rw [g2, hfold, f1], ?_, fun j => ?_⟩
    · simp only [Instr.fill]
      rw [if_neg (by simp only [e2]; simp; omega)]
      exact g1
    · simp only [List.flatMap_cons, List.length_append, Array.length_toList, e2, g3, List.length_cons]
      rw [Nat.succ_mul]; omega
    · rw [g4, hfold, f2]
      simp only [List.length_cons, List.flatMap_cons]
      have m1 : (i + 1) * size = i * size + size := Nat.succ_mul _ _
      have m3 : (i + 1 + us.length) * size = (i + 1) * size + us.length * size := Nat.add_mul _ _ _
      have m2 : (i + (us.length + 1)) * size = (i + 1 + us.length) * size := by rw [show i + (us.length + 1) = i + 1 + us.length by omega]
      by_cases h1 : (i + 1) * size ≤ j ∧ j < (i + 1 + us.length) * size
      · rw [if_pos h1, if_pos (by omega), List.getElem?_append_right (by rw [Array.length_toList, e2]; omega), Array.length_toList, e2]
        congr 1
        omega
      · rw [if_neg h1]
        by_cases h2 : i * size ≤ j ∧ j < i * size + size
        · rw [if_pos h2, if_pos (by omega), List.getElem?_append_left (by rw [Array.length_toList, e2]; omega)]
        · rw [if_neg h2, if_neg (by omega)]

theorem isNums_spec {cs : List Cell} {k : IntKind} {xs : List Nat} (h : isNums cs k = some xs) : cs = xs.map (Cell.nat k) := by
  induction cs generalizing xs with
  | nil => simp only [isNums, Option.some.injEq] at h; subst h; rfl
  | cons c cs ih =>
    cases c <;> simp only [isNums, reduceCtorEq] at h
    rename_i k' x
    split at h
    · rename_i hk
      have hk := kindEq_eq hk
      subst hk
      split at h
      · rename_i l hl
        simp only [Option.some.injEq] at h
        subst h
        rw [ih hl]; rfl
      · cases h
    · cases h
theorem isInts_spec {cs : List Cell} {k : IntKind} {xs : List Int} (h : isInts cs k = some xs) : cs = xs.map (Cell.int k) := by
  induction cs generalizing xs with
  | nil => simp only [isInts, Option.some.injEq] at h; subst h; rfl
  | cons c cs ih =>
    cases c <;> simp only [isInts, reduceCtorEq] at h
    rename_i k' x
    split at h
    · rename_i hk
      have hk := kindEq_eq hk
      subst hk
      split at h
      · rename_i l hl
        simp only [Option.some.injEq] at h
        subst h
        rw [ih hl]; rfl
      · cases h
    · cases h
theorem isStrs_spec {cs : List Cell} {xs : List (List Nat)} (h : isStrs cs = some xs) : cs = xs.map Cell.str := by
  induction cs generalizing xs with
  | nil => simp only [isStrs, Option.some.injEq] at h; subst h; rfl
  | cons c cs ih =>
    cases c <;> simp only [isStrs, reduceCtorEq] at h
    split at h
    · rename_i l hl
      simp only [Option.some.injEq] at h
      subst h
      rw [ih hl]; rfl
    · cases h
theorem scalars_spec {l : List V1} {cs : List Cell} (h : scalars l = some cs) : l = cs.map V1.cell := by
  induction l generalizing cs with
  | nil => simp only [scalars, Option.some.injEq] at h; subst h; rfl
  | cons v l ih =>
    cases v <;> simp only [scalars, reduceCtorEq] at h
    split at h
    · rename_i q hq
      simp only [Option.some.injEq] at h
      subst h
      rw [ih hq]; rfl
    · cases h
theorem getCell_ones (cs : List Cell) (j : Nat) : getCell (concatSegs (cs.map V1.cell)) j = cs[j]? := by
  induction cs generalizing j with
  | nil => rfl
  | cons c cs ih =>
    simp only [List.map_cons, concatSegs, V1.segs, List.singleton_append]
    rw [getCell_cons]
    cases j with
    | zero => simp [Seg.len, Seg.cell]
    | succ j =>
      have e1 : (Seg.one c).len = 1 := rfl
      rw [e1, if_neg (by omega)]
      simpa using ih j
theorem segsLen_ones (cs : List Cell) : segsLen (concatSegs (cs.map V1.cell)) = cs.length := by
  induction cs with
  | nil => rfl
  | cons c cs ih => simp only [List.map_cons, concatSegs, V1.segs, List.singleton_append, segsLen, Seg.len, ih, List.length_cons]; omega

theorem rowSegs_spec {tk : TK} {n : Nat} {vs : List V1} {q : List Seg} (h : rowSegs tk n vs = some q) (hn : n = vs.length) :
    segsLen q = segsLen (concatSegs vs) ∧ (segsWf (concatSegs vs) → segsWf q) ∧ ∀ j, getCell q j = getCell (concatSegs vs) j := by
  have num : ∀ {α : Type} (xs : List α) (d : α) (mk : Nat → List α → Seg) (cl : α → Cell), (∀ n l, (mk n l).len = n) → (∀ n l, (mk n l).wf ↔ l.length = n) → (∀ n l j, (mk n l).cell j = cl (l.getD j d)) →
      ∀ cs, vs = cs.map V1.cell → cs = xs.map cl → q = [mk n xs] → segsLen q = segsLen (concatSegs vs) ∧ (segsWf (concatSegs vs) → segsWf q) ∧ ∀ j, getCell q j = getCell (concatSegs vs) j := by
    intro α xs d mk cl m1 m2 m3 cs e1 e2 e3
    subst e1; subst e2; subst e3
    have hn' : n = xs.length := by simpa using hn
    refine ⟨by rw [segsLen_ones]; simp [segsLen, m1, hn'], fun _ => segsWf_cons.2 ⟨(m2 _ _).2 hn'.symm, segsWf_nil⟩, fun j => ?_⟩
    rw [getCell_ones, getCell_cons, m1]
    by_cases hj : j < n
    · rw [if_pos hj, m3, List.getElem?_map, List.getElem?_eq_getElem (by omega), List.getD_eq_getElem?_getD, List.getElem?_eq_getElem (by omega)]
      rfl
    · rw [if_neg hj, List.getElem?_eq_none (by simp; omega)]
      rfl
  unfold rowSegs at h
  split at h
  · split at h
    · rename_i cs hcs
      have e1 := scalars_spec hcs
      split at h
      all_goals
        split at h
        · rename_i xs hxs
          simp only [Option.some.injEq] at h
          first
            | exact num xs 0 (Seg.nums _) (Cell.nat _) (fun _ _ => rfl) (fun _ _ => Iff.rfl) (fun _ _ _ => rfl) cs e1 (isNums_spec hxs) h.symm
            | exact num xs 0 (Seg.ints _) (Cell.int _) (fun _ _ => rfl) (fun _ _ => Iff.rfl) (fun _ _ _ => rfl) cs e1 (isInts_spec hxs) h.symm
        · cases h
    · cases h
  · split at h
    · rename_i cs hcs
      have e1 := scalars_spec hcs
      split at h
      · rename_i xs hxs
        simp only [Option.some.injEq] at h
        exact num xs [] Seg.strs Cell.str (fun _ _ => rfl) (fun _ _ => Iff.rfl) (fun _ _ _ => rfl) cs e1 (isStrs_spec hxs) h.symm
      · cases h
    · cases h
  · simp only [Option.some.injEq] at h
    subst h
    exact ⟨rfl, id, fun _ => rfl⟩

theorem inOrder_spec {i : Nat} {ps : List (Nat × V1)} {vs : List V1} (h : inOrder i ps = some vs) : ps.map (·.2) = vs ∧ ∀ (j : Nat) p, ps[j]? = some p → p.1 = i + j := by
  induction ps generalizing i vs with
  | nil => simp only [inOrder, Option.some.injEq] at h; subst h; exact ⟨rfl, fun j p hp => by simp at hp⟩
  | cons p ps ih =>
    obtain ⟨i0, v⟩ := p
    simp only [inOrder] at h
    split at h
    · rename_i hi
      have hi := beq_true hi
      split at h
      · rename_i l hl
        simp only [Option.some.injEq] at h
        subst h
        obtain ⟨h1, h2⟩ := ih hl
        refine ⟨by simp [h1], fun j p hp => ?_⟩
        cases j with
        | zero => simp at hp; subst hp; omega
        | succ j => have := h2 j p (by simpa using hp); omega
      · cases h
    · cases h

section
variable {P : Program} {T : Tys} {O : Orc} {N : Nat} {S : Nat → Prop} {ρ : Map} {h : Heap} {w : World} {e : Operand → Option AV} {a : Act} {R : Type} {r : R} {sid : Nat} {fr : Bool} {k : AV → Heap → List Nat → Option R}

theorem concat_sound {vs : List V1} {us : List Value} (hl : us.length = vs.length) (hu : ∀ (i : Nat) p x, vs[i]? = some p → us[i]? = some x → RV1 ρ p x ∧ p.ok = true) :
    RSegs ρ (concatSegs vs) (us.flatMap fun x => x.cells.toList) := by
  induction vs generalizing us with
  | nil =>
    have : us = [] := List.length_eq_zero_iff.1 (by simpa using hl)
    subst this
    exact ⟨rfl, segsWf_nil, fun j c q hc => by simp [concatSegs, getCell] at hc⟩
  | cons v vs ih =>
    cases us with
    | nil => simp at hl
    | cons u us =>
      obtain ⟨h1, h2⟩ := hu 0 v u rfl rfl
      simp only [concatSegs, List.flatMap_cons]
      exact RSegs_append (RV1_cells h1 h2).1 (ih (by simpa using hl) (fun i p x hp hx => hu (i + 1) p x (by simpa using hp) (by simpa using hx)))

theorem concat_free {vs : List V1} (h : ∀ v ∈ vs, v.mentions sid = false) : anyB (Seg.mentions sid) (concatSegs vs) = false := by
  induction vs with
  | nil => rfl
  | cons v vs ih =>
    simp only [concatSegs]
    have h1 : anyB (Seg.mentions sid) v.segs = false := free_of (sid := sid) (u := undef) (hp := []) (h v List.mem_cons_self)
    have h2 := ih (fun x hx => h x (List.mem_cons_of_mem _ hx))
    generalize v.segs = l at h1
    induction l with
    | nil => exact h2
    | cons s l ihl =>
      simp only [List.cons_append, anyB] at h1 ⊢
      split at h1
      · cases h1
      · exact ihl h1

theorem rowSegs_free {tk : TK} {n : Nat} {vs : List V1} {q : List Seg} (h : rowSegs tk n vs = some q) (hv : ∀ v ∈ vs, v.mentions sid = false) : anyB (Seg.mentions sid) q = false := by
  unfold rowSegs at h
  split at h
  · split at h
    · split at h
      all_goals
        split at h
        · simp only [Option.some.injEq] at h
          subst h
          rfl
        · cases h
    · cases h
  · split at h
    · split at h
      · simp only [Option.some.injEq] at h
        subst h
        rfl
      · cases h
    · cases h
  · simp only [Option.some.injEq] at h
    subst h
    exact concat_free hv

theorem buildSlice_sound (hT : TyOK P T) (hr : HR N S ρ h w) (hfr : fr = true → lk sid h = none ∧ heapFree sid h = true) (he : ER ρ e a) (hm : fr = true → NoMen sid e) {t : TypeId} {ty te : Ty} (ht : T t = some ty) (htk : ty.tk = .slice) (hte : T ty.elem = some te) {n : Nat} {parts : Array (Nat × Operand)} {ps : List (Nat × V1)} {vs : List V1} {q : List Seg}
    (hp : partsOf e parts.toList = some ps) (hord : inOrder 0 ps = some vs) (hn : n = vs.length) (hmax : n * te.size ≤ 16777216) (hq : rowSegs te.tk n vs = some q) (hql : segsLen q = n * te.size)
    (hone : ∀ v ∈ vs, segsLen v.segs = te.size) (hts : 1 ≤ te.size) (hk : newBlk sid h fr ⟨q, ty.elem, 2⟩ k (.v (.cell (.sl sid none n te.size))) = some r) :
    ∃ v h' mv, k v h' mv = some r ∧ Good P N S ρ sid fr mv v h' w ((do pure (.value (← Instr.buildSlice t n (parts.map fun (i, x) => (i, a.eval x)))) : Sem Next).run P w) := by
  obtain ⟨hf, hk⟩ := newBlk_some hk
  refine ⟨_, _, _, hk, ?_⟩
  obtain ⟨p1, p2⟩ := partsOf_sound he hp
  obtain ⟨o1, o2⟩ := inOrder_spec hord
  obtain ⟨ie, de, hie, hde, hse, hbe, _, z, hz, hzr, hzs, hzok, hzm⟩ := hT.ok _ te hte
  have hu : (underlying t).run P w = .ok (.slice ty.elem) w := by simp [underlying, und_slice hT ht htk]
  have hlist : (parts.map fun (i, x) => (i, a.eval x)).toList = parts.toList.map fun p => (p.1, a.eval p.2) := by simp
  obtain ⟨us, hus⟩ : ∃ us, (parts.toList.map fun p => (p.1, a.eval p.2)) = us := ⟨_, rfl⟩
  rw [hus] at p1 p2 hlist
  have hvl : vs.length = ps.length := by rw [← o1]; simp
  have hul : us.length = n := by omega
  have hget : ∀ (i : Nat) x, us[i]? = some x → ∃ p, ps[i]? = some p ∧ vs[i]? = some p.2 ∧ x.1 = i ∧ RV1 ρ p.2 x.2 ∧ p.2.ok = true := by
    intro i x hx
    have hi : i < us.length := (List.getElem?_eq_some_iff.1 hx).1
    have hps : ps[i]? = some (ps[i]'(by omega)) := List.getElem?_eq_getElem (by omega)
    obtain ⟨g1, g2, g3⟩ := p2 i _ x hps hx
    refine ⟨_, hps, ?_, by rw [g1, o2 i _ hps]; omega, g2, g3⟩
    rw [← o1, List.getElem?_map, hps]; rfl
  have hcells : ∀ (i : Nat) x, us[i]? = some x → x.1 = 0 + i ∧ x.2.cells.size = te.size := by
    intro i x hx
    obtain ⟨p, _, g2, g3, g4, g5⟩ := hget i x hx
    exact ⟨by omega, by rw [(RV1_cells g4 g5).2]; exact hone _ (List.mem_of_getElem? g2)⟩
  obtain ⟨c, hc0, hc1⟩ : ∃ c : Array Value, (n * te.size = 0 → c = #[]) ∧ (n * te.size ≠ 0 → c = z.cells) := by
    by_cases h0 : n * te.size = 0
    · exact ⟨#[], fun _ => rfl, fun h => absurd h0 h⟩
    · exact ⟨z.cells, fun h => absurd h h0, fun _ => rfl⟩
  obtain ⟨zs, hzs'⟩ : ∃ zs : Array Value, zs = (Array.range (n * te.size)).map (c[· % c.size]!) := ⟨_, rfl⟩
  obtain ⟨cs, f1, f2, f3, f4⟩ := fill_row te.size us 0 zs hcells (by rw [hzs', hul]; simp)
  have hzl : zs.size = n * te.size := by rw [hzs']; simp
  have hrun : ((do pure (.value (← Instr.buildSlice t n (parts.map fun (i, x) => (i, a.eval x)))) : Sem Next).run P w) = .ok (.value (.slice (some ⟨w.heap.size, 0, none⟩) n n)) (w.alloc (.cells cs ty.elem)) := by
    have hle : ¬ (n * te.size > 2 ^ 24) := by simp; omega
    have hzv : (zeroValue ty.elem).run P w = .ok z w := by simp [zeroValue, typeInfo, hie, hz]
    simp only [Instr.buildSlice, Sem.run_bind, hu, Result.andThen_ok, run_sizeOf hT hte, if_neg hle, Sem.run_pure]
    by_cases h0 : n * te.size = 0
    · have e0 := hc0 h0
      subst e0
      simp only [if_pos h0, Sem.run_bind, Sem.run_pure, Result.andThen_ok, ← hzs', hlist, f1, newRow, run_newObj]
      rfl
    · have e0 := hc1 h0
      subst e0
      simp only [if_neg h0, Sem.run_bind, hzv, Sem.run_pure, Result.andThen_ok, ← hzs', hlist, f1, newRow, run_newObj]
      rfl
  rw [hrun]
  have hcs : cs.toList = us.flatMap fun x => x.2.cells.toList := by
    apply List.ext_getElem?
    intro j
    have := f4 j
    simp only [Nat.zero_mul, Nat.zero_le, true_and, Nat.zero_add, Nat.sub_zero] at this
    rw [Array.getElem?_toList, this]
    by_cases hj : j < us.length * te.size
    · rw [if_pos hj]
    · rw [if_neg hj, Array.getElem?_eq_none (by rw [hzl, ← hul]; omega), List.getElem?_eq_none (by rw [f3]; omega)]
  have hrow : RSegs ρ q cs.toList := by
    have h1 := concat_sound (ρ := ρ) (vs := vs) (us := us.map (·.2)) (by simp; omega) (fun i p x hp hx => by
      rw [List.getElem?_map] at hx
      cases hux : us[i]? with
      | none => rw [hux] at hx; cases hx
      | some y =>
        rw [hux] at hx
        simp only [Option.map_some, Option.some.injEq] at hx
        subst hx
        obtain ⟨p', _, g2, _, g4, g5⟩ := hget i y hux
        rw [hp] at g2
        simp only [Option.some.injEq] at g2
        subst g2
        exact ⟨g4, g5⟩)
    obtain ⟨r1, r2, r3⟩ := rowSegs_spec hq hn
    rw [hcs]
    rw [List.flatMap_map] at h1
    exact ⟨by rw [h1.1, r1], r2 h1.2.1, fun j c v hc hv => h1.2.2 j c v (by rw [← r3]; exact hc) hv⟩
  have hcsz : cs.size = n * te.size := by rw [f2, hzl]
  refine Good.new (cur := cs) (fz := (0, 0)) (n := n * te.size) hr hfr hf rfl rfl rfl rfl ?_ (rowSegs_free hq (fun v hv => by
    rw [← o1] at hv
    obtain ⟨p, hp', rfl⟩ := List.mem_map.1 hv
    exact partsOf_men (hm hf) hp p hp')) hql.symm (by omega) (fun i _ hi => by simp at hi) (fun _ => rfl) ?_
  · have := RSegs_take hrow
    rw [hql] at this
    exact this
  · refine .inr ⟨_, ⟨w.heap.size, 0, none⟩, n, setMap_self _ _ _, rfl, Nat.le_refl _, ?_, rfl, fun _ => by simp [offO], by simp [offO], by simp [offO, hcsz]⟩
    have : n ≤ n * te.size := Nat.le_mul_of_pos_right n hts
    simp only [maxLen]; omega

end
end Go.Sx
