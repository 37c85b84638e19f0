import Derived.Test.YtkomlijabeedpaaDoorSxL
namespace Go.Sx

section
variable {P : Program} {T : Tys} {O : Orc} {N : Nat} {S : Nat → Prop} {ρ : Map} {h : Heap} {w : World} {e : Operand → Option AV} {a : Act} {R : Type} {r : R} {sid : Nat} {fr : Bool} {k : AV → Heap → List Nat → Option R}

theorem newBlk_some {blk : Blk} {v : AV} (hk : newBlk sid h fr blk k v = some r) : fr = true ∧ k v ((sid, blk) :: h) [] = some r := by
  unfold newBlk at hk
  split at hk
  · exact ⟨rfl, hk⟩
  · cases hk

theorem RSegs_take {segs : List Seg} {vs : List Value} (h : RSegs ρ segs vs) : RSegs ρ segs (vs.take (segsLen segs)) := by
  rw [List.take_of_length_le (by rw [h.1]; exact Nat.le_refl _)]
  exact h

theorem RC_ptr0 {L : Loc} (hL : ρ sid = some L) (hq : L.q = 0) : RV ρ (.v (.cell (.ptr sid 0 none))) (.pointer (some ⟨L.g, 0, none⟩)) :=
  ⟨L, hL, by simp [hq]⟩

theorem alloc_sound (hT : TyOK P T) (hr : HR N S ρ h w) (hfr : fr = true → lk sid h = none ∧ heapFree sid h = true) {t : TypeId} {ty : Ty} (ht : T t = some ty)
    (hk : newBlk sid h fr ⟨ty.zero.segs, t, 1⟩ k (.v (.cell (.ptr sid 0 none))) = some r) :
    ∃ v h' mv, k v h' mv = some r ∧ Good P N S ρ sid fr mv v h' w ((do pure (.value (← Instr.alloc t true (.tuple #[]))) : Sem Next).run P w) := by
  obtain ⟨hf, hk⟩ := newBlk_some hk
  obtain ⟨i, d, hi, _, hsz, _, _, z, hz, hzr, hzs, hzok, hzm⟩ := hT.ok t ty ht
  obtain ⟨hcells, hcl⟩ := RV1_cells hzr hzok
  refine ⟨_, _, _, hk, ?_⟩
  have hrun : ((do pure (.value (← Instr.alloc t true (.tuple #[]))) : Sem Next).run P w) = .ok (.value (.pointer (some ⟨w.heap.size, 0, none⟩))) (w.alloc (.cells z.cells t)) := by
    simp [Instr.alloc, zeroValue, typeInfo, hi, hz, newVar, newRow]
  rw [hrun]
  refine Good.new (cur := z.cells) (fz := (0, 0)) (n := segsLen ty.zero.segs) hr hfr hf rfl rfl rfl rfl ?_ (free_of (u := z) (hp := h) (hzm sid)) rfl (by omega) (fun i _ hi => by simp at hi) (fun h => by cases h) (RC_ptr0 (setMap_self _ _ _) rfl)
  have := RSegs_agree (ρ' := ρ) (fun b hb => by
    have := hzm b
    have h2 : anyB (Seg.mentions b) ty.zero.segs = false := free_of (sid := b) (u := z) (hp := h) this
    rw [h2] at hb; cases hb) hcells
  exact RSegs_take this

theorem box_sound (hr : HR N S ρ h w) (hfr : fr = true → lk sid h = none ∧ heapFree sid h = true) {t : TypeId} {x : V1} {u : Value} (hx : RV1 ρ x u) (hok : x.ok = true) (hm : fr = true → x.mentions sid = false)
    (hk : newBlk sid h fr ⟨x.segs, t, 1⟩ k (.v (.cell (.ptr sid 0 none))) = some r) :
    ∃ v h' mv, k v h' mv = some r ∧ Good P N S ρ sid fr mv v h' w ((do pure (.value (← Instr.box t u)) : Sem Next).run P w) := by
  obtain ⟨hf, hk⟩ := newBlk_some hk
  obtain ⟨hcells, hcl⟩ := RV1_cells hx hok
  refine ⟨_, _, _, hk, ?_⟩
  have hrun : ((do pure (.value (← Instr.box t u)) : Sem Next).run P w) = .ok (.value (.pointer (some ⟨w.heap.size, 0, none⟩))) (w.alloc (.cells u.cells t)) := by
    simp [Instr.box, newVar, newRow]
  rw [hrun]
  exact Good.new (cur := u.cells) (fz := (0, 0)) (n := segsLen x.segs) hr hfr hf rfl rfl rfl rfl (RSegs_take hcells) (free_of (u := u) (hp := h) (hm hf)) rfl (by omega) (fun i _ hi => by simp at hi) (fun h => by cases h) (RC_ptr0 (setMap_self _ _ _) rfl)

theorem partsOf_sound (he : ER ρ e a) {l : List (Nat × Operand)} {ps : List (Nat × V1)} (h : partsOf e l = some ps) :
    (l.map fun p => (p.1, a.eval p.2)).length = ps.length ∧ ∀ (i : Nat) p x, ps[i]? = some p → (l.map fun p => (p.1, a.eval p.2))[i]? = some x → x.1 = p.1 ∧ RV1 ρ p.2 x.2 ∧ p.2.ok = true := by
  induction l generalizing ps with
  | nil =>
    simp only [partsOf, Option.some.injEq] at h
    subst h
    exact ⟨rfl, fun i p x hp => by simp at hp⟩
  | cons q l ih =>
    obtain ⟨i0, x0⟩ := q
    simp only [partsOf] at h
    split at h
    · rename_i v hv
      split at h
      · rename_i hok
        split at h
        · rename_i ps' hps
          simp only [Option.some.injEq] at h
          subst h
          obtain ⟨h1, h2⟩ := ih hps
          refine ⟨by simpa using h1, fun i p x hp hx => ?_⟩
          cases i with
          | zero =>
            simp at hp hx
            subst hp; subst hx
            exact ⟨rfl, he _ _ hv, hok⟩
          | succ i => exact h2 i p x (by simpa using hp) (by simpa using hx)
        · cases h
      · cases h
    · cases h

theorem partsOf_men {l : List (Nat × Operand)} {ps : List (Nat × V1)} (hm : NoMen sid e) (h : partsOf e l = some ps) : ∀ p ∈ ps, p.2.mentions sid = false := by
  induction l generalizing ps with
  | nil =>
    simp only [partsOf, Option.some.injEq] at h
    subst h
    exact fun p hp => by cases hp
  | cons q l ih =>
    obtain ⟨i0, x0⟩ := q
    simp only [partsOf] at h
    split at h
    · rename_i v hv
      split at h
      · split at h
        · rename_i ps' hps
          simp only [Option.some.injEq] at h
          subst h
          intro p hp
          cases hp with
          | head => exact hm _ _ hv
          | tail _ hp => exact ih hps p hp
        · cases h
      · cases h
    · cases h

theorem run_mapM_sizes (l : List Field) (hl : ∀ f ∈ l, (P.info? f.type).isSome = true) (w : World) :
    (l.mapM fun f => do pure (f.offset, ← sizeOf f.type) : Sem (List (Nat × Nat))).run P w = .ok (l.map fun f => (f.offset, P.cellsOf f.type)) w := by
  induction l with
  | nil => rfl
  | cons f l ih =>
    obtain ⟨i, hi⟩ := Option.isSome_iff_exists.1 (hl f List.mem_cons_self)
    simp only [List.mapM_cons, Sem.run_bind]
    have hs : (sizeOf f.type).run P w = .ok i.size w := by simp [sizeOf, typeInfo, hi]
    simp only [hs, Result.andThen_ok, Sem.run_pure, ih (fun g hg => hl g (List.mem_cons_of_mem _ hg)), List.map_cons]
    simp [Program.cellsOf, hi]

theorem build_sound (hT : TyOK P T) (he : ER ρ e a) {t : TypeId} {ty : Ty} (ht : T t = some ty) (hagg : isAggT ty.tk = true) {parts : Array (Nat × Operand)} {ps : List (Nat × V1)} {q : List Seg} (hp : partsOf e parts.toList = some ps) (hb : buildE T ty ty.zero.segs ps = some q) :
    ∃ u, (Instr.build t (parts.map fun (i, x) => (i, a.eval x))).run P w = .ok u w ∧ RV1 ρ (.agg q) u := by
  obtain ⟨i, d, hi, hd, hsz, _, hdesc, z, hz, hzr, hzs, hzok, hzm⟩ := hT.ok t ty ht
  obtain ⟨hcells, hcl⟩ := RV1_cells hzr hzok
  have hcells' : RSegs ρ ty.zero.segs z.cells.toList := RSegs_agree (fun b hb => by
    have h2 : anyB (Seg.mentions b) ty.zero.segs = false := free_of (sid := b) (u := z) (hp := []) (hzm b)
    rw [h2] at hb; cases hb) hcells
  obtain ⟨p1, p2⟩ := partsOf_sound he hp
  have hzv : (zeroValue t).run P w = .ok z w := by simp [zeroValue, typeInfo, hi, hz]
  have hu : (underlying t).run P w = .ok d w := by simp [underlying, hd]
  have hlist : (parts.map fun (i, x) => (i, a.eval x)).toList = parts.toList.map fun p => (p.1, a.eval p.2) := by simp
  cases htk : ty.tk <;> rw [htk] at hagg <;> try (cases hagg; done)
  · -- an array
    have hd' : d = .array ty.len ty.elem := by unfold DescOK at hdesc; rw [htk] at hdesc; exact hdesc
    subst hd'
    by_cases hel : ∃ ety, T ty.elem = some ety
    · obtain ⟨ety, hety⟩ := hel
      obtain ⟨cs', g1, g2⟩ := buildE_sound hT ht hb hcells' p1 p2 (fun i => some (i * ety.size, ety.size)) (fun i => by rw [htk]; simp only [hety])
      refine ⟨.agg cs', ?_, ⟨cs', rfl, g2⟩⟩
      simp only [Instr.build, Sem.run_bind, hzv, hu, Result.andThen_ok, run_sizeOf hT hety, hlist, g1]
      rfl
    · have hps : ps = [] := by
        cases ps with
        | nil => rfl
        | cons p ps =>
          obtain ⟨i0, v0⟩ := p
          simp only [buildE, htk] at hb
          split at hb
          · rename_i ety hety; exact absurd ⟨ety, hety⟩ hel
          · cases hb
      subst hps
      simp only [buildE, Option.some.injEq] at hb
      subst hb
      have hnil : parts.toList.map (fun p => (p.1, a.eval p.2)) = [] := List.length_eq_zero_iff.1 p1
      refine ⟨.agg z.cells, ?_, ⟨z.cells, rfl, hcells'⟩⟩
      have hfl := hT.el t ty ht htk
      obtain ⟨ie, hie⟩ := Option.isSome_iff_exists.1 hfl
      have hse : (sizeOf ty.elem).run P w = .ok ie.size w := by simp [sizeOf, typeInfo, hie]
      simp only [Instr.build, Sem.run_bind, hzv, hu, Result.andThen_ok, hse, hlist, hnil, Instr.fill]
      rfl
  · -- a struct
    have hd' : ∃ fs, d = .struct fs ∧ ∀ i, (fs[i]?).map (fun f => (f.offset, f.type)) = buildE.lk2 i ty.flds := by unfold DescOK at hdesc; rw [htk] at hdesc; exact hdesc
    obtain ⟨fs, rfl, hfs⟩ := hd'
    have hall : ∀ f ∈ fs.toList, (P.info? f.type).isSome = true := by
      intro f hf
      obtain ⟨i, hi', rfl⟩ := List.mem_iff_getElem.1 hf
      have h3 := hfs i
      have hfi : fs[i]? = some fs.toList[i] := by rw [← Array.getElem?_toList]; exact List.getElem?_eq_getElem hi'
      rw [hfi, lk2_get] at h3
      simp only [Option.map_some] at h3
      exact hT.fld t ty ht _ (List.mem_of_getElem? h3.symm)
    have hmap : (fs.mapM fun f => do pure (f.offset, ← sizeOf f.type) : Sem (Array (Nat × Nat))).run P w = .ok (fs.map fun f => (f.offset, P.cellsOf f.type)) w := by
      rw [Array.mapM_eq_mapM_toList]
      simp only [Sem.run_map, run_mapM_sizes _ hall, Result.andThen_ok]
      congr 1
      apply Array.ext'
      simp
    obtain ⟨cs', g1, g2⟩ := buildE_sound hT ht hb hcells' p1 p2 (fun i => (fs.map fun f => (f.offset, P.cellsOf f.type))[i]?) (fun i => by
      rw [htk]
      simp only
      have h3 := hfs i
      cases hlk : buildE.lk2 i ty.flds with
      | none =>
        rw [hlk] at h3
        simp only [Option.map_eq_none_iff] at h3
        simp [h3]
      | some pr =>
        obtain ⟨off, ft⟩ := pr
        rw [hlk] at h3
        simp only
        cases hfi : fs[i]? with
        | none => rw [hfi] at h3; cases h3
        | some f =>
          rw [hfi] at h3
          simp only [Option.map_some, Option.some.injEq, Prod.mk.injEq] at h3
          cases hft : T ft with
          | none => rfl
          | some fty =>
            obtain ⟨i', _, hi', _, hs', _⟩ := hT.ok ft fty hft
            simp only [Array.getElem?_map, hfi, Option.map_some, h3.1, h3.2]
            simp [Program.cellsOf, hi', hs'])
    refine ⟨.agg cs', ?_, ⟨cs', rfl, g2⟩⟩
    simp only [Instr.build, Sem.run_bind, hzv, hu, Result.andThen_ok, hmap, hlist, g1]
    rfl

end
end Go.Sx
