import Derived.Test.YtkomlijabeedpaaDoorSxI
import Derived.Deep.AppendSrc
namespace Go.Sx

section
variable {P : Program} {T : Tys} {N : Nat} {S : Nat → Prop} {ρ : Map} {h : Heap} {w : World} {e : Operand → Option AV} {a : Act} {R : Type} {r : R}

theorem segsInval_len (b : Nat) (l : List Seg) : segsLen (segsInval b l) = segsLen l := by
  induction l with
  | nil => rfl
  | cons s r ih =>
    simp only [segsInval, segsLen, ih]
    congr 1
    cases s with
    | one c => simp only [Seg.inval]; split <;> rfl
    | _ => rfl
theorem segsInval_wf (b : Nat) (l : List Seg) (h : segsWf l) : segsWf (segsInval b l) := by
  induction l with
  | nil => exact segsWf_nil
  | cons s r ih =>
    have h' := segsWf_cons.1 h
    refine segsWf_cons.2 ⟨?_, ih h'.2⟩
    cases s with
    | one c => simp only [Seg.inval]; split <;> trivial
    | _ => exact h'.1
theorem segsInval_cell (b : Nat) (l : List Seg) (j : Nat) (c : Cell) (h : getCell (segsInval b l) j = some c) : c = .top ∨ getCell l j = some c := by
  induction l generalizing j with
  | nil => exact .inr h
  | cons s r ih =>
    simp only [segsInval] at h
    rw [getCell_cons] at h ⊢
    have hl : (s.inval b).len = s.len := by
      cases s with
      | one c => simp only [Seg.inval]; split <;> rfl
      | _ => rfl
    rw [hl] at h
    by_cases hj : j < s.len
    · rw [if_pos hj] at h ⊢
      cases s with
      | one c' =>
        simp only [Seg.inval] at h
        split at h
        · simp only [Seg.cell, Option.some.injEq] at h; exact .inl h.symm
        · exact .inr h
      | _ => exact .inr h
    · rw [if_neg hj] at h ⊢
      exact ih _ h
theorem segsInval_free (b : Nat) (l : List Seg) : anyB (Seg.mentions b) (segsInval b l) = false := by
  induction l with
  | nil => rfl
  | cons s r ih =>
    simp only [segsInval, anyB]
    have : Seg.mentions b (s.inval b) = false := by
      cases s with
      | one c =>
        simp only [Seg.inval]
        split
        · rfl
        · rename_i hm; exact hm
      | _ => rfl
    rw [this]
    exact ih

theorem lk_hdel (b t : Nat) (h : Heap) : lk t (hdel b h) = if t = b then none else (lk t h).map fun x => ⟨segsInval b x.segs, x.ty, x.own⟩ := by
  induction h with
  | nil => simp [hdel, lk]
  | cons p r ih =>
    obtain ⟨i, x⟩ := p
    unfold hdel
    split
    · rename_i hb
      have hb := beq_true hb
      subst hb
      rw [ih, lk_cons]
      by_cases ht : t = i
      · rw [if_pos ht, if_pos ht]
      · rw [if_neg ht, if_neg ht, if_neg (Ne.symm ht)]
    · rename_i hb
      have hb := beq_false hb
      rw [lk_cons, ih, lk_cons]
      by_cases ht : t = b
      · rw [if_pos ht, if_pos ht, if_neg (by omega)]
      · rw [if_neg ht, if_neg ht]
        by_cases hit : i = t
        · rw [if_pos hit, if_pos hit]; rfl
        · rw [if_neg hit, if_neg hit]

theorem HR_del (hr : HR N S ρ h w) (b : Nat) : HR N S ρ (hdel b h) w := by
  have get : ∀ c y, lk c (hdel b h) = some y → c ≠ b ∧ ∃ x, lk c h = some x ∧ y = ⟨segsInval b x.segs, x.ty, x.own⟩ := by
    intro c y hy
    rw [lk_hdel] at hy
    split at hy
    · cases hy
    · rename_i hc
      cases hx : lk c h with
      | none => rw [hx] at hy; cases hy
      | some x =>
        rw [hx] at hy
        simp only [Option.map_some, Option.some.injEq] at hy
        exact ⟨hc, x, rfl, hy.symm⟩
  refine ⟨hr.low, fun c y hy => ?_, fun c d y z L M hc hd hL hM hne ho => ?_⟩
  · obtain ⟨hc, x, hx, rfl⟩ := get c y hy
    rcases hr.blk c x hx with ⟨h1, h2, h3, h4⟩ | ⟨L, cur, fz, h1, h2, h3, h4, h5, h6, h7⟩
    · exact .inl ⟨h1, h2, by simpa [segsInval_len] using h3, segsInval_wf _ _ h4⟩
    · refine .inr ⟨L, cur, fz, h1, h2, by simpa [segsInval_len] using h3, h4, h5, ⟨by simpa [segsInval_len] using h6.1, segsInval_wf _ _ h6.2.1, fun j c' v hc' hv => ?_⟩, h7⟩
      have hone : v.oneCell' = true := by
        obtain ⟨c2, hc2⟩ := getCell_some (l := x.segs) (o := j) (by have := getCell_lt hc'; simpa [segsInval_len] using this)
        exact (h6.2.2 j c2 v hc2 hv).2
      rcases segsInval_cell _ _ _ _ hc' with rfl | h8
      · exact ⟨trivial, hone⟩
      · exact h6.2.2 j c' v h8 hv
  · obtain ⟨_, x, hx, rfl⟩ := get c y hc
    obtain ⟨_, x', hx', rfl⟩ := get d z hd
    exact hr.inj c d x x' L M hx hx' hL hM hne ho

theorem hdel_free (b : Nat) {c : Nat} {y : Blk} (hy : lk c (hdel b h) = some y) : anyB (Seg.mentions b) y.segs = false := by
  rw [lk_hdel] at hy
  split at hy
  · cases hy
  · cases hx : lk c h with
    | none => rw [hx] at hy; cases hy
    | some x =>
      rw [hx] at hy
      simp only [Option.map_some, Option.some.injEq] at hy
      subst hy
      exact segsInval_free _ _

theorem HR_add (hr : HR N S ρ h w) {b : Nat} (hn : lk b h = none) (hf : ∀ c y, lk c h = some y → anyB (Seg.mentions b) y.segs = false) {x : Blk} {L : Loc}
    (hb : BR N S (setMap ρ b L) b x w) (hd : ∀ c y M, lk c h = some y → ρ c = some M → L.g ≠ M.g) : HR N S (setMap ρ b L) ((b, x) :: h) w := by
  have ne : ∀ c y, lk c h = some y → c ≠ b := by
    rintro c y hy rfl
    rw [hn] at hy; cases hy
  have hr' := HR_agree (ρ' := setMap ρ b L) hr (fun c y hy => setMap_ne _ _ (ne c y hy)) (fun c y d hy hm => setMap_ne _ _ (by
    rintro rfl
    rw [hf c y hy] at hm; cases hm))
  refine ⟨hr.low, fun c y hy => ?_, fun c d y z M M' hc hd' hM hM' hne ho => ?_⟩
  · rw [lk_cons] at hy
    split at hy
    · rename_i e
      subst e
      simp only [Option.some.injEq] at hy
      subst hy
      exact hb
    · exact hr'.blk c y hy
  · rw [lk_cons] at hc hd'
    split at hc <;> split at hd'
    · rename_i e1 e2; exact absurd (e1.symm.trans e2) hne
    · rename_i e1 e2
      subst e1
      rw [setMap_self] at hM
      simp only [Option.some.injEq] at hM
      subst hM
      rw [setMap_ne _ _ (Ne.symm e2)] at hM'
      exact hd d z M' hd' hM'
    · rename_i e1 e2
      subst e2
      rw [setMap_self] at hM'
      simp only [Option.some.injEq] at hM'
      subst hM'
      rw [setMap_ne _ _ (Ne.symm e1)] at hM
      exact (hd c y M hc hM).symm
    · exact hr'.inj c d y z M M' hc hd' hM hM' hne ho

theorem HR_allocw (hr : HR N S ρ h w) (o : Obj) : HR N S ρ h (w.alloc o) :=
  ⟨by have := hr.low; simp; omega, fun b x hb => by
    rcases hr.blk b x hb with h1 | ⟨L, cur, fz, h1, h2, h3⟩
    · exact .inl h1
    · exact .inr ⟨L, cur, fz, h1, by rw [allocOld _ _ _ (Array.getElem?_eq_some_iff.1 h2).1]; exact h2, h3⟩, hr.inj⟩

theorem HR_lt (hr : HR N S ρ h w) {c : Nat} {x : Blk} {L : Loc} (hx : lk c h = some x) (hL : ρ c = some L) : L.g < w.heap.size := by
  obtain ⟨cur, fz, hg, _⟩ := hr.real hx hL
  exact (Array.getElem?_eq_some_iff.1 hg).1

theorem joinSegs_spec {segs : List Seg} {o : Option Nat} {sg : Seg} {q : List Seg} {n' : Nat} (h : joinSegs segs o (some sg) = some (q, n')) (hw : segsWf segs) (hg : sg.wf) (ho : offO o ≤ segsLen segs) :
    segsLen q = n' ∧ n' = segsLen segs - offO o + sg.len ∧ segsWf q ∧ (∀ j, j < segsLen segs - offO o → getCell q j = getCell segs (offO o + j)) ∧
      ∀ j, j < sg.len → getCell q (segsLen segs - offO o + j) = some (sg.cell j) := by
  have key : ∀ {α : Type} (l l' : List α) (d : α) (mk : Nat → List α → Seg) (cl : α → Cell), (∀ n l, (mk n l).len = n) → (∀ n l, (mk n l).wf ↔ l.length = n) → (∀ n l j, (mk n l).cell j = cl (l.getD j d)) →
      ∀ n m, segs = [mk n l] → sg = mk m l' → q = [mk (l.drop (offO o) ++ l').length (l.drop (offO o) ++ l')] → n' = (l.drop (offO o) ++ l').length →
      segsLen q = n' ∧ n' = segsLen segs - offO o + sg.len ∧ segsWf q ∧ (∀ j, j < segsLen segs - offO o → getCell q j = getCell segs (offO o + j)) ∧
      ∀ j, j < sg.len → getCell q (segsLen segs - offO o + j) = some (sg.cell j) := by
    intro α l l' d mk cl m1 m2 m3 n m e1 e2 e3 e4
    subst e1; subst e2; subst e3; subst e4
    have hl : l.length = n := (m2 n l).1 (segsWf_cons.1 hw).1
    have hl' : l'.length = m := (m2 m l').1 hg
    have hs : segsLen [mk n l] = n := by simp [segsLen, m1]
    rw [hs] at ho ⊢
    refine ⟨by simp [segsLen, m1], by simp [m1]; omega, segsWf_cons.2 ⟨(m2 _ _).2 rfl, segsWf_nil⟩, fun j hj => ?_, fun j hj => ?_⟩
    · rw [getCell_cons, getCell_cons, m1, m1, if_pos (by simp; omega), if_pos (by omega), m3, m3]
      congr 2
      rw [List.getD_eq_getElem?_getD, List.getD_eq_getElem?_getD, List.getElem?_append_left (by simp; omega), List.getElem?_drop]
    · rw [m1] at hj
      rw [getCell_cons, m1, if_pos (by simp; omega), m3, m3]
      congr 2
      rw [List.getD_eq_getElem?_getD, List.getD_eq_getElem?_getD, List.getElem?_append_right (by simp; omega)]
      congr 2
      simp; omega
  have drop0 : ∀ {α : Type} (l : List α), l = l.drop 0 := fun l => rfl
  unfold joinSegs at h
  split at h
  · rename_i k n l k' m l' e1
    simp only [Option.some.injEq] at e1
    split at h
    · rename_i hk
      have hk := kindEq_eq hk
      subst hk
      split at h <;> simp only [Option.some.injEq, Prod.mk.injEq] at h <;> obtain ⟨rfl, rfl⟩ := h
      · exact key l l' 0 (Seg.nums k) (Cell.nat k) (fun _ _ => rfl) (fun _ _ => Iff.rfl) (fun _ _ _ => rfl) n m rfl e1 rfl rfl
      · exact key l l' 0 (Seg.nums k) (Cell.nat k) (fun _ _ => rfl) (fun _ _ => Iff.rfl) (fun _ _ _ => rfl) n m rfl e1 rfl rfl
    · cases h
  · rename_i k n l k' m l' e1
    simp only [Option.some.injEq] at e1
    split at h
    · rename_i hk
      have hk := kindEq_eq hk
      subst hk
      split at h <;> simp only [Option.some.injEq, Prod.mk.injEq] at h <;> obtain ⟨rfl, rfl⟩ := h
      · exact key l l' 0 (Seg.ints k) (Cell.int k) (fun _ _ => rfl) (fun _ _ => Iff.rfl) (fun _ _ _ => rfl) n m rfl e1 rfl rfl
      · exact key l l' 0 (Seg.ints k) (Cell.int k) (fun _ _ => rfl) (fun _ _ => Iff.rfl) (fun _ _ _ => rfl) n m rfl e1 rfl rfl
    · cases h
  · rename_i n l m l' e1
    simp only [Option.some.injEq] at e1
    split at h <;> simp only [Option.some.injEq, Prod.mk.injEq] at h <;> obtain ⟨rfl, rfl⟩ := h
    · exact key l l' [] Seg.strs Cell.str (fun _ _ => rfl) (fun _ _ => Iff.rfl) (fun _ _ _ => rfl) n m rfl e1 rfl rfl
    · exact key l l' [] Seg.strs Cell.str (fun _ _ => rfl) (fun _ _ => Iff.rfl) (fun _ _ _ => rfl) n m rfl e1 rfl rfl
  · cases h

theorem sliceSeg_sound (hr : HR N S ρ h w) {c : Cell} {v : Value} {sg : Seg} (h1 : sliceSeg h c = some sg) (hc : RC ρ c v) :
    ∃ cs : List Value, RSegs ρ [sg] cs ∧ (∀ w', (Builtin.lenOf v).run P w' = .ok sg.len w') ∧ (Builtin.firstCells 1 sg.len v).run P w = .ok cs.toArray w ∧ (Builtin.firstCells 1 sg.len v).run P w.drew = .ok cs.toArray w.drew ∧
      ((∃ s, v = .string s) ∨ v = .slice none 0 0 ∨ ∃ A cap, v = .slice (some A) sg.len cap ∧ (loadCells A sg.len).run P w = .ok cs.toArray w) := by
  have str : ∀ s, c = .str s → sg = .nums .u8 s.length s → ∃ cs : List Value, RSegs ρ [sg] cs ∧ (∀ w', (Builtin.lenOf v).run P w' = .ok sg.len w') ∧ (Builtin.firstCells 1 sg.len v).run P w = .ok cs.toArray w ∧ (Builtin.firstCells 1 sg.len v).run P w.drew = .ok cs.toArray w.drew ∧
      ((∃ s, v = .string s) ∨ v = .slice none 0 0 ∨ ∃ A cap, v = .slice (some A) sg.len cap ∧ (loadCells A sg.len).run P w = .ok cs.toArray w) := by
    rintro s rfl rfl
    obtain ⟨b, rfl, hb⟩ := hc
    have hl : s.length = b.size := by rw [← hb, natsOf_length]
    refine ⟨byteCells b, ⟨?_, segsWf_cons.2 ⟨rfl, segsWf_nil⟩, fun j c' v' hc' hv' => ?_⟩, fun w' => by simp [Builtin.lenOf, Seg.len, hl], ?_, ?_, .inl ⟨b, rfl⟩⟩
    · rw [byteCells_length]; simp [segsLen, Seg.len, hl]
    · have hj := getCell_lt hc'
      simp only [segsLen, Seg.len, Nat.add_zero] at hj
      rw [getCell_cons, if_pos (by exact hj)] at hc'
      simp only [Seg.cell, Option.some.injEq] at hc'
      subst hc'
      unfold byteCells at hv'
      rw [List.getElem?_map] at hv'
      have hjl : j < b.data.toList.length := by rw [Array.length_toList]; have : b.size = b.data.size := rfl; omega
      rw [List.getElem?_eq_getElem hjl] at hv'
      simp only [Option.map_some, Option.some.injEq] at hv'
      have hx : s.getD j 0 = (b.data.toList[j]).toNat := by
        rw [← hb]
        unfold natsOf
        rw [List.getD_eq_getElem?_getD, List.getElem?_map, List.getElem?_eq_getElem hjl]
        rfl
      subst hv'
      refine ⟨⟨by rw [hx], by rw [hx]; exact UInt8.toNat_lt _, rfl⟩, rfl⟩
    · show (Builtin.firstCells 1 s.length (.string b)).run P w = _
      rw [hl]; exact firstCells_string b w
    · show (Builtin.firstCells 1 s.length (.string b)).run P w.drew = _
      rw [hl]; exact firstCells_string b w.drew
  -- a slice over a row of one segment
  have row : ∀ {α : Type} (b : Nat) (o : Option Nat) (n : Nat) (l : List α) (d : α) (mk : Nat → List α → Seg) (cl : α → Cell), (∀ n l, (mk n l).len = n) → (∀ n l, (mk n l).wf ↔ l.length = n) → (∀ n l j, (mk n l).cell j = cl (l.getD j d)) →
      ∀ x m, c = .sl b o n 1 → lk b h = some x → x.segs = [mk m l] → sg = mk n ((l.drop (offO o)).take n) →
      ∃ cs : List Value, RSegs ρ [sg] cs ∧ (∀ w', (Builtin.lenOf v).run P w' = .ok sg.len w') ∧ (Builtin.firstCells 1 sg.len v).run P w = .ok cs.toArray w ∧ (Builtin.firstCells 1 sg.len v).run P w.drew = .ok cs.toArray w.drew ∧
      ((∃ s, v = .string s) ∨ v = .slice none 0 0 ∨ ∃ A cap, v = .slice (some A) sg.len cap ∧ (loadCells A sg.len).run P w = .ok cs.toArray w) := by
    intro α b o n l d mk cl m1 m2 m3 x m ec hx hsegs hsg
    subst ec
    subst hsg
    rw [m1]
    rcases hc with ⟨_, rfl, rfl⟩ | ⟨L, A, cap, hL, rfl, hnc, hcm, hAb, hA, hon, hoc⟩
    · refine ⟨[], ⟨by simp [segsLen, m1], segsWf_cons.2 ⟨(m2 _ _).2 (by simp), segsWf_nil⟩, fun j c v _ hv => by simp at hv⟩, fun w' => rfl, by simp [Builtin.firstCells], by simp [Builtin.firstCells], .inr (.inl rfl)⟩
    · obtain ⟨cur, fz, hg, hn, hle, hC, hs, _⟩ := hr.real hx hL
      have hml : l.length = m := by have := hs.2.1; rw [hsegs] at this; exact (m2 _ _).1 (segsWf_cons.1 this).1
      have hLm : L.n = m := by rw [hn, hsegs]; simp [segsLen, m1]
      rw [Nat.mul_one] at hon hoc
      have hlen : ((l.drop (offO o)).take n).length = n := by rw [List.length_take, List.length_drop]; omega
      have hwf : segsWf [mk n ((l.drop (offO o)).take n)] := segsWf_cons.2 ⟨(m2 _ _).2 hlen, segsWf_nil⟩
      have hat : ∀ j, j < n → getCell [mk n ((l.drop (offO o)).take n)] j = getCell x.segs (offO o + j) := by
        intro j hj
        rw [hsegs, getCell_cons, getCell_cons, m1, m1, if_pos hj, if_pos (by omega), m3, m3]
        congr 2
        rw [List.getD_eq_getElem?_getD, List.getD_eq_getElem?_getD, List.getElem?_take, if_pos hj, List.getElem?_drop]
      obtain ⟨cs, hrun, hrs⟩ := load_range (P := P) hg hn hle hs (o := offO o) hwf (by simp [segsLen, m1]) (by omega) hat
      have hcsl : cs.length = n := by rw [hrs.1]; simp [segsLen, m1]
      by_cases hn0 : n = 0
      · subst hn0
        have hcs : cs = [] := List.length_eq_zero_iff.1 hcsl
        subst hcs
        refine ⟨[], hrs, fun w' => rfl, by simp [Builtin.firstCells, loadCells, loadCellsFrom], by simp [Builtin.firstCells, loadCells, loadCellsFrom], .inr (.inr ⟨A, cap, rfl, by simp [loadCells, loadCellsFrom]⟩)⟩
      · have hA' := hA (by omega)
        subst hA'
        obtain ⟨_, hrunD, hrsD⟩ := load_range (P := P) (w := w.drew) hg hn hle hs (o := offO o) hwf (by simp [segsLen, m1]) (by omega) hat
        have hsame : (loadCells ⟨L.g, L.q + offO o, none⟩ n).run P w.drew = .ok cs.toArray w.drew := by
          have hcells : ∀ j v, cs[j]? = some v → w.cell? ((⟨L.g, L.q + offO o, none⟩ : Addr).add j) = some v := by
            intro j v hv
            have hj : j < n := by
              rw [← hcsl]
              exact (List.getElem?_eq_some_iff.1 hv).1
            -- the same row, read again
            have hcur : ∀ i, w.cell? ⟨L.g, i, none⟩ = cur[i]? := fun i => cell_of_row w L.g i cur x.ty fz hg
            have h2 := run_loadCells_list (P := P) w ⟨L.g, L.q + offO o, none⟩ ((cur.toList.drop (L.q + offO o)).take n) (fun j v hv => by
              rw [List.getElem?_take] at hv
              split at hv
              · rw [List.getElem?_drop] at hv
                rw [Addr.add_lit, hcur]
                simpa using hv
              · cases hv)
            have hl3 : ((cur.toList.drop (L.q + offO o)).take n).length = n := by rw [List.length_take, List.length_drop, Array.length_toList]; omega
            rw [hl3, hrun] at h2
            simp only [Result.ok.injEq, and_true] at h2
            have h4 : cs = (cur.toList.drop (L.q + offO o)).take n := by simpa using h2
            rw [Addr.add_lit, hcur]
            rw [h4, List.getElem?_take, if_pos hj, List.getElem?_drop] at hv
            simpa using hv
          have := run_loadCells_list (P := P) w.drew ⟨L.g, L.q + offO o, none⟩ cs (fun j v hv => hcells j v hv)
          rwa [hcsl] at this
        refine ⟨cs, hrs, fun w' => rfl, ?_, ?_, .inr (.inr ⟨_, cap, rfl, hrun⟩)⟩
        · simp only [Builtin.firstCells, Nat.mul_one]; exact hrun
        · simp only [Builtin.firstCells, Nat.mul_one]; exact hsame
  unfold sliceSeg at h1
  split at h1
  · rename_i b o n z
    split at h1
    · rename_i x hx
      split at h1
      · rename_i k m l hsegs
        split at h1 <;> simp only [Option.some.injEq, reduceCtorEq] at h1
        · exact row b none n l 0 (Seg.nums k) (Cell.nat k) (fun _ _ => rfl) (fun _ _ => Iff.rfl) (fun _ _ _ => rfl) x m rfl hx hsegs h1.symm
        · exact row b (some _) n l 0 (Seg.nums k) (Cell.nat k) (fun _ _ => rfl) (fun _ _ => Iff.rfl) (fun _ _ _ => rfl) x m rfl hx hsegs h1.symm
      · rename_i k m l hsegs
        split at h1 <;> simp only [Option.some.injEq, reduceCtorEq] at h1
        · exact row b none n l 0 (Seg.ints k) (Cell.int k) (fun _ _ => rfl) (fun _ _ => Iff.rfl) (fun _ _ _ => rfl) x m rfl hx hsegs h1.symm
        · exact row b (some _) n l 0 (Seg.ints k) (Cell.int k) (fun _ _ => rfl) (fun _ _ => Iff.rfl) (fun _ _ _ => rfl) x m rfl hx hsegs h1.symm
      · rename_i m l hsegs
        split at h1 <;> simp only [Option.some.injEq, reduceCtorEq] at h1
        · exact row b none n l [] Seg.strs Cell.str (fun _ _ => rfl) (fun _ _ => Iff.rfl) (fun _ _ _ => rfl) x m rfl hx hsegs h1.symm
        · exact row b (some _) n l [] Seg.strs Cell.str (fun _ _ => rfl) (fun _ _ => Iff.rfl) (fun _ _ _ => rfl) x m rfl hx hsegs h1.symm
      · cases h1
    · cases h1
  · rename_i s
    simp only [Option.some.injEq] at h1
    exact str s rfl h1.symm
  · cases h1

theorem colAdd_spec {c c' : Col} {x : Cell} (h : colAdd c x = some c') : c'.len = c.len + 1 ∧ (∀ r, r < c.len → c'.cell r = c.cell r) ∧ c'.cell c.len = x := by
  have key : ∀ {α : Type} (l : List α) (y d : α), (∀ r, r < l.length → (l ++ [y]).getD r d = l.getD r d) ∧ (l ++ [y]).getD l.length d = y := by
    intro α l y d
    refine ⟨fun r hr => ?_, ?_⟩
    · rw [List.getD_eq_getElem?_getD, List.getD_eq_getElem?_getD, List.getElem?_append_left hr]
    · rw [List.getD_eq_getElem?_getD, List.getElem?_append_right (Nat.le_refl _), Nat.sub_self]; rfl
  unfold colAdd at h
  split at h
  · rename_i k l k' y
    split at h
    · rename_i hk
      have hk := kindEq_eq hk
      subst hk
      simp only [Option.some.injEq] at h
      subst h
      exact ⟨by simp [Col.len], fun r hr => by simp only [Col.cell]; rw [(key l y 0).1 r hr], by simp only [Col.cell, Col.len]; rw [(key l y 0).2]⟩
    · cases h
  · rename_i k l k' y
    split at h
    · rename_i hk
      have hk := kindEq_eq hk
      subst hk
      simp only [Option.some.injEq] at h
      subst h
      exact ⟨by simp [Col.len], fun r hr => by simp only [Col.cell]; rw [(key l y 0).1 r hr], by simp only [Col.cell, Col.len]; rw [(key l y 0).2]⟩
    · cases h
  · rename_i l y
    simp only [Option.some.injEq] at h
    subst h
    exact ⟨by simp [Col.len], fun r hr => by simp only [Col.cell]; rw [(key l y []).1 r hr], by simp only [Col.cell, Col.len]; rw [(key l y []).2]⟩
  · rename_i l y
    simp only [Option.some.injEq] at h
    subst h
    exact ⟨by simp [Col.len], fun r hr => by simp only [Col.cell]; rw [(key l y false).1 r hr], by simp only [Col.cell, Col.len]; rw [(key l y false).2]⟩
  · cases h
theorem colsAdd_spec {n : Nat} : ∀ {cols cols' : List Col} {src : List Seg}, colsAdd cols src = some cols' → (∀ c ∈ cols, c.len = n) → cols'.length = cols.length ∧ segsLen src = cols.length ∧ (∀ c ∈ cols', c.len = n + 1) ∧
    (∀ f r, r < n → colsCell cols' f r = colsCell cols f r) ∧ ∀ f, f < cols.length → getCell src f = some (colsCell cols' f n)
  | [], cols', src, h, _ => by
    cases src with
    | nil =>
      simp only [colsAdd, Option.some.injEq] at h
      subst h
      exact ⟨rfl, rfl, fun c hc => (by cases hc), fun f r _ => rfl, fun f hf => absurd hf (by simp)⟩
    | cons => simp [colsAdd] at h
  | c :: q, cols', src, h, hl => by
    unfold colsAdd at h
    split at h
    · rename_i e; cases e
    · rename_i c1 q1 x r1 e
      simp only [List.cons.injEq] at e
      obtain ⟨rfl, rfl⟩ := e
      split at h
      · rename_i c2 hc2
        split at h
        · rename_i q2 hq2
          simp only [Option.some.injEq] at h
          subst h
          obtain ⟨a1, a2, a3⟩ := colAdd_spec hc2
          obtain ⟨b1, b2, b3, b4, b5⟩ := colsAdd_spec hq2 (fun c hc => hl c (List.mem_cons_of_mem _ hc))
          have hn := hl c List.mem_cons_self
          refine ⟨by simp [b1], by simp [segsLen, Seg.len, b2]; omega, fun d hd => ?_, fun f r hr => ?_, fun f hf => ?_⟩
          · cases hd with
            | head => omega
            | tail _ hd => exact b3 d hd
          · cases f with
            | zero => exact a2 r (by omega)
            | succ f => exact b4 f r hr
          · cases f with
            | zero =>
              rw [getCell_cons, if_pos (by show 0 < 1; omega)]
              show some x = some (c2.cell n)
              rw [← a3, hn]
            | succ f =>
              rw [getCell_cons, if_neg (by show ¬ f + 1 < 1; omega)]
              exact b5 f (by simpa using hf)
        · cases h
      · cases h
    · cases h
theorem joinRow_spec {segs src q : List Seg} {o : Option Nat} {z n' m : Nat} (h : joinRow segs o z src = some (q, n')) (hw : segsWf segs) (hg : segsWf src) (ho : offO o ≤ segsLen segs) (hs : segsLen src = m * z) (hz : 1 ≤ z) :
    segsLen q = n' * z ∧ n' * z = segsLen segs - offO o + m * z ∧ segsWf q ∧ (∀ j, j < segsLen segs - offO o → getCell q j = getCell segs (offO o + j)) ∧
      ∀ j, j < m * z → getCell q (segsLen segs - offO o + j) = getCell src j := by
  unfold joinRow at h
  split at h
  · rename_i sg
    obtain ⟨h1, h2, h3, h4, h5⟩ := joinSegs_spec h hw (segsWf_cons.1 hg).1 ho
    have hl : segsLen [sg] = sg.len := by simp [segsLen]
    rw [hl] at hs
    refine ⟨by omega, by omega, h3, h4, fun j hj => ?_⟩
    rw [h5 j (by omega), getCell_cons, if_pos (by omega)]
  · split at h
    · rename_i n cols
      split at h
      · rename_i cols' hc hcols
        have hc := beq_true hc
        simp only [Option.some.injEq, Prod.mk.injEq] at h
        obtain ⟨rfl, rfl⟩ := h
        have hw' : 0 < cols.length ∧ ∀ c ∈ cols, c.len = n := (segsWf_cons.1 hw).1
        obtain ⟨b1, b2, b3, b4, b5⟩ := colsAdd_spec hcols hw'.2
        have hl : segsLen [Seg.recs n cols] = n * z := by simp [segsLen, Seg.len, hc]
        have hl' : segsLen [Seg.recs (n + 1) cols'] = (n + 1) * z := by simp [segsLen, Seg.len, b1, hc]
        have hm : m * z = z := by rw [← hs, b2, hc]
        rw [hl, hl', hm]
        have hnz : (n + 1) * z = n * z + z := Nat.succ_mul n z
        refine ⟨rfl, by simp only [offO]; omega, segsWf_cons.2 ⟨⟨by omega, b3⟩, segsWf_nil⟩, fun j hj => ?_, fun j hj => ?_⟩
        · simp only [offO, Nat.sub_zero, Nat.zero_add] at hj ⊢
          have e1 : (Seg.recs n cols).len = n * z := by simp [Seg.len, hc]
          have e2 : (Seg.recs (n + 1) cols').len = n * z + z := by simp [Seg.len, b1, hc]; exact hnz
          rw [getCell_cons, getCell_cons, e1, e2, if_pos (by omega), if_pos hj]
          simp only [Seg.cell, b1, hc]
          rw [b4 _ _ (Nat.div_lt_of_lt_mul (by rw [Nat.mul_comm]; exact hj))]
        · simp only [offO, Nat.sub_zero]
          have e2 : (Seg.recs (n + 1) cols').len = n * z + z := by simp [Seg.len, b1, hc]; exact hnz
          rw [getCell_cons, e2, if_pos (by omega), b5 j (by omega)]
          simp only [Seg.cell, b1, hc]
          rw [Nat.mul_comm n z, Nat.mul_add_mod, Nat.mod_eq_of_lt hj, Nat.mul_add_div (by omega), Nat.div_eq_of_lt hj, Nat.add_zero]
      · cases h
    · cases h
theorem joinRow_free {segs src q : List Seg} {o : Option Nat} {z n' b : Nat} (h : joinRow segs o z src = some (q, n')) : anyB (Seg.mentions b) q = false := by
  unfold joinRow at h
  split at h
  · unfold joinSegs at h
    split at h <;> try (split at h) <;> try (split at h)
    all_goals first
      | (cases h; done)
      | (simp only [Option.some.injEq, Prod.mk.injEq] at h; obtain ⟨rfl, _⟩ := h; rfl)
  · split at h
    · split at h
      · simp only [Option.some.injEq, Prod.mk.injEq] at h; obtain ⟨rfl, _⟩ := h; rfl
      · cases h
    · cases h
theorem srcOf_sound (hr : HR N S ρ h w) {z m : Nat} {c : Cell} {v : Value} {src : List Seg} (h1 : srcOf h z c = some (src, m)) (hc : RC ρ c v) (hz : 1 ≤ z) :
    ∃ cs : List Value, RSegs ρ src cs ∧ segsLen src = m * z ∧ (∀ w', (Builtin.lenOf v).run P w' = .ok m w') ∧ (Builtin.firstCells z m v).run P w = .ok cs.toArray w ∧ (Builtin.firstCells z m v).run P w.drew = .ok cs.toArray w.drew := by
  unfold srcOf at h1
  split at h1
  · split at h1
    · rename_i sg hsg
      simp only [Option.some.injEq, Prod.mk.injEq] at h1
      obtain ⟨rfl, rfl⟩ := h1
      obtain ⟨cs, g1, g2, g3, g4, _⟩ := sliceSeg_sound (P := P) hr hsg hc
      exact ⟨cs, g1, by simp [segsLen], g2, g3, g4⟩
    · cases h1
  · split at h1
    · rename_i b z'
      split at h1
      · rename_i x hzz hx
        have hzz := beq_true hzz
        subst hzz
        split at h1
        · rename_i hl
          have hl := beq_true hl
          simp only [Option.some.injEq, Prod.mk.injEq] at h1
          obtain ⟨rfl, rfl⟩ := h1
          rcases hc with ⟨_, hn, _⟩ | ⟨L, A, cap, hL, rfl, hnc, hcm, hAb, hA, hon, hoc⟩
          · exact absurd hn (by decide)
          · obtain ⟨cur, fz, hg, hn, hle, hC, hs, _⟩ := hr.real hx hL
            have hA' := hA (by omega)
            subst hA'
            have hLn : L.n = z' := hn.trans hl
            obtain ⟨cs, hrun, hrs⟩ := load_range (P := P) hg hn hle hs (o := 0) (m := z') (q := x.segs) hs.2.1 hl (by omega) (fun j _ => by rw [Nat.zero_add])
            obtain ⟨cs2, hrun2, _⟩ := load_range (P := P) (w := w.drew) hg hn hle hs (o := 0) (m := z') (q := x.segs) hs.2.1 hl (by omega) (fun j _ => by rw [Nat.zero_add])
            have hcells : ∀ (w' : World), w'.heap[L.g]? = some (.cells cur x.ty fz) → (loadCells ⟨L.g, L.q + 0, none⟩ z').run P w' = .ok ((cur.toList.drop (L.q + 0)).take z').toArray w' := by
              intro w' hg'
              have h2 := run_loadCells_list (P := P) w' ⟨L.g, L.q + 0, none⟩ ((cur.toList.drop (L.q + 0)).take z') (fun j v hv => by
                rw [List.getElem?_take] at hv
                split at hv
                · rw [List.getElem?_drop] at hv
                  rw [Addr.add_lit, cell_of_row w' L.g _ cur x.ty fz hg']
                  simpa using hv
                · cases hv)
              have hl3 : ((cur.toList.drop (L.q + 0)).take z').length = z' := by rw [List.length_take, List.length_drop, Array.length_toList]; omega
              rwa [hl3] at h2
            have e1 := hcells w hg
            have e2 := hcells w.drew hg
            rw [hrun] at e1
            rw [hrun2] at e2
            simp only [Result.ok.injEq, and_true] at e1 e2
            refine ⟨cs, hrs, by rw [hl, Nat.one_mul], fun w' => rfl, ?_, ?_⟩
            · simp only [Builtin.firstCells, Nat.one_mul]; exact hrun
            · simp only [Builtin.firstCells, Nat.one_mul]; rw [e1, ← e2]; exact hrun2
        · cases h1
      · cases h1
    · cases h1
end
end Go.Sx
