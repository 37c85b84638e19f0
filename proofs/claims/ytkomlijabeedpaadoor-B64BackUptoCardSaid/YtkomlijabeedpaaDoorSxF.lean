import Derived.Test.YtkomlijabeedpaaDoorSxE
namespace Go.Sx

theorem run_storeCells_any (P : Program) (g o : Nat) (t : TypeId) (fz : Nat × Nat) : ∀ (vs : List Value) (i : Nat) (cur : Array Value) (w : World), w.heap[g]? = some (.cells cur t fz) →
    (∀ k, k < cur.size → ¬ (fz.1 ≤ k ∧ k < fz.2)) → o + i + vs.length ≤ cur.size → (∀ v ∈ vs, v.oneCell' = true) →
    (storeCells ⟨g, o, none⟩ vs i).run P w = .ok () (w.setRow g (cur.toList.take (o + i) ++ vs ++ cur.toList.drop (o + i + vs.length)).toArray)
  | [], i, cur, w, hg, _, _, _ => by
    simp only [storeCells, List.append_nil, List.length_nil, Nat.add_zero, List.take_append_drop, Array.toArray_toList]
    rw [setRow_self w g cur t fz hg]
    rfl
  | v :: rest, i, cur, w, hg, hfz, hl, h1 => by
    have hi : o + i < cur.size := by simp at hl; omega
    have hcell : w.cell? ⟨g, o + i, none⟩ = some cur[o + i] := by simp [World.cell?, hg, hi]
    have hfro : w.frozen? ⟨g, o + i, none⟩ = false := by
      have := hfz (o + i) hi
      obtain ⟨lo, hi'⟩ := fz
      simp only [World.frozen?, hg]
      simp only at this
      simp only [Bool.and_eq_false_iff, decide_eq_false_iff_not]
      omega
    have hst : (store ((⟨g, o, none⟩ : Addr).add i) v).run P w = .ok () (w.setRow g (cur.setIfInBounds (o + i) v)) := by
      rw [Addr.add_lit, run_store P w _ v _ (h1 v (by simp)), hcell]
      simp [hfro, setCell_eq_setRow w g (o + i) cur t fz v hg]
    have ih := run_storeCells_any P g o t fz rest (i + 1) (cur.setIfInBounds (o + i) v) (w.setRow g (cur.setIfInBounds (o + i) v)) (setRow_heap w g cur _ t _ hg) (by simpa using hfz) (by simp at hl ⊢; omega) (fun x hx => h1 x (by simp [hx]))
    simp only [storeCells, Sem.run_bind, hst, Result.andThen_ok, ih, setRow_setRow]
    congr 3
    have := list_seg_step cur.toList (o + i) v rest (by simp at hl ⊢; omega)
    simpa [Nat.add_assoc] using this

section
variable {P : Program} {T : Tys} {N : Nat} {S : Nat → Prop} {ρ : Map} {h : Heap} {w : World}

theorem HR_set (hr : HR N S ρ h w) {b : Nat} {x : Blk} {L : Loc} {cur cur' : Array Value} {fz : Nat × Nat} (hb : lk b h = some x) (hL : ρ b = some L) (ho : x.own ≠ 0)
    (hg : w.heap[L.g]? = some (.cells cur x.ty fz)) (hsz : cur'.size = cur.size) {segs' : List Seg} (hlen : segsLen segs' = segsLen x.segs) (hs : RSegs ρ segs' ((cur'.toList.drop L.q).take L.n)) :
    HR N S ρ (hset b ⟨segs', x.ty, x.own⟩ h) (w.setRow L.g cur') ∧ Fr N S w (w.setRow L.g cur') := by
  obtain ⟨cur0, fz0, hg0, hn, hle, hC, _, hown, hown2⟩ := hr.real hb hL
  rw [hg] at hg0
  simp only [Option.some.injEq, Obj.cells.injEq, true_and] at hg0
  obtain ⟨rfl, rfl⟩ := hg0
  refine ⟨⟨by simpa using hr.low, fun c y hc => ?_, fun c d y z M M' hc hd hM hM' hne how => ?_⟩, ⟨rfl, rfl, rfl, by simp, fun k hk hS => setRow_other w L.g k cur' ?_, fun k o hk ho' => (setRow_other w L.g k cur' (fun e => by subst e; rw [hg] at hk; cases hk; cases ho')).trans hk⟩⟩
  · rw [lk_hset] at hc
    split at hc
    · rename_i e
      subst e
      simp only [Option.some.injEq] at hc
      subst hc
      exact .inr ⟨L, cur', fz, hL, setRow_heap w L.g cur _ _ _ hg, by rw [hn]; exact hlen.symm, by omega, by omega, hs, fun h0 => ⟨by rw [hsz]; exact (hown h0).1, (hown h0).2⟩, hown2⟩
    · rename_i e
      rcases hr.blk c y hc with h1 | ⟨M, cur2, fz2, h1, h2, h3⟩
      · exact .inl h1
      · refine .inr ⟨M, cur2, fz2, h1, ?_, h3⟩
        rw [setRow_other w L.g M.g cur' (fun e2 => hr.inj b c x y L M hb hc hL h1 e (.inl ho) e2.symm)]
        exact h2
  · have get : ∀ c y, lk c (hset b ⟨segs', x.ty, x.own⟩ h) = some y → ∃ y', lk c h = some y' ∧ y'.own = y.own := by
      intro c y hc
      rw [lk_hset] at hc
      split at hc
      · rename_i e
        subst e
        simp only [Option.some.injEq] at hc
        subst hc
        exact ⟨x, hb, rfl⟩
      · exact ⟨y, hc, rfl⟩
    obtain ⟨y', hy, ey⟩ := get c y hc
    obtain ⟨z', hz, ez⟩ := get d z hd
    exact hr.inj c d y' z' M M' hy hz hM hM' hne (by rw [ey, ez]; exact how)
  · intro e
    subst e
    rcases (hown ho).2 with h1 | h1
    · exact hS h1
    · omega

theorem store_at (hr : HR N S ρ h w) {b : Nat} {x : Blk} {L : Loc} (hb : lk b h = some x) (hL : ρ b = some L) (ho : x.own ≠ 0) {o : Nat} {vs : List Value} {xs segs' : List Seg}
    (hx : RSegs ρ xs vs) (hfit : o + segsLen xs ≤ segsLen x.segs) (hlen : segsLen segs' = segsLen x.segs) (hwf : segsWf segs')
    (hat : ∀ j, getCell segs' j = if o ≤ j ∧ j < o + segsLen xs then getCell xs (j - o) else getCell x.segs j) :
    ∃ w', (storeCells ⟨L.g, L.q + o, none⟩ vs 0).run P w = .ok () w' ∧ HR N S ρ (hset b ⟨segs', x.ty, x.own⟩ h) w' ∧ Fr N S w w' := by
  obtain ⟨cur, fz, hg, hn, hle, hC, hs, hown, hown2⟩ := hr.real hb hL
  have hvl : vs.length = segsLen xs := hx.1
  have one : ∀ v ∈ vs, v.oneCell' = true := by
    intro v hv
    obtain ⟨j, hj, rfl⟩ := List.mem_iff_getElem.1 hv
    obtain ⟨c, hc⟩ := getCell_some (l := xs) (o := j) (by omega)
    exact (hx.2.2 j c vs[j] hc (List.getElem?_eq_getElem hj)).2
  have hrun := run_storeCells_any P L.g (L.q + o) x.ty fz vs 0 cur w hg (hown ho).1 (by omega) one
  simp only [Nat.add_zero] at hrun
  have hsize : (cur.toList.take (L.q + o) ++ vs ++ cur.toList.drop (L.q + o + vs.length)).toArray.size = cur.size := by
    simp only [List.size_toArray, List.length_append, List.length_take, List.length_drop, Array.length_toList]
    omega
  refine ⟨_, hrun, HR_set hr hb hL ho hg hsize hlen ⟨?_, hwf, fun j c v hc hv => ?_⟩⟩
  · rw [List.length_take, List.length_drop, Array.length_toList, hsize]
    omega
  · have hj := getCell_lt hc
    rw [List.getElem?_take, if_pos (by omega), List.getElem?_drop] at hv
    have e1 : (cur.toList.take (L.q + o)).length = L.q + o := by rw [List.length_take, Array.length_toList]; omega
    have hv' : (cur.toList.take (L.q + o) ++ vs ++ cur.toList.drop (L.q + o + vs.length))[L.q + j]? = some v := by simpa using hv
    rw [hat] at hc
    by_cases hin : o ≤ j ∧ j < o + segsLen xs
    · rw [if_pos hin] at hc
      rw [List.append_assoc, List.getElem?_append_right (by omega), e1, List.getElem?_append_left (by omega)] at hv'
      rw [show L.q + j - (L.q + o) = j - o by omega] at hv'
      exact hx.2.2 _ c v hc hv'
    · rw [if_neg hin] at hc
      obtain ⟨u, hu, h1, h2⟩ := hs.at_ hn hle hc
      have : some u = some v := by
        rw [← hu, ← hv']
        by_cases hlow : j < o
        · rw [List.append_assoc, List.getElem?_append_left (by omega), List.getElem?_take, if_pos (by omega)]
          simp
        · rw [List.getElem?_append_right (by rw [List.length_append]; omega), List.length_append, e1, List.getElem?_drop]
          rw [show L.q + o + vs.length + (L.q + j - (L.q + o + vs.length)) = L.q + j by omega]
          simp
      simp only [Option.some.injEq] at this
      subst this
      exact ⟨h1, h2⟩

theorem storeE_sound (hT : TyOK P T) (hr : HR N S ρ h w) {t : TypeId} {av xv : AV} {h' : Heap} {p v : Value} (hst : storeE h T t av xv = some h') (hp : RV ρ av p) (hv : RV ρ xv v) :
    ∃ w', (Instr.storeAt t p v).run P w = .ok () w' ∧ HR N S ρ h' w' ∧ Fr N S w w' := by
  unfold storeE at hst
  split at hst
  · rename_i b o i x
    split at hst
    · cases hst
    · rename_i hok
      split at hst
      · cases hst
      · rename_i blk ty hnot hb ht
        have hne : blk.own ≠ 0 := by
          intro e
          obtain ⟨s1, s2, s3⟩ := blk
          simp only at e
          subst e
          exact hnot s1 s2 rfl
        split at hst
        · cases hst
        · rename_i hlen
          have hlen := beq_true hlen
          obtain ⟨hxs, hxl⟩ := RV1_cells (show RV1 ρ x v from hv) hok
          have hsz := run_sizeOf (P := P) hT ht w
          have go : ∀ (L : Loc) (oo : Nat) (w' : World), p = .pointer (some ⟨L.g, L.q + oo, none⟩) → (storeCells ⟨L.g, L.q + oo, none⟩ v.cells.toList 0).run P w = .ok () w' → (Instr.storeAt t p v).run P w = .ok () w' := by
            intro L oo w' hpp hrun
            subst hpp
            simp [Instr.storeAt, Instr.sureAddr, storeVar, hsz, hxl, hlen, hrun]
          simp only [RV, RV1, RC] at hp
          obtain ⟨L, hL, hp⟩ := hp
          have hwf : segsWf blk.segs := by
            obtain ⟨_, _, _, _, _, _, hs, _⟩ := hr.real hb hL
            exact hs.2.1
          have hLn : L.n = segsLen blk.segs := by
            obtain ⟨_, _, _, hn, _⟩ := hr.real hb hL
            exact hn
          cases i with
          | none =>
            have hp' : p = .pointer (some ⟨L.g, L.q + o, none⟩) := hp
            dsimp only at hst
            split at hst
            · cases hst
            · rename_i y ys hseg
              split at hst
              · rename_i q hq
                simp only [Option.some.injEq] at hst
                subst hst
                rw [← hseg] at hq
                have ho : o ≤ segsLen blk.segs := by
                  rw [hseg] at hq
                  unfold setRange at hq
                  split at hq
                  · rename_i l' hl'
                    have hxw := hxs.2.1
                    rw [hseg] at hxw
                    have := (setOne_spec hl' hwf (segsWf_cons.1 hxw).1).2.2.1
                    omega
                  · cases hq
                obtain ⟨r1, r2, r3, r4⟩ := setRange_spec hq hwf hxs.2.1 ho
                obtain ⟨w', hrun, hh, hf⟩ := store_at (P := P) hr hb hL hne hxs r3 r1 r2 r4
                exact ⟨w', go L o w' hp' hrun, hh, hf⟩
              · cases hst
          | some ix =>
            obtain ⟨hp1, hp2, hp3, hp4⟩ := hp
            dsimp only at hst
            split at hst
            · cases hst
            · rename_i hz
              have hz := ble_true hz
              split at hst
              · rename_i sg r c hsp hseg
                split at hst
                · rename_i sg' hsg
                  simp only [Option.some.injEq] at hst
                  subst hst
                  have hl1 : segsLen x.segs = 1 := by rw [hseg]; rfl
                  obtain ⟨s1, s2, s3, s4⟩ := spot_spec hsp hwf (z := 1) (by omega) (by omega)
                  obtain ⟨c1, c2, c3⟩ := setC_spec hsg s2 (by omega)
                  obtain ⟨t1, t2, t3⟩ := s4 sg' c1 c2 (fun i hi hni => by rw [c3 i hi, if_neg (by omega)])
                  obtain ⟨w', hrun, hh, hf⟩ := store_at (P := P) hr hb hL hne (o := o + ix.j) hxs (by omega) t1 t2 (fun j => by
                    rw [t3, hl1]
                    by_cases hj : o + ix.j ≤ j ∧ j < o + ix.j + 1
                    · rw [if_pos hj, if_pos hj, hseg, c3 _ (by omega), if_pos (by omega)]
                      rw [getCell_cons, if_pos (by show j - (o + ix.j) < 1; omega)]
                      rfl
                    · rw [if_neg hj, if_neg hj])
                  exact ⟨w', go L (o + ix.j) w' (by rw [hp1, Nat.add_assoc]) hrun, hh, hf⟩
                · cases hst
              · rename_i k n l r k' m l' hsp hseg
                split at hst
                · rename_i hk
                  have hk := kindEq_eq hk
                  subst hk
                  simp only [Option.some.injEq] at hst
                  subst hst
                  have hl1 : segsLen x.segs = m := by rw [hseg]; simp [segsLen, Seg.len]
                  have hxw := hxs.2.1
                  rw [hseg] at hxw
                  have hm : l'.length = m := (segsWf_cons.1 hxw).1
                  obtain ⟨s1, s2, s3, s4⟩ := spot_spec hsp hwf (z := m) (by omega) (by omega)
                  have s1' : r + m ≤ n := s1
                  have s2' : l.length = n := s2
                  obtain ⟨t1, t2, t3⟩ := s4 (.nums k n (l.take r ++ (l' ++ l.drop (r + m)))) rfl (by simp [Seg.wf]; omega) (fun i hi hni => by
                    simp only [Seg.cell]
                    rw [getD_splice _ _ _ _ _ _ (by omega) hm, if_neg hni])
                  obtain ⟨w', hrun, hh, hf⟩ := store_at (P := P) hr hb hL hne (o := o + ix.j) hxs (by omega) t1 t2 (fun j => by
                    rw [t3, hl1]
                    by_cases hj : o + ix.j ≤ j ∧ j < o + ix.j + m
                    · rw [if_pos hj, if_pos hj, hseg]
                      rw [getCell_cons, if_pos (by show j - (o + ix.j) < m; omega)]
                      simp only [Seg.cell]
                      rw [getD_splice _ _ _ _ _ _ (by omega) hm, if_pos (by omega)]
                      congr 3
                      omega
                    · rw [if_neg hj, if_neg hj])
                  exact ⟨w', go L (o + ix.j) w' (by rw [hp1, Nat.add_assoc]) hrun, hh, hf⟩
                · cases hst
              · cases hst
      · cases hst
  · cases hst

end
end Go.Sx
