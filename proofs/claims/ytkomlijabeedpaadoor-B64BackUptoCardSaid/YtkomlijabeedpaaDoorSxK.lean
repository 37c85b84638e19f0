import Derived.Test.YtkomlijabeedpaaDoorSxJ
namespace Go.Sx

def WideF (F : Fence) : Prop := F = Fence.wide ∨ ∃ l, F = Fence.wide.inRound l
theorem WideF.fn {F : Fence} (h : WideF F) (f : FuncId) : F.fn f := by
  rcases h with rfl | ⟨l, rfl⟩ <;> trivial
theorem WideF.depth {F : Fence} (h : WideF F) : F.depth = none := by
  rcases h with rfl | ⟨l, rfl⟩ <;> rfl
theorem WideF.inRound {F : Fence} (h : WideF F) (l : Nat) : WideF (F.inRound l) := by
  rcases h with rfl | ⟨l', rfl⟩
  · exact .inr ⟨l, rfl⟩
  · exact .inr ⟨l, rfl⟩
theorem WideF.calls {F : Fence} (h : WideF F) {n : Nat} {P : Program} {f : FuncId} {args : Array Value} {w : World} {R : Ending → World → Prop} (hc : Calls P f args w R) : CallsIn F n P f args w R := by
  rcases h with rfl | ⟨l, rfl⟩
  · exact callsIn_wide.2 hc
  · exact (callsIn_wide.2 hc).inRound l

def Good (P : Program) (N : Nat) (S : Nat → Prop) (ρ : Map) (sid : Nat) (fr : Bool) (mv : List Nat) (v : AV) (h' : Heap) (w : World) : Result Next → Prop
  | .ok (.value u) w' => ∃ ρ', RV ρ' v u ∧ HR N S ρ' h' w' ∧ Fr N S w w' ∧ (∀ b, b ∉ mv → (b = sid → fr = false) → ρ' b = ρ b)
  | .ok .skip w' => ∃ ρ', RV ρ' v undef ∧ HR N S ρ' h' w' ∧ Fr N S w w' ∧ (∀ b, b ∉ mv → (b = sid → fr = false) → ρ' b = ρ b)
  | .ok (.enter f args) w' => w' = w ∧ Calls P f args w fun e w'' => ∃ u ρ', e = .returned u ∧ RV ρ' v u ∧ HR N S ρ' h' w'' ∧ Fr N S w w'' ∧ (∀ b, b ∉ mv → (b = sid → fr = false) → ρ' b = ρ b)
  | .ok (.round l f tmps asg body) w' => w' = w ∧ ∀ F n, WideF F → RoundIn F n P l f tmps asg body w fun e w'' => ∃ u ρ', e = .returned u ∧ RV ρ' v u ∧ HR N S ρ' h' w'' ∧ Fr N S w w'' ∧ (∀ b, b ∉ mv → (b = sid → fr = false) → ρ' b = ρ b)
  | _ => False

section
variable {P : Program} {T : Tys} {N : Nat} {S : Nat → Prop} {ρ : Map} {h : Heap} {w : World} {e : Operand → Option AV} {a : Act} {R : Type} {r : R}

theorem addZ_eq (o : Option Nat) (n : Nat) : addZ o n = offO o + n := by cases o <;> simp [addZ, offO]
theorem mulZ_eq (n z : Nat) : mulZ n z = n * z := by unfold mulZ; split <;> simp

theorem appendD_sound (hT : TyOK P T) (hr : HR N S ρ h w) {t t' : TypeId} {ty ty' : Ty} {x y : AV} {u v : Value} {k : AV → Heap → List Nat → Option R} (ht : T t = some ty) (htk : ty.tk = .slice) (ht' : T t' = some ty') (htk' : ty'.tk = .slice ∨ ty'.tk = .string)
    (hx : RV ρ x u) (hy : RV ρ y v) (hk : appendD realA T t h x y k = some r) (rt : TypeId) :
    ∃ b z h' u' w' ρ', k z h' [b] = some r ∧ (Builtin.append_ #[t, t'] rt #[u, v]).run P w = .ok u' w' ∧ RV ρ' z u' ∧ HR N S ρ' h' w' ∧ Fr N S w w' ∧ ∀ c, c ≠ b → ρ' c = ρ c := by
  unfold appendD at hk
  split at hk
  · rename_i b o n z xc
    split at hk
    · rename_i segs bty tt hb htt
      rw [ht] at htt
      simp only [Option.some.injEq] at htt
      subst htt
      split at hk
      · rename_i te hte
        split at hk
        · rename_i hc
          simp only [Bool.and_eq_true] at hc
          have e1 := beq_true hc.1
          have e2 := beq_true hc.2.1
          have ez := ble_true hc.2.2.1
          have e3 := ble_true hc.2.2.2
          subst e1
          split at hk
          · rename_i hend
            simp only [realA, decide_eq_true_eq, addZ_eq, mulZ_eq] at hend
            split at hk
            · rename_i src m hsg
              split at hk
              · rename_i segs' n' hj
                split at hk
                · rename_i hle
                  simp only [realA, decide_eq_true_eq, mulZ_eq] at hle
                  obtain ⟨ie, _, hie, _, hsz, hby, _, ze, hze, _, hzs, _⟩ := hT.ok _ te hte
                  obtain ⟨dt, hdt⟩ : ∃ d, P.underlying t = some d ∧ DescOK ty d := by
                    obtain ⟨_, d, _, h2, _, _, h5, _⟩ := hT.ok t ty ht
                    exact ⟨d, h2, h5⟩
                  have hut : P.underlying t = some (.slice ty.elem) := by
                    have := hdt.2; unfold DescOK at this; rw [htk] at this; rw [hdt.1, this]
                  have hut' : (∃ e', P.underlying t' = some (.slice e')) ∨ P.underlying t' = some .string := by
                    obtain ⟨_, d, _, h2, _, _, h5, _⟩ := hT.ok t' ty' ht'
                    unfold DescOK at h5
                    rcases htk' with q | q <;> rw [q] at h5
                    · exact .inl ⟨_, by rw [h2, h5]⟩
                    · exact .inr (by rw [h2, h5])
                  obtain ⟨cs, hcs, hsm, hlen, hfc, hfcD⟩ := srcOf_sound (P := P) hr hsg hy ez
                  have hcl : cs.length = m * z := by rw [hcs.1, hsm]
                  have hnm : (n + m) * z = n * z + m * z := Nat.add_mul n m z
                  have hwfs : segsWf segs := by
                    rcases hr.blk b _ hb with ⟨_, _, _, h4⟩ | ⟨L, cur, fz, _, _, _, _, _, h6, _⟩
                    · exact h4
                    · exact h6.2.1
                  obtain ⟨j1, j2, j3, j4, j5⟩ := joinRow_spec hj hwfs hcs.2.1 (by omega) hsm ez
                  have hn' : n' = n + m := Nat.eq_of_mul_eq_mul_right ez (by omega)
                  have hone : ∀ q ∈ cs, q.oneCell' = true := by
                    intro q hq
                    obtain ⟨i, hi, rfl⟩ := List.mem_iff_getElem.1 hq
                    obtain ⟨c, hc'⟩ := getCell_some (l := src) (o := i) (by omega)
                    exact (hcs.2.2 i c cs[i] hc' (List.getElem?_eq_getElem hi)).2
                  have hs1 : ie.size = z := by rw [hsz, e2]
                  have hsrc : Src P ie.size t' v m cs w := ⟨hut', hlen, by rw [hs1]; exact hfc, by rw [hs1]; exact hfcD, by rw [hs1]; exact hcl, hone⟩
                  have hmz : m ≤ m * z := Nat.le_mul_of_pos_right m ez
                  have hnz : n ≤ n * z := Nat.le_mul_of_pos_right n ez
                  have hde := HR_del hr b
                  have hdn : lk b (hdel b h) = none := by rw [lk_hdel, if_pos rfl]
                  have hfree : ∀ c y, lk c (hdel b h) = some y → anyB (Seg.mentions b) y.segs = false := fun c y hy => hdel_free b hy
                  have hle2 : n' ≤ 140737488355328 := Nat.le_trans (Nat.le_mul_of_pos_right n' e3) hle
                  have hnoref : anyB (Seg.mentions b) segs' = false := joinRow_free hj
                  -- the joined row, as cells
                  have joined : ∀ (olds : List Value), olds.length = n * z → (∀ j c q, getCell segs (offO o + j) = some c → olds[j]? = some q → RC ρ c q ∧ q.oneCell' = true) → ∀ ρ', (∀ c, c ≠ b → ρ' c = ρ c) → ∀ rest : List Value, RSegs ρ' segs' ((olds ++ cs ++ rest).take (n' * z)) := by
                    intro olds ho1 ho2 ρ' hρ' rest
                    have agree : ∀ c q, (∀ d, c.mentions d = true → anyB (Seg.mentions d) segs' = true) → RC ρ c q → RC ρ' c q := by
                      intro c q hm hq
                      refine RC_agree (fun d hd => hρ' d ?_) hq
                      rintro rfl
                      rw [hm d hd] at hnoref; cases hnoref
                    refine ⟨by rw [j1, List.length_take, List.length_append, List.length_append]; omega, j3, fun j c q hc' hq => ?_⟩
                    have hjlt := getCell_lt hc'
                    have hm : ∀ d, c.mentions d = true → anyB (Seg.mentions d) segs' = true := fun d hd => getCell_mentions hc' hd
                    rw [List.getElem?_take, if_pos (by omega)] at hq
                    by_cases hjn : j < n * z
                    · rw [List.append_assoc, List.getElem?_append_left (by omega)] at hq
                      rw [j4 j (by omega)] at hc'
                      obtain ⟨g1, g2⟩ := ho2 j c q hc' hq
                      exact ⟨agree c q hm g1, g2⟩
                    · rw [List.append_assoc, List.getElem?_append_right (by omega), List.getElem?_append_left (by omega), ho1] at hq
                      have hjj := j5 (j - n * z) (by omega)
                      rw [show segsLen segs - offO o + (j - n * z) = j by omega] at hjj
                      rw [hc'] at hjj
                      obtain ⟨g1, g2⟩ := hcs.2.2 (j - n * z) c q hjj.symm hq
                      exact ⟨agree c q hm g1, g2⟩
                  -- a new row
                  have grow : ∀ (base : Option Addr) (cap : Nat) (olds : List Value), u = .slice base n cap → cap < n + m → olds.length = n * z → (Builtin.firstCells ie.size n (.slice base n cap)).run P w.drew = .ok olds.toArray w.drew →
                      (∀ j c q, getCell segs (offO o + j) = some c → olds[j]? = some q → RC ρ c q ∧ q.oneCell' = true) →
                      ∃ b z h' u' w' ρ', k z h' [b] = some r ∧ (Builtin.append_ #[t, t'] rt #[u, v]).run P w = .ok u' w' ∧ RV ρ' z u' ∧ HR N S ρ' h' w' ∧ Fr N S w w' ∧ ∀ c, c ≠ b → ρ' c = ρ c := by
                    intro base cap olds hu hcap holds hfirst hcell
                    have hrun := run_append_grow_src (P := P) w t t' rt ty.elem ie ze hut hie hze base n cap olds (by rw [hu] at *; exact hfirst) v m cs hsrc hcap (by omega) (by rw [hby]; exact growslice_fits hcap (by rw [← hn']; exact hle))
                    rw [← hu] at hrun
                    obtain ⟨G, hG⟩ : ∃ G, grownCap w (n + m) cap ty.elem = G := ⟨_, rfl⟩
                    have hGge : n + m ≤ G := by rw [← hG]; exact grownCap_ge w _ _ _
                    have hGle : G ≤ maxLen := by rw [← hG]; exact grownCap_le_maxLen w _ _ _ (by simp only [maxLen]; omega)
                    rw [hG] at hrun
                    obtain ⟨cur, hcur⟩ : ∃ cur, (olds ++ cs).toArray ++ Builtin.zeroCells ze.cells (G - (n + m)) = cur := ⟨_, rfl⟩
                    rw [hcur] at hrun
                    have hcurs : cur.size = G * z := by
                      rw [← hcur]
                      simp only [Array.size_append, List.size_toArray, List.length_append, size_zeroCells, hzs, e2]
                      have : G * z = (n + m) * z + (G - (n + m)) * z := by rw [← Nat.add_mul, Nat.add_sub_cancel' hGge]
                      omega
                    have hGz : n' * z ≤ G * z := Nat.mul_le_mul_right z (by omega)
                    have hcurl : cur.toList = olds ++ cs ++ (Builtin.zeroCells ze.cells (G - (n + m))).toList := by rw [← hcur]; simp
                    have hHR : HR N S ρ (hdel b h) (w.drew.alloc (.cells cur ty.elem)) := HR_allocw (HR_drewN (w' := w.drew) hde rfl) _
                    have hadd := HR_add hHR hdn hfree (x := ⟨segs', ty.elem, 2⟩) (L := ⟨w.heap.size, 0, cur.size, n' * z⟩) (.inr ⟨_, cur, (0, 0), setMap_self _ _ _, heap_alloc_new w.drew _, j1.symm, by simp only; omega, rfl, by
                      simp only [List.drop_zero]
                      rw [hcurl]
                      exact joined olds holds hcell _ (fun c hc => setMap_ne _ _ hc) _, fun _ => ⟨fun i _ hi => by simp at hi, .inr hr.low⟩, fun _ => rfl, fun h => by cases h⟩)
                      (fun c y M hy hM => by have := HR_lt (HR_drewN (w' := w.drew) hde rfl) hy hM; have e : w.drew.heap.size = w.heap.size := rfl; simp only; omega)
                    refine ⟨b, _, _, _, _, _, hk, hrun, ?_, hadd, ?_, fun c hc => setMap_ne _ _ hc⟩
                    · refine .inr ⟨_, _, _, setMap_self _ _ _, by rw [hn'], by omega, hGle, rfl, fun _ => by simp [offO], by simp [offO], by simp [offO]; omega⟩
                    · exact ⟨rfl, rfl, rfl, by simp, fun i hi _ => allocOld w.drew _ i (by have := hr.low; have e : w.drew.heap.size = w.heap.size := rfl; omega), fun i o' hi _ => (allocOld w.drew _ i (show i < w.heap.size from (Array.getElem?_eq_some_iff.1 hi).1)).trans hi⟩
                  rcases hx with ⟨hn0, hnz, hu⟩ | ⟨L, A, cap, hL, hu, hnc, hcm, hAb, hA, hon, hoc⟩
                  · -- nil
                    subst hnz
                    by_cases hm : m = 0
                    · have hcs0 : cs = [] := List.length_eq_zero_iff.1 (by rw [hcl, hm, Nat.zero_mul])
                      subst hcs0
                      have hrun : (Builtin.append_ #[t, t'] rt #[u, v]).run P w = .ok (.slice none 0 0) w := by
                        subst hu
                        rcases hut' with ⟨e', q⟩ | q <;> simp [Builtin.append_, run_underlying hut, run_underlying q, sizeOf, typeInfo, hie, hlen, hm, hsrc.cells, hm ▸ hsrc.cells]
                      refine ⟨b, _, _, _, _, ρ, hk, hrun, .inl ⟨hn0, by omega, rfl⟩, ?_, Fr.refl _ _ _, fun _ _ => rfl⟩
                      refine ⟨hr.low, fun c y hy => ?_, fun c d y z M M' hc hd hM hM' hne how => ?_⟩
                      · rw [lk_cons] at hy
                        split at hy
                        · rename_i e
                          subst e
                          simp only [Option.some.injEq] at hy
                          subst hy
                          exact .inl ⟨(show (2 : Nat) ≠ 1 by decide), hn0, by simp only; rw [j1, hn', hm, Nat.add_zero, Nat.zero_mul], j3⟩
                        · exact hde.blk c y hy
                      · rw [lk_cons] at hc hd
                        split at hc
                        · rename_i e; subst e; rw [hn0] at hM; cases hM
                        · split at hd
                          · rename_i e; subst e; rw [hn0] at hM'; cases hM'
                          · exact hde.inj c d y z M M' hc hd hM hM' hne how
                    · exact grow none 0 [] hu (by omega) (by rw [Nat.zero_mul]; rfl) (by simp [Builtin.firstCells]) (fun j c q _ hq => by simp at hq)
                  · obtain ⟨cur, fz, hg, hLn, hqle, hC, hs, hown, hown2⟩ := hr.real hb hL
                    have hfz := hown2.1 rfl
                    subst hfz
                    have hLn' : L.n = segsLen segs := hLn
                    have olds : ∃ ol : List Value, ol = (cur.toList.drop (L.q + offO o)).take (n * z) ∧ ol.length = n * z ∧ (∀ j c q, getCell segs (offO o + j) = some c → ol[j]? = some q → RC ρ c q ∧ q.oneCell' = true) := by
                      refine ⟨_, rfl, by rw [List.length_take, List.length_drop, Array.length_toList]; omega, fun j c q hc' hq => ?_⟩
                      obtain ⟨uu, huu, g1, g2⟩ := hs.at_ hLn hqle hc'
                      rw [List.getElem?_take] at hq
                      split at hq
                      · rw [List.getElem?_drop] at hq
                        have : cur[L.q + (offO o + j)]? = some q := by rw [← Nat.add_assoc]; simpa using hq
                        rw [huu] at this
                        simp only [Option.some.injEq] at this
                        subst this
                        exact ⟨g1, g2⟩
                      · cases hq
                    obtain ⟨ol, hol, holl, holc⟩ := olds
                    by_cases hroom : n + m ≤ cap
                    · -- there is room
                      have hfit : L.q + offO o + n * z + cs.length ≤ cur.size := by have := Nat.mul_le_mul_right z hroom; omega
                      obtain ⟨cur', hcur'⟩ : ∃ c', (cur.toList.take (L.q + offO o + n * z) ++ cs ++ cur.toList.drop (L.q + offO o + n * z + cs.length)).toArray = c' := ⟨_, rfl⟩
                      have hsz' : cur'.size = cur.size := by
                        rw [← hcur']
                        simp only [List.size_toArray, List.length_append, List.length_take, List.length_drop, Array.length_toList]
                        omega
                      have hrun : (Builtin.append_ #[t, t'] rt #[u, v]).run P w = .ok (.slice (some A) (n + m) cap) (w.setRow L.g cur') := by
                        by_cases hcap0 : cap = 0
                        · have hm0 : m = 0 := by omega
                          have hcs0 : cs = [] := List.length_eq_zero_iff.1 (by rw [hcl, hm0, Nat.zero_mul])
                          have hself : w.setRow L.g cur' = w := by
                            have : cur' = cur := by
                              rw [← hcur', hcs0]
                              simp
                            rw [this]
                            exact setRow_self w L.g cur _ _ hg
                          rw [hself]
                          subst hu
                          rcases hut' with ⟨e', q⟩ | q <;> simp [Builtin.append_, run_underlying hut, run_underlying q, sizeOf, typeInfo, hie, hlen, hroom, hsrc.cells, hcs0, storeCells, hcs0 ▸ hsrc.cells]
                        · have hA' := hA (by omega)
                          have hst := run_storeCells_any P L.g (L.q + offO o + n * z) ty.elem (0, 0) cs 0 cur w hg (fun i _ hi => by simp at hi) (by omega) hone
                          simp only [Nat.add_zero] at hst
                          rw [hcur'] at hst
                          subst hu
                          subst hA'
                          rcases hut' with ⟨e', q⟩ | q <;> simp [Builtin.append_, run_underlying hut, run_underlying q, sizeOf, typeInfo, hie, hlen, hroom, hfc, Addr.add_lit, hs1, hst]
                      have hset := HR_set hr hb hL (by simp) hg hsz' (segs' := segs) rfl (by
                        refine ⟨by rw [List.length_take, List.length_drop, Array.length_toList, hsz']; omega, hwfs, fun j c q hc' hq => ?_⟩
                        have hjl := getCell_lt hc'
                        rw [List.getElem?_take, if_pos (by omega), List.getElem?_drop, ← hcur'] at hq
                        have hq' : (cur.toList.take (L.q + offO o + n * z) ++ cs ++ cur.toList.drop (L.q + offO o + n * z + cs.length))[L.q + j]? = some q := by simpa using hq
                        have e4 : (cur.toList.take (L.q + offO o + n * z)).length = L.q + offO o + n * z := by rw [List.length_take, Array.length_toList]; omega
                        rw [List.append_assoc, List.getElem?_append_left (by omega), List.getElem?_take, if_pos (by omega)] at hq'
                        obtain ⟨uu, huu, g1, g2⟩ := hs.at_ hLn hqle hc'
                        have : cur[L.q + j]? = some q := by simpa using hq'
                        rw [huu] at this
                        simp only [Option.some.injEq] at this
                        subst this
                        exact ⟨g1, g2⟩)
                      have hsub : HR N S ρ (hdel b h) (w.setRow L.g cur') := by
                        refine ⟨by simpa using hr.low, fun c y hy => ?_, hde.inj⟩
                        rcases hde.blk c y hy with g1 | ⟨M, cur2, fz2, g1, g2, g3⟩
                        · exact .inl g1
                        · refine .inr ⟨M, cur2, fz2, g1, ?_, g3⟩
                          have hcb : c ≠ b ∧ ∃ y', lk c h = some y' := by
                            rw [lk_hdel] at hy
                            split at hy
                            · cases hy
                            · rename_i hcb
                              cases hh : lk c h with
                              | none => rw [hh] at hy; cases hy
                              | some y' => exact ⟨hcb, y', rfl⟩
                          obtain ⟨hcb, y', hy'⟩ := hcb
                          rw [setRow_other w L.g M.g cur' (fun e5 => hr.inj b c _ y' L M hb hy' hL g1 (Ne.symm hcb) (.inl (by simp)) e5.symm)]
                          exact g2
                      have hadd := HR_add hsub hdn hfree (x := ⟨segs', ty.elem, 2⟩) (L := ⟨L.g, L.q + offO o, cur.size, n' * z⟩) (.inr ⟨_, cur', (0, 0), setMap_self _ _ _, setRow_heap w L.g cur _ _ _ hg, j1.symm, by simp only; omega, by simp only; omega, by
                        have e6 : cur'.toList.drop (L.q + offO o) = ol ++ cs ++ cur.toList.drop (L.q + offO o + n * z + cs.length) := by
                          rw [← hcur', hol]
                          simp only [List.toList_toArray]
                          rw [List.append_assoc, List.drop_append_of_le_length (by rw [List.length_take, Array.length_toList]; omega), List.append_assoc]
                          congr 1
                          rw [List.drop_take]
                          congr 1
                          omega
                        simp only
                        rw [e6]
                        exact joined ol holl holc _ (fun c hc => setMap_ne _ _ hc) _, fun _ => ⟨fun i _ hi => by simp at hi, (hown (by simp)).2⟩, fun _ => rfl, fun h => by cases h⟩)
                        (fun c y M hy hM => by
                          rw [lk_hdel] at hy
                          split at hy
                          · cases hy
                          · rename_i hcb
                            cases hh : lk c h with
                            | none => rw [hh] at hy; cases hy
                            | some y' => exact hr.inj b c _ y' L M hb hh hL hM (Ne.symm hcb) (.inl (by simp)))
                      refine ⟨b, _, _, _, _, _, hk, hrun, ?_, hadd, hset.2, fun c hc => setMap_ne _ _ hc⟩
                      refine .inr ⟨_, A, cap, setMap_self _ _ _, by rw [hn'], by omega, hcm, hAb, fun hc0 => by simp only [offO, Nat.add_zero]; exact hA hc0, by simp [offO], ?_⟩
                      show L.q + offO o + 0 + cap * z ≤ cur.size
                      omega
                    · -- there is none
                      refine grow (some A) cap ol hu (by omega) holl ?_ holc
                      rw [hs1]
                      simp only [Builtin.firstCells]
                      by_cases hn0 : n = 0
                      · subst hn0
                        have : ol = [] := List.length_eq_zero_iff.1 (holl.trans (Nat.zero_mul z))
                        rw [this]
                        simp [loadCells, loadCellsFrom]
                      · have hA' := hA (by omega)
                        subst hA'
                        have := run_loadCells_list (P := P) w.drew ⟨L.g, L.q + offO o, none⟩ ol (fun j q hq => by
                          rw [hol, List.getElem?_take] at hq
                          split at hq
                          · rw [List.getElem?_drop] at hq
                            rw [Addr.add_lit, World.cell?_drew, cell_of_row w L.g _ cur _ _ hg]
                            simpa using hq
                          · cases hq)
                        rwa [holl] at this
                · cases hk
              · cases hk
            · cases hk
          · cases hk
        · cases hk
      · cases hk
    · cases hk
  · cases hk

end
end Go.Sx
