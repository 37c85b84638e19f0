import Derived.Test.YtkomlijabeedpaaDoorSxRg
namespace Go.Sx
section
variable {P : Program} {T : Tys} {O : Orc} {N : Nat} {S : Nat → Prop} {R : Type} {r : R}

def exDec : Nat → Ex
  | 0 => .normal
  | 1 => .ret
  | i + 2 => .exit i
def freeOf (b : Nat) (h : Heap) : Bool :=
  match lk b h with
  | none => heapFree b h
  | some _ => false
theorem freeOf_spec {b : Nat} {h : Heap} (hf : freeOf b h = true) : lk b h = none ∧ heapFree b h = true := by
  unfold freeOf at hf
  split at hf
  · rename_i e; exact ⟨e, hf⟩
  · cases hf
def rngK (o : Option Heap) : Option (Ex × Heap) :=
  match o with
  | some h2 => match lk 448 h2 with
    | some x => some (exDec x.ty, hDrop [448] h2)
    | none => none
  | none => none
theorem pickG_cons {α : Type} {b : Bool} {o : Option α} {r : GL α} {x : α} (h : pickG ((b, o) :: r) = some x) : (b = true ∧ o = some x) ∨ pickG r = some x := by
  cases b with
  | true => exact .inl ⟨rfl, h⟩
  | false => exact .inr h
def rfOf (i : Nat) (c : Code) : Code := (rngs c).getD i .skip
def rfG : Code → Operand
  | .rangeFunc g _ _ _ => g
  | _ => .tmp 0
def rfPs : Code → Array Tmp
  | .rangeFunc _ ps _ _ => ps
  | _ => #[]
def rfAs : Code → Code
  | .rangeFunc _ _ as _ => as
  | _ => .skip
def rfBd : Code → Code
  | .rangeFunc _ _ _ bd => bd
  | _ => .skip
def nodupB : List Nat → Bool
  | [] => true
  | a :: r => !memB a r && nodupB r
def allLtB (n : Nat) : List Nat → Bool
  | [] => true
  | a :: r => Nat.blt a n && allLtB n r
theorem memB_false {b : Nat} {l : List Nat} (h : memB b l = false) : b ∉ l := by
  induction l with
  | nil => exact List.not_mem_nil
  | cons c r ih =>
    simp only [memB] at h
    split at h
    · cases h
    · rename_i hc
      intro hm
      rcases List.mem_cons.1 hm with rfl | hm
      · simp at hc
      · exact ih h hm
theorem nodupB_spec {l : List Nat} (h : nodupB l = true) : l.Nodup := by
  induction l with
  | nil => exact List.nodup_nil
  | cons a r ih =>
    simp only [nodupB, Bool.and_eq_true, Bool.not_eq_true'] at h
    exact List.nodup_cons.2 ⟨memB_false h.1, ih h.2⟩
theorem allLtB_spec {n : Nat} {l : List Nat} (h : allLtB n l = true) : ∀ p ∈ l, p < n := by
  induction l with
  | nil => intro p hp; cases hp
  | cons a r ih =>
    simp only [allLtB, Bool.and_eq_true] at h
    intro p hp
    rcases List.mem_cons.1 hp with rfl | hp
    · exact blt_true h.1
    · exact ih h.2 p hp
def rngF (gf : Nat) (itE : Slots → List V1 → Heap → Option Heap) (v : AV) (sl : Slots) (hp : Heap) : Option (Ex × Heap) :=
  match v with
  | .fn f [] caps => match Nat.beq f gf && (freeOf 448 hp && (freeOf 449 hp && allL V1.low caps)) with
    | true => match itE sl caps ((448, ⟨[], 0, 0⟩) :: hp) with
      | some h2 => match lk 448 h2 with
        | some x => some (exDec x.ty, hDrop [448] h2)
        | none => none
      | none => none
    | false => none
  | _ => none

theorem rng_ok (hM : P.follows .mixedOrders = true) (hT : TyOK P T) {OU : Slots → Orc} (hOU : ∀ sl, OSound P (OU sl)) (hDU : ∀ sl, ODet (OU sl)) (hpbU : ∀ sl, (OU sl).pb = 450) (hrgU : ∀ sl i v sl' hp, (OU sl).rng i v sl' hp = none) {E : List Nat} {np : Nat} {bodyE : Slots → List AV → Heap → Option (Ex × Heap)} (htkU : ∀ sl, (OU sl).tk = true)
    (hylU : ∀ sl vs h, (OU sl).yl vs h = yRound E np (bodyE sl) vs h) {g : Operand} {ps : Array Tmp} {as bd : Code} {i0 : Nat} {cx : Cx} (hi0 : rgId as bd = some i0)
    (hbody : ∀ sl vs g ex g', bodyE sl vs g = some (ex, g') → BodyH P cx.nt as bd ps.toList sl vs g ex g') (hps : ps.size = np) (hpn : ps.toList.Nodup) (hpl : ∀ p ∈ ps.toList, p < cx.nt)
    {gf : FuncId} {ifn : Func} {ic : Code} (hf : P.funcs[gf]? = some ifn) (hb : ifn.body = some ic) (hok : codeOk ifn.ntmps ic = true) (hcall : ∀ us w, (callFunc gf us).run P w = .ok (.enter gf us) w) {itE : Slots → List V1 → Heap → Option Heap} {an : Ann} {cut bs : List Nat}
    (hit : ∀ sl caps h h2, (∃ N S ρ us w, RVs ρ (vAV caps []) us ∧ HR N S ρ h w) → itE sl caps h = some h2 → caps.length + 1 ≤ ifn.ntmps ∧ ∃ m, funN realA T (OU sl) an cut ic ifn.results.toList (.yld 449 :: vAV caps []) h (fun _ h => some (pick h bs)) (goD realA T (OU sl) an cut ic (finD T ifn.results.toList (fun _ h => some (pick h bs))) m) = some h2)
    (hO : ∀ v sl hp r, O.rng i0 v sl hp = some r → rngF gf itE v sl hp = some r) {ρ₀ : Map} {w₀ : World} (hpb : cx.pb ≤ 448) (hlo : cx.lo ≤ w₀.heap.size) (hnxU : ∀ sl, (OU sl).nx = none := by exact fun _ => rfl) : RngOk P O Fence.wide 0 N S ρ₀ w₀ cx [.rangeFunc g ps as bd] := by
  intro g' ps' as' bd' i hmem hid s v ex h' ρ a w hrng hev hlow h
  simp only [List.mem_singleton, Code.rangeFunc.injEq] at hmem
  obtain ⟨rfl, rfl, rfl, rfl⟩ := hmem
  rw [hi0] at hid
  simp only [Option.some.injEq] at hid
  subst hid
  replace hrng := hO _ _ _ _ hrng
  unfold rngF at hrng
  split at hrng
  · rename_i f caps
    split at hrng
    · rename_i hchk
      simp only [Bool.and_eq_true] at hchk
      obtain ⟨hfg, hf8, hf9, hcl⟩ := hchk
      have hfg := beq_true hfg
      subst hfg
      obtain ⟨h8a, h8b⟩ := freeOf_spec hf8
      obtain ⟨h9a, h9b⟩ := freeOf_spec hf9
      split at hrng
      · rename_i h2 hit2
        split at hrng
        · rename_i x hx
          simp only [Option.some.injEq, Prod.mk.injEq] at hrng
          obtain ⟨rfl, rfl⟩ := hrng
          -- the map with the loop's record; the token
          let ρ₁ : Map := fun b => if b = 448 then none else if b = 449 then some ⟨w.heap.size + 1, 0, 0, 0⟩ else ρ b
          have hρ : ∀ b, b ≠ 448 → b ≠ 449 → ρ₁ b = ρ b := fun b p q => by simp only [ρ₁, if_neg p, if_neg q]
          have hρlow : ∀ b, b < 448 → ρ₁ b = ρ b := fun b p => hρ b (by omega) (by omega)
          have hr1 : HR N S ρ₁ s.hp w := HR_agree h.hr (fun b x hb => hρ b (fun e => by rw [e, h8a] at hb; cases hb) (fun e => by rw [e, h9a] at hb; cases hb)) (fun b x c hb hc => hρ c (fun e => by rw [e, heapFree_spec h8b hb] at hc; cases hc) (fun e => by rw [e, heapFree_spec h9b hb] at hc; cases hc))
          have hrv : RV ρ (.fn f [] caps) (a.eval g') := er_sl h.sl g' _ hev
          obtain ⟨xs, ys, hfv, hxs, hys⟩ := hrv
          have hxs0 : xs = #[] := Array.eq_empty_of_size_eq_zero hxs.1
          subst hxs0
          have capv : RVs ρ₁ (vAV caps []) ys.toList := by
            have h1 : RVs ρ (vAV caps []) (ys.toList ++ []) := vAV_rvs hys ⟨rfl, fun i v u e => by cases e⟩
            rw [List.append_nil] at h1
            refine ⟨h1.1, fun j v u hj hu => RV_agree (fun b hb => hρlow b ?_) (h1.2 j v u hj hu)⟩
            have hv : v.low = true := by
              have : ∀ (l : List V1), (∀ y ∈ l, y.low = true) → ∀ v ∈ vAV l [], v.low = true := by
                intro l
                induction l with
                | nil => intro _ v hv; cases hv
                | cons y r ih =>
                  intro hl v hv
                  rcases List.mem_cons.1 hv with rfl | hv
                  · exact hl y List.mem_cons_self
                  · exact ih (fun z hz => hl z (List.mem_cons_of_mem _ hz)) v hv
              exact this caps (fun y hy => allL_spec hcl y hy) v (List.mem_of_getElem? hj)
            exact low_men hv hb
          -- the loop's two blocks
          refine wpIn_rangeFunc fun fn _ => ?_
          obtain ⟨W1, hW1⟩ : ∃ W1, (w.alloc (.deferred (some []))).alloc (.loop (recOf w.heap.size fn a.tmps ps' as' bd' 0)) = W1 := ⟨_, rfl⟩
          have hL1 : W1.heap[w.heap.size + 1]? = some (.loop (recOf w.heap.size fn a.tmps ps' as' bd' 0)) := by
            rw [← hW1]; have := World.alloc_heap_new (w.alloc (.deferred (some []))) (.loop (recOf w.heap.size fn a.tmps ps' as' bd' 0)); rwa [World.size_alloc] at this
          have hK1 : W1.heap[w.heap.size]? = some (.deferred (some [])) := by
            rw [← hW1]; exact (allocOld _ _ _ (by simp)).trans (World.alloc_heap_new w _)
          have hs1 : W1.heap.size = w.heap.size + 2 := by rw [← hW1]; simp
          have hfr1 : Fr N S w W1 := by rw [← hW1]; exact (Fr_alloc h.hr.low _).trans (Fr_alloc (by simp; exact Nat.le_succ_of_le h.hr.low) _)
          have hrW : HR N S ρ₁ ((448, ⟨[], 0, 0⟩) :: s.hp) W1 := by
            have h3 : HR N S ρ₁ s.hp W1 := by rw [← hW1]; exact HR_allocw (HR_allocw hr1 _) _
            refine ⟨h3.low, fun b y hb => ?_, fun b c y z L M hb hc hL hM hne how => ?_⟩
            · rw [lk_cons] at hb
              split at hb
              · rename_i e
                subst e
                simp only [Option.some.injEq] at hb
                subst hb
                exact .inl ⟨by decide, by simp [ρ₁], rfl, segsWf_nil⟩
              · exact h3.blk b y hb
            · have nb : ¬ 448 = b := fun e => by subst e; simp [ρ₁] at hL
              have nc : ¬ 448 = c := fun e => by subst e; simp [ρ₁] at hM
              rw [lk_cons, if_neg nb] at hb
              rw [lk_cons, if_neg nc] at hc
              exact h3.inj b c y z L M hb hc hL hM hne how
          refine ⟨w.heap.size + 1, [{ target := .collected w.heap.size, args := #[] }], W1, { target := .fn (.func f) ys, args := #[.func (.yield (w.heap.size + 1)) #[] #[]] }, W1, f, #[.func (.yield (w.heap.size + 1)) #[] #[]] ++ ys, W1, ?_, ?_, fun _ _ => trivial, ?_, (fun q => by simp [Fence.wide] at q), ?_⟩
          · rw [← hW1]; exact run_enterLoop_outer _ _ _ _ _
          · simp only [resolve, hfv]
            simp [go_sem]
          · simp [invoke, go_sem, hcall]
          · have exc : ∃ (N : Nat) (S : Nat → Prop) (ρ : Map) (us : List Value) (w : World), RVs ρ (vAV caps []) us ∧ HR N S ρ ((448, ⟨[], 0, 0⟩) :: s.hp) w := ⟨N, S, ρ₁, _, W1, capv, hrW⟩
            obtain ⟨hn, m, hk⟩ := hit s.sl caps _ _ exc hit2
            refine callsIn_of_wp_marks hf hb trivial ?_
            have capl : (vAV caps []).length = caps.length := by
              have : ∀ l : List V1, (vAV l []).length = l.length := fun l => by
                induction l with
                | nil => rfl
                | cons y r ih => simp [vAV, ih]
              exact this caps
            have argv : RVs ρ₁ (.yld 449 :: vAV caps []) (#[Value.func (.yield (w.heap.size + 1)) #[] #[]] ++ ys).toList := by
              have h1 : (#[Value.func (.yield (w.heap.size + 1)) #[] #[]] ++ ys).toList = Value.func (.yield (w.heap.size + 1)) #[] #[] :: ys.toList := by simp
              rw [h1]
              refine ⟨by simp only [List.length_cons, capv.1], fun i v u hv hu => ?_⟩
              cases i with
              | zero =>
                simp only [List.getElem?_cons_zero, Option.some.injEq] at hv hu
                subst hv hu
                exact ⟨_, show ρ₁ 449 = some ⟨w.heap.size + 1, 0, 0, 0⟩ by simp [ρ₁], rfl⟩
              | succ i => exact capv.2 i v u (by simpa using hv) (by simpa using hu)
            have asz : (#[Value.func (.yield (w.heap.size + 1)) #[] #[]] ++ ys).size = (AV.yld 449 :: vAV caps []).length := by have := capv.1; simp at this ⊢; omega
            generalize #[Value.func (.yield (w.heap.size + 1)) #[] #[]] ++ ys = us at argv asz ⊢
            have h0 : Rel N S ρ₁ w ⟨ifn.ntmps, [], fun _ => undef, 450, by decide, W1.heap.size⟩ ρ₁ ⟨slotsOf 0 (.yld 449 :: vAV caps []), (448, ⟨[], 0, 0⟩) :: s.hp⟩ { tmps := us ++ Array.replicate (ifn.ntmps - us.size) undef, defers := [] } W1 := by
              refine ⟨hrW, fun t v hv => ?_, ?_, DfOk.nil rfl rfl, hfr1, fun _ _ => rfl⟩
              · obtain ⟨_, h2⟩ := lk_slotsOf hv
                simp only [Nat.sub_zero] at h2
                have hlt : t < us.size := by rw [asz]; exact (List.getElem?_eq_some_iff.1 h2).1
                have hu : us.toList[t]? = some us[t] := by simp [hlt]
                have hg : (us ++ Array.replicate (ifn.ntmps - us.size) undef).getD t undef = us[t] := by
                  rw [Array.getD_eq_getD_getElem?, Array.getElem?_append_left hlt]
                  simp [hlt]
                rw [hg]
                exact argv.2 t v _ h2 hu
              · have : us.size = caps.length + 1 := by rw [asz]; simp [capl]
                simp; omega
            have hy := y_sound (P := P) (O := OU s.sl) (N := N) (S := S) (l := w.heap.size + 1) (D := w.heap.size) (fn := fn) (tmps := a.tmps) (hylU s.sl) (hbody s.sl) hps hpn hpl h.sz hlow (ρ₀ := ρ₁) (by simp [ρ₁]) ⟨_, show ρ₁ 449 = some ⟨w.heap.size + 1, 0, 0, 0⟩ by simp [ρ₁], rfl⟩ (fun t v hv => RV_agree (fun b hb => hρlow b (low_men (slLow_spec hlow hv) hb)) (h.sl t v hv))
            have hw := go_sound (P := P) (O := OU s.sl) (F := Fence.wide) (fu := 0) (G := Gl (w.heap.size + 1) w.heap.size fn a.tmps ps' as' bd') (I := fun _ _ => True) (cx := ⟨ifn.ntmps, [], fun _ => undef, 450, by decide, W1.heap.size⟩) (ρ₀ := ρ₁) (w₀ := w) (.inl rfl) hM hT (hOU s.sl) (hDU s.sl) (hpbU s.sl).symm (fun c w w' hg ho => hg.oth ho) (fun q => by rw [htkU] at q; cases q) (fun _ _ _ _ _ => trivial) (fun _ _ _ => trivial) (fun t sI e => by rw [hnxU] at e; cases e) (fun ρ w hp hg => hy.1 ρ w hp hg) (hy.2 w (by omega) h.hr.low) (an := an) (cut := cut) (body := ic) (rng_none (hrgU s.sl)) (K0 := finD T ifn.results.toList (fun _ h => some (pick h bs))) m ic [] _ rfl hok (.inl rfl) _ _ _ _ hk
              ⟨h0, fun x hx => by
                rw [lk_cons, if_pos rfl] at hx
                simp only [Option.some.injEq] at hx
                subst hx
                exact ⟨hL1, hK1⟩, fun _ _ => trivial⟩
            have fin : ∀ y ρ' s' (a₂ : Act) w', finD T ifn.results.toList (fun _ h => some (pick h bs)) y s' = some h2 → RelG N S (Gl (w.heap.size + 1) w.heap.size fn a.tmps ps' as' bd') (fun _ _ => True) ρ₁ w ⟨ifn.ntmps, [], fun _ => undef, 450, by decide, W1.heap.size⟩ ρ' s' a₂ w' → LeavesInM Fence.wide (0 - 1) P ifn a₂.tmps (rangePost Fence.wide 0 P (w.heap.size + 1) (fun e a' w' => e = exOf (exDec x.ty) ∧ ∃ ρ', Rel N S ρ₀ w₀ cx ρ' ⟨s.sl, hDrop [448] h2⟩ a' w') { a with defers := [{ target := .collected w.heap.size, args := #[] }] ++ a.defers }) a₂.defers .returning w' := by
              intro y ρ' s' a₂ w' hy2 hrel
              unfold finD at hy2
              split at hy2
              · cases hy2
              · split at hy2
                · rename_i v hv
                  simp only [Option.some.injEq] at hy2
                  subst hy2
                  refine leaves_marks (lo := W1.heap.size) (fun w2 => HR N S ρ' s'.hp w2 ∧ Fr N S w w2 ∧ Gl (w.heap.size + 1) w.heap.size fn a.tmps ps' as' bd' x.ty w2) (fun w2 D hI hD h2 => ⟨HR_putObj hI.1 h2 rfl _, Fr_putObj hI.2.1 h.hr.low (by omega) _, ⟨?_, ?_⟩⟩) (fun w2 hI => ?_) a₂.defers w' hrel.rel.df.n hrel.rel.df.m ⟨hrel.rel.hr, hrel.rel.fr, hrel.tok x (lk_pick2 hx)⟩
                  · rw [World.putObj_heap_other (by omega)]; exact hI.2.2.1
                  · rw [World.putObj_heap_other (by omega)]; exact hI.2.2.2
                  · have hrel2 : Rel N S ρ₁ w ⟨ifn.ntmps, [], fun _ => undef, 450, by decide, W1.heap.size⟩ ρ' s' { a₂ with defers := [] } w2 := ⟨hI.1, hrel.rel.sl, hrel.rel.sz, DfOk.nil rfl rfl, hI.2.1, hrel.rel.pin⟩
                    obtain ⟨u, h1, _⟩ := res_sound hT hrel2 hv
                    refine ⟨u, h1, jumpOf x.ty, _, run_endLoop (P := P) hI.2.2.1 (by simp only [recOf]; split <;> simp), ?_⟩
                    have hfin : Rel N S ρ₀ w₀ cx ρ' ⟨s.sl, hDrop [448] (pick s'.hp bs)⟩ { a with defers := [{ target := .collected w.heap.size, args := #[] }] ++ a.defers } (w2.putObj (w.heap.size + 1) (.loop { recOf w.heap.size fn a.tmps ps' as' bd' x.ty with state := .exhausted })) := by
                      have hfr2 : Fr N S w (w2.putObj (w.heap.size + 1) (.loop { recOf w.heap.size fn a.tmps ps' as' bd' x.ty with state := .exhausted })) := Fr_putObj hI.2.1 h.hr.low (by omega) _
                      refine ⟨HR_putObj (HR_sub hI.1 fun b x hb => ?_) hI.2.2.1 rfl _, fun t v hv => ?_, h.sz, ⟨fun d hd => ?_, ?_, h.df.b⟩, h.fr.trans hfr2, fun b hb => ?_⟩
                      · rw [lk_hDrop] at hb
                        split at hb
                        · cases hb
                        · exact lk_pick2 hb
                      · refine RV_agree (fun b hb => ?_) (h.sl t v hv)
                        have hb8 := low_men (slLow_spec hlow hv) hb
                        rw [hrel.rel.pin b (show b < 450 by omega)]
                        exact hρlow b hb8
                      · rcases List.mem_append.1 hd with hd | hd
                        · simp only [List.mem_singleton] at hd
                          refine ⟨w.heap.size, hd, Nat.le_trans hlo h.fr.size, ?_⟩
                          rw [World.putObj_heap_other (by omega)]; exact hI.2.2.2
                        · obtain ⟨D, q1, q2, q3⟩ := h.df.m d hd
                          exact ⟨D, q1, q2, hfr2.oth D _ q3 rfl⟩
                      · refine List.pairwise_cons.2 ⟨fun d hd e => ?_, h.df.n⟩
                        obtain ⟨D, q1, q2, q3⟩ := h.df.m d hd
                        have hlt := (Array.getElem?_eq_some_iff.1 q3).1
                        rw [q1] at e
                        simp only [Deferred.mk.injEq, Target.collected.injEq, and_true] at e
                        omega
                      · rw [hrel.rel.pin b (show b < 450 by omega), hρlow b (by omega)]
                        exact h.pin b hb
                    have jmp : ∀ k, x.ty = k → (match jumpOf k with
                       | none => exOf (exDec k) = Exit.normal
                       | some c => ∀ Q : Exit → Act → World → Prop, ∀ a w, Q (exOf (exDec k)) a w → c.wpIn Fence.wide 0 P Q a w) := by
                      intro k _
                      match k with
                      | 0 => rfl
                      | 1 => exact fun Q a w h => wpIn_ret h
                      | i + 2 => exact fun Q a w h => wpIn_exit h
                    have hj := jmp _ rfl
                    split
                    · rename_i e; rw [e] at hj; exact ⟨hj.symm, ρ', hfin⟩
                    · rename_i c e; rw [e] at hj; exact hj _ _ _ ⟨rfl, ρ', hfin⟩
                · cases hy2
            refine wpIn_mono hw fun e a' w' hp => ?_
            cases e with
            | normal =>
              obtain ⟨ρ', s', g1, g2⟩ := hp
              exact fin _ _ _ _ _ g1 g2
            | ret =>
              obtain ⟨ρ', s', g1, g2⟩ := hp
              exact fin _ _ _ _ _ g1 g2
            | exit i =>
              obtain ⟨ρ', s', g1, g2⟩ := hp
              cases g1
            | _ => exact hp.elim
        · cases hrng
      · cases hrng
    · cases hrng
  · cases hrng

def Cell.midF : Cell → Bool
  | .ptr b _ _ => Nat.blt b 410 || Nat.ble 500 b
  | .sl b _ _ _ => Nat.blt b 410 || Nat.ble 500 b
  | _ => true
def segsMidF : List Seg → Bool
  | [] => true
  | .one c :: r => c.midF && segsMidF r
  | _ :: r => segsMidF r
def V1.midF : V1 → Bool
  | .cell c => c.midF
  | .agg l => segsMidF l
def AV.midF : AV → Bool
  | .v x => x.midF
  | .tup l => allL V1.midF l
  | _ => false
def heapMidF : Heap → Bool
  | [] => true
  | (b, x) :: r => ((Nat.blt b 410 || Nat.ble 500 b) && segsMidF x.segs) && heapMidF r
def Mid (b : Nat) : Prop := 410 ≤ b ∧ b < 500
theorem mid_no {b : Nat} (h : (Nat.blt b 410 || Nat.ble 500 b) = true) : ¬ Mid b := by
  simp only [Bool.or_eq_true] at h
  rintro ⟨h1, h2⟩
  rcases h with h | h
  · have := blt_true h; omega
  · have := Nat.le_of_ble_eq_true h; omega
theorem Cell.midF_spec {c : Cell} (h : c.midF = true) {b : Nat} (hb : c.mentions b = true) : ¬ Mid b := by
  cases c with
  | ptr d o i => rw [← beq_true (show Nat.beq d b = true from hb)]; exact mid_no h
  | sl d o n z => rw [← beq_true (show Nat.beq d b = true from hb)]; exact mid_no h
  | _ => cases hb
theorem segsMidF_spec {l : List Seg} (h : segsMidF l = true) {b : Nat} (hb : anyB (Seg.mentions b) l = true) : ¬ Mid b := by
  induction l with
  | nil => cases hb
  | cons s r ih =>
    unfold anyB at hb
    split at hb
    · rename_i hs
      cases s with
      | one c => simp only [segsMidF, Bool.and_eq_true] at h; exact Cell.midF_spec h.1 hs
      | _ => cases hs
    · refine ih ?_ hb
      cases s with
      | one c => simp only [segsMidF, Bool.and_eq_true] at h; exact h.2
      | _ => exact h
theorem AV.midF_spec {v : AV} (h : v.midF = true) {b : Nat} (hb : v.mentions b = true) : ¬ Mid b := by
  have v1 : ∀ x : V1, x.midF = true → x.mentions b = true → ¬ Mid b := by
    intro x h hb
    cases x with
    | cell c => exact Cell.midF_spec h hb
    | agg l => exact segsMidF_spec h hb
  cases v with
  | v x => exact v1 x h hb
  | tup l =>
    obtain ⟨y, h1, h2⟩ := anyB_spec hb
    exact v1 y (allL_spec h y h1) h2
  | fn f a c => cases h
  | yld b => cases h
theorem heapMidF_spec {h : Heap} (hh : heapMidF h = true) {b : Nat} {x : Blk} (hb : lk b h = some x) : ¬ Mid b ∧ ∀ c, anyB (Seg.mentions c) x.segs = true → ¬ Mid c := by
  induction h with
  | nil => cases hb
  | cons p r ih =>
    obtain ⟨i, y⟩ := p
    simp only [heapMidF, Bool.and_eq_true] at hh
    rw [lk_cons] at hb
    split at hb
    · rename_i e
      subst e
      simp only [Option.some.injEq] at hb
      subst hb
      exact ⟨mid_no hh.1.1, fun c hc => segsMidF_spec hh.1.2 hc⟩
    · exact ih hh.2 hb
def outR (k : AV → Heap → Option (AV × Heap)) (v : AV) (h : Heap) : Option (AV × Heap) :=
  match k v h with
  | some (v2, h2) => match v2.midF && heapMidF h2 with
    | true => some (v2, h2)
    | false => none
  | none => none

theorem fnh_ofR (hM : P.follows .mixedOrders = true) (hT : TyOK P T) (hO : OSound P O) (hD : ODet O) {an : Ann} {cut : List Nat} {f g : FuncId} {fn : Func} {c : Code} (hf : P.funcs[g]? = some fn) (hb : fn.body = some c) (hok : codeOk fn.ntmps c = true)
    (hcall : ∀ us w, (callFunc f us).run P w = .ok (.enter g us) w) (hpb : O.pb = 410) (hR : ∀ N S ρ w, RngOk P O Fence.wide 0 N S ρ w ⟨fn.ntmps, [], fun _ => undef, O.pb, by rw [hpb]; decide, w.heap.size⟩ (rngs c)) {vs : List AV} {h : Heap} {v2 : AV} {h2 : Heap} (hn : vs.length ≤ fn.ntmps) {k : AV → Heap → Option (AV × Heap)} (hk : ∀ {N S ρ w v h v2 h2 u}, k v h = some (v2, h2) → RV ρ v u → HR N S ρ h w → ∃ ρ2, RV ρ2 v2 u ∧ HR N S ρ2 h2 w ∧ ∀ b, b < 500 → ρ2 b = ρ b) {a : Option (AV × Heap)} (ha : (∃ N S ρ us w, RVs ρ vs us ∧ HR N S ρ h w) → a = some (v2, h2))
    (hp : ∀ tb : Nat → List Bool → St → Option (AV × Heap), Stp (fun t p s => nodeN realA T O an cut t c (finD T fn.results.toList (outR k)) p s) tb → Prs (fun m => funN realA T O an cut c fn.results.toList vs h (outR k) (tb m)) a) (htk : O.tk = false := by rfl) (hyl : ∀ vs h, O.yl vs h = none := by exact fun _ _ => rfl) (hnx : O.nx = none := by rfl) : FnH P f vs h v2 h2 := by
  intro N S ρ w us hr hvs
  rw [hcall]
  refine ⟨rfl, Calls.mono (funG_sound hM hT hO hD (by rw [hpb]; decide) htk hyl hnx hf hb hok (hR N S ρ w) hn hvs hr (via_tb hp (ha ⟨N, S, ρ, _, w, hvs, hr⟩))) fun e w' he => ?_⟩
  obtain ⟨u, ρ', v', h', e1, e2, e3, e4, e5, e6⟩ := he
  unfold outR at e2
  split at e2
  · rename_i v3 h3 hk3
    split at e2
    · rename_i hchk
      simp only [Bool.and_eq_true] at hchk
      simp only [Option.some.injEq, Prod.mk.injEq] at e2
      obtain ⟨rfl, rfl⟩ := e2
      obtain ⟨ρ2, g1, g2, g3⟩ := hk hk3 e3 e4
      refine ⟨u, fun b => if 410 ≤ b ∧ b < 500 then ρ b else ρ2 b, e1, RV_agree (fun b hb => if_neg (AV.midF_spec hchk.1 hb)) g1, HR_agree g2 (fun b x hb => if_neg (heapMidF_spec hchk.2 hb).1) (fun b x c hb hc => if_neg ((heapMidF_spec hchk.2 hb).2 c hc)), e5, fun b hb => ?_⟩
      by_cases h1 : 410 ≤ b ∧ b < 500
      · exact if_pos h1
      · simp only [if_neg h1]
        rw [g3 b hb]; exact e6 b (by omega)
    · cases e2
  · cases e2

end
end Go.Sx
