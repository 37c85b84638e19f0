import Derived.Test.YtkomlijabeedpaaDoorSxRo
import Derived.Test.YtkomlijabeedpaaDoorSxTc
import Derived.Laws.Externs
import Derived.Lib.Bytealg
import Derived.Lib.Builder
import Derived.Lib.UnsafeStr
import Derived.Test.YtkomlijabeedpaaDoorChecked
import Derived.WideShapes
import Derived.WalkKit
import Derived.Shelf.RegionOpenPlain
namespace Go.Sx
section
variable {P : Program} {T : Tys} {O : Orc} {N : Nat} {S : Nat → Prop} {R : Type} {r : R}
def headC : Code → Code
  | .seq a _ => a
  | c => c
def tailC : Code → Code
  | .seq _ b => b
  | c => c
def opsOf : Code → Array Oper
  | .region _ ops _ => ops
  | _ => #[]
def spine (A : Ar) (T : Tys) (O : Orc) (an : Ann) (X : St → Option R) (K : Ex → St → Option R) : Nat → Code → St → Option R
  | n + 1, .seq a b, s => codeN A T O an [] (fun _ _ => none) [] a (fun ex s' => match ex with
    | .normal => spine A T O an X K n b s'
    | ex => K ex s') s
  | 0, _, s => X s
  | _, _, _ => none
def spineC : Nat → Code → Option Code
  | n + 1, .seq _ b => spineC n b
  | 0, c => some c
  | _, _ => none
theorem spine_sound {cx : Cx} {ρ₀ : Map} {w₀ : World} (hM : P.follows .mixedOrders = true) (hT : TyOK P T) (hO : OSound P O) (hD : ODet O) (hpb : cx.pb = O.pb) (hyl : ∀ vs h, O.yl vs h = none) (hnx : O.nx = none) (hrg : ∀ i v sl hp, O.rng i v sl hp = none) {an : Ann} {X : St → Option R} {K : Ex → St → Option R} {q : Code} {Q : Exit → Act → World → Prop}
    (hX : ∀ s ρ a w, X s = some r → Rel N S ρ₀ w₀ cx ρ s a w → q.wpIn Fence.wide 0 P Q a w) (hQ : ∀ ex s ρ a w, ex ≠ .normal → K ex s = some r → Rel N S ρ₀ w₀ cx ρ s a w → Q (exOf ex) a w) :
    ∀ (n : Nat) (c : Code), spineC n c = some q → codeOkL cx.nt cx.L c = true → ∀ (s : St) (ρ : Map) (a : Act) (w : World), spine realA T O an X K n c s = some r → Rel N S ρ₀ w₀ cx ρ s a w → c.wpIn Fence.wide 0 P Q a w := by
  intro n
  induction n with
  | zero =>
    intro c hc _ s ρ a w hk h
    have e : c = q := by cases c <;> simpa [spineC] using hc
    subst e
    have hk : X s = some r := by cases c <;> simpa [spine] using hk
    exact hX s ρ a w hk h
  | succ n ih =>
    intro c hc hok s ρ a w hk h
    cases c with
    | seq x y =>
      simp only [spineC] at hc
      simp only [codeOkL, Bool.and_eq_true] at hok
      simp only [spine] at hk
      have hw := go_sound (P := P) (O := O) (F := Fence.wide) (fu := 0) (G := fun _ _ => True) (I := fun _ _ => True) (cx := cx) (ρ₀ := ρ₀) (w₀ := w₀) (.inl rfl) hM hT hO hD hpb (fun _ _ _ _ _ => trivial) (fun _ _ _ => trivial) (fun _ _ _ _ _ => trivial) (fun _ _ _ => trivial) (fun t sI e => by rw [hnx] at e; cases e) (fun _ _ _ _ => ysound_none hyl) (yexit_none hyl) (an := an) (cut := []) (body := x) (rng_none hrg) (K0 := fun ex s' => match ex with
        | .normal => spine realA T O an X K n y s'
        | ex => K ex s') 0 x [] _ rfl hok.1 (.inl rfl) s ρ a w hk ⟨h, fun _ _ => trivial, fun _ _ => trivial⟩
      refine wpIn_seq (wpIn_mono hw fun e a' w' hq => ?_)
      cases e with
      | normal =>
        obtain ⟨ρ', s', g1, g2⟩ := hq
        exact ih y hc hok.2 s' ρ' a' w' g1 g2.rel
      | exit i =>
        obtain ⟨ρ', s', g1, g2⟩ := hq
        exact hQ (.exit i) s' ρ' a' w' (by intro e; cases e) g1 g2.rel
      | ret =>
        obtain ⟨ρ', s', g1, g2⟩ := hq
        exact hQ .ret s' ρ' a' w' (by intro e; cases e) g1 g2.rel
      | _ => exact hq.elim
    | _ => simp [spineC] at hc

def lastR : List Oper → Option (List Oper × Nat × TypeId × Operand)
  | [o] => match o.op, o.dst, o.guard with
    | .range t x, some d, none => some ([], d, t, x)
    | _, _, _ => none
  | o :: r => match lastR r with
    | some (l, d, t, x) => some (o :: l, d, t, x)
    | none => none
  | [] => none
theorem lastR_spec : ∀ {l i : List Oper} {d : Nat} {t : TypeId} {x : Operand}, lastR l = some (i, d, t, x) → ∃ o, l = i ++ [o] ∧ o.op = .range t x ∧ o.dst = some d ∧ o.guard = none
  | [], _, _, _, _, h => by simp [lastR] at h
  | [o], i, d, t, x, h => by
    simp only [lastR] at h
    split at h
    · rename_i h1 h2 h3
      simp only [Option.some.injEq, Prod.mk.injEq] at h
      obtain ⟨rfl, rfl, rfl, rfl⟩ := h
      exact ⟨o, rfl, h1, h2, h3⟩
    · cases h
  | o :: o2 :: r, i, d, t, x, h => by
    simp only [lastR] at h
    split at h
    · rename_i l d' t' x' hl
      simp only [Option.some.injEq, Prod.mk.injEq] at h
      obtain ⟨rfl, rfl, rfl, rfl⟩ := h
      obtain ⟨o', e1, e2, e3, e4⟩ := lastR_spec hl
      exact ⟨o', by rw [e1]; rfl, e2, e3, e4⟩
    · cases h
def itGo (A : Ar) (T : Tys) (O : Orc) (an : Ann) (id : Nat) (ops : Array Oper) (X2 : List Nat → St → Option R) (s : St) : Option R :=
  match lastR ops.toList with
  | some (l, d, t, x) => opsD A T O ops.toList ((id + 1) * 1000) l (keepG O.pb an id s) (fun s1 => match ev s1 x, T t with
    | some (.v (.cell (.str sI))), some ⟨.string, _, _, _, _, _, _, _⟩ => match freshIn 409 s1, lk d s1.sl with
      | true, none => X2 sI ⟨s1.sl, (409, ⟨[], 0, 0⟩) :: s1.hp⟩
      | _, _ => none
    | _, _ => none)
  | none => none
theorem ops_pre {cx : Cx} {ρ₀ : Map} {w₀ : World} (hT : TyOK P T) (hO : OSound P O) (hY : YSound P O cx.pb ρ₀ w₀) {ops : Array Oper} {base : Nat} (hb : 500 ≤ base) (hok : ∀ o ∈ ops.toList, ∀ d, o.dst = some d → cx.ok d) {k : St → Option R} {Q : Exit → Act → World → Prop} {o : Oper} (hg : o.guard = none)
    (hQ : ∀ ρ s a w, k s = some r → Rel N S ρ₀ w₀ cx ρ s a w → o.wpIn Fence.wide 0 P a w (fun a' w' => Q .normal a' w') Q) (l : List Oper) :
    ∀ (i : Nat) (ρ : Map) (s : St) (a : Act) (w : World), ops.toList.drop i = l ++ [o] → opsD realA T O ops.toList (base + i) l s k = some r → Rel N S ρ₀ w₀ cx ρ s a w → wpOpsIn Fence.wide 0 P ops Q (List.range' i (l.length + 1)) a w := by
  induction l with
  | nil =>
    intro i ρ s a w hl hk h
    have hi : ops[i]? = some o := by
      have : (ops.toList.drop i)[0]? = some o := by rw [hl]; rfl
      rw [List.getElem?_drop] at this
      simpa using this
    simp only [List.length_nil, List.range'_succ, wpOpsIn, hi]
    have hw : Region.wanted o (yielded ops a.tmps) = true := by unfold Region.wanted; rw [hg]
    rw [hw]
    simp only [if_true]
    exact hQ ρ s a w hk h
  | cons p l ih =>
    intro i ρ s a w hl hk h
    have hi : ops[i]? = some p := by
      have : (ops.toList.drop i)[0]? = some p := by rw [hl]; rfl
      rw [List.getElem?_drop] at this
      simpa using this
    have ho : p ∈ ops.toList := by
      have : p ∈ ops.toList.drop i := by rw [hl]; exact List.mem_cons_self
      exact List.mem_of_mem_drop this
    have hl' : ops.toList.drop (i + 1) = l ++ [o] := by
      rw [← List.drop_drop, hl]; rfl
    rw [List.length_cons, List.range'_succ]
    simp only [wpOpsIn, hi]
    simp only [opsD] at hk
    obtain ⟨b, hk, hw⟩ := want_sound h hk
    rw [hw]
    cases b with
    | true =>
      simp only [if_true]
      exact oper_sound (.inl rfl) hT hO hY h (by omega) (hok p ho) hk fun v h' mv ρ' a' w' hk' h' => ih (i + 1) _ _ _ _ hl' (by rw [← Nat.add_assoc]; rw [force_eq] at hk'; exact hk') h'
    | false =>
      simp only [Bool.false_eq_true, if_false]
      refine ⟨fun f _ => trivial, ih (i + 1) ρ _ _ _ hl' (by rw [← Nat.add_assoc]; exact hk) ?_⟩
      exact h.step (sid := base + i) (mv := []) (by omega) rfl (show RV ρ (.v (.cell .un)) undef from rfl) h.hr (Fr.refl _ _ _) (fun _ _ _ => rfl) (hok p ho)
theorem itGo_sound {cx : Cx} {ρ₀ : Map} {w₀ : World} (hT : TyOK P T) (hO : OSound P O) (hY : ∀ ρ w, YSound P O cx.pb ρ w) (hpb : cx.pb = O.pb) (h410 : 410 ≤ cx.pb) (hlo : cx.lo ≤ w₀.heap.size) {an : Ann} {id : Nat} {ops : Array Oper} (hok : codeOkL cx.nt cx.L (.region id ops false) = true) {X2 : List Nat → St → Option R} {Q : Exit → Act → World → Prop} {blk rest : Code}
    (hX : ∀ (d : Nat) (g : Nat) (s' : ByteArray) (st : St) (ρ : Map) (a : Act) (w w1 : World), (lastR ops.toList).map (fun q => q.2.1) = some d → X2 (natsOf s') st = some r → Fr N S w₀ w → g = w.heap.size → w1.heap[g]? = some (.stringIter s' 0) → ρ 409 = none → lk 409 st.hp = some ⟨[], 0, 0⟩ → Rel N S ρ w ⟨cx.nt, [d], fun _ => .pointer (some ⟨g, 0, none⟩), cx.pb, cx.le, cx.lo⟩ ρ st a w1 → blk.wpIn Fence.wide 0 P (Exit.then (rest.wpIn Fence.wide 0 P Q) Q) a w1)
    {ρ : Map} {s : St} {a : Act} {w : World} (hk : itGo realA T O an id ops X2 s = some r) (h : Rel N S ρ₀ w₀ cx ρ s a w) : (Code.seq (.seq (.region id ops false) blk) rest).wpIn Fence.wide 0 P Q a w := by
  unfold itGo at hk
  split at hk
  · rename_i l d t x hl
    obtain ⟨o, hops, ho, hd, hgd⟩ := lastR_spec hl
    obtain ⟨ρ1, h1⟩ := (RelG.mk (G := fun _ _ => True) (I := fun _ _ => True) h (fun _ _ => trivial) (fun _ _ => trivial)).keepG an id
    rw [hpb] at h1
    have h1 := h1.rel
    have hokd : cx.ok d := opsOk_spec hok o (by rw [hops]; simp) d hd
    refine wpIn_seq (wpIn_seq (wpIn_region ?_))
    have hsz : ops.size = l.length + 1 := by rw [← Array.length_toList, hops]; simp
    rw [List.range_eq_range', hsz]
    refine ops_pre (P := P) (O := O) hT hO (hY _ _) (base := (id + 1) * 1000) (by omega) (opsOk_spec hok) hgd (fun ρ2 s2 a2 w2 hk2 h2 => ?_) l 0 ρ1 _ a w (by rw [List.drop_zero]; exact hops) (by rw [Nat.add_zero]; exact hk) h1
    split at hk2
    · rename_i sI z1 z2 z3 z4 z5 z6 z7 hev hty
      split at hk2
      · rename_i hfr hno
        obtain ⟨f1, f2, f3⟩ := freshIn_spec hfr
        obtain ⟨s', hs', rfl⟩ := h2.er x _ hev
        refine ⟨fun f _ => trivial, ?_⟩
        rw [Oper.semAt_eq _ _ _ (fun c' e => by rw [ho] at e; cases e)]
        obtain ⟨dd, hund, hdesc⟩ := run_und (P := P) hT hty
        have hdesc : dd = .string := hdesc
        subst hdesc
        have hrun : (execOp a2.eval o).run P w2 = .ok (.value (.pointer (some ⟨w2.heap.size, 0, none⟩))) (w2.alloc (.stringIter s' 0)) := by
          simp only [execOp, ho, hs']
          simp [Instr.range, hund w2]
        rw [hrun, Oper.uponIn_value, hd]
        let ρ' : Map := fun b => if b = 409 then none else ρ2 b
        have hρ : ∀ b, b ≠ 409 → ρ' b = ρ2 b := fun b hb => if_neg hb
        have hρ9 : ρ' 409 = none := if_pos (Eq.refl 409)
        have hr1 : HR N S ρ' s2.hp w2 := HR_agree h2.hr (fun b x hb => hρ b (fun e => by rw [e, f1] at hb; cases hb)) (fun b x c hb hc => hρ c (fun e => by rw [e, heapFree_spec f2 hb] at hc; cases hc))
        have hr2 := HR_allocw hr1 (.stringIter s' 0)
        refine hX d w2.heap.size s' _ ρ' (a2.put (some d) (.pointer (some ⟨w2.heap.size, 0, none⟩))) w2 (w2.alloc (.stringIter s' 0)) (by rw [hl]; simp only [Option.map_some]) hk2 h2.fr rfl (World.alloc_heap_new w2 _) hρ9 ((lk_cons _ _ _ _).trans (if_pos (Eq.refl 409))) ⟨⟨hr2.low, fun b y hb => ?_, fun b c y z L M hb hc hL hM hne how => ?_⟩, fun t v hv => ?_, ?_, ⟨?_, ?_, ?_⟩, Fr_alloc h2.hr.low _, fun _ _ => rfl⟩
        · rw [lk_cons] at hb
          split at hb
          · rename_i e
            subst e
            simp only [Option.some.injEq] at hb
            subst hb
            exact .inl ⟨(by decide : (0 : Nat) ≠ 1), hρ9, rfl, segsWf_nil⟩
          · exact hr2.blk b y hb
        · have nb : ¬ 409 = b := fun e => by subst e; simp [ρ'] at hL
          have nc : ¬ 409 = c := fun e => by subst e; simp [ρ'] at hM
          rw [lk_cons, if_neg nb] at hb
          rw [lk_cons, if_neg nc] at hc
          exact hr2.inj b c y z L M hb hc hL hM hne how
        · have hne : d ≠ t := fun e => by subst e; rw [hno] at hv; cases hv
          have := h2.sl t v hv
          show RV ρ' v ((a2.tmps.setIfInBounds d _).getD t undef)
          rw [Array.getD_eq_getD_getElem?, Array.getElem?_setIfInBounds_ne hne, ← Array.getD_eq_getD_getElem?]
          exact RV_agree (fun b hb => hρ b (fun e => by subst e; rw [f3 t v hv] at hb; cases hb)) this
        · simp [Act.put, h2.sz]
        · intro d' hd'
          obtain ⟨D, q1, q2, q3⟩ := h2.df.m d' hd'
          exact ⟨D, q1, q2, (allocOld _ _ _ (Array.getElem?_eq_some_iff.1 q3).1).trans q3⟩
        · exact h2.df.n
        · intro t ht
          have : t = d := by
            simp only [memB] at ht
            split at ht
            · rename_i e; exact (beq_true e).symm
            · cases ht
          subst this
          show (a2.tmps.setIfInBounds t _).getD t undef = _
          rw [Array.getD_eq_getD_getElem?, Array.getElem?_setIfInBounds_self_of_lt (by rw [h2.sz]; exact hokd.1)]
          rfl
      · cases hk2
    · cases hk2
  · cases hk
def funI {R : Type} (A : Ar) (T : Tys) (O : Orc) (an : Ann) (n : Nat) (id : Nat) (ops : Array Oper) (c : Code) (rs : List ResultVar) (args : List AV) (k : AV → Heap → Option R) (X2 : List Nat → St → Option R) : Option R :=
  spine A T O an (itGo A T O an id ops X2) (finD T rs k) n c ⟨slotsOf 0 args, []⟩
theorem funI_sound {O2 : List Nat → Orc} (hM : P.follows .mixedOrders = true) (hT : TyOK P T) (hO : OSound P O) (hD : ODet O) (hpb : O.pb = 410) (hyl : ∀ vs h, O.yl vs h = none) (hnx : O.nx = none) (hrg : ∀ i v sl hp, O.rng i v sl hp = none) {d : Nat} (hO2 : ∀ s, OSound P (O2 s)) (hD2 : ∀ s, ODet (O2 s)) (hpb2 : ∀ s, (O2 s).pb = 410) (htk2 : ∀ s, (O2 s).tk = false) (hyl2 : ∀ s vs h, (O2 s).yl vs h = none) (hnx2 : ∀ s, (O2 s).nx = some (d, s))
    {an : Ann} {cut : List Nat} {f : FuncId} {fn : Func} {c blk rest : Code} {n id : Nat} {ops : Array Oper} (hf : P.funcs[f]? = some fn) (hb : fn.body = some c) (hok : codeOk fn.ntmps c = true) (hsp : spineC n c = some (.seq (.seq (.region id ops false) blk) rest)) (hok1 : codeOk fn.ntmps (.region id ops false) = true) (hok2 : codeOkL fn.ntmps [d] (.seq blk rest) = true) (hcut : isCut cut rest = false) (hdd : (lastR ops.toList).map (fun q => q.2.1) = some d)
    (hR : ∀ s N S ρ w (cx : Cx), cx.nt = fn.ntmps → cx.pb = 410 → cx.lo ≤ w.heap.size → RngOk P (O2 s) Fence.wide 0 N S ρ w cx (rngs (.seq blk rest))) {vs : List AV} {us : Array Value} {ρ : Map} {w : World}
    (hn : vs.length ≤ fn.ntmps) (hvs : RVs ρ vs us.toList) {k : AV → Heap → Option R} {X2 : List Nat → St → Option R} (hX2 : ∀ s st, X2 s st = some r → ∃ m, codeN realA T (O2 s) an cut (goD realA T (O2 s) an cut (.seq blk rest) (finD T fn.results.toList k) m) [] (.seq blk rest) (finD T fn.results.toList k) st = some r) (hk : funI realA T O an n id ops c fn.results.toList vs k X2 = some r) :
    Calls P f us w fun e w' => ∃ u ρ' v h', e = .returned u ∧ k v h' = some r ∧ RV ρ' v u ∧ Fr w.heap.size (fun _ => False) w w' := by
  refine callsIn_wide.1 (callsIn_of_wp_marks (n := 0) hf hb trivial ?_)
  have hsz : us.size = vs.length := by have := hvs.1; simpa using this
  have hle : O.pb ≤ 500 := by rw [hpb]; decide
  have hr := HR_nil ρ w
  have h0 : Rel w.heap.size (fun _ => False) ρ w ⟨fn.ntmps, [], fun _ => undef, O.pb, hle, w.heap.size⟩ ρ ⟨slotsOf 0 vs, []⟩ { tmps := us ++ Array.replicate (fn.ntmps - us.size) undef, defers := [] } w := by
    refine ⟨hr, fun t v hv => ?_, by simp; omega, DfOk.nil rfl rfl, Fr.refl _ _ _, fun _ _ => rfl⟩
    obtain ⟨_, h2⟩ := lk_slotsOf hv
    simp only [Nat.sub_zero] at h2
    have hlt : t < us.size := by rw [hsz]; exact (List.getElem?_eq_some_iff.1 h2).1
    have hu : us.toList[t]? = some us[t] := by simp [hlt]
    have hg : (us ++ Array.replicate (fn.ntmps - us.size) undef).getD t undef = us[t] := by
      rw [Array.getD_eq_getD_getElem?, Array.getElem?_append_left hlt]
      simp [hlt]
    rw [hg]
    exact hvs.2 t v _ h2 hu
  have fin : ∀ {ρ₁ : Map} {w₁ : World} {cx : Cx} (x : Ex) (ρ' : Map) (s : St) (a : Act) (w' : World), cx.nt = fn.ntmps → cx.lo = w.heap.size → finD T fn.results.toList k x s = some r → Rel w.heap.size (fun _ => False) ρ₁ w₁ cx ρ' s a w' → Fr w.heap.size (fun _ => False) w w₁ → LeavesInM Fence.wide 0 P fn a.tmps (fun e w' => ∃ u ρ' v h', e = .returned u ∧ k v h' = some r ∧ RV ρ' v u ∧ Fr w.heap.size (fun _ => False) w w') a.defers .returning w' := by
    intro ρ₁ w₁ cx x ρ' s a w' hnt hlo hx hrel hfr
    unfold finD at hx
    split at hx
    · cases hx
    · split at hx
      · rename_i v hv
        refine leaves_marks (lo := w.heap.size) (fun w2 => HR w.heap.size (fun _ => False) ρ' s.hp w2 ∧ Fr w.heap.size (fun _ => False) w w2) (fun w2 D hI hD h2 => ⟨HR_putObj hI.1 h2 rfl _, Fr_putObj hI.2 hr.low hD _⟩) (fun w2 hI => ?_) a.defers w' hrel.df.n (fun d hd => by
          obtain ⟨D, q1, q2, q3⟩ := hrel.df.m d hd
          exact ⟨D, q1, by rw [← hlo]; exact q2, q3⟩) ⟨hrel.hr, hfr.trans hrel.fr⟩
        have hrel2 : Rel w.heap.size (fun _ => False) ρ' w2 ⟨fn.ntmps, [], fun _ => undef, O.pb, hle, w.heap.size⟩ ρ' s { a with defers := [] } w2 := ⟨hI.1, hrel.sl, by rw [hrel.sz, hnt], DfOk.nil rfl rfl, Fr.refl _ _ _, fun _ _ => rfl⟩
        obtain ⟨u, h1, h2⟩ := res_sound hT hrel2 hv
        exact ⟨u, h1, u, ρ', v, s.hp, rfl, hx, h2, hI.2⟩
      · cases hx
  refine spine_sound (P := P) (O := O) hM hT hO hD rfl hyl hnx hrg (K := finD T fn.results.toList k) (X := itGo realA T O an id ops X2) (q := .seq (.seq (.region id ops false) blk) rest) ?_ ?_ n c hsp hok _ _ _ _ hk h0
  · intro s ρ' a w' hx h
    refine itGo_sound (P := P) (O := O) hT hO (fun _ _ => ysound_none hyl) rfl (by show 410 ≤ O.pb; rw [hpb]; exact Nat.le_refl _) (Nat.le_refl _) hok1 (fun d' g s' st ρ2 a2 w2 w3 hd' hx2 hf2 hg2 hit hρ9 ht9 hrel => ?_) hx h
    rw [hdd] at hd'
    obtain rfl := Option.some.inj hd'
    obtain ⟨m, hm⟩ := hX2 _ _ hx2
    subst hg2
    have nx : ∀ t sI, (O2 (natsOf s')).nx = some (t, sI) → NxOk w.heap.size (fun c w => w.heap[w2.heap.size]? = some (.stringIter s' c)) ρ2 w2 ⟨fn.ntmps, [d], fun _ => .pointer (some ⟨w2.heap.size, 0, none⟩), O.pb, hle, w.heap.size⟩ t sI := by
      intro t sI e
      rw [hnx2] at e
      simp only [Option.some.injEq, Prod.mk.injEq] at e
      obtain ⟨rfl, rfl⟩ := e
      exact ⟨w2.heap.size, s', rfl, by simp [memB], rfl, hρ9, (by show 409 < O.pb; rw [hpb]; decide), hf2.size, Nat.le_refl _, fun _ _ => Iff.rfl⟩
    have go := fun (c0 : Code) (p : List Bool) (K : Ex → St → Option R) (hp) (hok0) (s0 : St) (ρ0 : Map) (a0 : Act) (w0 : World) (hk0) (hr0) => go_sound (P := P) (O := O2 (natsOf s')) (F := Fence.wide) (fu := 0) (N := w.heap.size) (S := fun _ => False) (ρ₀ := ρ2) (w₀ := w2) (r := r) (cx := ⟨fn.ntmps, [d], fun _ => .pointer (some ⟨w2.heap.size, 0, none⟩), O.pb, hle, w.heap.size⟩) (G := fun _ _ => True) (I := fun c w => w.heap[w2.heap.size]? = some (.stringIter s' c)) (.inl rfl) hM hT (hO2 _) (hD2 _) (by rw [hpb2]; exact hpb) (fun _ _ _ _ _ => trivial) (fun _ _ _ => trivial) (fun c w w' hi ho => ho _ _ hi rfl) (fun q => by rw [hnx2] at q; cases q) nx (fun _ _ _ _ => ysound_none (hyl2 _)) (yexit_none (hyl2 _)) (an := an) (cut := cut) (body := .seq blk rest) (hR _ _ _ _ _ _ rfl hpb hf2.size) (K0 := finD T fn.results.toList k) m c0 p K hp hok0 (.inl rfl) s0 ρ0 a0 w0 hk0 hr0
    simp only [codeOkL, Bool.and_eq_true] at hok2
    refine wpIn_mono (go blk [false] _ rfl hok2.1 _ _ _ _ hm ⟨hrel, fun _ _ => trivial, fun x hx => by
      rw [ht9] at hx
      simp only [Option.some.injEq] at hx
      subst hx
      exact hit⟩) fun e a' w' hp => ?_
    cases e with
    | normal =>
      obtain ⟨ρ', s, g1, g2⟩ := hp
      change goC (O2 (natsOf s')).pb an (isCut cut rest) _ rest _ s = some r at g1
      rw [hcut] at g1
      refine wpIn_mono (go rest [true] _ rfl hok2.2 _ _ _ _ g1 g2) fun e a' w' hp => ?_
      cases e with
      | normal =>
        obtain ⟨ρ', s, g1, g2⟩ := hp
        exact fin _ _ _ _ _ rfl rfl g1 g2.rel hf2
      | ret =>
        obtain ⟨ρ', s, g1, g2⟩ := hp
        exact fin _ _ _ _ _ rfl rfl g1 g2.rel hf2
      | exit i =>
        obtain ⟨ρ', s, g1, g2⟩ := hp
        cases g1
      | _ => exact hp.elim
    | ret =>
      obtain ⟨ρ', s, g1, g2⟩ := hp
      exact fin _ _ _ _ _ rfl rfl g1 g2.rel hf2
    | exit i =>
      obtain ⟨ρ', s, g1, g2⟩ := hp
      cases g1
    | _ => exact hp.elim
  · intro ex s ρ' a w' hne hx h
    cases ex with
    | normal => exact absurd rfl hne
    | ret => exact fin _ _ _ _ _ rfl rfl hx h (Fr.refl _ _ _)
    | exit i => cases hx
theorem fn1_ofI {O2 : List Nat → Orc} (hM : P.follows .mixedOrders = true) (hT : TyOK P T) (hO : OSound P O) (hD : ODet O) (hpb : O.pb = 410) (hyl : ∀ vs h, O.yl vs h = none) (hnx : O.nx = none) (hrg : ∀ i v sl hp, O.rng i v sl hp = none) {d : Nat} (hO2 : ∀ s, OSound P (O2 s)) (hD2 : ∀ s, ODet (O2 s)) (hpb2 : ∀ s, (O2 s).pb = 410) (htk2 : ∀ s, (O2 s).tk = false) (hyl2 : ∀ s vs h, (O2 s).yl vs h = none) (hnx2 : ∀ s, (O2 s).nx = some (d, s))
    {an : Ann} {cut : List Nat} {f g : FuncId} {fn : Func} {c blk rest : Code} {n id : Nat} {ops : Array Oper} (hf : P.funcs[g]? = some fn) (hb : fn.body = some c) (hok : codeOk fn.ntmps c = true) (hcall : ∀ us w, (callFunc f us).run P w = .ok (.enter g us) w) (hsp : spineC n c = some (.seq (.seq (.region id ops false) blk) rest)) (hok1 : codeOk fn.ntmps (.region id ops false) = true) (hok2 : codeOkL fn.ntmps [d] (.seq blk rest) = true) (hcut : isCut cut rest = false) (hdd : (lastR ops.toList).map (fun q => q.2.1) = some d)
    (hR : ∀ s N S ρ w (cx : Cx), cx.nt = fn.ntmps → cx.pb = 410 → cx.lo ≤ w.heap.size → RngOk P (O2 s) Fence.wide 0 N S ρ w cx (rngs (.seq blk rest))) {vs : List AV} {v : AV} (hn : vs.length ≤ fn.ntmps) (hm : ∀ b, v.mentions b = false) {X2 : List Nat → St → Option AV}
    (hX2 : ∀ s st, X2 s st = some v → ∃ m, codeN realA T (O2 s) an cut (goD realA T (O2 s) an cut (.seq blk rest) (finD T fn.results.toList fun v _ => some v) m) [] (.seq blk rest) (finD T fn.results.toList fun v _ => some v) st = some v) (hk : (∃ ρ us, RVs ρ vs us) → funI realA T O an n id ops c fn.results.toList vs (fun v _ => some v) X2 = some v) : Fn1 P f vs v := by
  intro ρ w us hvs
  rw [hcall]
  refine ⟨rfl, Calls.mono (funI_sound hM hT hO hD hpb hyl hnx hrg hO2 hD2 hpb2 htk2 hyl2 hnx2 hf hb hok hsp hok1 hok2 hcut hdd hR hn hvs hX2 (hk ⟨ρ, _, hvs⟩)) fun e w' he => ?_⟩
  obtain ⟨u, ρ', v', h', e1, e2, e3, e5⟩ := he
  simp only [Option.some.injEq] at e2
  subst e2
  exact ⟨u, e1, RV_agree (fun b hb => by rw [hm b] at hb; cases hb) e3, e5⟩
theorem lk_app_mono {α : Type} {t : Nat} {v : α} {b c : List (Nat × α)} (hbc : ∀ v, lk t b = some v → lk t c = some v) : ∀ a : List (Nat × α), lk t (a ++ b) = some v → lk t (a ++ c) = some v
  | [], h => hbc v h
  | (i, x) :: r, h => by
    rw [List.cons_append, lk_cons] at h ⊢
    split at h
    · rename_i e; rw [if_pos e]; exact h
    · rename_i e; rw [if_neg e]; exact lk_app_mono hbc r h
theorem bodyH_pick {nt : Nat} {c1 bd : Code} {ps : List Nat} {sl : Slots} {vs : List AV} {g g' : Heap} {ex : Ex} (l : List Nat) (h : BodyH P nt c1 bd ps (pick sl l) vs g ex g') : BodyH P nt c1 bd ps sl vs g ex g' :=
  fun F n hF N S ρ w tmps hr hsz hsl => h F n hF N S ρ w tmps hr hsz fun t v hv => hsl t v (lk_app_mono (fun _ h => lk_pick2 h) _ hv)
end
end Go.Sx
namespace Go.Sx
def idxB : List Nat → Nat → Int
  | [], _ => -1
  | b :: l, c => if b = c then 0 else if idxB l c = -1 then -1 else idxB l c + 1
theorem idxB_eq (c : Nat) (hc : c < 256) : ∀ l : List UInt8, Lib.indexByte l (UInt8.ofNat c) = idxB (l.map UInt8.toNat) c
  | [] => rfl
  | b :: l => by
    have ih := idxB_eq c hc l
    simp only [Lib.indexByte, List.map_cons, idxB, ih]
    have e : (b == UInt8.ofNat c) = decide (b.toNat = c) := by
      have h1 : (UInt8.ofNat c).toNat = c := by simp; omega
      by_cases h : b.toNat = c
      · have : b = UInt8.ofNat c := UInt8.toNat_inj.1 (by rw [h, h1])
        rw [decide_eq_true h, this]; simp
      · have : b ≠ UInt8.ofNat c := fun e => h (by rw [e, h1])
        rw [decide_eq_false h]; simpa using this
    rw [e]
    by_cases h : b.toNat = c
    · simp [h]
    · simp [h]
def ibo (args : List AV) : Option (Bool × AV) := match args with
  | [.v (.cell (.str a)), .v (.cell (.nat .u8 b))] => some (true, .v (.cell (.int .i64 (idxB a b))))
  | _ => none
variable {P : Program}
theorem ibo_sound {f : FuncId} {fn : Func} (hf : P.funcs[f]? = some fn) (hname : (fn.name == "runtime.NumGoroutine") = false) (hb : fn.body.isNone = true) (hn : Extern.findNext fn = none) (he : Extern.find fn = some Extern.BytealgIndexByte.indexByte) :
    ∀ args v, ibo args = some (true, v) → Fn1 P f args v := by
  intro args v h
  unfold ibo at h
  split at h
  · rename_i a b
    simp only [Option.some.injEq, Prod.mk.injEq, true_and] at h
    subst h
    intro ρ w us hvs
    obtain ⟨e1, e2⟩ := hvs
    obtain ⟨u0, u1, hu⟩ : ∃ u0 u1, us = #[u0, u1] := by
      match hu : us.toList, e1 with
      | [x, y], _ => exact ⟨x, y, by apply Array.ext'; simpa using hu⟩
    subst hu
    obtain ⟨s', rfl, hs'⟩ : ∃ s', u0 = .string s' ∧ natsOf s' = a := e2 0 _ u0 rfl rfl
    obtain ⟨rfl, hlt, _⟩ : u1 = .int .u8 (b : Int) ∧ b < 2 ^ IntKind.u8.bits ∧ IntKind.u8.signed = false := e2 1 _ u1 rfl rfl
    rw [run_callFunc_extern hf hname hb hn he]
    have := Lib.run_indexByteString (P := P) s' (b : Int) w
    rw [this]
    refine ⟨?_, Fr.refl _ _ _⟩
    show Value.int .i64 _ = Value.int .i64 _
    congr 1
    have h256 : b < 256 := hlt
    rw [show ((b : Int).toNat.toUInt8) = UInt8.ofNat b from by simp, idxB_eq b h256, ← hs']
    rfl
  · cases h
end Go.Sx
namespace Go.Sx
section
variable {P : Program} {N : Nat} {S : Nat → Prop} {ρ : Map} {h : Heap} {w : World}
theorem setCell_row {g : Nat} {cur : Array Value} {t : TypeId} {fz : Nat × Nat} (hg : w.heap[g]? = some (.cells cur t fz)) (v : Value) : (w.setCell ⟨g, 0, none⟩ v).heap = (w.setRow g (cur.setIfInBounds 0 v)).heap := by
  apply Array.ext_getElem?
  intro k
  by_cases hk : k = g
  · subst hk
    rw [setRow_heap w k cur _ t fz hg]
    simp [World.setCell, Array.getElem?_modify, hg]
  · rw [setRow_other w g k _ hk]
    simp [World.setCell, Array.getElem?_modify, Ne.symm hk]
theorem freeze_other (g k q n : Nat) (hk : k ≠ g) : (w.freeze ⟨g, q, none⟩ n).heap[k]? = w.heap[k]? := by
  unfold World.freeze
  split
  · rfl
  · simp [Array.getElem?_modify, Ne.symm hk]
theorem freeze_same {g : Nat} {cur : Array Value} {t : TypeId} {fz : Nat × Nat} (hg : w.heap[g]? = some (.cells cur t fz)) (q n : Nat) : ∃ fz', (w.freeze ⟨g, q, none⟩ n).heap[g]? = some (.cells cur t fz') := by
  unfold World.freeze
  split
  · exact ⟨fz, hg⟩
  · obtain ⟨lo, hi⟩ := fz
    simp [Array.getElem?_modify, hg]
theorem freeze_rest (g q n : Nat) : (w.freeze ⟨g, q, none⟩ n).os = w.os ∧ (w.freeze ⟨g, q, none⟩ n).tape = w.tape ∧ (w.freeze ⟨g, q, none⟩ n).output = w.output ∧ (w.freeze ⟨g, q, none⟩ n).heap.size = w.heap.size := by
  unfold World.freeze
  split
  · exact ⟨rfl, rfl, rfl, rfl⟩
  · exact ⟨rfl, rfl, rfl, by simp⟩
theorem HR_freeze (hr : HR N S ρ h w) {b : Nat} {x : Blk} {L : Loc} (hb : lk b h = some x) (hL : ρ b = some L) (ho : x.own ≠ 0) (q n : Nat) :
    HR N S ρ (hset b ⟨x.segs, x.ty, 0⟩ h) (w.freeze ⟨L.g, q, none⟩ n) ∧ Fr N S w (w.freeze ⟨L.g, q, none⟩ n) := by
  obtain ⟨cur, fz, hg, hn, hle, hC, hs, hown, hown2⟩ := hr.real hb hL
  obtain ⟨f1, f2, f3, f4⟩ := freeze_rest (w := w) L.g q n
  obtain ⟨fz', hg'⟩ := freeze_same hg q n
  refine ⟨⟨by rw [f4]; exact hr.low, fun c y hc => ?_, fun c d y z M M' hc hd hM hM' hne how => ?_⟩, ⟨f1, f2, f3, by rw [f4]; exact Nat.le_refl _, fun k hk hS => freeze_other L.g k q n ?_, fun k o hk ho' => (freeze_other L.g k q n (fun e => by subst e; rw [hg] at hk; cases hk; cases ho')).trans hk⟩⟩
  · rw [lk_hset] at hc
    split at hc
    · rename_i e
      subst e
      simp only [Option.some.injEq] at hc
      subst hc
      exact .inr ⟨L, cur, fz', hL, hg', hn, hle, hC, hs, fun h0 => absurd rfl h0, (fun h0 => by cases h0), fun h0 => by cases h0⟩
    · rename_i e
      rcases hr.blk c y hc with h1 | ⟨M, cur2, fz2, h1, h2, h3⟩
      · exact .inl h1
      · refine .inr ⟨M, cur2, fz2, h1, ?_, h3⟩
        rw [freeze_other L.g M.g q n (fun e2 => hr.inj b c x y L M hb hc hL h1 e (.inl ho) e2.symm)]
        exact h2
  · have get : ∀ c y, lk c (hset b ⟨x.segs, x.ty, 0⟩ h) = some y → ∃ y', lk c h = some y' ∧ (y.own ≠ 0 → y'.own ≠ 0) := by
      intro c y hc
      rw [lk_hset] at hc
      split at hc
      · rename_i e
        subst e
        simp only [Option.some.injEq] at hc
        subst hc
        exact ⟨x, hb, fun _ => ho⟩
      · exact ⟨y, hc, id⟩
    obtain ⟨y', hy, ey⟩ := get c y hc
    obtain ⟨z', hz, ez⟩ := get d z hd
    exact hr.inj c d y' z' M M' hy hz hM hM' hne (how.imp ey ez)
  · intro e
    subst e
    rcases (hown ho).2 with h1 | h1
    · exact hS h1
    · omega
theorem liesAt_at {e : TypeId} (hc : P.cellsOf e = 1) (count q n : Nat) (hn : q + n ≤ count) : liesAt P P.depth e count q e n = true := by
  have hd : P.depth = (2 * (P.types.size + Made.depth) + 1) + 1 := rfl
  rw [hd]
  simp only [liesAt, Bool.or_eq_true]
  left
  rw [hd]
  simp [rowAt, hc, hn, sameLayout, Nat.mod_one]
theorem run_unsafeString_at (pt it ty e : TypeId) (hp : P.underlying pt = some (.pointer e)) (hc : P.cellsOf e = 1) (g q cells : Nat) (hsh : w.shape? g = some (e, cells)) (l : List UInt8) (h0 : l ≠ []) (hn : q + l.length ≤ cells) (h63 : l.length ≤ 9223372036854775807)
    (hcell : ∀ j x, l[j]? = some x → w.cell? ((⟨g, q, none⟩ : Addr).add j) = some (.int .u8 x.toNat)) :
    (Builtin.unsafeString_ #[pt, it] ty #[.pointer (some ⟨g, q, none⟩), .int .i64 l.length]).run P w = .ok (.string ⟨l.toArray⟩) (w.freeze ⟨g, q, none⟩ l.length) := by
  have hl : l.length ≠ 0 := by simpa using h0
  have hlb := Lib.run_loadBytes (P := P) w l ⟨g, q, none⟩ .empty hcell
  have hlies := liesAt_at (P := P) hc (cells / P.cellsOf e) q l.length (by rw [hc]; simpa using hn)
  have h63' : ¬ (9223372036854775807 : Int) < (l.length : Int) := by omega
  have hdef : Builtin.unsafeString_ #[pt, it] ty #[.pointer (some ⟨g, q, none⟩), .int .i64 l.length] =
      (do
        let n ← asInt (.int .i64 l.length)
        if n < 0 then runtimePanic (.error "unsafe.String: len out of range")
        if n > IntKind.i64.max then unsupported (.unsafePointer "String: a length above the largest int")
        if n = 0 then pure (.string .empty)
        else if ← variablesAt ⟨g, q, none⟩ (← elemOf pt) n.toNat then do
          let s ← loadBytes ⟨g, q, none⟩ .empty n.toNat
          freeze ⟨g, q, none⟩ n.toNat
          pure (.string s)
        else unsupported (.unsafePointer "String: not so many bytes at ptr")) := rfl
  rw [hdef]
  have hmax : IntKind.i64.max = 9223372036854775807 := rfl
  have hneg : ¬ (l.length : Int) < 0 := by omega
  simp [asInt, asIntOf, hmax, h63', hneg, hl, variablesAt, hsh, elemOf, run_underlying hp, hlies, hlb]
end
end Go.Sx
namespace Go.Sx
section
variable {P : Program} {N : Nat} {S : Nat → Prop} {ρ : Map} {h : Heap} {w : World}
theorem HR_box (hr : HR N S ρ h w) {b : Nat} (hn : lk b h = none) (hf : heapFree b h = true) {c : Cell} {v : Value} {t : TypeId} (hm : c.mentions b = false) (hc : RC ρ c v) (ho : v.oneCell' = true) :
    HR N S (setMap ρ b ⟨w.heap.size, 0, 1, 1⟩) ((b, ⟨[.one c], t, 1⟩) :: h) (w.alloc (.cells #[v] t (0, 0))) :=
  HR_alloc (cur := #[v]) (fz := (0, 0)) (own := 1) (n := 1) hr hn hf (segs := [.one c]) ⟨rfl, segsWf_cons.2 ⟨trivial, segsWf_nil⟩, fun j d u hj hu => by
    match j, hj, hu with
    | 0, hj, hu => cases hj; cases hu; exact ⟨hc, ho⟩
    | j + 1, hj, hu => cases hu⟩ (by simp only [anyB, Seg.mentions, hm]) rfl (Nat.le_refl _) (fun i hi hh => by simp at hh) (fun h => by cases h)
def orc3 (f g : FuncId) (t0 t1 t2 : TypeId) (O : Orc) : Orc := { O with run := fun f' sid args h k => match Nat.beq f' f with
  | true => match args with
    | [.v (.cell (.str s)), .v (.cell (.int .i64 a)), .v (.cell (.int .i64 b))] => match hasKey (sid + 500) h || hasKey (sid + 501) h, heapFree (sid + 500) h && heapFree (sid + 501) h with
      | false, true => k (.fn g [] [.cell (.ptr sid 0 none), .cell (.ptr (sid + 500) 0 none), .cell (.ptr (sid + 501) 0 none)]) ((sid + 501, ⟨[.one (.int .i64 b)], t2, 1⟩) :: (sid + 500, ⟨[.one (.int .i64 a)], t1, 1⟩) :: (sid, ⟨[.one (.str s)], t0, 1⟩) :: h) [sid + 500, sid + 501]
      | _, _ => none
    | _ => none
  | false => O.run f' sid args h k }
def Box3 (P : Program) (f g : FuncId) (t0 t1 t2 : TypeId) : Prop := (∀ us w, (callFunc f us).run P w = .ok (.enter f us) w) ∧ ∀ (s : ByteArray) (a b : Int) w, Calls P f #[.string s, .int .i64 a, .int .i64 b] w fun e w' => e = .returned (.func (.func g) #[] #[.pointer (some ⟨w.heap.size, 0, none⟩), .pointer (some ⟨w.heap.size + 1, 0, none⟩), .pointer (some ⟨w.heap.size + 2, 0, none⟩)]) ∧ w' = ((w.alloc (.cells #[.string s] t0 (0, 0))).alloc (.cells #[.int .i64 a] t1 (0, 0))).alloc (.cells #[.int .i64 b] t2 (0, 0))
theorem orc3_det {f g : FuncId} {t0 t1 t2 : TypeId} {O : Orc} (hD : ODet O) : ODet (orc3 f g t0 t1 t2 O) := by
  intro R f' sid args h k r hk
  simp only [orc3] at hk ⊢
  split at hk
  · split at hk
    · split at hk
      · rename_i h1 h2
        exact ⟨_, _, _, hk, fun R' k' => by simp only [h1, h2]⟩
      · cases hk
    · cases hk
  · exact hD f' sid args h k r hk
theorem lk_none_of {b : Nat} {h : Heap} (hk : hasKey b h = false) : lk b h = none := by
  cases hl : lk b h with
  | none => rfl
  | some x => unfold hasKey at hk; rw [hl] at hk; cases hk
theorem orc3_sound {f g : FuncId} {t0 t1 t2 : TypeId} {O : Orc} (hB : Box3 P f g t0 t1 t2) (hO : OSound P O) : OSound P (orc3 f g t0 t1 t2 O) := by
  intro R f' sid args h k r hk N S ρ w us hr hs hsf hvs
  simp only [orc3] at hk
  split at hk
  · rename_i hb
    have hb := beq_true hb
    subst hb
    split at hk
    · rename_i s a b
      split at hk
      · rename_i h1 h2
        simp only [Bool.or_eq_false_iff, Bool.and_eq_true] at h1 h2
        refine ⟨_, _, _, hk, ?_⟩
        obtain ⟨e1, e2⟩ := hvs
        obtain ⟨u0, u1, u2, hu⟩ : ∃ u0 u1 u2, us = #[u0, u1, u2] := by
          match hu : us.toList, e1 with
          | [x, y, z], _ => exact ⟨x, y, z, by apply Array.ext'; simpa using hu⟩
        subst hu
        obtain ⟨s', rfl, hs'⟩ : ∃ s', u0 = .string s' ∧ natsOf s' = s := e2 0 _ u0 rfl rfl
        obtain rfl : u1 = .int .i64 a := e2 1 _ u1 rfl rfl
        obtain rfl : u2 = .int .i64 b := e2 2 _ u2 rfl rfl
        rw [hB.1]
        refine ⟨rfl, (hB.2 s' a b w).mono fun e w' he => ?_⟩
        obtain ⟨rfl, rfl⟩ := he
        have n0 := lk_none_of h1.1
        have n1 := lk_none_of h1.2
        have r1 := HR_box (t := t0) hr hs hsf (c := .str s) (v := .string s') rfl ⟨s', rfl, hs'⟩ rfl
        have r2 := HR_box (t := t1) r1 (b := sid + 500) (by rw [lk_cons, if_neg (by omega)]; exact n0) (by
          simp only [heapFree, anyB, Seg.mentions, Cell.mentions]
          exact h2.1) (c := .int .i64 a) (v := .int .i64 a) rfl rfl rfl
        have r3 := HR_box (t := t2) r2 (b := sid + 501) (by rw [lk_cons, if_neg (by omega), lk_cons, if_neg (by omega)]; exact n1) (by
          simp only [heapFree, anyB, Seg.mentions, Cell.mentions]
          exact h2.2) (c := .int .i64 b) (v := .int .i64 b) rfl rfl rfl
        have f1 : Fr N S w (w.alloc (.cells #[.string s'] t0 (0, 0))) := Fr_alloc hr.low _
        have f2 := f1.trans (Fr_alloc (S := S) r1.low (.cells #[.int .i64 a] t1 (0, 0)))
        have f3 := f2.trans (Fr_alloc (S := S) r2.low (.cells #[.int .i64 b] t2 (0, 0)))
        refine ⟨_, _, rfl, ⟨#[], _, rfl, ⟨rfl, fun i x hx => by simp at hx⟩, ⟨rfl, fun i x hx => ?_⟩⟩, r3, f3, fun c hc hcs => ?_⟩
        · match i, hx with
          | 0, hx =>
            simp at hx; subst hx
            refine ⟨_, rfl, ⟨w.heap.size, 0, 1, 1⟩, ?_, rfl⟩
            rw [setMap_ne _ _ (by omega), setMap_ne _ _ (by omega), setMap_self]
          | 1, hx =>
            simp at hx; subst hx
            refine ⟨_, rfl, ⟨w.heap.size + 1, 0, 1, 1⟩, ?_, rfl⟩
            rw [setMap_ne _ _ (by omega), setMap_self]
            simp
          | 2, hx =>
            simp at hx; subst hx
            refine ⟨_, rfl, ⟨w.heap.size + 2, 0, 1, 1⟩, ?_, rfl⟩
            rw [setMap_self]
            simp
          | i + 3, hx => simp at hx
        · have hc1 : c ≠ sid + 500 := fun e => hc (by rw [e]; simp)
          have hc2 : c ≠ sid + 501 := fun e => hc (by rw [e]; simp)
          have hc3 : c ≠ sid := fun e => by have := hcs e; cases this
          rw [setMap_ne _ _ hc2, setMap_ne _ _ hc1, setMap_ne _ _ hc3]
      · cases hk
    · cases hk
  · exact hO f' sid args h k r hk N S ρ w us hr hs hsf hvs
end
end Go.Sx
namespace Go.Proofs.Bd07
open Go.RowKit Go.Sx
set_option maxRecDepth 100000
theorem size36 : (Tryd.prog.info? 36).map (·.size) = some 2 := by kernel_rfl
theorem copy_used (b : Nat) (w : World) (h0 : w.cell? ⟨b, 0, none⟩ = some (.pointer (some ⟨b, 0, none⟩))) :
    Calls Tryd.prog 33 #[.pointer (some ⟨b, 0, none⟩)] w fun e w' => e = .returned (.tuple #[]) ∧ w' = w := by
  obtain ⟨j, hj, _⟩ := Option.map_eq_some_iff.1 size36
  go_enter Tryd.func33, Tryd.ntmps33
  go_wp2
  rw [Lib.run_neq_ptr_same w _ Tryd.underlying33 hj]
  go_wp2
  go_end0
  exact ⟨rfl, rfl⟩
theorem lies36 (n : Nat) (hn : 2 ≤ n) : liesAt Tryd.prog Tryd.prog.depth 36 (n / Tryd.prog.cellsOf 36) 0 36 1 = true := by
  have hc : Tryd.prog.cellsOf 36 = 2 := by kernel_rfl
  have hs : sameLayout Tryd.prog Tryd.prog.depth 36 36 = true := by kernel_rfl
  obtain ⟨D, hd⟩ : ∃ D, Tryd.prog.depth = D + 1 := ⟨2 * (Tryd.prog.types.size + Made.depth) + 1, rfl⟩
  rw [hc]
  have hk : 1 ≤ n / 2 := by omega
  generalize n / 2 = k at hk
  rw [hd] at hs ⊢
  simp only [liesAt, Bool.or_eq_true]
  left
  rw [hd]
  simp [rowAt, hc, hk, hs]
theorem copy_fresh (b : Nat) (w : World) (n : Nat) (hn : 2 ≤ n) (h0 : w.cell? ⟨b, 0, none⟩ = some (.pointer none)) (hsh : w.shape? b = some (36, n)) (hfz : w.frozen? ⟨b, 0, none⟩ = false) :
    Calls Tryd.prog 33 #[.pointer (some ⟨b, 0, none⟩)] w fun e w' => e = .returned (.tuple #[]) ∧ w' = w.setCell ⟨b, 0, none⟩ (.pointer (some ⟨b, 0, none⟩)) := by
  obtain ⟨j, hj, hjs⟩ := Option.map_eq_some_iff.1 size36
  go_enter Tryd.func33, Tryd.ntmps33
  go_wp2
  rw [Lib.run_to_unsafe w ⟨b, 0, none⟩ Tryd.underlying33 Tryd.underlying65 hj (by rw [hjs]; decide) hsh (by show 0 < n; omega)]
  simp only [Result.andThen]
  rw [Oper.upon_value]
  go_wp2
  rw [run_callFunc_extern Tryd.func42 (by kernel_rfl) (by kernel_rfl) (by kernel_rfl) (e := Extern.AbiNoEscape.same) (by kernel_rfl)]
  rw [Lib.run_noEscape]
  simp only [Result.andThen]
  rw [Oper.upon_value]
  go_wp2
  rw [Lib.run_from_unsafe w ⟨b, 0, none⟩ Tryd.underlying65 Tryd.underlying33 hj hsh (lies36 n hn)]
  simp only [Result.andThen]
  rw [Oper.upon_value]
  go_wp2
  go_end0
  exact ⟨rfl, rfl⟩
theorem us_one {ρ : Map} {u : Array Value} {v : AV} (h : RVs ρ [v] u.toList) : ∃ x, u = #[x] ∧ RV ρ v x := by
  obtain ⟨h1, h2⟩ := h
  match hu : u.toList, h1 with
  | [x], _ =>
    refine ⟨x, ?_, h2 0 v x rfl (by rw [hu]; rfl)⟩
    apply Array.ext'
    simpa using hu
theorem bd_real {N : Nat} {S : Nat → Prop} {ρ : Map} {h : Heap} {w : World} {u : Value} {c d : Cell} (hr : HR N S ρ h w) (hb : lk 0 h = some ⟨[.one c, .one d], 36, 1⟩) (hu : RV ρ (.v (.cell (.ptr 0 0 none))) u) :
    ∃ L cur fz v0 v1, ρ 0 = some L ∧ u = .pointer (some ⟨L.g, 0, none⟩) ∧ w.heap[L.g]? = some (.cells cur 36 fz) ∧ L.q = 0 ∧ L.n = 2 ∧ 2 ≤ cur.size ∧ cur[0]? = some v0 ∧ cur[1]? = some v1 ∧ RC ρ c v0 ∧ RC ρ d v1 ∧ v1.oneCell' = true ∧ (∀ i, i < cur.size → ¬ (fz.1 ≤ i ∧ i < fz.2)) := by
  obtain ⟨L, hL, rfl⟩ := hu
  obtain ⟨cur, fz, hg, hn, hle, hC, hs, hown, hown2⟩ := hr.real hb hL
  have hq : L.q = 0 := hown2.2 rfl
  have hn2 : L.n = 2 := hn
  obtain ⟨v0, e0, c0, _⟩ := hs.at_ (j := 0) (c := c) hn hle rfl
  obtain ⟨v1, e1, c1, o1⟩ := hs.at_ (j := 1) (c := d) hn hle rfl
  rw [hq] at e0 e1
  exact ⟨L, cur, fz, v0, v1, hL, by rw [hq], hg, hq, hn2, by omega, by simpa using e0, by simpa using e1, c0, c1, o1, (hown (show (1 : Nat) ≠ 0 by decide)).1⟩
theorem copyU {h : Heap} {d : Cell} (hb : lk 0 h = some ⟨[.one (.ptr 0 0 none), .one d], 36, 1⟩) : FnH Tryd.prog 33 [.v (.cell (.ptr 0 0 none))] h (.tup []) h := by
  intro N S ρ w us hr hvs
  obtain ⟨u, rfl, hu⟩ := us_one hvs
  obtain ⟨L, cur, fz, v0, v1, hL, rfl, hg, hq, hn, h2, e0, e1, c0, c1, _, _⟩ := bd_real hr hb hu
  rw [Tryd.call33]
  refine ⟨rfl, (copy_used L.g w ?_).mono fun e w' he => ?_⟩
  · obtain ⟨L', hL', c0⟩ := c0
    rw [hL] at hL'
    obtain rfl := Option.some.inj hL'
    have c0 : v0 = .pointer (some ⟨L.g, L.q + 0, none⟩) := c0
    rw [hq] at c0
    subst c0
    simp [World.cell?, hg, e0]
  · obtain ⟨rfl, rfl⟩ := he
    exact ⟨_, ρ, rfl, ⟨_, rfl, rfl, fun i x hx => by simp at hx⟩, hr, Fr.refl _ _ _, fun _ _ => rfl⟩
theorem copyF {h : Heap} {d : Cell} (hb : lk 0 h = some ⟨[.one .nilp, .one d], 36, 1⟩) : FnH Tryd.prog 33 [.v (.cell (.ptr 0 0 none))] h (.tup []) (hset 0 ⟨[.one (.ptr 0 0 none), .one d], 36, 1⟩ h) := by
  intro N S ρ w us hr hvs
  obtain ⟨u, rfl, hu⟩ := us_one hvs
  obtain ⟨L, cur, fz, v0, v1, hL, rfl, hg, hq, hn, h2, e0, e1, c0, c1, o1, hfz⟩ := bd_real hr hb hu
  rw [Tryd.call33]
  refine ⟨rfl, (copy_fresh L.g w cur.size h2 ?_ ?_ ?_).mono fun e w' he => ?_⟩
  · have c0 : v0 = .pointer none := c0
    subst c0
    simp [World.cell?, hg, e0]
  · simp [World.shape?, hg]
  · have := hfz 0 (by omega)
    simp only [World.frozen?, hg]
    simp only [Bool.and_eq_false_iff, decide_eq_false_iff_not]
    omega
  · obtain ⟨rfl, rfl⟩ := he
    have hsz : (cur.setIfInBounds 0 (.pointer (some ⟨L.g, 0, none⟩))).size = cur.size := by simp
    have hst := HR_set (cur' := cur.setIfInBounds 0 (.pointer (some ⟨L.g, 0, none⟩))) hr hb hL (show (1 : Nat) ≠ 0 by decide) hg hsz (segs' := [.one (.ptr 0 0 none), .one d]) rfl (by
      have hll : ((cur.setIfInBounds 0 (.pointer (some ⟨L.g, 0, none⟩))).toList.drop 0).take 2 = [.pointer (some ⟨L.g, 0, none⟩), v1] := by
        apply List.ext_getElem?
        intro j
        match j with
        | 0 =>
          rw [List.getElem?_take_of_lt (by omega), List.drop_zero, Array.getElem?_toList, Array.getElem?_setIfInBounds_self_of_lt (by omega)]
          rfl
        | 1 =>
          rw [List.getElem?_take_of_lt (by omega), List.drop_zero, Array.getElem?_toList, Array.getElem?_setIfInBounds_ne (by omega), e1]
          rfl
        | j + 2 => rw [List.getElem?_eq_none (by simp; omega)]; rfl
      rw [hq, hn, hll]
      refine ⟨rfl, segsWf_cons.2 ⟨trivial, segsWf_cons.2 ⟨trivial, segsWf_nil⟩⟩, fun j c v hc hv => ?_⟩
      match j, hc, hv with
      | 0, hc, hv => cases hc; cases hv; exact ⟨⟨L, hL, by rw [hq]⟩, rfl⟩
      | 1, hc, hv => cases hc; cases hv; exact ⟨c1, o1⟩
      | j + 2, hc, hv => cases hv)
    have hrow := setCell_row hg (.pointer (some ⟨L.g, 0, none⟩))
    refine ⟨_, ρ, rfl, ⟨_, rfl, rfl, fun i x hx => by simp at hx⟩, HR_drewN hst.1 hrow, ⟨rfl, rfl, rfl, by rw [hrow]; exact hst.2.size, fun k hk hs => by rw [hrow]; exact hst.2.block k hk hs, fun k o hk ho => by rw [hrow]; exact hst.2.oth k o hk ho⟩, fun _ _ => rfl⟩
set_option maxHeartbeats 1000000 in
theorem str_nil (b : Nat) (w : World) (c1 : w.drew.cell? ⟨b, 1, none⟩ = some (.slice none 0 0)) :
    Calls Tryd.prog 26 #[.pointer (some ⟨b, 0, none⟩)] w fun e w' => e = .returned (.string ⟨#[]⟩) ∧ w' = w.drew := by
  have hUS : ∀ (W : World) (q : Option Addr), (Builtin.unsafeString_ #[54, 3] 9 #[.pointer q, .int .i64 0]).run Tryd.prog W = .ok (.string .empty) W := fun W q => Lib.run_unsafeString_none W _ _ _ q
  have hSD : (Builtin.unsafeSliceData_ #[34] 54 #[.slice none 0 0]).run Tryd.prog w.drew = .ok (.pointer none) w.drew := rfl
  have mixed : Tryd.prog.follows .mixedOrders = true := by kernel_rfl
  go_enter Tryd.func26, Tryd.ntmps26
  go_wp2
  go_region_o
  all_goals (go_wp2; go_ret; exact ⟨rfl, rfl⟩)
set_option maxHeartbeats 1000000 in
theorem str_some (b g q cap : Nat) (l : List UInt8) (h0 : l ≠ []) (hcap : cap ≠ 0) (w : World) (c1 : w.drew.cell? ⟨b, 1, none⟩ = some (.slice (some ⟨g, q, none⟩) l.length cap))
    (hUS : (Builtin.unsafeString_ #[54, 3] 9 #[.pointer (some ⟨g, q, none⟩), .int .i64 l.length]).run Tryd.prog w.drew = .ok (.string ⟨l.toArray⟩) (w.drew.freeze ⟨g, q, none⟩ l.length)) :
    Calls Tryd.prog 26 #[.pointer (some ⟨b, 0, none⟩)] w fun e w' => e = .returned (.string ⟨l.toArray⟩) ∧ w' = w.drew.freeze ⟨g, q, none⟩ l.length := by
  have hSD : (Builtin.unsafeSliceData_ #[34] 54 #[.slice (some ⟨g, q, none⟩) l.length cap]).run Tryd.prog w.drew = .ok (.pointer (some ⟨g, q, none⟩)) w.drew := Lib.run_unsafeSliceData_row _ _ _ _ _ _ hcap
  have mixed : Tryd.prog.follows .mixedOrders = true := by kernel_rfl
  go_enter Tryd.func26, Tryd.ntmps26
  go_wp2
  go_region_o
  all_goals (go_wp2; go_ret; exact ⟨rfl, rfl⟩)
theorem strN {h : Heap} {c : Cell} (hb : lk 0 h = some ⟨[.one c, .one .nils], 36, 1⟩) : FnH Tryd.prog 26 [.v (.cell (.ptr 0 0 none))] h (.v (.cell (.str []))) h := by
  intro N S ρ w us hr hvs
  obtain ⟨u, rfl, hu⟩ := us_one hvs
  obtain ⟨L, cur, fz, v0, v1, hL, rfl, hg, hq, hn, h2, e0, e1, c0, c1, _, _⟩ := bd_real hr hb hu
  rw [Tryd.call26]
  have c1 : v1 = .slice none 0 0 := c1
  subst c1
  refine ⟨rfl, (str_nil L.g w ?_).mono fun e w' he => ?_⟩
  · have : w.drew.heap[L.g]? = some (.cells cur 36 fz) := hg
    simp [World.cell?, this, e1]
  · obtain ⟨rfl, rfl⟩ := he
    exact ⟨_, ρ, rfl, ⟨⟨#[]⟩, rfl, rfl⟩, HR_drewN hr rfl, ⟨rfl, rfl, rfl, Nat.le_refl _, fun _ _ _ => rfl, fun _ _ h _ => h⟩, fun _ _ => rfl⟩
theorem strS {h : Heap} {c : Cell} {b n m : Nat} {l : List Nat} (hb : lk 0 h = some ⟨[.one c, .one (.sl b none n 1)], 36, 1⟩) (hx : lk b h = some ⟨[.nums .u8 m l], 5, 2⟩) (hn0 : 0 < n) : FnH Tryd.prog 26 [.v (.cell (.ptr 0 0 none))] h (.v (.cell (.str (l.take n)))) (hset b ⟨[.nums .u8 m l], 5, 0⟩ h) := by
  intro N S ρ w us hr hvs
  obtain ⟨u, rfl, hu⟩ := us_one hvs
  obtain ⟨L, cur, fz, v0, v1, hL, rfl, hg, hq, hn, h2, e0, e1, c0, c1, _, _⟩ := bd_real hr hb hu
  rw [Tryd.call26]
  rcases c1 with ⟨_, e, _⟩ | ⟨M, a, cap, hM, rfl, hnc, hcm, hab, ha, hnl, hcl⟩
  · omega
  obtain ⟨cur2, fz2, hg2, hn2, hle2, hC2, hs2, hown2, _⟩ := hr.real hx hM
  obtain rfl := ha (by omega)
  simp only [offO, Nat.add_zero, Nat.zero_add, Nat.mul_one] at hnl hcl
  have hml : l.length = m := (segsWf_cons.1 hs2.2.1).1
  have hMn : M.n = m := by rw [hn2]; simp [segsLen, Seg.len]
  have cell : ∀ j, j < m → ∃ x, cur2[M.q + j]? = some (.int .u8 (l.getD j 0 : Nat)) ∧ x = l.getD j 0 ∧ x < 256 := by
    intro j hj
    obtain ⟨v, ev, hc, _⟩ := hs2.at_ (j := j) (c := .nat .u8 (l.getD j 0)) hn2 hle2 (by rw [getCell_cons, if_pos (show j < (Seg.nums IntKind.u8 m l).len from hj)]; rfl)
    obtain ⟨rfl, hlt, _⟩ := hc
    exact ⟨_, ev, rfl, hlt⟩
  have hbytes : ∀ x ∈ l.take n, x < 256 := by
    intro x hx
    obtain ⟨j, hj, rfl⟩ := List.mem_iff_getElem.1 hx
    rw [List.length_take] at hj
    obtain ⟨y, _, rfl, hy⟩ := cell j (by omega)
    rw [List.getElem_take]
    rwa [List.getD_eq_getElem?_getD, List.getElem?_eq_getElem (by omega)] at hy
  have hll : (l.take n).length = n := by rw [List.length_take]; omega
  generalize hk : (l.take n).map UInt8.ofNat = k
  have hkl : k.length = n := by rw [← hk, List.length_map, hll]
  have hkn : natsOf ⟨k.toArray⟩ = l.take n := by
    show k.map UInt8.toNat = _
    rw [← hk, List.map_map]
    conv => rhs; rw [← List.map_id (l.take n)]
    apply List.map_congr_left
    intro x hx
    have := hbytes x hx
    simp; omega
  have c1' : w.drew.cell? ⟨L.g, 1, none⟩ = some (.slice (some ⟨M.g, M.q, none⟩) k.length cap) := by
    have : w.drew.heap[L.g]? = some (.cells cur 36 fz) := hg
    simp [World.cell?, this, e1, hkl, offO]
  have hk0 : k ≠ [] := by intro e; rw [e] at hkl; simp at hkl; omega
  have hUS := run_unsafeString_at (P := Tryd.prog) (w := w.drew) 54 3 9 5 Tryd.underlying54 (by kernel_rfl) M.g M.q cur2.size (by
    have : w.drew.heap[M.g]? = some (.cells cur2 5 fz2) := hg2
    simp [World.shape?, this]) k hk0 (by omega) (by rw [hkl]; unfold maxLen at hcm; omega) (fun j x hx => by
    have hj : j < n := by rw [← hkl]; exact (List.getElem?_eq_some_iff.1 hx).1
    obtain ⟨y, ey, hy, hlt⟩ := cell j (by omega)
    have hxx : x.toNat = l.getD j 0 := by
      rw [← hk, List.getElem?_map, List.getElem?_take_of_lt hj] at hx
      rw [List.getD_eq_getElem?_getD]
      cases hlj : l[j]? with
      | none => rw [hlj] at hx; cases hx
      | some z =>
        rw [hlj] at hx
        simp only [Option.map_some, Option.some.injEq] at hx
        subst hx
        have : z < 256 := by rw [hy, List.getD_eq_getElem?_getD, hlj] at hlt; exact hlt
        simp; omega
    have hh : w.drew.heap[M.g]? = some (.cells cur2 5 fz2) := hg2
    rw [WideShapes.add_plain]
    simp only [World.cell?, hh, hxx]
    simpa using ey)
  refine ⟨rfl, (str_some L.g M.g M.q cap k hk0 (by omega) w c1' hUS).mono fun e w' he => ?_⟩
  obtain ⟨rfl, rfl⟩ := he
  have hrd : HR N S ρ h w.drew := HR_drewN hr rfl
  obtain ⟨f1, f2⟩ := HR_freeze hrd hx hM (show (2 : Nat) ≠ 0 by decide) M.q k.length
  exact ⟨_, ρ, rfl, ⟨_, rfl, hkn⟩, f1, ⟨f2.os, f2.tape, f2.output, f2.size, fun k hk hs => f2.block k hk hs, fun k o hk ho => f2.oth k o hk ho⟩, fun _ _ => rfl⟩
theorem box3 : Box3 Tryd.prog 22 32 9 3 3 := by
  refine ⟨Tryd.call22, fun s a b w => ?_⟩
  go_enter Tryd.func22, Tryd.ntmps22
  go_wp2
  go_ret
  refine ⟨?_, ?_⟩
  · simp
  · rfl
end Go.Proofs.Bd07
