import Derived.Test.YtkomlijabeedpaaDoorSxG
namespace Go.Sx

def ER (ρ : Map) (e : Operand → Option AV) (a : Act) : Prop := ∀ x v, e x = some v → RV ρ v (a.eval x)

section
variable {P : Program} {T : Tys} {N : Nat} {S : Nat → Prop} {ρ : Map} {h : Heap} {w : World} {e : Operand → Option AV} {a : Act} {R : Type} {r : R}

theorem ofVal_sound {v : Value} {c : Cell} (h : ofVal v = some c) : RC ρ c v := by
  unfold ofVal at h
  split at h
  all_goals first
    | (split at h
       · rename_i hb
         have hb := blt_true hb
         simp only [Option.some.injEq] at h
         subst h
         exact ⟨rfl, by simpa [IntKind.bits] using hb, rfl⟩
       · cases h)
    | (simp only [Option.some.injEq] at h
       subst h
       first
         | rfl
         | exact ⟨_, rfl, rfl⟩
         | exact trivial)
    | cases h

theorem idxD_sound (he : ER ρ e a) {x : Operand} {n : Nat} {k : Nat → Option R} (h : idxD realA e x n k = some r) :
    ∃ j kd, j < n ∧ k j = some r ∧ a.eval x = .int kd (j : Int) := by
  unfold idxD at h
  split at h
  · rename_i kd j
    split at h
    · rename_i hb
      exact ⟨j, kd, blt_true hb, h, rfl⟩
    · cases h
  · split at h
    · rename_i kd i hx
      have hv : a.eval x = .int kd i := he x _ hx
      split at h
      · cases h
      · rename_i hn
        split at h
        · rename_i hl
          simp only [realA, decide_eq_false_iff_not, decide_eq_true_eq] at hn hl
          refine ⟨i.toNat, kd, hl, h, ?_⟩
          rw [hv]
          congr 1
          omega
        · cases h
    · rename_i kd j hx
      have hv := he x _ hx
      split at h
      · rename_i hl
        simp only [realA, decide_eq_true_eq] at hl
        exact ⟨j, kd, hl, h, hv.1⟩
      · cases h
    · cases h

theorem boundD_sound (he : ER ρ e a) {x : Option Operand} {d n : Nat} {k : Nat → Option R} (h : boundD realA e x d n k = some r) :
    (x = none ∧ k d = some r) ∨ ∃ o j kd, x = some o ∧ j ≤ n ∧ k j = some r ∧ a.eval o = .int kd (j : Int) := by
  unfold boundD at h
  split at h
  · exact .inl ⟨rfl, h⟩
  · rename_i kd j
    split at h
    · exact .inr ⟨_, 0, kd, rfl, Nat.zero_le _, h, rfl⟩
    · split at h
      · rename_i hl
        simp only [realA, decide_eq_true_eq] at hl
        exact .inr ⟨_, j, kd, rfl, hl, h, rfl⟩
      · cases h
  · rename_i x _
    split at h
    · rename_i kd i hx
      have hv : a.eval x = .int kd i := he x _ hx
      split at h
      · cases h
      · rename_i hn
        split at h
        · rename_i hl
          simp only [realA, decide_eq_false_iff_not, decide_eq_true_eq] at hn hl
          refine .inr ⟨_, i.toNat, kd, rfl, hl, h, ?_⟩
          rw [hv]
          congr 1
          omega
        · cases h
    · rename_i kd j hx
      have hv := he x _ hx
      split at h
      · rename_i hl
        simp only [realA, decide_eq_true_eq] at hl
        exact .inr ⟨_, j, kd, rfl, hl, h, hv.1⟩
      · cases h
    · cases h

theorem countD_sound (he : ER ρ e a) {x : Operand} {k : Nat → Option R} (h : countD realA e x k = some r) :
    ∃ j kd, k j = some r ∧ a.eval x = .int kd (j : Int) := by
  unfold countD at h
  split at h
  · rename_i kd j
    exact ⟨j, kd, h, rfl⟩
  · split at h
    · rename_i kd i hx
      have hv : a.eval x = .int kd i := he x _ hx
      split at h
      · cases h
      · rename_i hn
        simp only [realA, decide_eq_false_iff_not] at hn
        refine ⟨i.toNat, kd, h, ?_⟩
        rw [hv]
        congr 1
        omega
    · rename_i kd j hx
      exact ⟨j, kd, h, (he x _ hx).1⟩
    · cases h

theorem eqCell_sound {x y : Cell} {u v : Value} {c : Bool} (h : eqCell realA x y = some c) (hx : RC ρ x u) (hy : RC ρ y v) : cellEqB u v = some c := by
  unfold eqCell at h
  split at h
  · simp only [Option.some.injEq] at h
    simp only [RC] at hx hy
    subst hx; subst hy; subst h
    rfl
  · split at h
    · rename_i hk
      have hk := kindEq_eq hk
      simp only [Option.some.injEq] at h
      simp only [RC] at hx hy
      subst hx; subst hy; subst h; subst hk
      simp only [cellEqB, if_true, realA, Option.some.injEq]
      rfl
    · cases h
  · split at h
    · rename_i hk
      have hk := kindEq_eq hk
      simp only [Option.some.injEq] at h
      obtain ⟨rfl, _⟩ := hx
      obtain ⟨rfl, _⟩ := hy
      subst h; subst hk
      simp only [cellEqB, if_true, realA, Option.some.injEq]
      rw [Bool.eq_iff_iff]
      simp
      omega
    · cases h
  · simp only [Option.some.injEq] at h
    obtain ⟨b1, rfl, rfl⟩ := hx
    obtain ⟨b2, rfl, rfl⟩ := hy
    subst h
    simp only [cellEqB, realA, Option.some.injEq]
    exact eq_toList _ _
  · cases h

theorem cellsEq_append {a b c d : List Value} {x y : Bool} (h1 : cellsEq a b = some x) (h2 : cellsEq c d = some y) : cellsEq (a ++ c) (b ++ d) = some (x && y) := by
  induction a generalizing b x with
  | nil =>
    cases b with
    | nil => simp only [cellsEq, Option.some.injEq] at h1; subst h1; simpa using h2
    | cons _ _ => simp [cellsEq] at h1
  | cons u a ih =>
    cases b with
    | nil => simp [cellsEq] at h1
    | cons v b =>
      simp only [cellsEq] at h1
      split at h1
      · rename_i p q hp hq
        simp only [Option.some.injEq] at h1
        subst h1
        simp only [List.cons_append, cellsEq, hp, ih hq, Bool.and_assoc]
      · cases h1

theorem nums_cellsEq {k : IntKind} {l m : List Nat} {xs ys : List Value} (hl : l.length = m.length) (hx : xs.length = l.length) (hy : ys.length = l.length)
    (gx : ∀ j, j < l.length → xs[j]? = some (.int k ((l.getD j 0 : Nat) : Int))) (gy : ∀ j, j < l.length → ys[j]? = some (.int k ((m.getD j 0 : Nat) : Int))) :
    cellsEq xs ys = some (decide (l = m)) := by
  induction l generalizing m xs ys with
  | nil =>
    cases m with
    | nil =>
      cases xs <;> cases ys <;> simp at hx hy
      simp [cellsEq]
    | cons _ _ => simp at hl
  | cons p l ih =>
    cases m with
    | nil => simp at hl
    | cons q m =>
      cases xs with
      | nil => simp at hx
      | cons u xs =>
        cases ys with
        | nil => simp at hy
        | cons v ys =>
          have hu := gx 0 (by simp)
          have hv := gy 0 (by simp)
          simp at hu hv
          subst hu; subst hv
          have := ih (m := m) (xs := xs) (ys := ys) (by simpa using hl) (by simpa using hx) (by simpa using hy)
            (fun j hj => by have := gx (j + 1) (by simpa using hj); simpa using this) (fun j hj => by have := gy (j + 1) (by simpa using hj); simpa using this)
          simp only [cellsEq, cellEqB, if_true, this, Option.some.injEq]
          rw [Bool.eq_iff_iff]
          simp
          omega

theorem RSegs_split {s : Seg} {r : List Seg} {vs : List Value} (h : RSegs ρ (s :: r) vs) :
    RSegs ρ [s] (vs.take s.len) ∧ RSegs ρ r (vs.drop s.len) ∧ vs = vs.take s.len ++ vs.drop s.len := by
  obtain ⟨h1, h2, h3⟩ := h
  have hw := segsWf_cons.1 h2
  rw [segsLen_cons] at h1
  refine ⟨⟨by simp [segsLen]; omega, segsWf_cons.2 ⟨hw.1, segsWf_nil⟩, fun j c v hc hv => ?_⟩, ⟨by simp; omega, hw.2, fun j c v hc hv => ?_⟩, (List.take_append_drop _ _).symm⟩
  · have hj := getCell_lt hc
    simp only [segsLen, Nat.add_zero] at hj
    rw [getCell_cons, if_pos hj] at hc
    rw [List.getElem?_take, if_pos hj] at hv
    exact h3 j c v (by rw [getCell_cons, if_pos hj]; exact hc) hv
  · rw [List.getElem?_drop] at hv
    exact h3 (s.len + j) c v (by rw [getCell_cons, if_neg (by omega)]; rw [show s.len + j - s.len = j by omega]; exact hc) hv

theorem eqSegs_sound {x y : List Seg} {u v : List Value} {c : Bool} (h : eqSegs realA x y = some c) (hx : RSegs ρ x u) (hy : RSegs ρ y v) : cellsEq u v = some c := by
  induction x generalizing y u v c with
  | nil =>
    cases y with
    | nil =>
      simp only [eqSegs, Option.some.injEq] at h
      subst h
      have h1 := hx.1
      have h2 := hy.1
      simp only [segsLen] at h1 h2
      rw [List.length_eq_zero_iff.1 h1, List.length_eq_zero_iff.1 h2]
      rfl
    | cons _ _ => simp [eqSegs] at h
  | cons s r ih =>
    cases y with
    | nil => cases s <;> simp [eqSegs] at h
    | cons t q =>
      obtain ⟨x1, x2, x3⟩ := RSegs_split hx
      obtain ⟨y1, y2, y3⟩ := RSegs_split hy
      cases s with
      | one cx =>
        cases t with
        | one cy =>
          simp only [eqSegs] at h
          split at h
          · rename_i p hp
            split at h
            · rename_i d hd
              simp only [Option.some.injEq] at h
              subst h
              have hr := ih hd x2 y2
              simp only [Seg.len] at x1 x2 x3 y1 y2 y3 hr
              obtain ⟨a0, ha0⟩ : ∃ a0, u.take 1 = [a0] := by
                have := x1.1
                simp only [segsLen, Seg.len] at this
                exact List.length_eq_one_iff.1 this
              obtain ⟨b0, hb0⟩ : ∃ b0, v.take 1 = [b0] := by
                have := y1.1
                simp only [segsLen, Seg.len] at this
                exact List.length_eq_one_iff.1 this
              have e1 := (x1.2.2 0 cx a0 (by simp [getCell_cons, Seg.len, Seg.cell]) (by rw [ha0]; rfl)).1
              have e2 := (y1.2.2 0 cy b0 (by simp [getCell_cons, Seg.len, Seg.cell]) (by rw [hb0]; rfl)).1
              have hc := eqCell_sound hp e1 e2
              rw [x3, y3]
              refine cellsEq_append ?_ hr
              rw [ha0, hb0]
              simp [cellsEq, hc]
            · cases h
          · cases h
        | _ => simp [eqSegs] at h
      | nums k n l =>
        cases t with
        | nums k' m l' =>
          simp only [eqSegs] at h
          split at h
          · rename_i hk
            simp only [Bool.and_eq_true] at hk
            have e1 := kindEq_eq hk.1
            have e2 := beq_true hk.2
            subst e1; subst e2
            split at h
            · rename_i d hd
              simp only [Option.some.injEq] at h
              subst h
              have hr := ih hd x2 y2
              simp only [Seg.len] at x1 x2 x3 y1 y2 y3 hr
              have w1 : l.length = n := (segsWf_cons.1 x1.2.1).1
              have w2 : l'.length = n := (segsWf_cons.1 y1.2.1).1
              have l1 := x1.1
              have l2 := y1.1
              simp only [segsLen, Seg.len, Nat.add_zero] at l1 l2
              rw [x3, y3]
              refine cellsEq_append ?_ hr
              refine nums_cellsEq (k := k) (by omega) (by omega) (by omega) (fun j hj => ?_) (fun j hj => ?_)
              · have hlt : j < (u.take n).length := by omega
                rw [List.getElem?_eq_getElem hlt]
                have := (x1.2.2 j (.nat k (l.getD j 0)) _ (by rw [getCell_cons, if_pos (by show j < n; omega)]; rfl) (List.getElem?_eq_getElem hlt)).1
                rw [this.1]
              · have hlt : j < (v.take n).length := by omega
                rw [List.getElem?_eq_getElem hlt]
                have := (y1.2.2 j (.nat k (l'.getD j 0)) _ (by rw [getCell_cons, if_pos (by show j < n; omega)]; rfl) (List.getElem?_eq_getElem hlt)).1
                rw [this.1]
            · cases h
          · cases h
        | _ => simp [eqSegs] at h
      | ints k n l => simp [eqSegs] at h
      | strs n l => simp [eqSegs] at h
      | recs n cols => simp [eqSegs] at h

theorem KD.eqb_eq {a b : KD} (h : a.eqb b = true) : a = b := by
  cases a <;> cases b <;> simp [KD.eqb] at h <;> first
    | rfl
    | (rw [kindEq_eq h])
theorem dropKD_spec {k : KD} {n : Nat} {l q : List KD} (h : dropKD k n l = some q) : l = List.replicate n k ++ q := by
  induction n generalizing l with
  | zero => simp only [dropKD, Option.some.injEq] at h; simp [h]
  | succ n ih =>
    cases l with
    | nil => simp [dropKD] at h
    | cons x l =>
      simp only [dropKD] at h
      split at h
      · rename_i hx
        rw [KD.eqb_eq hx, ih h, List.replicate_succ, List.cons_append]
      · cases h
theorem KDs_append {a b : List KD} {u v : List Value} (h1 : KDs a u) (h2 : KDs b v) : KDs (a ++ b) (u ++ v) := by
  induction a generalizing u with
  | nil => cases u with
    | nil => exact h2
    | cons _ _ => exact h1.elim
  | cons k a ih => cases u with
    | nil => exact h1.elim
    | cons x u => exact ⟨h1.1, ih h1.2⟩
theorem KDs_rep {k : KD} {n : Nat} {u : List Value} (hl : u.length = n) (h : ∀ v ∈ u, k.has v) : KDs (List.replicate n k) u := by
  subst hl
  induction u with
  | nil => trivial
  | cons x u ih => exact ⟨h x List.mem_cons_self, ih fun v hv => h v (List.mem_cons_of_mem _ hv)⟩
theorem fitSegs_spec {ρ : Map} {q : List Seg} : ∀ {ks : List KD}, fitSegs ks q = true → ∀ {vs : List Value}, RSegs ρ q vs → KDs ks vs := by
  induction q with
  | nil =>
    intro ks h vs hs
    cases ks with
    | nil =>
      have := hs.1
      simp only [segsLen] at this
      rw [List.length_eq_zero_iff.1 this]
      trivial
    | cons _ _ => simp [fitSegs] at h
  | cons s r ih =>
    intro ks h vs hs
    obtain ⟨x1, x2, x3⟩ := RSegs_split hs
    rw [x3]
    cases s with
    | nums k n l =>
      have h' : (match dropKD (.int k) n ks with
        | some q => fitSegs q r
        | none => false) = true := by cases ks <;> exact h
      split at h'
      · rename_i q' hq
        rw [dropKD_spec hq]
        simp only [Seg.len] at x1 x2 ⊢
        refine KDs_append (KDs_rep (by have := x1.1; simpa [segsLen, Seg.len] using this) fun v hv => ?_) (ih h' x2)
        obtain ⟨j, hj, rfl⟩ := List.mem_iff_getElem.1 hv
        have hjn : j < n := by have := x1.1; simp only [segsLen, Seg.len, Nat.add_zero] at this; omega
        have := (x1.2.2 j (.nat k (l.getD j 0)) _ (by rw [getCell_cons, if_pos (by exact hjn)]; rfl) (List.getElem?_eq_getElem hj)).1
        exact ⟨_, this.1⟩
      · cases h'
    | one c =>
      cases ks with
      | nil => simp [fitSegs] at h
      | cons x ks =>
        simp only [Seg.len] at x1 x2 ⊢
        obtain ⟨a0, ha0⟩ : ∃ a0, vs.take 1 = [a0] := by
          have := x1.1
          simp only [segsLen, Seg.len] at this
          exact List.length_eq_one_iff.1 this
        have e1 := (x1.2.2 0 c a0 (by simp [getCell_cons, Seg.len, Seg.cell]) (by rw [ha0]; rfl)).1
        rw [ha0]
        simp only [fitSegs] at h
        split at h
        all_goals first
          | (simp only [Bool.and_eq_true] at h
             rw [KD.eqb_eq h.1]
             refine ⟨?_, ih h.2 x2⟩
             first
               | exact ⟨_, e1.1⟩
               | exact ⟨_, e1⟩
               | (obtain ⟨b, hb, _⟩ := e1; exact ⟨_, hb⟩))
          | cases h
    | ints k n l => cases ks <;> simp [fitSegs] at h
    | strs n l => cases ks <;> simp [fitSegs] at h
    | recs n l => cases ks <;> simp [fitSegs] at h

theorem binE_sound {op : BinOp} {x y : V1} {u v : Value} {c : Cell} (t : TypeId) (h : binE realA op x y = some c) (hx : RV1 ρ x u) (hy : RV1 ρ y v)
    (hq : (op = .eql ∨ op = .neq) → ∀ q, x = .agg q → ∃ ks, fitSegs ks q = true ∧ EqProp P t ks) (hb : ∀ b, x = .cell (.bool b) → P.underlying t = some .bool)
    (hp : (∃ b o i, x = .cell (.ptr b o i)) ∨ x = .cell .nilp → ∃ el, P.underlying t = some (.pointer el)) (xo yo : Operand) :
    ∃ r, (do eqGuard op t xo yo u v; binOp op t u v : Sem Value).run P w = .ok r w ∧ RC ρ c r := by
  have plain : ∀ (hno : ∀ c, u ≠ .agg c) (hnn : u ≠ .nilIface), (eqGuard op t xo yo u v).run P w = .ok () w := by
    intro hno hnn
    cases u with
    | nilIface => exact absurd rfl hnn
    | agg c => exact absurd rfl (hno c)
    | _ => cases op <;> rfl
  unfold binE at h
  split at h
  · rename_i k a k' b
    split at h
    · rename_i hk
      have hk := kindEq_eq hk
      subst hk
      obtain ⟨rfl, ha, hs⟩ := hx
      obtain ⟨rfl, hb, _⟩ := hy
      simp only [Sem.run_bind, plain (fun c => by simp) (by simp), Result.andThen_ok]
      have n1 : ∀ op', (op' = .add ∨ op' = .sub ∨ op' = .mul ∨ op' = .and ∨ op' = .or ∨ op' = .xor ∨ op' = .andNot) → ∃ r, (binOp op' t (.int k (a : Int)) (.int k (b : Int))).run P w = .ok r w ∧ RC ρ (.nat k (realA.nb op' k a b)) r := by
        intro op' ho
        obtain ⟨g1, g2⟩ := nb_sound (P := P) (w := w) ha hb hs t ho
        exact ⟨_, g1, rfl, g2, hs⟩
      have n2 : ∀ op', (op' = .eql ∨ op' = .neq ∨ op' = .lss ∨ op' = .leq ∨ op' = .gtr ∨ op' = .geq) → ∃ r, (binOp op' t (.int k (a : Int)) (.int k (b : Int))).run P w = .ok r w ∧ RC ρ (.bool (realA.nc op' a b)) r :=
        fun op' ho => ⟨_, nc_sound t ho, rfl⟩
      cases op <;> (first | (simp only [reduceCtorEq] at h; done) | (simp only [Option.some.injEq] at h; subst h))
      all_goals first
        | exact n1 _ (by simp)
        | exact n2 _ (by simp)
    · cases h
  · rename_i k a k' b
    split at h
    · rename_i hk
      have hk := kindEq_eq hk
      subst hk
      simp only [RV1, RC] at hx hy
      subst hx; subst hy
      simp only [Sem.run_bind, plain (fun c => by simp) (by simp), Result.andThen_ok]
      cases op <;> (first | (simp only [reduceCtorEq] at h; done) | (simp only [Option.some.injEq] at h; subst h))
      all_goals first
        | (exact ⟨_, ib_sound t (by simp), rfl⟩)
        | (exact ⟨_, ic_sound t (by simp), rfl⟩)
    · cases h
  · rename_i p q
    simp only [RV1, RC] at hx hy
    subst hx; subst hy
    have hu := hb p rfl
    simp only [Sem.run_bind, plain (fun c => by simp) (by simp), Result.andThen_ok]
    have eqv : (Op.equal t (.bool p) (.bool q)).run P w = .ok (p == q) w := by
      unfold Op.equal Op.maxDepth
      rw [show (10000 : Nat) = 9999 + 1 from rfl, Op.equalIn]
      simp [underlying, hu]
    cases op <;> (first | (simp only [reduceCtorEq] at h; done) | (simp only [Option.some.injEq] at h; subst h))
    · exact ⟨.bool (p == q), by simp [binOp, eqv], rfl⟩
    · exact ⟨.bool (!(p == q)), by simp [binOp, eqv], rfl⟩
  · obtain ⟨b1, rfl, rfl⟩ := hx
    obtain ⟨b2, rfl, rfl⟩ := hy
    simp only [Sem.run_bind, plain (fun c => by simp) (by simp), Result.andThen_ok]
    cases op <;> (first | (simp only [reduceCtorEq] at h; done) | (simp only [Option.some.injEq] at h; subst h))
    all_goals exact ⟨_, sc_sound t (by simp), rfl⟩
  · rename_i b o i
    obtain ⟨el, hu⟩ := hp (.inl ⟨b, o, i, rfl⟩)
    obtain ⟨A, hA⟩ : ∃ A, u = .pointer (some A) := by
      obtain ⟨L, _, hx⟩ := hx
      split at hx
      · exact ⟨_, hx⟩
      · exact ⟨_, hx.1⟩
    simp only [RV1, RC] at hy
    subst hA; subst hy
    simp only [Sem.run_bind, plain (fun c => by simp) (by simp), Result.andThen_ok]
    have eqv : (Op.equal t (.pointer (some A)) (.pointer none)).run P w = .ok false w := by
      unfold Op.equal Op.maxDepth
      rw [show (10000 : Nat) = 9999 + 1 from rfl, Op.equalIn]
      simp [underlying, hu]
    cases op <;> (first | (simp only [reduceCtorEq] at h; done) | (simp only [Option.some.injEq] at h; subst h))
    · exact ⟨.bool false, by simp [binOp, eqv], rfl⟩
    · exact ⟨.bool true, by simp [binOp, eqv], rfl⟩
  · obtain ⟨el, hu⟩ := hp (.inr rfl)
    simp only [RV1, RC] at hx hy
    subst hx; subst hy
    simp only [Sem.run_bind, plain (fun c => by simp) (by simp), Result.andThen_ok]
    have eqv : (Op.equal t (.pointer none) (.pointer none)).run P w = .ok true w := by
      unfold Op.equal Op.maxDepth
      rw [show (10000 : Nat) = 9999 + 1 from rfl, Op.equalIn]
      simp [underlying, hu]
    cases op <;> (first | (simp only [reduceCtorEq] at h; done) | (simp only [Option.some.injEq] at h; subst h))
    · exact ⟨.bool true, by simp [binOp, eqv], rfl⟩
    · exact ⟨.bool false, by simp [binOp, eqv], rfl⟩
  · obtain ⟨cs, rfl, hxs⟩ := hx
    obtain ⟨ds, rfl, hys⟩ := hy
    split at h
    · split at h
      · rename_i c' hc
        simp only [Option.some.injEq] at h
        subst h
        have he := eqSegs_sound hc hxs hys
        obtain ⟨kd, hkd, hq⟩ := hq (.inl rfl) _ rfl
        exact ⟨_, (hq cs ds c' w xo yo he (fitSegs_spec hkd hxs)).1, rfl⟩
      · cases h
    · split at h
      · rename_i c' hc
        simp only [Option.some.injEq] at h
        subst h
        have he := eqSegs_sound hc hxs hys
        obtain ⟨kd, hkd, hq⟩ := hq (.inr rfl) _ rfl
        exact ⟨_, (hq cs ds c' w xo yo he (fitSegs_spec hkd hxs)).2, rfl⟩
      · cases h
    · cases h
  · cases h

end
end Go.Sx
