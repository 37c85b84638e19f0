import Derived.Test.YtloapdnklljaoaaSxT
import Derived.ChangeKeysEq
import Derived.Laws.StructEq
namespace Go.Sx

def intB : Int → Int → Bool
  | .ofNat a, .ofNat b => Nat.beq a b
  | _, _ => false

theorem intB_eq {a b : Int} (h : intB a b = true) : a = b := by
  unfold intB at h
  split at h
  · rw [beq_true h]
  · cases h

def cellB : Cell → Value → Bool
  | .nat k n, .int k' v => kindEq k k' && (intB (.ofNat n) v && (Nat.blt n (2 ^ bitsOf k) && unsig k))
  | .int k n, .int k' v => kindEq k k' && intB n v
  | .bool a, .bool b => a == b
  | .str s, .string b => match s, natsOf b with
    | [], [] => true
    | _, _ => false
  | .nilp, .pointer none => true
  | .nils, .slice none 0 0 => true
  | _, _ => false

theorem cellB_spec {c : Cell} {v : Value} (h : cellB c v = true) : (∀ ρ, RC ρ c v) ∧ v.oneCell' = true ∧ (V1.cell c).ok = true ∧ ∀ b, c.mentions b = false := by
  unfold cellB at h
  split at h
  · rename_i k n k' v
    simp only [Bool.and_eq_true] at h
    obtain ⟨h1, h2, h3, h4⟩ := h
    have e := kindEq_eq h1
    subst e
    have e2 := intB_eq h2
    subst e2
    refine ⟨fun ρ => ⟨rfl, ?_, ?_⟩, rfl, rfl, fun _ => rfl⟩
    · have := blt_true h3
      cases k <;> simpa [bitsOf, IntKind.bits] using this
    · cases k <;> first | rfl | cases h4
  · simp only [Bool.and_eq_true] at h
    have e := kindEq_eq h.1
    subst e
    have e2 := intB_eq h.2
    subst e2
    exact ⟨fun ρ => rfl, rfl, rfl, fun _ => rfl⟩
  · rename_i a b
    have : a = b := by simpa using h
    subst this
    exact ⟨fun ρ => rfl, rfl, rfl, fun _ => rfl⟩
  · split at h
    · rename_i hb
      exact ⟨fun ρ => ⟨_, rfl, hb⟩, rfl, rfl, fun _ => rfl⟩
    · cases h
  · exact ⟨fun ρ => rfl, rfl, rfl, fun _ => rfl⟩
  · exact ⟨fun ρ => rfl, rfl, rfl, fun _ => rfl⟩
  · cases h

def wfB : List Seg → Bool
  | [] => true
  | s :: r => (match s with
    | .one _ => true
    | .nums _ n l => Nat.beq l.length n
    | .ints _ n l => Nat.beq l.length n
    | .strs n l => Nat.beq l.length n
    | .recs _ _ => false) && wfB r

theorem wfB_spec {l : List Seg} (h : wfB l = true) : segsWf l := by
  induction l with
  | nil => exact segsWf_nil
  | cons s r ih =>
    simp only [wfB, Bool.and_eq_true] at h
    refine segsWf_cons.2 ⟨?_, ih h.2⟩
    have h1 := h.1
    split at h1
    · trivial
    · exact beq_true h1
    · exact beq_true h1
    · exact beq_true h1
    · cases h1

def noPtr : List Seg → Bool
  | [] => true
  | .one c :: r => (match c with
    | .ptr _ _ _ => false
    | .sl _ _ _ _ => false
    | _ => true) && noPtr r
  | _ :: r => noPtr r

theorem noPtr_spec {l : List Seg} (h : noPtr l = true) (b : Nat) : anyB (Seg.mentions b) l = false := by
  induction l with
  | nil => rfl
  | cons s r ih =>
    unfold anyB
    cases s with
    | one c =>
      simp only [noPtr, Bool.and_eq_true] at h
      have h1 : c.mentions b = false := by
        have := h.1
        split at this
        · cases this
        · cases this
        · rename_i n1 n2
          cases c <;> first | rfl | exact absurd rfl (n1 _ _ _) | exact absurd rfl (n2 _ _ _ _)
      simp only [Seg.mentions, h1]
      exact ih h.2
    | nums k n l => exact ih h
    | ints k n l => exact ih h
    | strs n l => exact ih h
    | recs n l => exact ih h

def zeroB (x : V1) (z : Value) : Bool :=
  match x with
  | .cell c => cellB c z
  | .agg l => match z with
    | .agg cs => wfB l && (noPtr l && (Nat.beq cs.size (segsLen l) && allLt (fun j => match getCell l j, cs.toList[j]? with
      | some c, some v => cellB c v
      | _, _ => false) cs.size))
    | _ => false

theorem zeroB_spec {x : V1} {z : Value} (h : zeroB x z = true) : (∀ ρ, RV1 ρ x z) ∧ x.ok = true ∧ ∀ b, x.mentions b = false := by
  unfold zeroB at h
  split at h
  · obtain ⟨h1, h2, h3, h4⟩ := cellB_spec h
    exact ⟨h1, h3, h4⟩
  · rename_i l
    split at h
    · rename_i cs
      simp only [Bool.and_eq_true] at h
      obtain ⟨h1, h2, h3, h4⟩ := h
      refine ⟨fun ρ => ⟨cs, rfl, by rw [Array.length_toList]; exact beq_true h3, wfB_spec h1, fun j c v hc hv => ?_⟩, rfl, noPtr_spec h2⟩
      have hj : j < cs.size := by
        have := (List.getElem?_eq_some_iff.1 hv).1
        simpa using this
      have := allLt_spec h4 j hj
      rw [hc, hv] at this
      obtain ⟨g1, g2, _⟩ := cellB_spec this
      exact ⟨g1 ρ, g2⟩
    · cases h

def fldB : List Field → List (Nat × Nat) → Bool
  | [], [] => true
  | f :: r, (a, b) :: q => Nat.beq f.offset a && (Nat.beq f.type b && fldB r q)
  | _, _ => false

theorem fldB_spec {fs : List Field} {l : List (Nat × Nat)} (h : fldB fs l = true) : ∀ i : Nat, (fs[i]?).map (fun f : Field => (f.offset, f.type)) = l[i]? := by
  induction fs generalizing l with
  | nil =>
    cases l with
    | nil => intro i; simp
    | cons x q => simp [fldB] at h
  | cons f r ih =>
    cases l with
    | nil => simp [fldB] at h
    | cons x q =>
      obtain ⟨a, b⟩ := x
      simp only [fldB, Bool.and_eq_true] at h
      intro i
      cases i with
      | zero => simp [beq_true h.1, beq_true h.2.1]
      | succ i => simpa using ih h.2.2 i

def descB (ty : Ty) (d : TypeDesc) : Bool :=
  match ty.tk, d with
  | .int k, .int k' => kindEq k k'
  | .bool, .bool => true
  | .string, .string => true
  | .ptr, .pointer _ => true
  | .slice, .slice e => Nat.beq e ty.elem
  | .array, .array n e => Nat.beq n ty.len && Nat.beq e ty.elem
  | .struct, .struct fs => fldB fs.toList ty.flds
  | _, _ => false

theorem descB_spec {ty : Ty} {d : TypeDesc} (h : descB ty d = true) : DescOK ty d := by
  unfold descB at h
  unfold DescOK
  cases htk : ty.tk <;> cases d <;> simp only [htk] at h ⊢ <;> first
    | (cases h; done)
    | exact ⟨_, rfl⟩
    | (rw [kindEq_eq h])
    | (rw [beq_true h])
    | (simp only [Bool.and_eq_true] at h
       rw [beq_true h.1, beq_true h.2])
    | exact ⟨_, rfl, fun i => by rw [lk2_get, ← fldB_spec h i]; simp⟩

def tyB (P : Program) (t : Nat) (ty : Ty) : Bool :=
  match P.info? t, P.underlying t with
  | some i, some d => Nat.beq i.size ty.size && (Nat.beq i.bytes ty.bytes && (descB ty d && ((match i.zero with
    | some z => zeroB ty.zero z && Nat.beq z.cells.size ty.size
    | none => false) && ((match ty.tk with
      | .array => (P.info? ty.elem).isSome
      | _ => true) && allL (fun f => (P.info? f.2).isSome) ty.flds))))
  | _, _ => false

theorem tyOK_of {P : Program} {l : List (Nat × Ty)} (h : allL (fun p => tyB P p.1 p.2) l = true) (he : ∀ t ty, lk t l = some ty → ty.eqok = true → ∀ kd, elemKind (fun t => lk t l) ty = some kd → EqProp P t ty.size kd) : TyOK P (fun t => lk t l) := by
  have each : ∀ t ty, lk t l = some ty → tyB P t ty = true := fun t ty ht => allL_spec h (t, ty) (lk_mem ht)
  refine ⟨fun t ty ht => ?_, fun t ty ht hk => ?_, fun t ty ht f hf => ?_, he⟩
  all_goals
    have h1 := each t ty ht
    unfold tyB at h1
    split at h1
    case h_2 => cases h1
  · rename_i i d hi hd
    simp only [Bool.and_eq_true] at h1
    obtain ⟨g1, g2, g3, g4, g5, g6⟩ := h1
    split at g4
    · rename_i z hz
      simp only [Bool.and_eq_true] at g4
      obtain ⟨z1, z2, z3⟩ := zeroB_spec g4.1
      exact ⟨i, d, hi, hd, beq_true g1, beq_true g2, descB_spec g3, z, hz, z1 _, beq_true g4.2, z2, z3⟩
    · cases g4
  · simp only [Bool.and_eq_true] at h1
    have := h1.2.2.2.2.1
    rw [hk] at this
    exact this
  · simp only [Bool.and_eq_true] at h1
    exact allL_spec h1.2.2.2.2.2 f hf

theorem eqItems_int {P : Program} {e : TypeId} {k : IntKind} (he : P.underlying e = some (.int k)) (d : Nat) (w : World) : ∀ (n : Nat) (is : List Nat) (xs ys : Array Value) (c : Bool),
    (∀ i ∈ is, i < xs.size) → (∀ v ∈ xs.toList, ∃ a, v = .int k a) → is = List.range' n is.length → n + is.length = xs.size → cellsEq (xs.toList.drop n) (ys.toList.drop n) = some c → (Op.eqItems (d + 1) e 1 xs ys is).run P w = .ok c w := by
  intro n is
  induction is generalizing n with
  | nil =>
    intro xs ys c _ _ _ hn hc
    have h0 : xs.toList.drop n = [] := List.drop_of_length_le (by simp at hn ⊢; omega)
    rw [h0] at hc
    cases hy : ys.toList.drop n with
    | nil =>
      rw [hy] at hc
      simp only [cellsEq, Option.some.injEq] at hc
      subst hc
      simp [Op.eqItems]
    | cons y q => rw [hy] at hc; simp [cellsEq] at hc
  | cons i r ih =>
    intro xs ys c hlt hk his hn hc
    rw [List.length_cons, List.range'_succ] at his
    obtain ⟨rfl, hr⟩ := List.cons.inj his
    have hi : i < xs.size := hlt i List.mem_cons_self
    have hx : xs.toList.drop i = xs[i] :: xs.toList.drop (i + 1) := by rw [List.drop_eq_getElem_cons (by simpa using hi)]; rfl
    rw [hx] at hc
    cases hy : ys.toList.drop i with
    | nil => rw [hy] at hc; simp [cellsEq] at hc
    | cons y q =>
      have hil : i < ys.toList.length := by
        have : (ys.toList.drop i).length = q.length + 1 := by rw [hy]; rfl
        rw [List.length_drop] at this
        omega
      have hyi : ys.toList.drop i = ys.toList[i] :: ys.toList.drop (i + 1) := List.drop_eq_getElem_cons hil
      rw [hyi] at hy
      obtain ⟨e1, e2⟩ := List.cons.inj hy
      rw [hyi] at hc
      simp only [cellsEq] at hc
      split at hc
      · rename_i a b ha hb
        simp only [Option.some.injEq] at hc
        obtain ⟨m, hm⟩ := hk xs[i] (by simp)
        rw [hm] at ha
        have hyv : ∃ z, ys.toList[i] = .int k z ∧ a = (m == z) := by
          cases hyy : ys.toList[i] <;> rw [hyy] at ha <;> simp [cellEqB] at ha
          obtain ⟨rfl, rfl⟩ := ha
          exact ⟨_, rfl, rfl⟩
        obtain ⟨z, hz, rfl⟩ := hyv
        have px : (part e xs (i * 1)).run P w = .ok (.int k m) w := run_part_plain w (by simp [Program.plainKey, he]) (by rw [Nat.mul_one, ← hm]; exact Array.getElem?_eq_getElem hi)
        have py : (part e ys (i * 1)).run P w = .ok (.int k z) w := run_part_plain w (by simp [Program.plainKey, he]) (by rw [Nat.mul_one, ← hz, ← Array.getElem?_toList]; exact List.getElem?_eq_getElem hil)
        have eq := run_equalIn_int (P := P) (w := w) d e k k m z he
        have rec_ := ih (i + 1) xs ys b (fun j hj => hlt j (List.mem_cons_of_mem _ hj)) hk hr (by simp at hn; omega) hb
        subst hc
        simp only [Op.eqItems, Sem.run_bind, px, py, eq, Result.andThen_ok]
        cases hb2 : (m == z) with
        | true => simpa using rec_
        | false => simp
      · cases hc
theorem eqProp_array {P : Program} {t e : TypeId} {n : Nat} {k : IntKind} {i : TypeInfo} (ht : P.underlying t = some (.array n e)) (he : P.underlying e = some (.int k)) (hi : P.info? e = some i) (hc : P.cellsOf e = 1) (hg : P.eqGuardType P.depth t = false) : EqProp P t n k := by
  intro xs ys c w x y hcs hsz hk
  have main : (Op.equalIn 10000 t (.agg xs) (.agg ys)).run P w = .ok c w := by
    rw [show (10000 : Nat) = 9999 + 1 from rfl, run_equalIn_array w 9999 xs ys ht hi, hc]
    exact eqItems_int he 9998 w 0 (List.range n) xs ys c (fun j hj => by rw [hsz]; simpa using hj) hk (by rw [List.length_range, List.range_eq_range']) (by rw [List.length_range, hsz]; omega) (by simpa using hcs)
  have g1 : (eqGuard .eql t x y (.agg xs) (.agg ys)).run P w = .ok () w := by simp [eqGuard, run_program, hg]
  have g2 : (eqGuard .neq t x y (.agg xs) (.agg ys)).run P w = .ok () w := by simp [eqGuard, run_program, hg]
  constructor
  · rw [Sem.run_bind, g1, Result.andThen_ok, run_eql_struct, main]; rfl
  · rw [Sem.run_bind, g2, Result.andThen_ok, run_neq_struct, main]; rfl

def eqB (P : Program) (l : List (Nat × Ty)) (p : Nat × Ty) : Bool :=
  match p.2.eqok with
  | false => true
  | true => match p.2.tk, lk p.2.elem l with
    | .array, some te => match te.tk with
      | .int _ => Nat.beq te.size 1 && (Nat.beq p.2.size p.2.len && !(P.eqGuardType P.depth p.1))
      | _ => false
    | _, _ => false
theorem eqB_spec {P : Program} {l : List (Nat × Ty)} (h : allL (fun p => tyB P p.1 p.2) l = true) (hb : allL (eqB P l) l = true) : ∀ t ty, lk t l = some ty → ty.eqok = true → ∀ kd, elemKind (fun t => lk t l) ty = some kd → EqProp P t ty.size kd := by
  intro t ty ht hq kd hkd
  have h1 := allL_spec hb (t, ty) (lk_mem ht)
  unfold eqB at h1
  simp only [hq] at h1
  split at h1
  · rename_i te htk hte
    split at h1
    · rename_i k hk
      simp only [Bool.and_eq_true, Bool.not_eq_true'] at h1
      obtain ⟨q1, q2, q3⟩ := h1
      have hkd2 : kd = k := by
        unfold elemKind at hkd
        simp only [hte, hk, Option.some.injEq] at hkd
        exact hkd.symm
      subst hkd2
      have a1 := allL_spec h (t, ty) (lk_mem ht)
      have a2 := allL_spec h (ty.elem, te) (lk_mem hte)
      unfold tyB at a1 a2
      split at a1
      · rename_i i d hi hd
        simp only [Bool.and_eq_true] at a1
        have b1 := descB_spec a1.2.2.1
        unfold DescOK at b1
        rw [htk] at b1
        simp only at b1
        subst b1
        split at a2
        · rename_i i2 d2 hi2 hd2
          simp only [Bool.and_eq_true] at a2
          have b2 := descB_spec a2.2.2.1
          unfold DescOK at b2
          rw [hk] at b2
          simp only at b2
          subst b2
          rw [beq_true q2]
          refine eqProp_array hd hd2 hi2 ?_ q3
          have := beq_true a2.1
          unfold Program.cellsOf
          rw [hi2]
          simp only [Option.map_some, Option.getD_some]
          rw [this]
          exact beq_true q1
        · cases a2
      · cases a1
    · cases h1
  · cases h1

section
variable {P : Program} {T : Tys} {O : Orc} {R : Type} {r : R}

def FnOut (P : Program) (ρ : Map) (v : AV) (w : World) : Result Next → Prop
  | .ok (.value u) w' => RV ρ v u ∧ Fr w.heap.size Nil w w'
  | .ok (.enter f args) w' => w' = w ∧ Calls P f args w fun e w'' => ∃ u, e = .returned u ∧ RV ρ v u ∧ Fr w.heap.size Nil w w''
  | _ => False

def Fn1 (P : Program) (f : FuncId) (vs : List AV) (v : AV) : Prop := ∀ (ρ : Map) (w : World) (us : Array Value), RVs ρ vs us.toList → FnOut P ρ v w ((callFunc f us).run P w)

theorem orcOf_some {tbl : List (Nat × (List AV → Option (Bool × AV)))} {f sid : Nat} {args : List AV} {h : Heap} {k : AV → Heap → List Nat → Option R} (hk : (orcOf tbl).run f sid args h k = some r) :
    ∃ g v, (f, g) ∈ tbl ∧ g args = some (true, v) ∧ k v h [] = some r ∧ ∀ (R' : Type) (k' : AV → Heap → List Nat → Option R'), (orcOf tbl).run f sid args h k' = k' v h [] := by
  simp only [orcOf] at hk
  split at hk
  · rename_i g hg
    split at hk
    · rename_i c v hv
      split at hk
      · exact ⟨g, v, lk_mem hg, hv, hk, fun R' k' => by simp only [orcOf, hg, hv]⟩
      · cases hk
    · cases hk
  · cases hk

theorem orc_det (tbl : List (Nat × (List AV → Option (Bool × AV)))) : ODet (orcOf tbl) := by
  intro R f sid args h k r hk
  obtain ⟨g, v, _, _, h3, h4⟩ := orcOf_some hk
  exact ⟨v, h, [], h3, h4⟩

theorem orc_sound {tbl : List (Nat × (List AV → Option (Bool × AV)))} (ht : ∀ f g, (f, g) ∈ tbl → ∀ args v, g args = some (true, v) → Fn1 P f args v) : OSound P (orcOf tbl) := by
  intro R f sid args h k r hk N S ρ w us hr hn hfree hvs
  obtain ⟨g, v, h1, h2, h3, _⟩ := orcOf_some hk
  refine ⟨v, h, [], h3, ?_⟩
  have := ht f g h1 args v h2 ρ w us hvs
  generalize (callFunc f us).run P w = res at this ⊢
  unfold FnOut at this
  unfold Good
  split at this
  · exact ⟨ρ, this.1, HR_frame hr this.2, Fr_up hr.low this.2, fun _ _ _ => rfl⟩
  · refine ⟨this.1, Calls.mono this.2 fun e w'' he => ?_⟩
    obtain ⟨u, e1, e2, e3⟩ := he
    exact ⟨u, ρ, e1, e2, HR_frame hr e3, Fr_up hr.low e3, fun _ _ _ => rfl⟩
  · exact this.elim

theorem HR_nil (ρ : Map) (w : World) : HR w.heap.size Nil ρ [] w :=
  ⟨Nat.le_refl _, fun b x hb => by simp [lk] at hb, fun b c x y L M hb => by simp [lk] at hb⟩

theorem fn1_of (hM : P.follows .mixedOrders = true) (hT : TyOK P T) (hO : OSound P O) (hD : ODet O) {an : Ann} {n : Nat} {f g : FuncId} {fn : Func} {c : Code} (hf : P.funcs[g]? = some fn) (hb : fn.body = some c) (hok : codeOk fn.ntmps c = true)
    (hcall : ∀ us w, (callFunc f us).run P w = .ok (.enter g us) w) {vs : List AV} {v : AV} (hn : vs.length ≤ fn.ntmps) (hm : ∀ b, v.mentions b = false)
    (hk : (∃ ρ us, RVs ρ vs us) → funD realA T O an n c fn.results.toList vs [] (fun v _ => some v) = some v) : Fn1 P f vs v := by
  intro ρ w us hvs
  rw [hcall]
  refine ⟨rfl, Calls.mono (fun_sound hM hT hO hD hf hb hok hn hvs (HR_nil ρ w) (hk ⟨ρ, _, hvs⟩)) fun e w' he => ?_⟩
  obtain ⟨u, ρ', v', h', e1, e2, e3, _, e5, _⟩ := he
  simp only [Option.some.injEq] at e2
  subst e2
  exact ⟨u, e1, RV_agree (fun b hb => by rw [hm b] at hb; cases hb) e3, e5⟩

end
end Go.Sx
