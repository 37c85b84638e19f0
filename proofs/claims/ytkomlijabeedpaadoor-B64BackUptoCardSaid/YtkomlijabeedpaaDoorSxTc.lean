import Derived.Test.YtkomlijabeedpaaDoorSxT
import Derived.ChangeKeysEq
import Derived.Laws.StructEq
namespace Go.Sx

def intB : Int → Int → Bool
  | .ofNat a, .ofNat b => Nat.beq a b
  | _, _ => false

theorem intB_eq {a b : Int} (h : intB a b = true) : a = b := by
  unfold intB at h
  split at h
  · rw [beq_true h]
  · cases h

def cellB : Cell → Value → Bool
  | .nat k n, .int k' v => kindEq k k' && (intB (.ofNat n) v && (Nat.blt n (2 ^ bitsOf k) && unsig k))
  | .int k n, .int k' v => kindEq k k' && intB n v
  | .bool a, .bool b => a == b
  | .str s, .string b => match s, natsOf b with
    | [], [] => true
    | _, _ => false
  | .nilp, .pointer none => true
  | .nils, .slice none 0 0 => true
  | _, _ => false

theorem cellB_spec {c : Cell} {v : Value} (h : cellB c v = true) : (∀ ρ, RC ρ c v) ∧ v.oneCell' = true ∧ (V1.cell c).ok = true ∧ ∀ b, c.mentions b = false := by
  unfold cellB at h
  split at h
  · rename_i k n k' v
    simp only [Bool.and_eq_true] at h
    obtain ⟨h1, h2, h3, h4⟩ := h
    have e := kindEq_eq h1
    subst e
    have e2 := intB_eq h2
    subst e2
    refine ⟨fun ρ => ⟨rfl, ?_, ?_⟩, rfl, rfl, fun _ => rfl⟩
    · have := blt_true h3
      cases k <;> simpa [bitsOf, IntKind.bits] using this
    · cases k <;> first | rfl | cases h4
  · simp only [Bool.and_eq_true] at h
    have e := kindEq_eq h.1
    subst e
    have e2 := intB_eq h.2
    subst e2
    exact ⟨fun ρ => rfl, rfl, rfl, fun _ => rfl⟩
  · rename_i a b
    have : a = b := by simpa using h
    subst this
    exact ⟨fun ρ => rfl, rfl, rfl, fun _ => rfl⟩
  · split at h
    · rename_i hb
      exact ⟨fun ρ => ⟨_, rfl, hb⟩, rfl, rfl, fun _ => rfl⟩
    · cases h
  · exact ⟨fun ρ => rfl, rfl, rfl, fun _ => rfl⟩
  · exact ⟨fun ρ => rfl, rfl, rfl, fun _ => rfl⟩
  · cases h

def wfB : List Seg → Bool
  | [] => true
  | s :: r => (match s with
    | .one _ => true
    | .nums _ n l => Nat.beq l.length n
    | .ints _ n l => Nat.beq l.length n
    | .strs n l => Nat.beq l.length n
    | .recs n cols => Nat.blt 0 cols.length && allL (fun c => Nat.beq c.len n) cols) && wfB r

theorem wfB_spec {l : List Seg} (h : wfB l = true) : segsWf l := by
  induction l with
  | nil => exact segsWf_nil
  | cons s r ih =>
    simp only [wfB, Bool.and_eq_true] at h
    refine segsWf_cons.2 ⟨?_, ih h.2⟩
    have h1 := h.1
    split at h1
    · trivial
    · exact beq_true h1
    · exact beq_true h1
    · exact beq_true h1
    · simp only [Bool.and_eq_true] at h1
      exact ⟨blt_true h1.1, fun c hc => beq_true (allL_spec h1.2 c hc)⟩

def noPtr : List Seg → Bool
  | [] => true
  | .one c :: r => (match c with
    | .ptr _ _ _ => false
    | .sl _ _ _ _ => false
    | _ => true) && noPtr r
  | _ :: r => noPtr r

theorem noPtr_spec {l : List Seg} (h : noPtr l = true) (b : Nat) : anyB (Seg.mentions b) l = false := by
  induction l with
  | nil => rfl
  | cons s r ih =>
    unfold anyB
    cases s with
    | one c =>
      simp only [noPtr, Bool.and_eq_true] at h
      have h1 : c.mentions b = false := by
        have := h.1
        split at this
        · cases this
        · cases this
        · rename_i n1 n2
          cases c <;> first | rfl | exact absurd rfl (n1 _ _ _) | exact absurd rfl (n2 _ _ _ _)
      simp only [Seg.mentions, h1]
      exact ih h.2
    | nums k n l => exact ih h
    | ints k n l => exact ih h
    | strs n l => exact ih h
    | recs n l => exact ih h

def zeroB (x : V1) (z : Value) : Bool :=
  match x with
  | .cell c => cellB c z
  | .agg l => match z with
    | .agg cs => wfB l && (noPtr l && (Nat.beq cs.size (segsLen l) && allLt (fun j => match getCell l j, cs.toList[j]? with
      | some c, some v => cellB c v
      | _, _ => false) cs.size))
    | _ => false

theorem zeroB_spec {x : V1} {z : Value} (h : zeroB x z = true) : (∀ ρ, RV1 ρ x z) ∧ x.ok = true ∧ ∀ b, x.mentions b = false := by
  unfold zeroB at h
  split at h
  · obtain ⟨h1, h2, h3, h4⟩ := cellB_spec h
    exact ⟨h1, h3, h4⟩
  · rename_i l
    split at h
    · rename_i cs
      simp only [Bool.and_eq_true] at h
      obtain ⟨h1, h2, h3, h4⟩ := h
      refine ⟨fun ρ => ⟨cs, rfl, by rw [Array.length_toList]; exact beq_true h3, wfB_spec h1, fun j c v hc hv => ?_⟩, rfl, noPtr_spec h2⟩
      have hj : j < cs.size := by
        have := (List.getElem?_eq_some_iff.1 hv).1
        simpa using this
      have := allLt_spec h4 j hj
      rw [hc, hv] at this
      obtain ⟨g1, g2, _⟩ := cellB_spec this
      exact ⟨g1 ρ, g2⟩
    · cases h

def fldB : List Field → List (Nat × Nat) → Bool
  | [], [] => true
  | f :: r, (a, b) :: q => Nat.beq f.offset a && (Nat.beq f.type b && fldB r q)
  | _, _ => false

theorem fldB_spec {fs : List Field} {l : List (Nat × Nat)} (h : fldB fs l = true) : ∀ i : Nat, (fs[i]?).map (fun f : Field => (f.offset, f.type)) = l[i]? := by
  induction fs generalizing l with
  | nil =>
    cases l with
    | nil => intro i; simp
    | cons x q => simp [fldB] at h
  | cons f r ih =>
    cases l with
    | nil => simp [fldB] at h
    | cons x q =>
      obtain ⟨a, b⟩ := x
      simp only [fldB, Bool.and_eq_true] at h
      intro i
      cases i with
      | zero => simp [beq_true h.1, beq_true h.2.1]
      | succ i => simpa using ih h.2.2 i

def descB (ty : Ty) (d : TypeDesc) : Bool :=
  match ty.tk, d with
  | .int k, .int k' => kindEq k k'
  | .bool, .bool => true
  | .string, .string => true
  | .ptr, .pointer _ => true
  | .slice, .slice e => Nat.beq e ty.elem
  | .array, .array n e => Nat.beq n ty.len && Nat.beq e ty.elem
  | .struct, .struct fs => fldB fs.toList ty.flds
  | _, _ => false

theorem descB_spec {ty : Ty} {d : TypeDesc} (h : descB ty d = true) : DescOK ty d := by
  unfold descB at h
  unfold DescOK
  cases htk : ty.tk <;> cases d <;> simp only [htk] at h ⊢ <;> first
    | (cases h; done)
    | exact ⟨_, rfl⟩
    | (rw [kindEq_eq h])
    | (rw [beq_true h])
    | (simp only [Bool.and_eq_true] at h
       rw [beq_true h.1, beq_true h.2])
    | exact ⟨_, rfl, fun i => by rw [lk2_get, ← fldB_spec h i]; simp⟩

def tyB (P : Program) (t : Nat) (ty : Ty) : Bool :=
  match P.info? t, P.underlying t with
  | some i, some d => Nat.beq i.size ty.size && (Nat.beq i.bytes ty.bytes && (descB ty d && ((match i.zero with
    | some z => zeroB ty.zero z && Nat.beq z.cells.size ty.size
    | none => false) && ((match ty.tk with
      | .array => (P.info? ty.elem).isSome
      | _ => true) && allL (fun f => (P.info? f.2).isSome) ty.flds))))
  | _, _ => false

theorem tyOK_of {P : Program} {l : List (Nat × Ty)} (h : allL (fun p => tyB P p.1 p.2) l = true) (he : ∀ t ty, lk t l = some ty → ty.eqok = true → ∀ ks, kdsT (fun t => lk t l) 6 t = some ks → EqProp P t ks) : TyOK P (fun t => lk t l) := by
  have each : ∀ t ty, lk t l = some ty → tyB P t ty = true := fun t ty ht => allL_spec h (t, ty) (lk_mem ht)
  refine ⟨fun t ty ht => ?_, fun t ty ht hk => ?_, fun t ty ht f hf => ?_, he⟩
  all_goals
    have h1 := each t ty ht
    unfold tyB at h1
    split at h1
    case h_2 => cases h1
  · rename_i i d hi hd
    simp only [Bool.and_eq_true] at h1
    obtain ⟨g1, g2, g3, g4, g5, g6⟩ := h1
    split at g4
    · rename_i z hz
      simp only [Bool.and_eq_true] at g4
      obtain ⟨z1, z2, z3⟩ := zeroB_spec g4.1
      exact ⟨i, d, hi, hd, beq_true g1, beq_true g2, descB_spec g3, z, hz, z1 _, beq_true g4.2, z2, z3⟩
    · cases g4
  · simp only [Bool.and_eq_true] at h1
    have := h1.2.2.2.2.1
    rw [hk] at this
    exact this
  · simp only [Bool.and_eq_true] at h1
    exact allL_spec h1.2.2.2.2.2 f hf

def flP (P : Program) (k : TypeId → Option (List KD)) : Nat → List Field → Option (List KD)
  | _, [] => some []
  | o, f :: r => match Nat.beq f.offset o && (f.name != "_") with
    | true => match k f.type with
      | some l => match Nat.beq (P.cellsOf f.type) l.length && (P.info? f.type).isSome with
        | true => match flP P k (o + l.length) r with
          | some q => some (l ++ q)
          | none => none
        | false => none
      | none => none
    | false => none
def kdsP (P : Program) : Nat → TypeId → Option (List KD)
  | 0, _ => none
  | m + 1, t => match P.underlying t with
    | some (.int k) => some [.int k]
    | some .bool => some [.bool]
    | some .string => some [.str]
    | some (.array n e) => match kdsP P m e with
      | some l => match Nat.beq (P.cellsOf e) l.length && (P.info? e).isSome with
        | true => some (repKD n l)
        | false => none
      | none => none
    | some (.struct fs) => match P.stoodInHeld t with
      | true => none
      | false => flP P (kdsP P m) 0 fs.toList
    | _ => none

def valT (P : Program) (t : TypeId) (cs : List Value) : Value :=
  match P.underlying t with
  | some (.array _ _) => .agg cs.toArray
  | some (.struct _) => .agg cs.toArray
  | _ => cs.getD 0 undef

theorem KDs_len {ks : List KD} {vs : List Value} (h : KDs ks vs) : vs.length = ks.length := by
  induction ks generalizing vs with
  | nil => cases vs with
    | nil => rfl
    | cons _ _ => exact h.elim
  | cons k ks ih => cases vs with
    | nil => exact h.elim
    | cons v vs => simp [ih h.2]
theorem KDs_split {a b : List KD} {vs : List Value} (h : KDs (a ++ b) vs) : KDs a (vs.take a.length) ∧ KDs b (vs.drop a.length) := by
  induction a generalizing vs with
  | nil => exact ⟨by simp [KDs], by simpa using h⟩
  | cons k a ih => cases vs with
    | nil => exact h.elim
    | cons v vs => exact ⟨⟨h.1, (ih h.2).1⟩, (ih h.2).2⟩
theorem cellsEq_split {xs ys : List Value} {c : Bool} (n : Nat) (h : cellsEq xs ys = some c) : ∃ a b, cellsEq (xs.take n) (ys.take n) = some a ∧ cellsEq (xs.drop n) (ys.drop n) = some b ∧ c = (a && b) := by
  induction n generalizing xs ys c with
  | zero => exact ⟨true, c, rfl, by simpa using h, by simp⟩
  | succ n ih => cases xs with
    | nil => cases ys with
      | nil => exact ⟨true, true, rfl, rfl, by simpa [cellsEq] using h.symm⟩
      | cons _ _ => simp [cellsEq] at h
    | cons x xs => cases ys with
      | nil => simp [cellsEq] at h
      | cons y ys =>
        simp only [cellsEq] at h
        split at h
        · rename_i p q hp hq
          simp only [Option.some.injEq] at h
          obtain ⟨a, b, e1, e2, rfl⟩ := ih hq
          refine ⟨p && a, b, ?_, e2, ?_⟩
          · simp only [List.take_succ_cons, cellsEq, hp, e1]
          · rw [← h, Bool.and_assoc]
        · cases h
theorem run_partT {P : Program} {w : World} {e : TypeId} {ks : List KD} {m : Nat} (hk : kdsP P m e = some ks) (hc : P.cellsOf e = ks.length) (hi : (P.info? e).isSome = true) {xs : Array Value} {off : Nat} (hf : KDs ks ((xs.toList.drop off).take ks.length)) : (part e xs off).run P w = .ok (valT P e ((xs.toList.drop off).take ks.length)) w := by
  obtain ⟨i, hi⟩ := Option.isSome_iff_exists.1 hi
  have hsz : i.size = ks.length := by
    unfold Program.cellsOf at hc
    rw [hi] at hc
    simpa using hc
  have hl : (xs.extract off (off + ks.length)) = ((xs.toList.drop off).take ks.length).toArray := by
    apply Array.ext'
    rw [Array.toList_extract]
    simp [List.extract]
  have one : ks.length = 1 → ∃ v, (xs.toList.drop off).take ks.length = [v] ∧ xs[off]? = some v := by
    intro h1
    rw [h1] at hf ⊢
    have := KDs_len hf
    rw [h1] at this
    obtain ⟨v, hv⟩ := List.length_eq_one_iff.1 this
    refine ⟨v, hv, ?_⟩
    have h2 : ((xs.toList.drop off).take 1)[0]? = some v := by rw [hv]; rfl
    rw [List.getElem?_take_of_lt (by omega), List.getElem?_drop, Nat.add_zero] at h2
    simpa using h2
  cases m with
  | zero => simp [kdsP] at hk
  | succ m =>
    cases hu : P.underlying e with
    | none => simp [kdsP, hu] at hk
    | some d =>
      cases d
      case array n e' => simp [part, isAgg, sizeOf, typeInfo, underlying, hu, hi, valT, hsz, hl]
      case struct fs => simp [part, isAgg, sizeOf, typeInfo, underlying, hu, hi, valT, hsz, hl]
      case int k =>
        simp only [kdsP, hu, Option.some.injEq] at hk
        obtain ⟨v, h1, h2⟩ := one (by rw [← hk]; rfl)
        rw [h1]
        simp [part, isAgg, underlying, hu, valT, h2]
      case bool =>
        simp only [kdsP, hu, Option.some.injEq] at hk
        obtain ⟨v, h1, h2⟩ := one (by rw [← hk]; rfl)
        rw [h1]
        simp [part, isAgg, underlying, hu, valT, h2]
      case string =>
        simp only [kdsP, hu, Option.some.injEq] at hk
        obtain ⟨v, h1, h2⟩ := one (by rw [← hk]; rfl)
        rw [h1]
        simp [part, isAgg, underlying, hu, valT, h2]
      all_goals (simp [kdsP, hu] at hk; done)

theorem eqIn_sound {P : Program} (m : Nat) : ∀ (t : TypeId) (ks : List KD), kdsP P m t = some ks → ∀ (d : Nat) (w : World) (xs ys : List Value) (c : Bool), KDs ks xs → KDs ks ys → cellsEq xs ys = some c →
    (Op.equalIn (d + m) t (valT P t xs) (valT P t ys)).run P w = .ok c w := by
  induction m with
  | zero => intro t ks h; simp [kdsP] at h
  | succ m ih =>
    intro t ks h d w xs ys c hx hy hc
    rw [show d + (m + 1) = (d + m) + 1 from rfl]
    cases hu : P.underlying t with
    | none => simp [kdsP, hu] at h
    | some dd =>
      cases dd
      case int k =>
        simp only [kdsP, hu, Option.some.injEq] at h
        subst h
        match xs, ys, hx, hy with
        | [x], [y], hx, hy =>
          obtain ⟨a, rfl⟩ := hx.1
          obtain ⟨b, rfl⟩ := hy.1
          simp only [cellsEq, cellEqB, if_true, Option.some.injEq] at hc
          subst hc
          simp only [valT, hu, List.getD_cons_zero, Bool.and_true]
          exact run_equalIn_int w (d + m) t k k a b hu
      case bool =>
        simp only [kdsP, hu, Option.some.injEq] at h
        subst h
        match xs, ys, hx, hy with
        | [x], [y], hx, hy =>
          obtain ⟨a, rfl⟩ := hx.1
          obtain ⟨b, rfl⟩ := hy.1
          simp only [cellsEq, cellEqB, Option.some.injEq] at hc
          subst hc
          simp only [valT, hu, List.getD_cons_zero, Bool.and_true]
          exact run_equalIn_bool' w (d + m) t a b hu
      case string =>
        simp only [kdsP, hu, Option.some.injEq] at h
        subst h
        match xs, ys, hx, hy with
        | [x], [y], hx, hy =>
          obtain ⟨a, rfl⟩ := hx.1
          obtain ⟨b, rfl⟩ := hy.1
          simp only [cellsEq, cellEqB, Option.some.injEq] at hc
          subst hc
          simp only [valT, hu, List.getD_cons_zero, Bool.and_true]
          exact run_equalIn_string w (d + m) t a b hu
      case array n e =>
        simp only [kdsP, hu] at h
        split at h
        · rename_i l hl
          split at h
          · rename_i hb
            simp only [Option.some.injEq] at h
            subst h
            simp only [Bool.and_eq_true] at hb
            obtain ⟨b1, b2⟩ := hb
            have b1 := beq_true b1
            obtain ⟨i, hi⟩ := Option.isSome_iff_exists.1 b2
            simp only [valT, hu]
            rw [run_equalIn_array w (d + m) _ _ hu hi]
            have key : ∀ (k j : Nat) (c : Bool), KDs (repKD k l) (xs.drop (j * l.length)) → KDs (repKD k l) (ys.drop (j * l.length)) → cellsEq (xs.drop (j * l.length)) (ys.drop (j * l.length)) = some c →
                (Op.eqItems (d + m) e (P.cellsOf e) xs.toArray ys.toArray (List.range' j k)).run P w = .ok c w := by
              intro k
              induction k with
              | zero =>
                intro j c hx hy hc
                have e1 := KDs_len hx
                have e2 := KDs_len hy
                simp only [repKD, List.length_nil] at e1 e2
                rw [List.length_eq_zero_iff.1 e1, List.length_eq_zero_iff.1 e2] at hc
                simp only [cellsEq, Option.some.injEq] at hc
                subst hc
                simp [Op.eqItems]
              | succ k ihk =>
                intro j c hx hy hc
                obtain ⟨x1, x2⟩ := KDs_split hx
                obtain ⟨y1, y2⟩ := KDs_split hy
                obtain ⟨a, b, c1, c2, rfl⟩ := cellsEq_split l.length hc
                have hd : ∀ z : List Value, (z.drop (j * l.length)).drop l.length = z.drop ((j + 1) * l.length) := by
                  intro z; rw [List.drop_drop, Nat.succ_mul]
                rw [hd] at x2 y2
                rw [hd, hd] at c2
                have p1 := run_partT (w := w) hl b1 b2 (xs := xs.toArray) (off := j * l.length) x1
                have p2 := run_partT (w := w) hl b1 b2 (xs := ys.toArray) (off := j * l.length) y1
                have p3 := ih e l hl d w _ _ a x1 y1 c1
                have p4 := ihk (j + 1) b x2 y2 c2
                rw [List.range'_succ]
                simp only [Op.eqItems, Sem.run_bind, b1, p1, p2, p3, Result.andThen_ok]
                cases a with
                | true => rw [b1] at p4; simpa using p4
                | false => simp
            have := key n 0 c (by simpa using hx) (by simpa using hy) (by simpa using hc)
            rwa [← List.range_eq_range'] at this
          · cases h
        · cases h
      case struct fs =>
        simp only [kdsP, hu] at h
        split at h
        · cases h
        · rename_i hst
          simp only [valT, hu]
          have hfs : P.fieldsOf t = fs := by simp [Program.fieldsOf, hu]
          rw [run_equalIn_struct w (d + m) t _ _ (by rw [hfs]; exact hu) hst, hfs]
          have key : ∀ (fl : List Field) (o : Nat) (ks : List KD) (c : Bool), flP P (kdsP P m) o fl = some ks → KDs ks (xs.drop o) → KDs ks (ys.drop o) → cellsEq (xs.drop o) (ys.drop o) = some c →
              (Op.eqFields (d + m) xs.toArray ys.toArray fl).run P w = .ok c w := by
            intro fl
            induction fl with
            | nil =>
              intro o ks c hk hx hy hc
              simp only [flP, Option.some.injEq] at hk
              subst hk
              have e1 := KDs_len hx
              have e2 := KDs_len hy
              simp only [List.length_nil] at e1 e2
              rw [List.length_eq_zero_iff.1 e1, List.length_eq_zero_iff.1 e2] at hc
              simp only [cellsEq, Option.some.injEq] at hc
              subst hc
              simp [Op.eqFields]
            | cons f fl ihf =>
              intro o ks c hk hx hy hc
              simp only [flP] at hk
              split at hk
              · rename_i hb
                simp only [Bool.and_eq_true, bne_iff_ne, ne_eq] at hb
                have ho := beq_true hb.1
                split at hk
                · rename_i l hl
                  split at hk
                  · rename_i hb2
                    simp only [Bool.and_eq_true] at hb2
                    obtain ⟨b1, b2⟩ := hb2
                    have b1 := beq_true b1
                    split at hk
                    · rename_i q hq
                      simp only [Option.some.injEq] at hk
                      subst hk
                      obtain ⟨x1, x2⟩ := KDs_split hx
                      obtain ⟨y1, y2⟩ := KDs_split hy
                      obtain ⟨a, b, c1, c2, rfl⟩ := cellsEq_split l.length hc
                      rw [List.drop_drop] at x2 y2
                      rw [List.drop_drop, List.drop_drop] at c2
                      have p1 := run_partT (w := w) hl b1 b2 (xs := xs.toArray) (off := o) x1
                      have p2 := run_partT (w := w) hl b1 b2 (xs := ys.toArray) (off := o) y1
                      have p3 := ih f.type l hl d w _ _ a x1 y1 c1
                      have p4 := ihf _ _ b hq x2 y2 c2
                      subst ho
                      simp only [Op.eqFields, hb.2, ne_eq, not_false_eq_true, if_true, Sem.run_bind, p1, p2, p3, Result.andThen_ok]
                      cases a with
                      | true => simpa using p4
                      | false => simp
                    · cases hk
                  · cases hk
                · cases hk
              · cases hk
          exact key fs.toList 0 ks c h (by simpa using hx) (by simpa using hy) (by simpa using hc)
      all_goals (simp [kdsP, hu] at h; done)

theorem cellsEq_KDs {ks : List KD} : ∀ {xs ys : List Value} {c : Bool}, cellsEq xs ys = some c → KDs ks xs → KDs ks ys := by
  induction ks with
  | nil =>
    intro xs ys c h hx
    cases xs with
    | nil => cases ys with
      | nil => trivial
      | cons _ _ => simp [cellsEq] at h
    | cons _ _ => exact hx.elim
  | cons k ks ih =>
    intro xs ys c h hx
    cases xs with
    | nil => exact hx.elim
    | cons x xs => cases ys with
      | nil => simp [cellsEq] at h
      | cons y ys =>
        simp only [cellsEq] at h
        split at h
        · rename_i a b ha hb
          refine ⟨?_, ih hb hx.2⟩
          have h1 := hx.1
          cases k with
          | int k =>
            obtain ⟨n, rfl⟩ := h1
            cases y <;> simp [cellEqB] at ha
            obtain ⟨rfl, _⟩ := ha
            exact ⟨_, rfl⟩
          | bool =>
            obtain ⟨n, rfl⟩ := h1
            cases y <;> simp [cellEqB] at ha
            exact ⟨_, rfl⟩
          | str =>
            obtain ⟨n, rfl⟩ := h1
            cases y <;> simp [cellEqB] at ha
            exact ⟨_, rfl⟩
        · cases h

theorem eqProp_of {P : Program} {t : TypeId} {ks : List KD} (hk : kdsP P 6 t = some ks) (ha : (match P.underlying t with
    | some (.array _ _) => true
    | some (.struct _) => true
    | _ => false) = true) (hg : P.eqGuardType P.depth t = false) : EqProp P t ks := by
  intro xs ys c w x y hcs hx
  have hv : ∀ z : Array Value, valT P t z.toList = .agg z := by
    intro z
    unfold valT
    split at ha
    · simp
    · simp
    · cases ha
  have main : (Op.equalIn 10000 t (.agg xs) (.agg ys)).run P w = .ok c w := by
    rw [← hv xs, ← hv ys]
    exact eqIn_sound 6 t ks hk 9994 w _ _ c hx (cellsEq_KDs hcs hx) hcs
  have g1 : (eqGuard .eql t x y (.agg xs) (.agg ys)).run P w = .ok () w := by simp [eqGuard, run_program, hg]
  have g2 : (eqGuard .neq t x y (.agg xs) (.agg ys)).run P w = .ok () w := by simp [eqGuard, run_program, hg]
  constructor
  · rw [Sem.run_bind, g1, Result.andThen_ok, run_eql_struct, main]; rfl
  · rw [Sem.run_bind, g2, Result.andThen_ok, run_neq_struct, main]; rfl

def kdB : List KD → List KD → Bool
  | [], [] => true
  | a :: l, b :: q => a.eqb b && kdB l q
  | _, _ => false
theorem kdB_eq {a b : List KD} (h : kdB a b = true) : a = b := by
  induction a generalizing b with
  | nil => cases b with
    | nil => rfl
    | cons _ _ => cases h
  | cons x a ih => cases b with
    | nil => cases h
    | cons y b =>
      simp only [kdB, Bool.and_eq_true] at h
      rw [KD.eqb_eq h.1, ih h.2]
def eqB (P : Program) (l : List (Nat × Ty)) (p : Nat × Ty) : Bool :=
  match p.2.eqok with
  | false => true
  | true => match kdsT (fun t => lk t l) 6 p.1, kdsP P 6 p.1 with
    | some a, some b => kdB a b && ((match P.underlying p.1 with
      | some (.array _ _) => true
      | some (.struct _) => true
      | _ => false) && !(P.eqGuardType P.depth p.1))
    | _, _ => false
theorem eqB_spec {P : Program} {l : List (Nat × Ty)} (hb : allL (eqB P l) l = true) : ∀ t ty, lk t l = some ty → ty.eqok = true → ∀ ks, kdsT (fun t => lk t l) 6 t = some ks → EqProp P t ks := by
  intro t ty ht hq ks hks
  have h1 := allL_spec hb (t, ty) (lk_mem ht)
  unfold eqB at h1
  simp only [hq] at h1
  split at h1
  · rename_i a b ha hb2
    simp only [Bool.and_eq_true, Bool.not_eq_true'] at h1
    rw [hks] at ha
    simp only [Option.some.injEq] at ha
    subst ha
    have e := kdB_eq h1.1
    subst e
    exact eqProp_of hb2 h1.2.1 h1.2.2
  · cases h1

section
variable {P : Program} {T : Tys} {O : Orc} {R : Type} {r : R}

def FnOut (P : Program) (ρ : Map) (v : AV) (w : World) : Result Next → Prop
  | .ok (.value u) w' => RV ρ v u ∧ Fr w.heap.size Nil w w'
  | .ok (.enter f args) w' => w' = w ∧ Calls P f args w fun e w'' => ∃ u, e = .returned u ∧ RV ρ v u ∧ Fr w.heap.size Nil w w''
  | _ => False

def Fn1 (P : Program) (f : FuncId) (vs : List AV) (v : AV) : Prop := ∀ (ρ : Map) (w : World) (us : Array Value), RVs ρ vs us.toList → FnOut P ρ v w ((callFunc f us).run P w)

theorem orcOf_some {tbl : List (Nat × (List AV → Option (Bool × AV)))} {f sid : Nat} {args : List AV} {h : Heap} {k : AV → Heap → List Nat → Option R} (hk : (orcOf tbl).run f sid args h k = some r) :
    ∃ g v, (f, g) ∈ tbl ∧ g args = some (true, v) ∧ k v h [] = some r ∧ ∀ (R' : Type) (k' : AV → Heap → List Nat → Option R'), (orcOf tbl).run f sid args h k' = k' v h [] := by
  simp only [orcOf] at hk
  split at hk
  · rename_i g hg
    split at hk
    · rename_i c v hv
      split at hk
      · exact ⟨g, v, lk_mem hg, hv, hk, fun R' k' => by simp only [orcOf, hg, hv]⟩
      · cases hk
    · cases hk
  · cases hk

theorem orc_det (tbl : List (Nat × (List AV → Option (Bool × AV)))) : ODet (orcOf tbl) := by
  intro R f sid args h k r hk
  obtain ⟨g, v, _, _, h3, h4⟩ := orcOf_some hk
  exact ⟨v, h, [], h3, h4⟩

theorem orc_sound {tbl : List (Nat × (List AV → Option (Bool × AV)))} (ht : ∀ f g, (f, g) ∈ tbl → ∀ args v, g args = some (true, v) → Fn1 P f args v) : OSound P (orcOf tbl) := by
  intro R f sid args h k r hk N S ρ w us hr hn hfree hvs
  obtain ⟨g, v, h1, h2, h3, _⟩ := orcOf_some hk
  refine ⟨v, h, [], h3, ?_⟩
  have := ht f g h1 args v h2 ρ w us hvs
  generalize (callFunc f us).run P w = res at this ⊢
  unfold FnOut at this
  unfold Good
  split at this
  · exact ⟨ρ, this.1, HR_frame hr this.2, Fr_up hr.low this.2, fun _ _ _ => rfl⟩
  · refine ⟨this.1, Calls.mono this.2 fun e w'' he => ?_⟩
    obtain ⟨u, e1, e2, e3⟩ := he
    exact ⟨u, ρ, e1, e2, HR_frame hr e3, Fr_up hr.low e3, fun _ _ _ => rfl⟩
  · exact this.elim

theorem HR_nil (ρ : Map) (w : World) : HR w.heap.size Nil ρ [] w :=
  ⟨Nat.le_refl _, fun b x hb => by simp [lk] at hb, fun b c x y L M hb => by simp [lk] at hb⟩

end
end Go.Sx
