import Derived.Test.YtojnnbolfmefkaaSxLaw
import Derived.ChangeArms
namespace Go.Sx
section
variable {H : Type} {enc : TypeId × Value → H} {P : Program} {w : World} {base : Nat} {sp : Nat → Bool} {held : Bool}
def KD.hasW : KD → Value → Prop
  | .int k, v => ∃ a, v = .int k a ∧ (Lit.int k a).wf = true
  | .bool, v => ∃ b, v = .bool b
  | .str, v => ∃ b, v = .string b
def KDw : List KD → List Value → Prop
  | [], [] => True
  | k :: ks, v :: vs => k.hasW v ∧ KDw ks vs
  | _, _ => False
theorem KDw_append {a b : List KD} {u v : List Value} (h1 : KDw a u) (h2 : KDw b v) : KDw (a ++ b) (u ++ v) := by
  induction a generalizing u with
  | nil => cases u with
    | nil => exact h2
    | cons _ _ => exact h1.elim
  | cons k a ih => cases u with
    | nil => exact h1.elim
    | cons x u => exact ⟨h1.1, ih h1.2⟩
theorem KDw_len {ks : List KD} {vs : List Value} (h : KDw ks vs) : vs.length = ks.length := by
  induction ks generalizing vs with
  | nil => cases vs with
    | nil => rfl
    | cons _ _ => exact h.elim
  | cons k ks ih => cases vs with
    | nil => exact h.elim
    | cons v vs => simp [ih h.2]
theorem KDw_get {ks : List KD} {vs : List Value} (h : KDw ks vs) {j : Nat} {k : KD} (hj : ks[j]? = some k) : ∃ v, vs[j]? = some v ∧ k.hasW v := by
  induction ks generalizing vs j with
  | nil => simp at hj
  | cons x ks ih => cases vs with
    | nil => exact h.elim
    | cons v vs => cases j with
      | zero => simp at hj; subst hj; exact ⟨v, rfl, h.1⟩
      | succ j => simpa using ih h.2 (by simpa using hj)
theorem repKD_len (n : Nat) (l : List KD) : (repKD n l).length = n * l.length := by
  induction n with
  | zero => simp [repKD]
  | succ n ih => rw [repKD, List.length_append, ih, Nat.succ_mul, Nat.add_comm]
theorem trodKD (m : Nat) : ∀ (t : TypeId) (ks : List KD), kdsP P m t = some ks → P.cellsOf t = ks.length → ∀ (fuel : Nat) (cs : List Value) (x : DataW H × List MemPlace), DataW.trod enc P w base sp held fuel t cs = some x → KDw ks cs := by
  induction m with
  | zero => intro t ks h; simp [kdsP] at h
  | succ m ih =>
    intro t ks h hct fuel cs x hx
    cases hu : P.underlying t with
    | none => simp [kdsP, hu] at h
    | some d =>
      cases d
      case int k =>
        simp only [kdsP, hu, Option.some.injEq] at h
        subst h
        obtain ⟨n, rfl, _, hw⟩ := DataW.trod_int hu hx
        exact ⟨⟨n, rfl, hw⟩, trivial⟩
      case bool =>
        simp only [kdsP, hu, Option.some.injEq] at h
        subst h
        obtain ⟨n, rfl, _⟩ := DataW.trod_bool hu hx
        exact ⟨⟨n, rfl⟩, trivial⟩
      case string =>
        simp only [kdsP, hu, Option.some.injEq] at h
        subst h
        obtain ⟨n, rfl, _⟩ := DataW.trod_string hu hx
        exact ⟨⟨n, rfl⟩, trivial⟩
      case array n e =>
        simp only [kdsP, hu] at h
        split at h
        · rename_i l hl
          split at h
          · rename_i hb
            simp only [Option.some.injEq] at h
            subst h
            simp only [Bool.and_eq_true] at hb
            have b1 := beq_true hb.1
            obtain ⟨xs, m', _, _, hcl, hxl, hel⟩ := DataW.trod_array hu hx
            rw [hct, repKD_len] at hcl
            have key : ∀ (k j : Nat), j + k = n → KDw (repKD k l) (cs.drop (j * l.length)) := by
              intro k
              induction k with
              | zero =>
                intro j hj
                have hjn : j = n := by omega
                have : cs.drop (j * l.length) = [] := List.drop_of_length_le (by rw [hcl, hjn]; exact Nat.le_refl _)
                rw [this]
                trivial
              | succ k ihk =>
                intro j hj
                have hjn : j < n := by omega
                obtain ⟨y, hy⟩ : ∃ y, xs[j]? = some y := ⟨xs[j]'(by omega), List.getElem?_eq_getElem (by omega)⟩
                have h1 := hel j hjn
                rw [hy, b1] at h1
                have h2 := ih e l hl b1 _ _ _ h1
                have h3 := ihk (j + 1) (by omega)
                rw [Nat.succ_mul, ← List.drop_drop] at h3
                have := KDw_append h2 h3
                rwa [List.take_append_drop] at this
            simpa using key n 0 (by omega)
          · cases h
        · cases h
      case struct fs =>
        simp only [kdsP, hu] at h
        split at h
        · cases h
        · obtain ⟨xs, m', _, _, hcl, hxl, hel⟩ := DataW.trod_struct hu hx
          rw [hct] at hcl
          have key : ∀ (fl : List Field) (i o : Nat) (ks' : List KD), fl = fs.toList.drop i → flP P (kdsP P m) o fl = some ks' → o + ks'.length = cs.length → KDw ks' (cs.drop o) := by
            intro fl
            induction fl with
            | nil =>
              intro i o ks' _ hk hlen
              simp only [flP, Option.some.injEq] at hk
              subst hk
              rw [List.drop_of_length_le (by simp at hlen; omega)]
              trivial
            | cons f fl ihf =>
              intro i o ks' hfl hk hlen
              simp only [flP] at hk
              split at hk
              · rename_i hb
                simp only [Bool.and_eq_true] at hb
                have ho := beq_true hb.1
                split at hk
                · rename_i l hl
                  split at hk
                  · rename_i hb2
                    simp only [Bool.and_eq_true] at hb2
                    have b1 := beq_true hb2.1
                    split at hk
                    · rename_i q hq
                      simp only [Option.some.injEq] at hk
                      subst hk
                      have hfi : fs[i]? = some f := by
                        have : (fs.toList.drop i)[0]? = some f := by rw [← hfl]; rfl
                        rw [List.getElem?_drop] at this
                        simpa using this
                      have hlt : i < xs.length := by
                        rw [hxl]
                        exact (Array.getElem?_eq_some_iff.1 hfi).1
                      have h1 := hel i f hfi
                      rw [List.getElem?_eq_getElem hlt, b1, ho] at h1
                      have h2 := ih f.type l hl b1 _ _ _ h1
                      rw [List.length_append] at hlen
                      have h3 := ihf (i + 1) (o + l.length) q (by rw [← List.drop_drop, ← hfl]; rfl) hq (by omega)
                      rw [← List.drop_drop] at h3
                      have := KDw_append h2 h3
                      rwa [List.take_append_drop] at this
                    · cases hk
                  · cases hk
                · cases hk
              · cases hk
          simpa using key fs.toList 0 0 ks rfl h (by omega)
      all_goals (simp [kdsP, hu] at h; done)

theorem open_two {t : TypeId} {n m : Nat} {k : IntKind} (hk : kdsP P 6 t = some (List.replicate (n + m) (.int k))) (hc : P.cellsOf t = (List.replicate (n + m) (KD.int k)).length) (ha : ∃ fs, P.underlying t = some (.struct fs)) (hs : k.signed = false) {r : Reach} {b0 base : Nat} {sp : Nat → Bool} {held : Bool} {v : Value} {d : DataW H} {ps : List MemPlace}
    (hval : Value.okWide P w r b0 t v) (hd : DataW.Trod enc P w base sp held t v d ps) (ρ : Map) : ∃ x y : List Nat, x.length = n ∧ y.length = m ∧ (∀ z ∈ x, z < 2 ^ k.bits) ∧ (∀ z ∈ y, z < 2 ^ k.bits) ∧ RV ρ (.v (.agg [.nums k n x, .nums k m y])) v := by
  obtain ⟨fs, hu⟩ := ha
  simp only [Value.okWide, hu] at hval
  obtain ⟨cs, rfl, hsz, _⟩ := hval
  obtain ⟨fuel, hf⟩ := hd
  have hw : KDw _ cs.toList := trodKD 6 t _ hk hc fuel _ _ hf
  have hlen := KDw_len hw
  rw [List.length_replicate] at hlen
  have cell : ∀ i, i < n + m → ∃ a, cs.toList[i]? = some (.int k a) ∧ (Lit.int k a).wf = true := by
    intro i hi
    obtain ⟨v, h1, a, rfl, h2⟩ := KDw_get hw (j := i) (k := .int k) (by simp [hi])
    exact ⟨a, h1, h2⟩
  have bnd : ∀ a, (Lit.int k a).wf = true → 0 ≤ a ∧ a.toNat < 2 ^ k.bits := by
    intro a ha
    have := rv_nat (ρ := ρ) ha hs
    refine ⟨?_, this.2.1⟩
    simp only [Lit.wf, Bool.and_eq_true, decide_eq_true_eq, IntKind.min, hs] at ha
    simpa using ha.1
  have all : ∀ z ∈ cs.toList.map natOf, z < 2 ^ k.bits := by
    intro z hz
    obtain ⟨i, hi, rfl⟩ := List.mem_iff_getElem.1 hz
    rw [List.length_map] at hi
    obtain ⟨a, h1, h2⟩ := cell i (by omega)
    have h3 : (cs.toList.map natOf)[i]? = some a.toNat := by rw [List.getElem?_map, h1]; rfl
    rw [List.getElem?_eq_getElem (by rw [List.length_map]; exact hi)] at h3
    rw [Option.some.inj h3]
    exact (bnd a h2).2
  have hl : (cs.toList.map natOf).length = n + m := by rw [List.length_map, hlen]
  refine ⟨(cs.toList.map natOf).take n, (cs.toList.map natOf).drop n, by rw [List.length_take]; omega, by rw [List.length_drop]; omega, fun z hz => all z (List.mem_of_mem_take hz), fun z hz => all z (List.mem_of_mem_drop hz), cs, rfl, ?_, ?_, fun j c v hj hv => ?_⟩
  · show cs.toList.length = n + (m + 0)
    omega
  · refine segsWf_cons.2 ⟨?_, segsWf_cons.2 ⟨?_, segsWf_nil⟩⟩
    · show ((cs.toList.map natOf).take n).length = n
      rw [List.length_take]; omega
    · show ((cs.toList.map natOf).drop n).length = m
      rw [List.length_drop]; omega
  · have hjn : j < n + m := by have := getCell_lt hj; simpa [segsLen, Seg.len] using this
    obtain ⟨a, h1, h2⟩ := cell j hjn
    rw [h1] at hv
    simp only [Option.some.injEq] at hv
    subst hv
    have h3 : (cs.toList.map natOf)[j]? = some a.toNat := by rw [List.getElem?_map, h1]; rfl
    have hcell : c = .nat k a.toNat := by
      rw [getCell_cons] at hj
      by_cases hjl : j < n
      · rw [if_pos (show j < (Seg.nums k n ((cs.toList.map natOf).take n)).len from hjl)] at hj
        simp only [Option.some.injEq, Seg.cell] at hj
        rw [← hj, List.getD_eq_getElem?_getD, List.getElem?_take_of_lt hjl, h3]
        rfl
      · rw [if_neg (show ¬ j < (Seg.nums k n ((cs.toList.map natOf).take n)).len from hjl), getCell_cons] at hj
        change (if j - n < m then some ((Seg.nums k m ((cs.toList.map natOf).drop n)).cell (j - n)) else _) = some c at hj
        rw [if_pos (by omega)] at hj
        simp only [Option.some.injEq, Seg.cell] at hj
        rw [← hj, List.getD_eq_getElem?_getD, List.getElem?_drop]
        show Cell.nat k (((cs.toList.map natOf)[n + (j - n)]?).getD 0) = _
        rw [show n + (j - n) = j by omega, h3]
        rfl
    subst hcell
    exact ⟨rv_nat (ρ := ρ) h2 hs, rfl⟩
end
end Go.Sx
