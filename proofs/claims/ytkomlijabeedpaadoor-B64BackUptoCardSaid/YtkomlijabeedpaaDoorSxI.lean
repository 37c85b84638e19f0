import Derived.Test.YtkomlijabeedpaaDoorSxH
import Derived.Lib.AppendStr
import Derived.Laws.BytesString
namespace Go.Sx

section
variable {P : Program} {T : Tys} {N : Nat} {S : Nat → Prop} {ρ : Map} {h : Heap} {w : World} {e : Operand → Option AV} {a : Act} {R : Type} {r : R}

theorem posLit_sound {y : Operand} (hp : posLit y = true) : ∃ k n, a.eval y = .int k (n : Int) ∧ 0 < n := by
  unfold posLit at hp
  split at hp
  · rename_i k n
    exact ⟨k, n + 1, rfl, by omega⟩
  · cases hp

theorem binD_sound (hT : TyOK P T) (he : ER ρ e a) {op : BinOp} {t : TypeId} {x y : Operand} {k : Cell → Option R} (hq : eqAsk T t op (e x) = true) (h : binD realA op e x y k = some r) :
    ∃ c u, k c = some r ∧ (do eqGuard op t x y (a.eval x) (a.eval y); binOp op t (a.eval x) (a.eval y) : Sem Value).run P w = .ok u w ∧ RC ρ c u := by
  have gi : ∀ {p q : IntKind} {m n : Int}, (eqGuard op t x y (.int p m) (.int q n)).run P w = .ok () w := by
    intro p q m n; cases op <;> rfl
  have gs : ∀ {m n : ByteArray}, (eqGuard op t x y (.string m) (.string n)).run P w = .ok () w := by
    intro m n; cases op <;> rfl
  have other : (∀ va vb, e x = some (.v va) → e y = some (.v vb) → ∀ c, binE realA op va vb = some c → k c = some r →
      ∃ c u, k c = some r ∧ (do eqGuard op t x y (a.eval x) (a.eval y); binOp op t (a.eval x) (a.eval y) : Sem Value).run P w = .ok u w ∧ RC ρ c u) := by
    intro va vb hx hy c hc hk
    have tk : ∀ ty, T t = some ty → ∃ d, P.underlying t = some d ∧ DescOK ty d := by
      intro ty ht
      obtain ⟨_, d, _, h2, _, _, h5, _⟩ := hT.ok t ty ht
      exact ⟨d, h2, h5⟩
    obtain ⟨u, hu, hr⟩ := binE_sound (P := P) (w := w) t hc (he x _ hx) (he y _ hy) (by
        rintro hop q rfl
        rw [hx] at hq
        simp only [eqAsk] at hq
        split at hq
        · rename_i ty ht
          have fin : (ty.eqok && kindsOk T t q) = true → ∃ ks, fitSegs ks q = true ∧ EqProp P t ks := by
            intro hq
            simp only [Bool.and_eq_true] at hq
            obtain ⟨q1, q3⟩ := hq
            unfold kindsOk at q3
            split at q3
            · rename_i ks hks
              exact ⟨ks, q3, hT.eq t ty ht q1 ks hks⟩
            · cases q3
          rcases hop with rfl | rfl <;> exact fin hq
        · cases hq)
      (by
        rintro b rfl
        rw [hx] at hq
        simp only [eqAsk] at hq
        split at hq
        · rename_i ty ht
          split at hq
          · rename_i hk2
            obtain ⟨d, h1, h2⟩ := tk ty ht
            unfold DescOK at h2
            rw [hk2] at h2
            rw [h1, h2]
          · cases hq
        · cases hq)
      (by
        rintro (⟨b, o, i, rfl⟩ | rfl) <;>
        · rw [hx] at hq
          simp only [eqAsk] at hq
          split at hq
          · rename_i ty ht
            split at hq
            · rename_i hk2
              obtain ⟨d, h1, h2⟩ := tk ty ht
              unfold DescOK at h2
              rw [hk2] at h2
              obtain ⟨el, rfl⟩ := h2
              exact ⟨el, h1⟩
            · cases hq
          · cases hq) x y
    exact ⟨c, u, hk, hu, hr⟩
  have sh : (op = .shl ∨ op = .shr) → (match e x with
    | some (.v (.cell (.nat kd a))) => countD realA e y fun c => k (.nat kd (realA.nsh op kd a c))
    | some (.v (.cell (.int kd a))) => countD realA e y fun c => k (.int kd (realA.ish op kd a c))
    | _ => none) = some r → ∃ c u, k c = some r ∧ (do eqGuard op t x y (a.eval x) (a.eval y); binOp op t (a.eval x) (a.eval y) : Sem Value).run P w = .ok u w ∧ RC ρ c u := by
    intro hop h
    split at h
    · rename_i kd n hx
      obtain ⟨j, k2, hk, hy⟩ := countD_sound he h
      obtain ⟨hv, hlt, hs⟩ := he x _ hx
      obtain ⟨g1, g2⟩ := nsh_sound (P := P) (w := w) (k2 := k2) (c := j) hlt hs t hop
      refine ⟨_, _, hk, ?_, rfl, g2, hs⟩
      rw [hv, hy]
      simp only [Sem.run_bind, gi, Result.andThen_ok, g1]
    · rename_i kd n hx
      obtain ⟨j, k2, hk, hy⟩ := countD_sound he h
      have hv : a.eval x = .int kd n := he x _ hx
      refine ⟨_, _, hk, ?_, rfl⟩
      rw [hv, hy]
      simp only [Sem.run_bind, gi, Result.andThen_ok, ish_sound t hop]
    · cases h
  have dv : (op = .quo ∨ op = .rem) → (match e x, e y with
    | some (.v (.cell (.nat kd a))), some (.v (.cell (.nat kd' b))) => match kindEq kd kd' with
      | true => match posLit y with
        | true => k (.nat kd (realA.nb op kd a b))
        | false => match realA.eq b 0 with
          | true => none
          | false => k (.nat kd (realA.nb op kd a b))
      | false => none
    | some (.v (.cell (.int kd a))), some (.v (.cell (.int kd' b))) => match kindEq kd kd' with
      | true => match posLit y with
        | true => k (.int kd (realA.ib op kd a b))
        | false => match realA.ic .eql b 0 with
          | true => none
          | false => k (.int kd (realA.ib op kd a b))
      | false => none
    | _, _ => none) = some r → ∃ c u, k c = some r ∧ (do eqGuard op t x y (a.eval x) (a.eval y); binOp op t (a.eval x) (a.eval y) : Sem Value).run P w = .ok u w ∧ RC ρ c u := by
    intro hop h
    split at h
    · rename_i kd n kd' m hx hy
      split at h
      · rename_i hk
        have hk := kindEq_eq hk
        subst hk
        obtain ⟨hv, hlt, hs⟩ := he x _ hx
        obtain ⟨hv2, hlt2, _⟩ := he y _ hy
        have main : m ≠ 0 → k (.nat kd (realA.nb op kd n m)) = some r → ∃ c u, k c = some r ∧ (do eqGuard op t x y (a.eval x) (a.eval y); binOp op t (a.eval x) (a.eval y) : Sem Value).run P w = .ok u w ∧ RC ρ c u := by
          intro hm hk
          obtain ⟨g1, g2⟩ := ndiv_sound (P := P) (w := w) hlt hm hs t hop
          refine ⟨_, _, hk, ?_, rfl, g2, hs⟩
          rw [hv, hv2]
          simp only [Sem.run_bind, gi, Result.andThen_ok, g1]
        split at h
        · rename_i hl
          obtain ⟨k3, n3, h3, h4⟩ := posLit_sound (a := a) hl
          rw [hv2] at h3
          injection h3 with _ h3
          exact main (by omega) h
        · split at h
          · cases h
          · rename_i hz
            simp only [realA, decide_eq_false_iff_not] at hz
            exact main hz h
      · cases h
    · rename_i kd n kd' m hx hy
      split at h
      · rename_i hk
        have hk := kindEq_eq hk
        subst hk
        have hv : a.eval x = .int kd n := he x _ hx
        have hv2 : a.eval y = .int kd m := he y _ hy
        have main : m ≠ 0 → k (.int kd (realA.ib op kd n m)) = some r → ∃ c u, k c = some r ∧ (do eqGuard op t x y (a.eval x) (a.eval y); binOp op t (a.eval x) (a.eval y) : Sem Value).run P w = .ok u w ∧ RC ρ c u := by
          intro hm hk
          refine ⟨_, _, hk, ?_, rfl⟩
          rw [hv, hv2]
          simp only [Sem.run_bind, gi, Result.andThen_ok, idiv_sound hm t hop]
        split at h
        · rename_i hl
          obtain ⟨k3, n3, h3, h4⟩ := posLit_sound (a := a) hl
          rw [hv2] at h3
          injection h3 with _ h3
          exact main (by omega) h
        · split at h
          · cases h
          · rename_i hz
            simp only [realA, decide_eq_false_iff_not] at hz
            exact main hz h
      · cases h
    · cases h
  have rest : (match e x, e y with
    | some (.v a), some (.v b) => match binE realA op a b with
      | some c => k c
      | none => none
    | _, _ => none) = some r → ∃ c u, k c = some r ∧ (do eqGuard op t x y (a.eval x) (a.eval y); binOp op t (a.eval x) (a.eval y) : Sem Value).run P w = .ok u w ∧ RC ρ c u := by
    intro h
    split at h
    · rename_i va vb hx hy
      split at h
      · rename_i c hc
        exact other va vb hx hy c hc h
      · cases h
    · cases h
  unfold binD at h
  split at h
  · exact sh (.inl rfl) h
  · exact sh (.inr rfl) h
  · exact dv (.inl rfl) h
  · exact dv (.inr rfl) h
  · split at h
    · rename_i p q hx hy
      split at h
      · rename_i hl
        obtain ⟨b1, h1, h1'⟩ := he x _ hx
        obtain ⟨b2, h2, h2'⟩ := he y _ hy
        subst h1'; subst h2'
        obtain ⟨u, hu, hr⟩ := cat_sound (P := P) (ρ := ρ) (w := w) t hl
        refine ⟨_, u, h, ?_, hr⟩
        rw [h1, h2]
        simp only [Sem.run_bind, gs, Result.andThen_ok, hu]
      · cases h
    · rename_i va vb _ hx hy
      split at h
      · rename_i c hc
        exact other va vb hx hy c hc h
      · cases h
    · cases h
  · exact rest h

theorem unE_sound {op : UnOp} {c d : Cell} {u : Value} (h : unE realA op c = some d) (hc : RC ρ c u) : ∃ v, (Op.unary op u).run P w = .ok v w ∧ RC ρ d v := by
  unfold unE at h
  split at h
  · simp only [RC] at hc
    subst hc
    split at h
    · simp only [Option.some.injEq] at h
      subst h
      exact ⟨_, rfl, rfl⟩
    · cases h
  · simp only [RC] at hc
    subst hc
    split at h
    · simp only [Option.some.injEq] at h
      subst h
      exact ⟨_, rfl, rfl⟩
    · cases h
  · rename_i k n
    obtain ⟨rfl, hn, hs⟩ := hc
    have hpos := pow_pos k
    split at h
    · simp only [Option.some.injEq] at h
      subst h
      obtain ⟨g1, g2⟩ := nb_sound (P := P) (w := w) (op := .sub) (k := k) (a := 0) (b := n) hpos hn hs 0 (by simp)
      refine ⟨_, ?_, rfl, g2, hs⟩
      simp only [binOp, ne_eq, not_true, if_false] at g1
      exact g1
    · simp only [Option.some.injEq] at h
      subst h
      have hm : maxOf k < 2 ^ k.bits ∧ (k.max : Int) = (maxOf k : Int) := by cases k <;> first | (exact absurd hs (by decide)) | (constructor <;> simp [maxOf, IntKind.bits, IntKind.max, IntKind.signed])
      obtain ⟨g1, g2⟩ := nb_sound (P := P) (w := w) (op := .xor) (k := k) (a := maxOf k) (b := n) hm.1 hn hs 0 (by simp)
      refine ⟨_, ?_, rfl, g2, hs⟩
      simp only [binOp, ne_eq, not_true, if_false] at g1
      simp only [Op.unary, hs, Bool.false_eq_true, if_false, hm.2]
      exact g1
    · cases h
  · cases h

theorem wrap_i (k : IntKind) (hs : k.signed = true) (n : Nat) (h : n < 2 ^ (k.bits - 1)) : k.wrap (n : Int) = (n : Int) := by
  have e : (2 : Nat) ^ k.bits = 2 * 2 ^ (k.bits - 1) := by cases k <;> rfl
  have e2 : ((2 : Int) ^ k.bits) = ((2 ^ k.bits : Nat) : Int) := by simp
  have e3 : ((2 : Int) ^ (k.bits - 1)) = ((2 ^ (k.bits - 1) : Nat) : Int) := by simp
  have hm : (n : Int) % (2 ^ k.bits : Int) = n := by
    rw [e2, ← Int.natCast_emod, Nat.mod_eq_of_lt (by omega)]
  simp only [IntKind.wrap, hm, hs, Bool.true_and]
  rw [e3]
  have : ¬ ((n : Int) ≥ ((2 ^ (k.bits - 1) : Nat) : Int)) := by omega
  simp only [decide_eq_true_eq]
  rw [if_neg this]

theorem convE_sound {k' : IntKind} {c d : Cell} {u : Value} (h : convE realA k' c = some d) (hc : RC ρ c u) : ∃ k n v, u = .int k n ∧ (Conv.intToInt k' n).run P w = .ok v w ∧ RC ρ d v := by
  unfold convE at h
  split at h
  · rename_i k n
    obtain ⟨rfl, hn, hs⟩ := hc
    refine ⟨k, n, ?_⟩
    split at h
    · rename_i hu
      have hs' : k'.signed = false := by rw [unsig_signed] at hu; simpa using hu
      split at h
      · rename_i hb
        have hb := ble_true hb
        rw [bitsOf_eq, bitsOf_eq] at hb
        simp only [Option.some.injEq] at h
        subst h
        have hlt : n < 2 ^ k'.bits := Nat.lt_of_lt_of_le hn (Nat.pow_le_pow_right (by omega) hb)
        refine ⟨.int k' (n : Int), rfl, ?_, rfl, hlt, hs'⟩
        simp only [Conv.intToInt, Sem.run_pure]
        rw [wrap_nat hs', Nat.mod_eq_of_lt hlt]
      · simp only [Option.some.injEq] at h
        subst h
        refine ⟨.int k' ((n % 2 ^ k'.bits : Nat) : Int), rfl, ?_, by simp only [realA, bitsOf_eq], by simp only [realA, bitsOf_eq]; exact Nat.mod_lt _ (pow_pos k'), hs'⟩
        simp only [Conv.intToInt, Sem.run_pure]
        rw [wrap_nat hs']
    · rename_i hu
      have hs' : k'.signed = true := by rw [unsig_signed] at hu; simpa using hu
      split at h
      · rename_i hb
        have hb := blt_true hb
        rw [bitsOf_eq, bitsOf_eq] at hb
        simp only [Option.some.injEq] at h
        subst h
        refine ⟨.int k' (n : Int), rfl, ?_, rfl⟩
        simp only [Conv.intToInt, Sem.run_pure]
        rw [wrap_i k' hs' n (Nat.lt_of_lt_of_le hn (Nat.pow_le_pow_right (by omega) (by omega)))]
      · simp only [Option.some.injEq] at h
        subst h
        exact ⟨_, rfl, rfl, rfl⟩
  · rename_i k i
    simp only [RC] at hc
    subst hc
    refine ⟨k, i, ?_⟩
    split at h
    · rename_i hu
      have hs' : k'.signed = false := by rw [unsig_signed] at hu; simpa using hu
      simp only [Option.some.injEq] at h
      subst h
      have e2 : ((2 : Int) ^ k'.bits) = ((2 ^ k'.bits : Nat) : Int) := by simp
      have hpos : (0 : Int) < 2 ^ k'.bits := by rw [e2]; exact Int.natCast_pos.2 (pow_pos k')
      have h0 := Int.emod_nonneg i (Int.ne_of_gt hpos)
      have h1 := Int.emod_lt_of_pos i hpos
      refine ⟨.int k' (i % (2 ^ k'.bits : Int)), rfl, ?_, ?_, ?_, hs'⟩
      · simp only [Conv.intToInt, Sem.run_pure]
        rw [wrap_unsig hs']
      · simp only [realA, bitsOf_eq]
        congr 1
        omega
      · simp only [realA, bitsOf_eq]
        omega
    · simp only [Option.some.injEq] at h
      subst h
      exact ⟨_, rfl, rfl, rfl⟩
  · cases h

end
end Go.Sx
