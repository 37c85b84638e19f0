import Derived.Test.YtkomlijabeedpaaDoorSxP
namespace Go.Sx

section
variable {P : Program} {T : Tys} {O : Orc} {N : Nat} {S : Nat → Prop} {ρ : Map} {h : Heap} {w : World} {e : Operand → Option AV} {a : Act} {R : Type} {r : R} {sid : Nat} {fr : Bool} {k : AV → Heap → List Nat → Option R}

theorem natsOf_extract (s : ByteArray) (l h : Nat) : natsOf (s.extract l h) = ((natsOf s).take h).drop l := by
  unfold natsOf
  rw [Lib.extract_data, List.drop_take, ← List.map_drop, ← List.map_take]

theorem run_bounds (isS : Bool) (len cap : Nat) (lo hi : Option Operand) {hh ll : Nat} (hh1 : (hi = none ∧ hh = len) ∨ ∃ o kd, hi = some o ∧ a.eval o = .int kd (hh : Int)) (hh2 : hh ≤ cap)
    (ll1 : (lo = none ∧ ll = 0) ∨ ∃ o kd, lo = some o ∧ a.eval o = .int kd (ll : Int)) (ll2 : ll ≤ hh) :
    (Instr.sliceBounds isS len cap (lo.map a.eval) (hi.map a.eval) none).run P w = .ok (ll, hh, cap) w := by
  have b1 : ∀ (k : IntKind) (j y : Nat) (c : BoundsCode), j ≤ y → (Instr.sliceBound (.int k (j : Int)) y c).run P w = .ok j w := by
    intro k j y c hj
    have := run_sliceBound (P := P) (w := w) k (j : Int) y c (by omega) (by omega)
    simpa using this
  unfold Instr.sliceBounds
  rcases hh1 with ⟨rfl, rfl⟩ | ⟨o, kd, rfl, h1⟩ <;> rcases ll1 with ⟨rfl, rfl⟩ | ⟨o2, kd2, rfl, h2⟩
  · simp
  · simp [h2, b1 _ _ _ _ ll2]
  · simp [h1, b1 _ _ _ _ hh2]
  · simp [h1, h2, b1 _ _ _ _ hh2, b1 _ _ _ _ ll2]

theorem slice_sound (hT : TyOK P T) (hr : HR N S ρ h w) (he : ER ρ e a) {t : TypeId} {x : Operand} {lo hi mx : Option Operand} {o : Oper} (ho : o.op = .slice t x lo hi mx)
    (hk : opE realA T O sid o e h fr k = some r) :
    ∃ v h' mv, k v h' mv = some r ∧ Good P N S ρ sid fr mv v h' w ((execOp a.eval o).run P w) := by
  simp only [opE, ho] at hk
  simp only [execOp, ho]
  split at hk
  · cases hk
  · -- no third bound
    have hex : ∀ (v : Value), (Instr.sliceAt t (a.eval x) (lo.map a.eval) (hi.map a.eval) none).run P w = .ok v w →
        ((do pure (.value (← Instr.sliceAt t (a.eval x) (lo.map a.eval) (hi.map a.eval) ((none : Option Operand).map a.eval))) : Sem Next).run P w) = .ok (.value v) w := by
      intro v hv
      simp only [Option.map_none, Sem.run_bind, hv, Result.andThen_ok, Sem.run_pure]
    split at hk
    · -- a text
      rename_i l _ _ _ _ _ _ _ hx ht
      obtain ⟨s, hs, hsl⟩ := he x _ hx
      have hu := und_string hT ht rfl
      have hlen : l.length = s.size := by rw [← hsl, natsOf_length]
      have fin : ∀ (hh ll : Nat), ((hi = none ∧ hh = s.size) ∨ ∃ o kd, hi = some o ∧ a.eval o = .int kd (hh : Int)) → hh ≤ s.size → ((lo = none ∧ ll = 0) ∨ ∃ o kd, lo = some o ∧ a.eval o = .int kd (ll : Int)) → ll ≤ hh → k (.v (.cell (.str ((l.take hh).drop ll)))) h [] = some r →
          ∃ v h' mv, k v h' mv = some r ∧ Good P N S ρ sid fr mv v h' w ((do pure (.value (← Instr.sliceAt t (a.eval x) (lo.map a.eval) (hi.map a.eval) ((none : Option Operand).map a.eval))) : Sem Next).run P w) := by
        intro hh ll h1 h2 h3 h4 hk
        refine ⟨_, _, _, hk, ?_⟩
        rw [hex (.string (s.extract ll hh)) (by
          rw [hs]
          simp only [Instr.sliceAt, Sem.run_bind, run_underlying hu, Result.andThen_ok, Instr.slice, Option.isSome_none, Bool.false_eq_true, if_false]
          simp only [run_bounds (P := P) (a := a) false s.size s.size lo hi h1 h2 h3 h4, Result.andThen_ok, Sem.run_pure])]
        exact Good.pure_ hr ⟨_, rfl, by rw [natsOf_extract, hsl]⟩
      rcases boundD_sound he hk with ⟨h1, hk⟩ | ⟨o1, j1, kd1, h1, h2, hk, h3⟩
      · rcases boundD_sound he hk with ⟨g1, hk⟩ | ⟨o2, j2, kd2, g1, g2, hk, g3⟩
        · exact fin l.length 0 (.inl ⟨h1, hlen⟩) (by omega) (.inl ⟨g1, rfl⟩) (by omega) hk
        · exact fin l.length j2 (.inl ⟨h1, hlen⟩) (by omega) (.inr ⟨o2, kd2, g1, g3⟩) g2 hk
      · rcases boundD_sound he hk with ⟨g1, hk⟩ | ⟨o2, j2, kd2, g1, g2, hk, g3⟩
        · exact fin j1 0 (.inr ⟨o1, kd1, h1, h3⟩) (by omega) (.inl ⟨g1, rfl⟩) (by omega) hk
        · exact fin j1 j2 (.inr ⟨o1, kd1, h1, h3⟩) (by omega) (.inr ⟨o2, kd2, g1, g3⟩) g2 hk
    · -- a slice
      rename_i b oo n z _ _ _ _ _ el _ hx ht
      split at hk
      · cases hk
      · rename_i te hte
        split at hk
        · cases hk
        · rename_i hz
          have hz := beq_true hz
          have hu := und_slice hT ht rfl
          have hxv := he x _ hx
          have hse := run_sizeOf (P := P) hT hte w
          have fin : ∀ (hh ll : Nat) (o' : Option Nat), ((hi = none ∧ hh = n) ∨ ∃ o kd, hi = some o ∧ a.eval o = .int kd (hh : Int)) → hh ≤ n → ((lo = none ∧ ll = 0) ∨ ∃ o kd, lo = some o ∧ a.eval o = .int kd (ll : Int)) → ll ≤ hh →
              (offO o' = offO oo + ll * z) → k (.v (.cell (.sl b o' (hh - ll) z))) h [] = some r →
              ∃ v h' mv, k v h' mv = some r ∧ Good P N S ρ sid fr mv v h' w ((do pure (.value (← Instr.sliceAt t (a.eval x) (lo.map a.eval) (hi.map a.eval) ((none : Option Operand).map a.eval))) : Sem Next).run P w) := by
            intro hh ll o' h1 h2 h3 h4 hoff hk
            refine ⟨_, _, _, hk, ?_⟩
            rcases hxv with ⟨q1, q2, q3⟩ | ⟨L, A, cap, q1, q2, q3, q4, q5, q6, q7, q8⟩
            · have e1 : hh = 0 := by omega
              have e2 : ll = 0 := by omega
              subst e1; subst e2
              rw [hex (.slice none 0 0) (by
                rw [q3]
                simp only [Instr.sliceAt, Sem.run_bind, run_underlying hu, Result.andThen_ok, Instr.slice]
                simp only [run_bounds (P := P) (a := a) true 0 0 lo hi (by rcases h1 with ⟨g1, _⟩ | g1; exact .inl ⟨g1, rfl⟩; exact .inr g1) (Nat.zero_le _) h3 h4, Result.andThen_ok, hse, Sem.run_pure]
                simp)]
              exact Good.pure_ hr (.inl ⟨q1, rfl, rfl⟩)
            · rw [hex (.slice (if cap = ll then some A else some (A.add (ll * te.size))) (hh - ll) (cap - ll)) (by
                rw [q2]
                simp only [Instr.sliceAt, Sem.run_bind, run_underlying hu, Result.andThen_ok, Instr.slice]
                simp only [run_bounds (P := P) (a := a) true n cap lo hi h1 (by omega) h3 h4, Result.andThen_ok, hse, Sem.run_pure, Option.map_some])]
              have hmul : ll * z + (hh - ll) * z = hh * z := by rw [← Nat.add_mul]; congr 1; omega
              have hmul2 : ll * z + (cap - ll) * z = cap * z := by rw [← Nat.add_mul]; congr 1; omega
              have hmul3 : hh * z ≤ n * z := Nat.mul_le_mul_right _ h2
              by_cases hcl : cap = ll
              · rw [if_pos hcl]
                exact Good.pure_ hr (.inr ⟨L, A, cap - ll, q1, rfl, by omega, by omega, q5, fun hc => by omega, by rw [hoff]; omega, by rw [hoff]; omega⟩)
              · rw [if_neg hcl]
                have hA := q6 (by omega)
                subst hA
                refine Good.pure_ hr (.inr ⟨L, _, cap - ll, q1, rfl, by omega, by omega, by rw [Addr.add_lit], fun _ => ?_, by rw [hoff]; omega, by rw [hoff]; omega⟩)
                rw [Addr.add_lit, hoff, hz]
                congr 1
                omega
          cases lo with
          | none =>
            dsimp only at hk
            rcases boundD_sound he hk with ⟨h1, hk⟩ | ⟨o1, j1, kd1, h1, h2, hk, h3⟩
            · exact fin n 0 oo (.inl ⟨h1, rfl⟩) (by omega) (.inl ⟨rfl, rfl⟩) (by omega) (by simp) hk
            · exact fin j1 0 oo (.inr ⟨o1, kd1, h1, h3⟩) h2 (.inl ⟨rfl, rfl⟩) (by omega) (by simp) hk
          | some lo' =>
            dsimp only at hk
            have last : ∀ hh, ((hi = none ∧ hh = n) ∨ ∃ o kd, hi = some o ∧ a.eval o = .int kd (hh : Int)) → hh ≤ n → (boundD realA e (some lo') 0 hh fun l => k (.v (.cell (.sl b (addO oo (mulZ l z)) (hh - l) z))) h []) = some r →
              ∃ v h' mv, k v h' mv = some r ∧ Good P N S ρ sid fr mv v h' w ((do pure (.value (← Instr.sliceAt t (a.eval x) ((some lo').map a.eval) (hi.map a.eval) ((none : Option Operand).map a.eval))) : Sem Next).run P w) := by
              intro hh h1 h2 hk
              rcases boundD_sound he hk with ⟨g1, _⟩ | ⟨o2, j2, kd2, g1, g2, hk, g3⟩
              · cases g1
              · exact fin hh j2 _ h1 h2 (.inr ⟨o2, kd2, g1, g3⟩) g2 (by rw [mulZ_eq]; cases oo <;> simp [addO, offO]) hk
            rcases boundD_sound he hk with ⟨h1, hk⟩ | ⟨o1, j1, kd1, h1, h2, hk, h3⟩
            · exact last n (.inl ⟨h1, rfl⟩) (by omega) hk
            · exact last j1 (.inr ⟨o1, kd1, h1, h3⟩) h2 hk
    · -- no slice at all
      rename_i _ _ _ _ _ el _ hx ht
      split at hk
      · cases hk
      · rename_i te hte
        have hu := und_slice hT ht rfl
        have hxv : a.eval x = .slice none 0 0 := he x _ hx
        have hse := run_sizeOf (P := P) hT hte w
        have fin : ∀ (hh ll : Nat), ((hi = none ∧ hh = 0) ∨ ∃ o kd, hi = some o ∧ a.eval o = .int kd (hh : Int)) → hh ≤ 0 → ((lo = none ∧ ll = 0) ∨ ∃ o kd, lo = some o ∧ a.eval o = .int kd (ll : Int)) → ll ≤ hh → k (.v (.cell .nils)) h [] = some r →
            ∃ v h' mv, k v h' mv = some r ∧ Good P N S ρ sid fr mv v h' w ((do pure (.value (← Instr.sliceAt t (a.eval x) (lo.map a.eval) (hi.map a.eval) ((none : Option Operand).map a.eval))) : Sem Next).run P w) := by
          intro hh ll h1 h2 h3 h4 hk
          refine ⟨_, _, _, hk, ?_⟩
          have e1 : hh = 0 := by omega
          have e2 : ll = 0 := by omega
          subst e1; subst e2
          rw [hex (.slice none 0 0) (by
            rw [hxv]
            simp only [Instr.sliceAt, Sem.run_bind, run_underlying hu, Result.andThen_ok, Instr.slice]
            simp only [run_bounds (P := P) (a := a) true 0 0 lo hi (by rcases h1 with ⟨g1, _⟩ | g1; exact .inl ⟨g1, rfl⟩; exact .inr g1) (Nat.zero_le _) h3 h4, Result.andThen_ok, hse, Sem.run_pure]
            simp)]
          exact Good.pure_ hr rfl
        rcases boundD_sound he hk with ⟨h1, hk⟩ | ⟨o1, j1, kd1, h1, h2, hk, h3⟩
        · rcases boundD_sound he hk with ⟨g1, hk⟩ | ⟨o2, j2, kd2, g1, g2, hk, g3⟩
          · exact fin 0 0 (.inl ⟨h1, rfl⟩) (by omega) (.inl ⟨g1, rfl⟩) (by omega) hk
          · exact fin 0 j2 (.inl ⟨h1, rfl⟩) (by omega) (.inr ⟨o2, kd2, g1, g3⟩) g2 hk
        · rcases boundD_sound he hk with ⟨g1, hk⟩ | ⟨o2, j2, kd2, g1, g2, hk, g3⟩
          · exact fin j1 0 (.inr ⟨o1, kd1, h1, h3⟩) (by omega) (.inl ⟨g1, rfl⟩) (by omega) hk
          · exact fin j1 j2 (.inr ⟨o1, kd1, h1, h3⟩) (by omega) (.inr ⟨o2, kd2, g1, g3⟩) g2 hk
    · -- an array's cells
      rename_i b ty hx ht
      split at hk
      · rename_i sg bty own te htk hb hte
        split at hk
        · rename_i hc
          simp only [Bool.and_eq_true] at hc
          have e1 := beq_true hc.1
          have e2 := beq_true hc.2.1
          have e3 := ble_true hc.2.2
          have hu := und_array hT ht htk
          obtain ⟨L, hL, hxv⟩ := he x _ hx
          simp only [Nat.add_zero] at hxv
          obtain ⟨cur, fz, hg, hn, hle, hC, hs, _⟩ := hr.real hb hL
          have hLn : L.n = ty.len := by rw [hn]; simp [segsLen, e1]
          have hse := run_sizeOf (P := P) hT hte w
          rw [e2] at hse
          have hmax : ty.len ≤ maxLen := by simp only [maxLen]; omega
          have fin : ∀ (hh ll : Nat) (o' : Option Nat), ((hi = none ∧ hh = ty.len) ∨ ∃ o kd, hi = some o ∧ a.eval o = .int kd (hh : Int)) → hh ≤ ty.len → ((lo = none ∧ ll = 0) ∨ ∃ o kd, lo = some o ∧ a.eval o = .int kd (ll : Int)) → ll ≤ hh →
              (offO o' = ll) → k (.v (.cell (.sl b o' (hh - ll) 1))) h [] = some r →
              ∃ v h' mv, k v h' mv = some r ∧ Good P N S ρ sid fr mv v h' w ((do pure (.value (← Instr.sliceAt t (a.eval x) (lo.map a.eval) (hi.map a.eval) ((none : Option Operand).map a.eval))) : Sem Next).run P w) := by
            intro hh ll o' h1 h2 h3 h4 hoff hk
            refine ⟨_, _, _, hk, ?_⟩
            rw [hex (.slice (some (if ty.len = ll then ⟨L.g, L.q, none⟩ else (⟨L.g, L.q, none⟩ : Addr).add (ll * 1))) (hh - ll) (ty.len - ll)) (by
              rw [hxv]
              simp only [Instr.sliceAt, Sem.run_bind, run_underlying hu, Result.andThen_ok, Instr.sureAddr, Sem.run_pure]
              simp only [run_bounds (P := P) (a := a) false ty.len ty.len lo hi h1 h2 h3 h4, Result.andThen_ok, hse, Sem.run_pure])]
            refine Good.pure_ hr (.inr ⟨L, _, ty.len - ll, hL, rfl, by omega, by omega, ?_, fun hc => ?_, by rw [hoff]; omega, by rw [hoff]; omega⟩)
            · split
              · rfl
              · rw [Addr.add_lit]
            · rw [if_neg (by omega), Addr.add_lit, hoff, Nat.mul_one]
          cases lo with
          | none =>
            dsimp only at hk
            rcases boundD_sound he hk with ⟨h1, hk⟩ | ⟨o1, j1, kd1, h1, h2, hk, h3⟩
            · exact fin ty.len 0 none (.inl ⟨h1, rfl⟩) (by omega) (.inl ⟨rfl, rfl⟩) (by omega) rfl hk
            · exact fin j1 0 none (.inr ⟨o1, kd1, h1, h3⟩) h2 (.inl ⟨rfl, rfl⟩) (by omega) rfl hk
          | some lo' =>
            dsimp only at hk
            have last : ∀ hh, ((hi = none ∧ hh = ty.len) ∨ ∃ o kd, hi = some o ∧ a.eval o = .int kd (hh : Int)) → hh ≤ ty.len → (boundD realA e (some lo') 0 hh fun l => k (.v (.cell (.sl b (some l) (hh - l) 1))) h []) = some r →
              ∃ v h' mv, k v h' mv = some r ∧ Good P N S ρ sid fr mv v h' w ((do pure (.value (← Instr.sliceAt t (a.eval x) ((some lo').map a.eval) (hi.map a.eval) ((none : Option Operand).map a.eval))) : Sem Next).run P w) := by
              intro hh h1 h2 hk
              rcases boundD_sound he hk with ⟨g1, _⟩ | ⟨o2, j2, kd2, g1, g2, hk, g3⟩
              · cases g1
              · exact fin hh j2 _ h1 h2 (.inr ⟨o2, kd2, g1, g3⟩) g2 rfl hk
            rcases boundD_sound he hk with ⟨h1, hk⟩ | ⟨o1, j1, kd1, h1, h2, hk, h3⟩
            · exact last ty.len (.inl ⟨h1, rfl⟩) (by omega) hk
            · exact last j1 (.inr ⟨o1, kd1, h1, h3⟩) h2 hk
        · cases hk
      · cases hk
    · cases hk

end
end Go.Sx
