import Derived.Test.YtnnepclpggbjgaaSxN03d
namespace Go.Sx
theorem mmod {x x' y y' : Nat} (hx : x % PP = x' % PP) (hy : y % PP = y' % PP) : x * y % PP = x' * y' % PP := by rw [Nat.mul_mod, hx, hy, ← Nat.mul_mod]
theorem pmod {x x' : Nat} (hx : x % PP = x' % PP) (k : Nat) : x ^ k % PP = x' ^ k % PP := by rw [Nat.pow_mod, hx, ← Nat.pow_mod]
theorem powstep (a w : Nat) : a ^ w = a ^ (w % 2) * (a * a) ^ (w / 2) := by
  have h : w = w % 2 + 2 * (w / 2) := by omega
  have h2 : (a * a) ^ (w / 2) = a ^ (2 * (w / 2)) := by rw [Nat.pow_mul]; congr 1; rw [Nat.pow_two]
  rw [h2, ← Nat.pow_add, ← h]
theorem sqpow (a r : Nat) : (a * a) ^ (2 ^ r) = a ^ (2 ^ (r + 1)) := by
  rw [show a * a = a ^ 2 from (Nat.pow_two a).symm, ← Nat.pow_mul, Nat.pow_succ, Nat.mul_comm]
theorem inner (n m i : Nat) (kk : AV → Heap → Option AV) (lg : List Nat → Int → List Nat → List Nat → List Nat → List Nat → Option AV) (b e c : List Nat) (hi : i < 4) (hno : i ≠ 3 ∨ e.getD 3 0 ≠ 0) :
    ∀ (r k w : Nat) (a out : List Nat), k + r = 64 → w < 2 ^ r → LB a → LB out → ∃ a' out', LB a' ∧ LB out' ∧ nv a' % PP = nv a ^ (2 ^ r) % PP ∧ nv out' % PP = nv out * nv a ^ w % PP ∧
      g46L6 realA n kk lg (m + r + 1) i w b i k a e c out = lg b ((i + 1 : Nat) : Int) a' e c out' := by
  intro r
  induction r with
  | zero =>
    intro k w a out hk hw ha ho
    have hw0 : w = 0 := by rw [Nat.pow_zero] at hw; omega
    subst hw0
    refine ⟨a, out, ha, ho, by rw [Nat.pow_zero, Nat.pow_one], by rw [Nat.pow_zero, Nat.mul_one], ?_⟩
    have e1 : realA.ib .add .i64 (i : Int) 1 = ((i + 1 : Nat) : Int) := addN 1 (by omega)
    rw [g46L6, lssF (show ¬ (k : Int) < 64 by omega)]
    simp only []
    rw [e1]
  | succ r ih =>
    intro k w a out hk hw ha ho
    have e1 : realA.ib .add .i64 (k : Int) 1 = ((k + 1 : Nat) : Int) := addN 1 (by omega)
    have e2 : realA.nsh .shr .u64 w 1 = w / 2 := by show w / 2 ^ 1 = _; rw [Nat.pow_one]
    have e3 : realA.nc .neq (realA.nb .and .u64 w 1) 0 = !(decide (w % 2 = 0)) := by show (!(decide ((w &&& 1) = 0))) = _; rw [Nat.and_one_is_mod]
    have hw2 : w / 2 < 2 ^ r := by rw [Nat.pow_succ] at hw; omega
    obtain ⟨ka, la, va⟩ := times5 ha ha
    have nobreak : g46L6 realA n kk lg (m + (r + 1) + 1) i w b i k a e c out = g46J8 realA n kk lg (g46L6 realA n kk lg (m + r + 1)) i w b i k a e c out := by
      rw [show m + (r + 1) + 1 = (m + r + 1) + 1 from by omega, g46L6, lssT (show (k : Int) < 64 by omega)]
      simp only []
      unfold g46J7
      by_cases h1 : realA.nc .eql w 0 = true
      · rw [h1]
        by_cases h2 : realA.nc .eql (e.getD 3 0) 0 = true
        · rw [h2]
          have h3 : i ≠ 3 := hno.elim id fun h => absurd (of_decide_eq_true h2) h
          have h4 : realA.ic .eql (i : Int) 3 = false := by show decide ((i : Int) = 3) = false; exact decide_eq_false (by omega)
          rw [h4]
        · rw [Bool.not_eq_true] at h2
          rw [h2]
      · rw [Bool.not_eq_true] at h1
        rw [h1]
    rw [nobreak]
    by_cases hodd : w % 2 = 0
    · obtain ⟨a', out', x1, x2, x3, x4, x5⟩ := ih (k + 1) (w / 2) (g42r0 realA a a) out (by omega) hw2 la ho
      refine ⟨a', out', x1, x2, ?_, ?_, ?_⟩
      · rw [x3, ← sqpow]
        exact pmod va _
      · rw [x4, powstep (nv a) w, hodd, Nat.pow_zero, Nat.one_mul]
        exact mmod rfl (pmod va _)
      · unfold g46J8
        rw [e3, decide_eq_true hodd]
        simp only [Bool.not_true, g46J10, ka, e1, e2]
        exact x5
    · obtain ⟨ko, lo, vo⟩ := times5 ho ha
      obtain ⟨a', out', x1, x2, x3, x4, x5⟩ := ih (k + 1) (w / 2) (g42r0 realA a a) (g42r0 realA out a) (by omega) hw2 la lo
      refine ⟨a', out', x1, x2, ?_, ?_, ?_⟩
      · rw [x3, ← sqpow]
        exact pmod va _
      · have h1 : w % 2 = 1 := by omega
        rw [x4, powstep (nv a) w, h1, Nat.pow_one, ← Nat.mul_assoc]
        exact mmod vo (pmod va _)
      · unfold g46J8
        rw [e3, decide_eq_false hodd]
        simp only [Bool.not_false, ko, g46J10, ka, e1, e2]
        exact x5
def E64 : Nat := 18446744073709551616
theorem outerStep (n0 m i : Nat) (kk : AV → Heap → Option AV) (b e c a out : List Nat) (hi : i < 4) (hno : i ≠ 3 ∨ e.getD 3 0 ≠ 0) (hw : b.getD i 0 < 18446744073709551616) (ha : LB a) (ho : LB out) :
    ∃ a' out', LB a' ∧ LB out' ∧ nv a' % PP = nv a ^ E64 % PP ∧ nv out' % PP = nv out * nv a ^ (b.getD i 0) % PP ∧
      g46L3 realA (n0 + 65) kk (m + 1) b i a e c out = g46L3 realA (n0 + 65) kk m b ((i + 1 : Nat) : Int) a' e c out' := by
  obtain ⟨a', out', x1, x2, x3, x4, x5⟩ := inner (n0 + 65) n0 i kk (g46L3 realA (n0 + 65) kk m) b e c hi hno 64 0 (b.getD i 0) a out rfl hw ha ho
  rw [show (2 : Nat) ^ 64 = E64 from rfl] at x3
  refine ⟨a', out', x1, x2, x3, x4, ?_⟩
  rw [g46L3, lssT (show (i : Int) < 4 by omega)]
  simp only [g46J4, negN, toNN, ltT hi]
  exact x5
theorem LB_one : LB [1, 0, 0, 0, 0] := ⟨1, 0, 0, 0, 0, rfl, by decide, by decide, by decide, by decide, by decide⟩
theorem expo (a0 a1 a2 a3 o0 o1 o2 o3 o4 e0 e1 e2 e3 : Nat) (h1 : a1 % PP = a0 ^ E64 % PP) (h2 : a2 % PP = a1 ^ E64 % PP) (h3 : a3 % PP = a2 ^ E64 % PP)
    (g0 : o0 = 1) (g1 : o1 % PP = o0 * a0 ^ e0 % PP) (g2 : o2 % PP = o1 * a1 ^ e1 % PP) (g3 : o3 % PP = o2 * a2 ^ e2 % PP) (g4 : o4 % PP = o3 * a3 ^ e3 % PP) : o4 % PP = a0 ^ (v64 e0 e1 e2 e3) % PP := by
  have p2 : a2 % PP = a0 ^ (E64 * E64) % PP := by
    rw [h2, pmod h1, ← Nat.pow_mul]
  have p3 : a3 % PP = a0 ^ (E64 * E64 * E64) % PP := by
    rw [h3, pmod p2, ← Nat.pow_mul]
  have r1 : a1 ^ e1 % PP = a0 ^ (E64 * e1) % PP := by rw [pmod h1, ← Nat.pow_mul]
  have r2 : a2 ^ e2 % PP = a0 ^ (E64 * E64 * e2) % PP := by rw [pmod p2, ← Nat.pow_mul]
  have r3 : a3 ^ e3 % PP = a0 ^ (E64 * E64 * E64 * e3) % PP := by rw [pmod p3, ← Nat.pow_mul]
  have ev : v64 e0 e1 e2 e3 = e0 + E64 * e1 + E64 * E64 * e2 + E64 * E64 * E64 * e3 := by unfold v64 E64; omega
  rw [ev, Nat.pow_add, Nat.pow_add, Nat.pow_add]
  rw [g0, Nat.one_mul] at g1
  exact g4.trans (mmod (g3.trans (mmod (g2.trans (mmod g1 r1)) r2)) r3)
theorem powerE {a b : List Nat} (ha : LB a) (hb : W4 b) : g46ok realA a b = true ∧ LB (g46r0 realA a b) ∧ nv (g46r0 realA a b) % PP = nv a ^ num b % PP := by
  obtain ⟨e0, e1, e2, e3, rfl, b0, b1, b2, b3⟩ := hb
  suffices h : ∃ out, LB out ∧ nv out % PP = nv a ^ num [e0, e1, e2, e3] % PP ∧ g46v realA a [e0, e1, e2, e3] = some (.v (.agg [.nums .u64 5 out])) by
    obtain ⟨out, h1, h2, h3⟩ := h
    obtain ⟨o0, o1, o2, o3, o4, rfl, q⟩ := h1
    have r : g46r0 realA a [e0, e1, e2, e3] = [o0, o1, o2, o3, o4] := by unfold g46r0; rw [h3]; rfl
    exact ⟨by unfold g46ok; rw [h3]; rfl, by rw [r]; exact ⟨o0, o1, o2, o3, o4, rfl, q⟩, by rw [r]; exact h2⟩
  obtain ⟨a1, o1, la1, lo1, va1, vo1, s1⟩ := outerStep 99935 99999 0 (fun v _ => some v) [e0, e1, e2, e3] [e0, e1, e2, e3] [0, 0, 0, 0, 0] a [1, 0, 0, 0, 0] (by decide) (.inl (by decide)) b0 ha LB_one
  obtain ⟨a2, o2, la2, lo2, va2, vo2, s2⟩ := outerStep 99935 99998 1 (fun v _ => some v) [e0, e1, e2, e3] [e0, e1, e2, e3] [0, 0, 0, 0, 0] a1 o1 (by decide) (.inl (by decide)) b1 la1 lo1
  obtain ⟨a3, o3, la3, lo3, va3, vo3, s3⟩ := outerStep 99935 99997 2 (fun v _ => some v) [e0, e1, e2, e3] [e0, e1, e2, e3] [0, 0, 0, 0, 0] a2 o2 (by decide) (.inl (by decide)) b2 la2 lo2
  have st : g46v realA a [e0, e1, e2, e3] = g46L3 realA (99935 + 65) (fun v _ => some v) (99999 + 1) [e0, e1, e2, e3] ((0 : Nat) : Int) a [e0, e1, e2, e3] [0, 0, 0, 0, 0] [1, 0, 0, 0, 0] := rfl
  by_cases h3 : e3 = 0
  · subst h3
    refine ⟨o3, lo3, ?_, ?_⟩
    · exact expo (nv a) (nv a1) (nv a2) (nv a3) 1 (nv o1) (nv o2) (nv o3) (nv o3) e0 e1 e2 0 va1 va2 va3 rfl vo1 vo2 vo3 (by rw [Nat.pow_zero, Nat.mul_one])
    · rw [st]
      refine s1.trans (s2.trans (s3.trans ?_))
      generalize 99935 = N
      rw [show (99997 : Nat) = 99996 + 1 from rfl]
      generalize 99996 = M
      rw [g46L3, lssT (show (((2 + 1 : Nat)) : Int) < 4 by decide)]
      simp only [g46J4, negN, toNN, ltT (show 2 + 1 < 4 by decide)]
      rw [show N + 65 = (N + 64) + 1 from rfl]
      rw [g46L6]
      rfl
  · obtain ⟨a4, o4, la4, lo4, va4, vo4, s4⟩ := outerStep 99935 99996 3 (fun v _ => some v) [e0, e1, e2, e3] [e0, e1, e2, e3] [0, 0, 0, 0, 0] a3 o3 (by decide) (.inr h3) b3 la3 lo3
    refine ⟨o4, lo4, ?_, ?_⟩
    · exact expo (nv a) (nv a1) (nv a2) (nv a3) 1 (nv o1) (nv o2) (nv o3) (nv o4) e0 e1 e2 e3 va1 va2 va3 rfl vo1 vo2 vo3 vo4
    · rw [st]
      refine s1.trans (s2.trans (s3.trans (s4.trans ?_)))
      generalize 99935 = N
      rw [show (99996 : Nat) = 99995 + 1 from rfl]
      generalize 99995 = M
      rw [g46L3]
      rfl
theorem powOk {a b : List Nat} (ha : W4 a) (hb : W4 b) : g24ok realA a b = true ∧ g24r0 realA a b = fm (num a ^ num b) := by
  obtain ⟨k1, x1, y1⟩ := load4 ha
  obtain ⟨k2, x2, y2⟩ := powerE x1 hb
  obtain ⟨k4, y4⟩ := store5 x2
  have e : g24v realA a b = some (.v (.agg [.nums .u64 4 (fm (num a ^ num b))])) := by
    unfold g24v
    generalize 100000 = n
    unfold g24
    rw [k1, k2, k4, y4]
    rw [fm_congr (y2.trans (pmod y1 _))]
  exact ⟨by unfold g24ok; rw [e]; rfl, by unfold g24r0; rw [e]; rfl⟩
/-- powers modulo p, reckoned fast -/
def pwGo : Nat → Nat → Nat → Nat → Nat
  | 0, _, _, acc => acc
  | f + 1, b, e, acc => match Nat.beq e 0 with
    | true => acc
    | false => match Nat.beq (e % 2) 1 with
      | true => pwGo f (b * b % PP) (e / 2) (acc * b % PP)
      | false => pwGo f (b * b % PP) (e / 2) acc
def pw (b e : Nat) : Nat := pwGo 256 b e 1 % PP
theorem pwGo_spec : ∀ (f b e acc : Nat), e < 2 ^ f → pwGo f b e acc % PP = acc * b ^ e % PP := by
  intro f
  induction f with
  | zero =>
    intro b e acc h
    have : e = 0 := by rw [Nat.pow_zero] at h; omega
    subst this
    rw [Nat.pow_zero, Nat.mul_one]
    rfl
  | succ f ih =>
    intro b e acc h
    have h2 : e / 2 < 2 ^ f := by rw [Nat.pow_succ] at h; omega
    unfold pwGo
    split
    · rename_i h0
      rw [beq_true h0, Nat.pow_zero, Nat.mul_one]
    · split
      · rename_i h1
        rw [ih _ _ _ h2, powstep b e, beq_true h1, Nat.pow_one, ← Nat.mul_assoc]
        exact mmod (Nat.mod_mod _ _) (pmod (Nat.mod_mod _ _) _)
      · rename_i h1
        have : e % 2 = 0 := by
          have : ¬ e % 2 = 1 := fun q => by rw [q] at h1; cases h1
          omega
        rw [ih _ _ _ h2, powstep b e, this, Nat.pow_zero, Nat.one_mul]
        exact mmod rfl (pmod (Nat.mod_mod _ _) _)
theorem pw_spec (b e : Nat) (h : e < 2 ^ 256) : pw b e = b ^ e % PP := by
  unfold pw
  rw [pwGo_spec 256 b e 1 h, Nat.one_mul]
end Go.Sx
