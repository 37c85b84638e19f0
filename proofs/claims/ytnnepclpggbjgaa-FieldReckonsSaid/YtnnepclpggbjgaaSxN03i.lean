import Derived.Test.YtnnepclpggbjgaaSxN03h
namespace Go.Sx
theorem D8 : DD ^ 8 = 115792089237316195423570985008687907853269984665640564039457584007913129639936 := by decide
theorem sumLoop (n : Nat) (d x y : List Nat) (hx : N8 x) (hy : N8 y) : ∀ (r i m c : Nat) (o : List Nat), i + r = 8 → c ≤ 1 → N8 o → dv (o.take i) + DD ^ i * c = dv (x.take i) + dv (y.take i) →
    ∃ o' c', c' ≤ 1 ∧ N8 o' ∧ dv o' + DD ^ 8 * c' = dv x + dv y ∧ g13L6 realA n (fun v _ => some v) (m + r + 1) c i d x y o = g13L6 realA n (fun v _ => some v) (m + 1) c' ((8 : Nat) : Int) d x y o' := by
  intro r
  induction r with
  | zero =>
    intro i m c o hi hc ho h
    have : i = 8 := by omega
    subst this
    refine ⟨o, c, hc, ho, ?_, rfl⟩
    rw [List.take_of_length_le (by rw [ho.1]; omega), List.take_of_length_le (by rw [hx.1]; omega), List.take_of_length_le (by rw [hy.1]; omega)] at h
    exact h
  | succ r ih =>
    intro i m c o hi hc ho h
    have xa := getD_ltD hx.2 i
    have xb := getD_ltD hy.2 i
    have e1 : realA.ib .add .i64 (i : Int) 1 = ((i + 1 : Nat) : Int) := addN 1 (by omega)
    have hlo := ho.1
    have hla := hx.1
    have hlb := hy.1
    have f1 : realA.nb .add .u64 (x.getD i 0) (y.getD i 0) = x.getD i 0 + y.getD i 0 := natadd (by omega)
    have f2 : realA.nb .add .u64 (x.getD i 0 + y.getD i 0) c = x.getD i 0 + y.getD i 0 + c := natadd (by omega)
    have key : (x.getD i 0 + y.getD i 0 + c) % 4294967296 + 4294967296 * ((x.getD i 0 + y.getD i 0 + c) / 4294967296) = x.getD i 0 + y.getD i 0 + c := by omega
    obtain ⟨o', c', g1, g2, g3, g4⟩ := ih (i + 1) m ((x.getD i 0 + y.getD i 0 + c) / 4294967296) (o.set i ((x.getD i 0 + y.getD i 0 + c) % 4294967296)) (by omega) (by omega) ⟨by simp [hlo], set_ltD ho.2 (Nat.mod_lt _ (by decide)) i⟩ (by
      rw [dv_take_set _ _ _ (by omega), dv_take_succ x i (by omega), dv_take_succ y i (by omega)]
      generalize (x.getD i 0 + y.getD i 0 + c) % 4294967296 = z at *
      generalize (x.getD i 0 + y.getD i 0 + c) / 4294967296 = w2 at *
      rw [Nat.pow_succ]
      generalize DD ^ i = M at *
      have k2 : M * z + M * 4294967296 * w2 = M * x.getD i 0 + M * y.getD i 0 + M * c := by
        rw [← Nat.mul_add, ← Nat.mul_add, Nat.mul_assoc, ← Nat.mul_add, key]
      show dv (o.take i) + M * z + M * DD * w2 = dv (x.take i) + M * x.getD i 0 + (dv (y.take i) + M * y.getD i 0)
      unfold DD
      omega)
    refine ⟨o', c', g1, g2, g3, ?_⟩
    rw [show m + (r + 1) + 1 = (m + r + 1) + 1 from by omega, g13L6, lssT (by omega)]
    simp only [g13J8, negN, toNN, ltT (show i < 8 by omega), f1, f2, shr32, n32]
    rw [e1]
    exact g4
theorem g13Shape (A : Ar) (n : Nat) (a b x y : List Nat) (k1 : g39ok A a = true) (k2 : g39r0 A a = x) (k3 : g39ok A b = true) (k4 : g39r0 A b = y) : g13 A n (fun v _ => some v) a b = g13L6 A n (fun v _ => some v) n 0 0 [0, 0, 0, 0] x y [0, 0, 0, 0, 0, 0, 0, 0] := by
  unfold g13
  rw [k1, k2, k3, k4]
theorem g13End (A : Ar) (n m c : Nat) (d x y o r w : List Nat) (e : A.ic .lss ((8 : Nat) : Int) 8 = false) (k1 : g41ok A o = true) (k2 : g41r0 A o = r) (k3 : g40ok A r = true) (k4 : g40r0 A r = w) : g13L6 A n (fun v _ => some v) (m + 1) c ((8 : Nat) : Int) d x y o = some (.v (.agg [.nums .u64 4 w])) := by
  rw [g13L6, e, k1, k2, k3, k4]
theorem below_fe {o : List Nat} (ho : N8 o) : g41ok realA o = true ∧ g40ok realA (g41r0 realA o) = true ∧ g40r0 realA (g41r0 realA o) = fm (dv o) := by
  obtain ⟨b1, b2, b3⟩ := belowOk ho
  obtain ⟨w1, w2⟩ := wordsOk b2
  rw [b3] at w2
  exact ⟨b1, w1, w2⟩
theorem refAdd {a b : List Nat} (ha : W4 a) (hb : W4 b) : g13ok realA a b = true ∧ g13r0 realA a b = fm (num a + num b) := by
  obtain ⟨d1, d2, d3⟩ := digitsOk ha
  obtain ⟨e1, e2, e3⟩ := digitsOk hb
  obtain ⟨o, c, h1, h2, h3, h4⟩ := sumLoop 100000 [0, 0, 0, 0] _ _ d2 e2 8 0 99991 0 [0, 0, 0, 0, 0, 0, 0, 0] rfl (by decide) N8_zero rfl
  rw [d3, e3] at h3
  have hc : c = 0 := by
    have p1 := Nat.mod_lt (num a) PP_pos
    have p2 := Nat.mod_lt (num b) PP_pos
    rw [D8] at h3
    unfold PP at *
    omega
  subst hc
  rw [Nat.mul_zero, Nat.add_zero] at h3
  obtain ⟨b1, w1, w2⟩ := below_fe h2
  have hv : fm (dv o) = fm (num a + num b) := fm_congr (by rw [h3, ← Nat.add_mod])
  rw [hv] at w2
  have e : g13v realA a b = some (.v (.agg [.nums .u64 4 (fm (num a + num b))])) :=
    (g13Shape realA 100000 a b _ _ d1 rfl e1 rfl).trans (h4.trans (g13End realA 100000 99991 0 _ _ _ _ _ _ rfl b1 rfl w1 w2))
  exact ⟨by unfold g13ok; rw [e]; rfl, by unfold g13r0; rw [e]; rfl⟩
theorem g19Shape (A : Ar) (n : Nat) (a p x z r w : List Nat) (k0 : g45ok A = true) (k0' : g45r0 A = p) (k1 : g39ok A a = true) (k2 : g39r0 A a = x) (k3 : g44ok A p x = true) (k4 : g44r0 A p x = z) (k5 : g41ok A z = true) (k6 : g41r0 A z = r) (k7 : g40ok A r = true) (k8 : g40r0 A r = w) :
    g19 A n (fun v _ => some v) a = some (.v (.agg [.nums .u64 4 w])) := by
  unfold g19
  rw [k0, k0', k1, k2, k3, k4, k5, k6, k7, k8]
theorem refNeg {a : List Nat} (ha : W4 a) : ∃ x, g19ok realA a = true ∧ g19r0 realA a = fm x ∧ (x + num a) % PP = 0 := by
  obtain ⟨p1, p2, p3⟩ := r45
  obtain ⟨d1, d2, d3⟩ := digitsOk ha
  have hm := Nat.mod_lt (num a) PP_pos
  obtain ⟨m1, m2, m3⟩ := minusOk p2 d2 (by rw [p3, d3]; omega)
  rw [p3, d3] at m3
  obtain ⟨b1, w1, w2⟩ := below_fe m2
  have e : g19v realA a = some (.v (.agg [.nums .u64 4 (fm (dv (g44r0 realA (g45r0 realA) (g39r0 realA a))))])) := g19Shape realA 100000 a _ _ _ _ _ p1 rfl d1 rfl m1 rfl b1 rfl w1 w2
  refine ⟨dv (g44r0 realA (g45r0 realA) (g39r0 realA a)), by unfold g19ok; rw [e]; rfl, by unfold g19r0; rw [e]; rfl, ?_⟩
  rw [← Nat.add_mod_mod, m3, Nat.mod_self]
theorem g15Shape (A : Ar) (n : Nat) (a b y w : List Nat) (k1 : g19ok A b = true) (k2 : g19r0 A b = y) (k3 : g13ok A a y = true) (k4 : g13r0 A a y = w) : g15 A n (fun v _ => some v) a b = some (.v (.agg [.nums .u64 4 w])) := by
  unfold g15
  rw [k1, k2, k3, k4]
theorem refSub {a b : List Nat} (ha : W4 a) (hb : W4 b) : ∃ x, g15ok realA a b = true ∧ g15r0 realA a b = fm x ∧ (x + num b) % PP = num a % PP := by
  obtain ⟨x, n1, n2, n3⟩ := refNeg hb
  obtain ⟨a1, a2⟩ := refAdd ha (fm_W4 x)
  have e : g15v realA a b = some (.v (.agg [.nums .u64 4 (fm (num a + num (fm x)))])) := g15Shape realA 100000 a b _ _ n1 n2 a1 a2
  refine ⟨num a + num (fm x), by unfold g15ok; rw [e]; rfl, by unfold g15r0; rw [e]; rfl, ?_⟩
  rw [num_fm, Nat.add_assoc, Nat.add_mod, show (x % PP + num b) % PP = 0 by rw [Nat.mod_add_mod]; exact n3, Nat.add_zero, Nat.mod_mod]
-- the product
theorem maskD (x : Nat) : realA.nb .and .u64 x 4294967295 = x % 4294967296 := Nat.and_two_pow_sub_one_eq_mod x 32
def N16 (l : List Nat) : Prop := l.length = 16 ∧ ∀ x ∈ l, x < 4294967296
theorem rowLoop (n : Nat) (lg : Nat → Int → List Nat → List Nat → List Nat → Nat → List Nat → Option AV) (d x y : List Nat) (hx : N8 x) (hy : N8 y) (i : Nat) (hi : i < 8) : ∀ (r k m c : Nat) (l : List Nat), k + r = 8 → c < 4294967296 → N16 l → (∀ j, i + 8 ≤ j → l.getD j 0 = 0) →
    ∃ l', N16 l' ∧ (∀ j, i + 9 ≤ j → l'.getD j 0 = 0) ∧ dv l' = dv l + DD ^ (i + k) * (c + x.getD i 0 * dv (y.drop k)) ∧ g17L9 realA n (fun v _ => some v) lg (m + r + 1) 16 i c k d x y 16 l = lg 16 ((i + 1 : Nat) : Int) d x y 16 l' := by
  intro r
  induction r with
  | zero =>
    intro k m c l hk hc hl hz
    have : k = 8 := by omega
    subst this
    have e1 : realA.ib .add .i64 (i : Int) 1 = ((i + 1 : Nat) : Int) := addN 1 (by omega)
    have e2 : realA.ib .add .i64 (i : Int) 8 = ((i + 8 : Nat) : Int) := addN 8 (by omega)
    have hll := hl.1
    refine ⟨l.set (i + 8) c, ⟨by simp [hll], set_ltD hl.2 hc _⟩, fun j hj => ?_, ?_, ?_⟩
    · rw [getD_set_other _ _ _ _ (by omega)]
      exact hz j (by omega)
    · have := dv_set l (i + 8) c (by omega)
      rw [hz (i + 8) (Nat.le_refl _), Nat.mul_zero, Nat.add_zero] at this
      rw [this, List.drop_of_length_le (by rw [hy.1]; omega)]
      simp only [dv, Nat.mul_zero, Nat.add_zero]
    · rw [g17L9, lssF (by omega)]
      simp only [g17J14, e2, negN, toNN, ltT (show i + 8 < 16 by omega)]
      rw [e1]
  | succ r ih =>
    intro k m c l hk hc hl hz
    have e1 : realA.ib .add .i64 (k : Int) 1 = ((k + 1 : Nat) : Int) := addN 1 (by omega)
    have e2 : realA.ib .add .i64 (i : Int) (k : Int) = ((i + k : Nat) : Int) := addN k (by omega)
    have hll := hl.1
    have hyl := hy.1
    have xa := getD_ltD hx.2 i
    have xb := getD_ltD hy.2 k
    have xc := getD_ltD hl.2 (i + k)
    have hp : x.getD i 0 * y.getD k 0 ≤ 4294967295 * 4294967295 := mulB (by omega) (by omega)
    have f1 : realA.nb .mul .u64 (x.getD i 0) (y.getD k 0) = x.getD i 0 * y.getD k 0 := nmul (by omega)
    have f2 : realA.nb .add .u64 (l.getD (i + k) 0) (x.getD i 0 * y.getD k 0) = l.getD (i + k) 0 + x.getD i 0 * y.getD k 0 := natadd (by omega)
    have f3 : realA.nb .add .u64 (l.getD (i + k) 0 + x.getD i 0 * y.getD k 0) c = l.getD (i + k) 0 + x.getD i 0 * y.getD k 0 + c := natadd (by omega)
    obtain ⟨l', g1, g2, g3, g4⟩ := ih (k + 1) m ((l.getD (i + k) 0 + x.getD i 0 * y.getD k 0 + c) / 4294967296) (l.set (i + k) ((l.getD (i + k) 0 + x.getD i 0 * y.getD k 0 + c) % 4294967296)) (by omega) (by omega) ⟨by simp [hll], set_ltD hl.2 (Nat.mod_lt _ (by decide)) _⟩ (fun j hj => by rw [getD_set_other _ _ _ _ (by omega)]; exact hz j hj)
    refine ⟨l', g1, g2, ?_, ?_⟩
    · have hs := dv_set l (i + k) ((l.getD (i + k) 0 + x.getD i 0 * y.getD k 0 + c) % 4294967296) (by omega)
      have key : (l.getD (i + k) 0 + x.getD i 0 * y.getD k 0 + c) % 4294967296 + 4294967296 * ((l.getD (i + k) 0 + x.getD i 0 * y.getD k 0 + c) / 4294967296) = l.getD (i + k) 0 + x.getD i 0 * y.getD k 0 + c := by omega
      rw [g3, dv_drop y k (by omega), show i + (k + 1) = (i + k) + 1 from by omega, Nat.pow_succ]
      generalize (l.getD (i + k) 0 + x.getD i 0 * y.getD k 0 + c) % 4294967296 = z at *
      generalize (l.getD (i + k) 0 + x.getD i 0 * y.getD k 0 + c) / 4294967296 = w at *
      generalize DD ^ (i + k) = M at *
      generalize dv (l.set (i + k) z) = V at *
      generalize l.getD (i + k) 0 = q at *
      generalize x.getD i 0 = xx at *
      generalize y.getD k 0 = yy at *
      generalize dv (y.drop (k + 1)) = Y at *
      generalize dv l = L at *
      show V + M * 4294967296 * (w + xx * Y) = L + M * (c + xx * (yy + 4294967296 * Y))
      clear g1 g2 g3 g4 f1 f2 f3 hp
      grind
    · rw [show m + (r + 1) + 1 = (m + r + 1) + 1 from by omega, g17L9, lssT (by omega)]
      simp only [g17J11, e2, negN, toNN, ltT (show i + k < 16 by omega), ltT hi, ltT (show k < 8 by omega), f1, f2, f3, shr32, maskD]
      rw [e1]
      exact g4
theorem rowsLoop (N : Nat) (d x y : List Nat) (hx : N8 x) (hy : N8 y) : ∀ (r i m : Nat) (l : List Nat), i + r = 8 → N16 l → (∀ j, i + 8 ≤ j → l.getD j 0 = 0) →
    ∃ l', N16 l' ∧ dv l' = dv l + DD ^ i * (dv (x.drop i) * dv y) ∧ g17L5 realA (N + 9) (fun v _ => some v) (m + r + 1) 16 i d x y 16 l = g17L5 realA (N + 9) (fun v _ => some v) (m + 1) 16 ((8 : Nat) : Int) d x y 16 l' := by
  intro r
  induction r with
  | zero =>
    intro i m l hi hl hz
    have : i = 8 := by omega
    subst this
    refine ⟨l, hl, ?_, rfl⟩
    rw [List.drop_of_length_le (by rw [hx.1]; omega)]
    simp only [dv, Nat.zero_mul, Nat.mul_zero, Nat.add_zero]
  | succ r ih =>
    intro i m l hi hl hz
    have hxl := hx.1
    obtain ⟨l1, a1, a2, a3, a4⟩ := rowLoop (N + 9) (g17L5 realA (N + 9) (fun v _ => some v) (m + r + 1)) d x y hx hy i (by omega) 8 0 N 0 l rfl (by decide) hl hz
    obtain ⟨l2, b1, b2, b3⟩ := ih (i + 1) m l1 (by omega) a1 (fun j hj => a2 j (by omega))
    refine ⟨l2, b1, ?_, ?_⟩
    · rw [b2, a3, dv_drop x i (by omega), Nat.pow_succ, Nat.add_zero, List.drop_zero, Nat.zero_add]
      show dv l + DD ^ i * (x.getD i 0 * dv y) + DD ^ i * 4294967296 * (dv (x.drop (i + 1)) * dv y) = _
      generalize DD ^ i = M at *
      generalize x.getD i 0 = xx at *
      generalize dv (x.drop (i + 1)) = X at *
      generalize dv y = Y at *
      clear a1 a2 a3 a4 b1 b2 b3
      grind
    · rw [show m + (r + 1) + 1 = (m + r + 1) + 1 from by omega, g17L5, lssT (by omega)]
      simp only [g17J7]
      exact a4.trans b3
-- folding
theorem fold1 (n : Nat) (c d : List Nat) (l : List Nat) (hl : N16 l) : ∀ (r i m w : Nat) (o : List Nat), i + r = 8 → w < 100 → N8 o → dv (o.take i) + DD ^ i * w = dv (l.take i) + 38 * dv ((l.drop 8).take i) →
    ∃ o' w', w' < 100 ∧ N8 o' ∧ dv o' + DD ^ 8 * w' = dv (l.take 8) + 38 * dv (l.drop 8) ∧ g43L4 realA n (outH [0] none) (m + r + 1) 16 w i 16 l d o = g43L4 realA n (outH [0] none) (m + 1) 16 w' ((8 : Nat) : Int) 16 l d o' := by
  intro r
  induction r with
  | zero =>
    intro i m w o hi hw ho h
    have : i = 8 := by omega
    subst this
    refine ⟨o, w, hw, ho, ?_, rfl⟩
    rw [List.take_of_length_le (by rw [ho.1]; omega), List.take_of_length_le (l := l.drop 8) (by rw [List.length_drop, hl.1]; omega)] at h
    exact h
  | succ r ih =>
    intro i m w o hi hw ho h
    have hll := hl.1
    have hol := ho.1
    have xa := getD_ltD hl.2 i
    have xb := getD_ltD hl.2 (i + 8)
    have e1 : realA.ib .add .i64 (i : Int) 1 = ((i + 1 : Nat) : Int) := addN 1 (by omega)
    have e2 : realA.ib .add .i64 (i : Int) 8 = ((i + 8 : Nat) : Int) := addN 8 (by omega)
    have f1 : realA.nb .mul .u64 38 (l.getD (i + 8) 0) = 38 * l.getD (i + 8) 0 := nmul (by omega)
    have f2 : realA.nb .add .u64 (l.getD i 0) (38 * l.getD (i + 8) 0) = l.getD i 0 + 38 * l.getD (i + 8) 0 := natadd (by omega)
    have f3 : realA.nb .add .u64 (l.getD i 0 + 38 * l.getD (i + 8) 0) w = l.getD i 0 + 38 * l.getD (i + 8) 0 + w := natadd (by omega)
    have key : (l.getD i 0 + 38 * l.getD (i + 8) 0 + w) % 4294967296 + 4294967296 * ((l.getD i 0 + 38 * l.getD (i + 8) 0 + w) / 4294967296) = l.getD i 0 + 38 * l.getD (i + 8) 0 + w := by omega
    have hd : (l.drop 8).getD i 0 = l.getD (i + 8) 0 := by
      rw [List.getD_eq_getElem?_getD, List.getElem?_drop, Nat.add_comm, ← List.getD_eq_getElem?_getD]
    obtain ⟨o', w', g1, g2, g3, g4⟩ := ih (i + 1) m ((l.getD i 0 + 38 * l.getD (i + 8) 0 + w) / 4294967296) (o.set i ((l.getD i 0 + 38 * l.getD (i + 8) 0 + w) % 4294967296)) (by omega) (by omega) ⟨by simp [hol], set_ltD ho.2 (Nat.mod_lt _ (by decide)) i⟩ (by
      rw [dv_take_set _ _ _ (by omega), dv_take_succ l i (by omega), dv_take_succ (l.drop 8) i (by rw [List.length_drop]; omega), hd, Nat.pow_succ]
      generalize (l.getD i 0 + 38 * l.getD (i + 8) 0 + w) % 4294967296 = z at *
      generalize (l.getD i 0 + 38 * l.getD (i + 8) 0 + w) / 4294967296 = w2 at *
      generalize DD ^ i = M at *
      generalize l.getD i 0 = p at *
      generalize l.getD (i + 8) 0 = q at *
      show dv (o.take i) + M * z + M * 4294967296 * w2 = dv (l.take i) + M * p + 38 * (dv ((l.drop 8).take i) + M * q)
      clear ih f1 f2 f3 hd
      grind)
    refine ⟨o', w', g1, g2, g3, ?_⟩
    rw [show m + (r + 1) + 1 = (m + r + 1) + 1 from by omega, g43L4, lssT (by omega)]
    simp only [g43J6, negN, toNN, e2, ltT (show i < 16 by omega), ltT (show i + 8 < 16 by omega), ltT (show i < 8 by omega), f1, f2, f3, shr32, n32]
    rw [e1]
    exact g4
end Go.Sx
