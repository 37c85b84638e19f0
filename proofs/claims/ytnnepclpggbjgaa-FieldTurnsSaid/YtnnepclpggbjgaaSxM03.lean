import Derived.Test.YtnnepclpggbjgaaSxE03
namespace Go.Sx
theorem lqT {x y : Nat} (h : x % PP = y % PP) : realA.lq (fm x) (fm y) = true := by rw [lqE]; exact decide_eq_true (fm_congr h)
theorem cancelA {x a : Nat} (h : (x + a) % PP = a % PP) : x % PP = 0 % PP := by unfold PP at *; omega
theorem cancelB {x a b c : Nat} (h : (x + b) % PP = c % PP) (hc : c % PP = (a + b) % PP) : x % PP = a % PP := by unfold PP at *; omega
theorem fm0 : fm 0 = [0, 0, 0, 0] := by decide
theorem W40 : W4 [0, 0, 0, 0] := ⟨0, 0, 0, 0, rfl, by decide, by decide, by decide, by decide⟩
theorem turnsShape (A : Ar) (n : Nat) (a b c s l x y z t u v w p q r i j e f : List Nat) (k1 : g11ok A = true) (k2 : g11r0 A = true) (s1 : g12ok A a b = true) (s2 : g12r0 A a b = s) (l1 : g16ok A s c = true) (l2 : g16r0 A s c = l) (x1 : g16ok A a c = true) (x2 : g16r0 A a c = x)
    (y1 : g16ok A b c = true) (y2 : g16r0 A b c = y) (z1 : g12ok A x y = true) (z2 : g12r0 A x y = z) (t1 : g12ok A b a = true) (t2 : g12r0 A b a = t) (u1 : g12ok A s c = true) (u2 : g12r0 A s c = u) (v1 : g12ok A b c = true) (v2 : g12r0 A b c = v) (w1 : g12ok A a v = true) (w2 : g12r0 A a v = w)
    (p1 : g16ok A a b = true) (p2 : g16r0 A a b = p) (q1 : g16ok A b a = true) (q2 : g16r0 A b a = q) (r1 : g16ok A p c = true) (r2 : g16r0 A p c = r) (i1 : g16ok A a y = true) (i2 : g16r0 A a y = i) (d1 : g14ok A a a = true) (d2 : g14r0 A a a = j)
    (e1 : g14ok A s b = true) (e2 : g14r0 A s b = e) (f1 : g12ok A a [0, 0, 0, 0] = true) (f2 : g12r0 A a [0, 0, 0, 0] = f) (g1 : g20ok A l = true) (g2 : g20r0 A l = true)
    (b1 : A.lq s t = true) (b2 : A.lq u w = true) (b3 : A.lq p q = true) (b4 : A.lq r i = true) (b5 : A.lq l z = true) (b6 : A.lq j [0, 0, 0, 0] = true) (b7 : A.lq e f = true) : g4 A n (fun v _ => some v) a b c = some (.v (.cell (.bool true))) := by
  unfold g4 g4J4
  rw [k1, k2, s1, s2, l1, l2, x1, x2, y1, y2, z1, z2, t1, t2, b1, u1, u2, v1, v2, w1, w2, b2, p1, p2, q1, q2, b3, r1, r2, i1, i2, b4, b5, d1, d2, b6, e1, e2, f1, f2, b7, g1, g2]
  rfl
theorem turns (n : Nat) {a b c : List Nat} (ha : W4 a) (hb : W4 b) (hc : W4 c) : g4 realA n (fun v _ => some v) a b c = some (.v (.cell (.bool true))) := by
  obtain ⟨s1, s2⟩ := addOk ha hb
  obtain ⟨l1, l2⟩ := mulOk (fm_W4 (num a + num b)) hc
  obtain ⟨x1, x2⟩ := mulOk ha hc
  obtain ⟨y1, y2⟩ := mulOk hb hc
  obtain ⟨z1, z2⟩ := addOk (fm_W4 (num a * num c)) (fm_W4 (num b * num c))
  obtain ⟨t1, t2⟩ := addOk hb ha
  obtain ⟨u1, u2⟩ := addOk (fm_W4 (num a + num b)) hc
  obtain ⟨v1, v2⟩ := addOk hb hc
  obtain ⟨w1, w2⟩ := addOk ha (fm_W4 (num b + num c))
  obtain ⟨p1, p2⟩ := mulOk ha hb
  obtain ⟨q1, q2⟩ := mulOk hb ha
  obtain ⟨r1, r2⟩ := mulOk (fm_W4 (num a * num b)) hc
  obtain ⟨i1, i2⟩ := mulOk ha (fm_W4 (num b * num c))
  obtain ⟨d, d1, d2, d3⟩ := subOk ha ha
  obtain ⟨e, e1, e2, e3⟩ := subOk (fm_W4 (num a + num b)) hb
  obtain ⟨f1, f2⟩ := addOk ha W40
  obtain ⟨g1, g2⟩ := rightOk (fm_W4 (num (fm (num a + num b)) * num c))
  rw [num_fm] at l2 u2
  rw [num_fm, num_fm] at z2
  rw [num_fm] at w2 r2 i2 g1 g2
  rw [num_fm, Nat.mod_mod] at e3
  rw [num_fm] at g2
  have hd : g14r0 realA a a = [0, 0, 0, 0] := by rw [d2]; exact (fm_congr (cancelA d3)).trans fm0
  have he : e % PP = num a % PP := cancelB e3 rfl
  have b1 : realA.lq (fm (num a + num b)) (fm (num b + num a)) = true := lqT (by rw [Nat.add_comm])
  have b2 : realA.lq (fm ((num a + num b) % PP + num c)) (fm (num a + (num b + num c) % PP)) = true := lqT (by rw [Nat.mod_add_mod, Nat.add_mod_mod, Nat.add_assoc])
  have b3 : realA.lq (fm (num a * num b)) (fm (num b * num a)) = true := lqT (by rw [Nat.mul_comm])
  have b4 : realA.lq (fm (num a * num b % PP * num c)) (fm (num a * (num b * num c % PP))) = true := lqT (by rw [Nat.mod_mul_mod, Nat.mul_mod_mod, Nat.mul_assoc])
  have b5 : realA.lq (fm ((num a + num b) % PP * num c)) (fm (num a * num c % PP + num b * num c % PP)) = true := lqT (by rw [Nat.mod_mul_mod, ← Nat.add_mod, Nat.add_mul])
  have b6 : realA.lq [0, 0, 0, 0] [0, 0, 0, 0] = true := lqSelf _
  have b7 : realA.lq (fm e) (fm (num a + num [0, 0, 0, 0])) = true := lqT (by rw [show num [0, 0, 0, 0] = 0 from rfl, Nat.add_zero]; exact he)
  have b8 : decide ((num a + num b) % PP * num c % PP < PP) = true := decide_eq_true (Nat.mod_lt _ PP_pos)
  rw [b8] at g2
  exact turnsShape realA n a b c _ _ _ _ _ _ _ _ _ _ _ _ _ _ _ _ ok11 r11 s1 s2 l1 l2 x1 x2 y1 y2 z1 z2 t1 t2 u1 u2 v1 v2 w1 w2 p1 p2 q1 q2 r1 r2 i1 i2 d1 hd e1 e2 f1 f2 g1 g2 b1 b2 b3 b4 b5 b6 b7
theorem law4 (a : List Nat) (ha : W4 a) (b : List Nat) (hb : W4 b) (c : List Nat) (hc : W4 c) : g4o realA [.v (.agg [.nums .u64 4 a]), .v (.agg [.nums .u64 4 b]), .v (.agg [.nums .u64 4 c])] = some (true, .v (.cell (.bool true))) := by
  have e : g4v realA a b c = some (.v (.cell (.bool true))) := turns 100000 ha hb hc
  have k : g4ok realA a b c = true := by unfold g4ok; rw [e]; rfl
  have r : g4r0 realA a b c = true := by unfold g4r0; rw [e]; rfl
  show some (Nat.beq 4 4 && (Nat.beq 4 4 && (Nat.beq 4 4 && g4ok realA a b c)), AV.v (.cell (.bool (g4r0 realA a b c)))) = _
  rw [k, r]
  rfl
theorem W4_of {a : List Nat} (hl : a.length = 4) (h : ∀ x ∈ a, x < 2 ^ IntKind.bits .u64) : W4 a := by
  match a, hl with
  | [a0, a1, a2, a3], _ => exact ⟨a0, a1, a2, a3, rfl, h a0 (by simp), h a1 (by simp), h a2 (by simp), h a3 (by simp)⟩
theorem law4' (a : List Nat) (la : a.length = 4) (ha : ∀ x ∈ a, x < 2 ^ IntKind.bits .u64) (b : List Nat) (lb : b.length = 4) (hb : ∀ x ∈ b, x < 2 ^ IntKind.bits .u64) (c : List Nat) (lc : c.length = 4) (hc : ∀ x ∈ c, x < 2 ^ IntKind.bits .u64) :
    g4o realA [.v (.agg [.nums .u64 4 a]), .v (.agg [.nums .u64 4 b]), .v (.agg [.nums .u64 4 c])] = some (true, .v (.cell (.bool true))) := law4 a (W4_of la ha) b (W4_of lb hb) c (W4_of lc hc)
end Go.Sx
