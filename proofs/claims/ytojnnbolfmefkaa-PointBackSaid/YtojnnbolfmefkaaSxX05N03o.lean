import Derived.Test.YtojnnbolfmefkaaSxX05N03c
import Derived.Test.YtojnnbolfmefkaaSxPl
import Derived.Test.YtojnnbolfmefkaaSxY05a
namespace Go.Sx
def W4 (a : List Nat) : Prop := ∃ a0 a1 a2 a3, a = [a0, a1, a2, a3] ∧ a0 < 18446744073709551616 ∧ a1 < 18446744073709551616 ∧ a2 < 18446744073709551616 ∧ a3 < 18446744073709551616
def num (a : List Nat) : Nat := v64 (a.getD 0 0) (a.getD 1 0) (a.getD 2 0) (a.getD 3 0)
def LB (l : List Nat) : Prop := ∃ l0 l1 l2 l3 l4, l = [l0, l1, l2, l3, l4] ∧ l0 < 2251799813685248 + 57 ∧ l1 < 2251799813685248 ∧ l2 < 2251799813685248 ∧ l3 < 2251799813685248 ∧ l4 < 2251799813685248
def nv (l : List Nat) : Nat := v51 (l.getD 0 0) (l.getD 1 0) (l.getD 2 0) (l.getD 3 0) (l.getD 4 0)
theorem PP_pos : 0 < PP := by decide
theorem fe_W4 (x : Nat) : W4 (fe x) := ⟨_, _, _, _, rfl, by omega, by omega, by omega, by omega⟩
theorem num_fe {x : Nat} (h : x < 115792089237316195423570985008687907853269984665640564039457584007913129639936) : num (fe x) = x := by
  show v64 (x % 18446744073709551616) (x / 18446744073709551616 % 18446744073709551616) (x / 340282366920938463463374607431768211456 % 18446744073709551616) (x / 6277101735386680763835789423207666416102355444464034512896 % 18446744073709551616) = x
  unfold v64
  omega
theorem fe_num {a : List Nat} (h : W4 a) : fe (num a) = a := by
  obtain ⟨a0, a1, a2, a3, rfl, h0, h1, h2, h3⟩ := h
  show fe (v64 a0 a1 a2 a3) = _
  have z0 : v64 a0 a1 a2 a3 % 18446744073709551616 = a0 := by unfold v64; omega
  have z1 : v64 a0 a1 a2 a3 / 18446744073709551616 % 18446744073709551616 = a1 := by unfold v64; omega
  have z2 : v64 a0 a1 a2 a3 / 340282366920938463463374607431768211456 % 18446744073709551616 = a2 := by unfold v64; omega
  have z3 : v64 a0 a1 a2 a3 / 6277101735386680763835789423207666416102355444464034512896 % 18446744073709551616 = a3 := by unfold v64; omega
  unfold fe
  rw [z0, z1, z2, z3]
def fm (x : Nat) : List Nat := fe (x % PP)
theorem fm_W4 (x : Nat) : W4 (fm x) := fe_W4 _
theorem mod_lt256 (x : Nat) : x % PP < 115792089237316195423570985008687907853269984665640564039457584007913129639936 := Nat.lt_trans (Nat.mod_lt _ PP_pos) (by decide)
theorem num_fm (x : Nat) : num (fm x) = x % PP := num_fe (mod_lt256 x)
theorem fm_congr {x y : Nat} (h : x % PP = y % PP) : fm x = fm y := by unfold fm; rw [h]
theorem load4 {a : List Nat} (h : W4 a) : g62ok realA a = true ∧ LB (g62r0 realA a) ∧ nv (g62r0 realA a) % PP = num a % PP := by
  obtain ⟨a0, a1, a2, a3, rfl, h0, h1, h2, h3⟩ := h
  obtain ⟨k, r0, r1, r2, r3, r4, c, q1, q2, q3, q4, q5, q6, q7⟩ := loadOk h0 h1 h2 h3
  refine ⟨k, ⟨r0, r1, r2, r3, r4, q7, q5, q1, q2, q3, q4⟩, ?_⟩
  rw [q7]
  show v51 r0 r1 r2 r3 r4 % PP = v64 a0 a1 a2 a3 % PP
  rw [← q6, Nat.add_mul_mod_self_left]
theorem times5 {l m : List Nat} (hl : LB l) (hm : LB m) : g72ok realA l m = true ∧ LB (g72r0 realA l m) ∧ nv (g72r0 realA l m) % PP = (nv l * nv m) % PP := by
  obtain ⟨l0, l1, l2, l3, l4, rfl, a0, a1, a2, a3, a4⟩ := hl
  obtain ⟨m0, m1, m2, m3, m4, rfl, b0, b1, b2, b3, b4⟩ := hm
  obtain ⟨k, r0, r1, r2, r3, r4, q1, q2, q3, q4, q5, q6, q7⟩ := timesOk (l0 := l0) (m0 := m0) (l1 := l1) (m1 := m1) (l2 := l2) (m2 := m2) (l3 := l3) (m3 := m3) (l4 := l4) (m4 := m4) (by omega) (by omega) (by omega) (by omega) (by omega) (by omega) (by omega) (by omega) (by omega) (by omega)
  refine ⟨k, ⟨r0, r1, r2, r3, r4, q7, q5, q1, q2, q3, q4⟩, ?_⟩
  rw [q7]
  exact q6
theorem store5 {l : List Nat} (hl : LB l) : g63ok realA l = true ∧ g63r0 realA l = fm (nv l) := by
  obtain ⟨l0, l1, l2, l3, l4, rfl, a0, a1, a2, a3, a4⟩ := hl
  exact storeOk (by omega) (by omega) (by omega) (by omega) (by omega)
theorem mulOk {a b : List Nat} (ha : W4 a) (hb : W4 b) : g46ok realA a b = true ∧ g46r0 realA a b = fm (num a * num b) := by
  obtain ⟨k1, x1, y1⟩ := load4 ha
  obtain ⟨k2, x2, y2⟩ := load4 hb
  obtain ⟨k3, x3, y3⟩ := times5 x1 x2
  obtain ⟨k4, y4⟩ := store5 x3
  have e : g46v realA a b = some (.v (.agg [.nums .u64 4 (fm (num a * num b))])) := by
    unfold g46v
    generalize 100000 = n
    unfold g46
    rw [k1, k2, k3, k4, y4]
    rw [fm_congr (y3.trans (show nv (g62r0 realA a) * nv (g62r0 realA b) % PP = num a * num b % PP by rw [Nat.mul_mod, y1, y2, ← Nat.mul_mod]))]
  exact ⟨by unfold g46ok; rw [e]; rfl, by unfold g46r0; rw [e]; rfl⟩
theorem addStep (n m i : Nat) (d l b : List Nat) (hi : i < 5) (hs : l.getD i 0 + b.getD i 0 < 18446744073709551616) : g66L3 realA n (fun v _ => some v) (m + 1) i d l b = g66L3 realA n (fun v _ => some v) m ((i + 1 : Nat) : Int) d (l.set i (l.getD i 0 + b.getD i 0)) b := by
  have e1 : realA.ib .add .i64 (i : Int) 1 = ((i + 1 : Nat) : Int) := addN 1 (by omega)
  rw [g66L3, lssT (show (i : Int) < 5 by omega)]
  simp only [g66J4, negN, toNN, ltT hi, nadd hs]
  rw [e1]
theorem v51_add (a0 a1 a2 a3 a4 b0 b1 b2 b3 b4 : Nat) : v51 (a0 + b0) (a1 + b1) (a2 + b2) (a3 + b3) (a4 + b4) = v51 a0 a1 a2 a3 a4 + v51 b0 b1 b2 b3 b4 := by unfold v51; omega
theorem addOk {a b : List Nat} (ha : W4 a) (hb : W4 b) : g66ok realA a b = true ∧ g66r0 realA a b = fm (num a + num b) := by
  obtain ⟨k1, ⟨l0, l1, l2, l3, l4, el, a0, a1, a2, a3, a4⟩, y1⟩ := load4 ha
  obtain ⟨k2, ⟨m0, m1, m2, m3, m4, em, b0, b1, b2, b3, b4⟩, y2⟩ := load4 hb
  rw [el] at y1
  rw [em] at y2
  obtain ⟨k4, y4⟩ := storeOk (l0 := l0 + m0) (l1 := l1 + m1) (l2 := l2 + m2) (l3 := l3 + m3) (l4 := l4 + m4) (by omega) (by omega) (by omega) (by omega) (by omega)
  have hm : v51 (l0 + m0) (l1 + m1) (l2 + m2) (l3 + m3) (l4 + m4) % PP = (num a + num b) % PP := by
    rw [v51_add, Nat.add_mod, show v51 l0 l1 l2 l3 l4 % PP = num a % PP from y1, show v51 m0 m1 m2 m3 m4 % PP = num b % PP from y2, ← Nat.add_mod]
  have e : g66v realA a b = some (.v (.agg [.nums .u64 4 (fm (num a + num b))])) := by
    unfold g66v
    rw [show (100000 : Nat) = 99994 + 6 from rfl]
    generalize 99994 = m
    unfold g66
    rw [k1, k2, el, em]
    have s0 := addStep (m + 6) (m + 5) 0 [0, 0, 0, 0] [l0, l1, l2, l3, l4] [m0, m1, m2, m3, m4] (by decide) (show l0 + m0 < _ by omega)
    have s1 := addStep (m + 6) (m + 4) 1 [0, 0, 0, 0] [l0 + m0, l1, l2, l3, l4] [m0, m1, m2, m3, m4] (by decide) (show l1 + m1 < _ by omega)
    have s2 := addStep (m + 6) (m + 3) 2 [0, 0, 0, 0] [l0 + m0, l1 + m1, l2, l3, l4] [m0, m1, m2, m3, m4] (by decide) (show l2 + m2 < _ by omega)
    have s3 := addStep (m + 6) (m + 2) 3 [0, 0, 0, 0] [l0 + m0, l1 + m1, l2 + m2, l3, l4] [m0, m1, m2, m3, m4] (by decide) (show l3 + m3 < _ by omega)
    have s4 := addStep (m + 6) (m + 1) 4 [0, 0, 0, 0] [l0 + m0, l1 + m1, l2 + m2, l3 + m3, l4] [m0, m1, m2, m3, m4] (by decide) (show l4 + m4 < _ by omega)
    refine Eq.trans (b := g66L3 realA (m + 6) (fun v _ => some v) (m + 5 + 1) ((0 : Nat) : Int) [0, 0, 0, 0] [l0, l1, l2, l3, l4] [m0, m1, m2, m3, m4]) rfl ?_
    refine s0.trans (s1.trans (s2.trans (s3.trans (s4.trans ?_))))
    have hx : g66L3 realA (m + 6) (fun v _ => some v) (m + 1) ((5 : Nat) : Int) [0, 0, 0, 0] [l0 + m0, l1 + m1, l2 + m2, l3 + m3, l4 + m4] [m0, m1, m2, m3, m4] = some (.v (.agg [.nums .u64 4 (fm (num a + num b))])) := by
      rw [g66L3, show realA.ic .lss (((5 : Nat)) : Int) 5 = false from rfl]
      rw [k4, y4, hm]
      rfl
    exact hx
  exact ⟨by unfold g66ok; rw [e]; rfl, by unfold g66r0; rw [e]; rfl⟩
theorem subStep (n m i : Nat) (d l b f : List Nat) (hi : i < 5) (hf : b.getD i 0 ≤ f.getD i 0) (hs : l.getD i 0 + (f.getD i 0 - b.getD i 0) < 18446744073709551616) (hf2 : f.getD i 0 < 18446744073709551616) : g47L4 realA n (fun v _ => some v) (m + 1) i d l b f = g47L4 realA n (fun v _ => some v) m ((i + 1 : Nat) : Int) d (l.set i (l.getD i 0 + (f.getD i 0 - b.getD i 0))) b f := by
  have e1 : realA.ib .add .i64 (i : Int) 1 = ((i + 1 : Nat) : Int) := addN 1 (by omega)
  have e2 : realA.nb .sub .u64 (f.getD i 0) (b.getD i 0) = f.getD i 0 - b.getD i 0 := by
    show (f.getD i 0 + 18446744073709551616 - b.getD i 0) % 18446744073709551616 = _
    omega
  rw [g47L4, lssT (show (i : Int) < 5 by omega)]
  simp only [g47J5, negN, toNN, ltT hi, e2, nadd hs]
  rw [e1]
theorem v51_sub (a0 a1 a2 a3 a4 b0 b1 b2 b3 b4 : Nat) (h0 : b0 ≤ 9007199254740916) (h1 : b1 ≤ 9007199254740988) (h2 : b2 ≤ 9007199254740988) (h3 : b3 ≤ 9007199254740988) (h4 : b4 ≤ 9007199254740988) :
    v51 (a0 + (9007199254740916 - b0)) (a1 + (9007199254740988 - b1)) (a2 + (9007199254740988 - b2)) (a3 + (9007199254740988 - b3)) (a4 + (9007199254740988 - b4)) + v51 b0 b1 b2 b3 b4 = v51 a0 a1 a2 a3 a4 + PP * 4 := by unfold v51 PP; omega
theorem subOk {a b : List Nat} (ha : W4 a) (hb : W4 b) : ∃ x, g47ok realA a b = true ∧ g47r0 realA a b = fm x ∧ (x + num b) % PP = num a % PP := by
  obtain ⟨k1, ⟨l0, l1, l2, l3, l4, el, a0, a1, a2, a3, a4⟩, y1⟩ := load4 ha
  obtain ⟨k2, ⟨m0, m1, m2, m3, m4, em, b0, b1, b2, b3, b4⟩, y2⟩ := load4 hb
  rw [el] at y1
  rw [em] at y2
  obtain ⟨k4, y4⟩ := storeOk (l0 := l0 + (9007199254740916 - m0)) (l1 := l1 + (9007199254740988 - m1)) (l2 := l2 + (9007199254740988 - m2)) (l3 := l3 + (9007199254740988 - m3)) (l4 := l4 + (9007199254740988 - m4)) (by omega) (by omega) (by omega) (by omega) (by omega)
  have hv := v51_sub l0 l1 l2 l3 l4 m0 m1 m2 m3 m4 (by omega) (by omega) (by omega) (by omega) (by omega)
  refine ⟨v51 (l0 + (9007199254740916 - m0)) (l1 + (9007199254740988 - m1)) (l2 + (9007199254740988 - m2)) (l3 + (9007199254740988 - m3)) (l4 + (9007199254740988 - m4)), ?_⟩
  have e : g47v realA a b = some (.v (.agg [.nums .u64 4 (fm (v51 (l0 + (9007199254740916 - m0)) (l1 + (9007199254740988 - m1)) (l2 + (9007199254740988 - m2)) (l3 + (9007199254740988 - m3)) (l4 + (9007199254740988 - m4))))])) := by
    unfold g47v
    rw [show (100000 : Nat) = 99994 + 6 from rfl]
    generalize 99994 = m
    unfold g47
    rw [k1, k2, el, em]
    have s0 := subStep (m + 6) (m + 5) 0 [0, 0, 0, 0] [l0, l1, l2, l3, l4] [m0, m1, m2, m3, m4] [9007199254740916, 9007199254740988, 9007199254740988, 9007199254740988, 9007199254740988] (by decide) (show m0 ≤ 9007199254740916 by omega) (show l0 + (9007199254740916 - m0) < _ by omega) (by decide)
    have s1 := subStep (m + 6) (m + 4) 1 [0, 0, 0, 0] [l0 + (9007199254740916 - m0), l1, l2, l3, l4] [m0, m1, m2, m3, m4] [9007199254740916, 9007199254740988, 9007199254740988, 9007199254740988, 9007199254740988] (by decide) (show m1 ≤ 9007199254740988 by omega) (show l1 + (9007199254740988 - m1) < _ by omega) (by decide)
    have s2 := subStep (m + 6) (m + 3) 2 [0, 0, 0, 0] [l0 + (9007199254740916 - m0), l1 + (9007199254740988 - m1), l2, l3, l4] [m0, m1, m2, m3, m4] [9007199254740916, 9007199254740988, 9007199254740988, 9007199254740988, 9007199254740988] (by decide) (show m2 ≤ 9007199254740988 by omega) (show l2 + (9007199254740988 - m2) < _ by omega) (by decide)
    have s3 := subStep (m + 6) (m + 2) 3 [0, 0, 0, 0] [l0 + (9007199254740916 - m0), l1 + (9007199254740988 - m1), l2 + (9007199254740988 - m2), l3, l4] [m0, m1, m2, m3, m4] [9007199254740916, 9007199254740988, 9007199254740988, 9007199254740988, 9007199254740988] (by decide) (show m3 ≤ 9007199254740988 by omega) (show l3 + (9007199254740988 - m3) < _ by omega) (by decide)
    have s4 := subStep (m + 6) (m + 1) 4 [0, 0, 0, 0] [l0 + (9007199254740916 - m0), l1 + (9007199254740988 - m1), l2 + (9007199254740988 - m2), l3 + (9007199254740988 - m3), l4] [m0, m1, m2, m3, m4] [9007199254740916, 9007199254740988, 9007199254740988, 9007199254740988, 9007199254740988] (by decide) (show m4 ≤ 9007199254740988 by omega) (show l4 + (9007199254740988 - m4) < _ by omega) (by decide)
    refine Eq.trans (b := g47L4 realA (m + 6) (fun v _ => some v) (m + 5 + 1) ((0 : Nat) : Int) [0, 0, 0, 0] [l0, l1, l2, l3, l4] [m0, m1, m2, m3, m4] [9007199254740916, 9007199254740988, 9007199254740988, 9007199254740988, 9007199254740988]) rfl ?_
    refine s0.trans (s1.trans (s2.trans (s3.trans (s4.trans ?_))))
    have hx : g47L4 realA (m + 6) (fun v _ => some v) (m + 1) ((5 : Nat) : Int) [0, 0, 0, 0] [l0 + (9007199254740916 - m0), l1 + (9007199254740988 - m1), l2 + (9007199254740988 - m2), l3 + (9007199254740988 - m3), l4 + (9007199254740988 - m4)] [m0, m1, m2, m3, m4] [9007199254740916, 9007199254740988, 9007199254740988, 9007199254740988, 9007199254740988] = some (.v (.agg [.nums .u64 4 (fm (v51 (l0 + (9007199254740916 - m0)) (l1 + (9007199254740988 - m1)) (l2 + (9007199254740988 - m2)) (l3 + (9007199254740988 - m3)) (l4 + (9007199254740988 - m4))))])) := by
      rw [g47L4, show realA.ic .lss (((5 : Nat)) : Int) 5 = false from rfl]
      rw [k4, y4]
      rfl
    exact hx
  refine ⟨by unfold g47ok; rw [e]; rfl, by unfold g47r0; rw [e]; rfl, ?_⟩
  have y1' : v51 l0 l1 l2 l3 l4 % PP = num a % PP := y1
  have y2' : v51 m0 m1 m2 m3 m4 % PP = num b % PP := y2
  rw [Nat.add_mod, ← y2', ← Nat.add_mod, hv, Nat.add_mul_mod_self_left, y1']
theorem negOk {a : List Nat} (ha : W4 a) : ∃ x, g43ok realA a = true ∧ g43r0 realA a = fm x ∧ (x + num a) % PP = 0 := by
  obtain ⟨x, h1, h2, h3⟩ := subOk (a := [0, 0, 0, 0]) ⟨0, 0, 0, 0, rfl, by decide, by decide, by decide, by decide⟩ ha
  have e : g43v realA a = some (.v (.agg [.nums .u64 4 (fm x)])) := by
    unfold g43v
    generalize 100000 = n
    unfold g43
    rw [h1, h2]
  exact ⟨x, by unfold g43ok; rw [e]; rfl, by unfold g43r0; rw [e]; rfl, h3⟩
theorem lqE (a b : List Nat) : realA.lq a b = decide (a = b) := rfl
theorem rightOk {a : List Nat} (ha : W4 a) : g45ok realA a = true ∧ g45r0 realA a = decide (num a < PP) := by
  obtain ⟨k1, x1, y1⟩ := load4 ha
  obtain ⟨k4, y4⟩ := store5 x1
  rw [fm_congr y1] at y4
  have e : g45v realA a = some (.v (.cell (.bool (decide (num a < PP))))) := by
    unfold g45v
    generalize 100000 = n
    unfold g45
    rw [k1, k4, y4, lqE, Bool.and_true]
    have : (fm (num a) = a) ↔ num a < PP := by
      constructor
      · intro h
        rw [← h, num_fm]
        exact Nat.mod_lt _ PP_pos
      · intro h
        unfold fm
        rw [Nat.mod_eq_of_lt h]
        exact fe_num ha
    rw [decide_eq_decide.2 this]
  exact ⟨by unfold g45ok; rw [e]; rfl, by unfold g45r0; rw [e]; rfl⟩
theorem smallOk {x : Nat} (hx : x < 18446744073709551616) : g48ok realA x = true ∧ g48r0 realA x = fe x := by
  have e : g48v realA x = some (.v (.agg [.nums .u64 4 [x, 0, 0, 0]])) := rfl
  refine ⟨by unfold g48ok; rw [e]; rfl, ?_⟩
  unfold g48r0
  rw [e]
  show [x, 0, 0, 0] = _
  unfold fe
  rw [Nat.mod_eq_of_lt hx, Nat.div_eq_of_lt hx, Nat.div_eq_of_lt (Nat.lt_trans hx (by decide)), Nat.div_eq_of_lt (Nat.lt_trans hx (by decide))]
theorem oddB (y : Nat) : (!(decide ((y % 18446744073709551616) % 2 = 0))) = decide (y % 2 = 1) := by
  have h1 : y % 18446744073709551616 % 2 = y % 2 := by omega
  rw [h1]
  by_cases h : y % 2 = 0
  · rw [decide_eq_true h, decide_eq_false (by omega)]; rfl
  · rw [decide_eq_false h, decide_eq_true (by omega)]; rfl
theorem oddC (a : List Nat) (y : Nat) (h : a.getD 0 0 = y % 18446744073709551616) : realA.nc .neq (realA.nb .and .u64 (a.getD 0 0) 1) 0 = decide (y % 2 = 1) := by
  have : realA.nc .neq (realA.nb .and .u64 (a.getD 0 0) 1) 0 = !(decide ((a.getD 0 0 &&& 1) = 0)) := rfl
  rw [this, h, Nat.and_one_is_mod]
  exact oddB y
theorem oddOk {a : List Nat} (ha : W4 a) : g29ok realA a = true ∧ g29r0 realA a = decide (num a % PP % 2 = 1) := by
  obtain ⟨k1, x1, y1⟩ := load4 ha
  obtain ⟨k4, y4⟩ := store5 x1
  rw [fm_congr y1] at y4
  have e : g29v realA a = some (.v (.cell (.bool (decide (num a % PP % 2 = 1))))) := by
    unfold g29v
    generalize 100000 = n
    unfold g29
    rw [k1, k4, y4, oddC (fm (num a)) (num a % PP) rfl]
  exact ⟨by unfold g29ok; rw [e]; rfl, by unfold g29r0; rw [e]; rfl⟩
end Go.Sx
namespace Go.Sx
theorem mmod {x x' y y' : Nat} (hx : x % PP = x' % PP) (hy : y % PP = y' % PP) : x * y % PP = x' * y' % PP := by rw [Nat.mul_mod, hx, hy, ← Nat.mul_mod]
theorem pmod {x x' : Nat} (hx : x % PP = x' % PP) (k : Nat) : x ^ k % PP = x' ^ k % PP := by rw [Nat.pow_mod, hx, ← Nat.pow_mod]
theorem powstep (a w : Nat) : a ^ w = a ^ (w % 2) * (a * a) ^ (w / 2) := by
  have h : w = w % 2 + 2 * (w / 2) := by omega
  have h2 : (a * a) ^ (w / 2) = a ^ (2 * (w / 2)) := by rw [Nat.pow_mul]; congr 1; rw [Nat.pow_two]
  rw [h2, ← Nat.pow_add, ← h]
theorem sqpow (a r : Nat) : (a * a) ^ (2 ^ r) = a ^ (2 ^ (r + 1)) := by
  rw [show a * a = a ^ 2 from (Nat.pow_two a).symm, ← Nat.pow_mul, Nat.pow_succ, Nat.mul_comm]
theorem inner (n m i : Nat) (kk : AV → Heap → Option AV) (lg : List Nat → Int → List Nat → List Nat → List Nat → List Nat → Option AV) (b e c : List Nat) (hi : i < 4) (hno : i ≠ 3 ∨ e.getD 3 0 ≠ 0) :
    ∀ (r k w : Nat) (a out : List Nat), k + r = 64 → w < 2 ^ r → LB a → LB out → ∃ a' out', LB a' ∧ LB out' ∧ nv a' % PP = nv a ^ (2 ^ r) % PP ∧ nv out' % PP = nv out * nv a ^ w % PP ∧
      g83L6 realA n kk lg (m + r + 1) i w b i k a e c out = lg b ((i + 1 : Nat) : Int) a' e c out' := by
  intro r
  induction r with
  | zero =>
    intro k w a out hk hw ha ho
    have hw0 : w = 0 := by rw [Nat.pow_zero] at hw; omega
    subst hw0
    refine ⟨a, out, ha, ho, by rw [Nat.pow_zero, Nat.pow_one], by rw [Nat.pow_zero, Nat.mul_one], ?_⟩
    have e1 : realA.ib .add .i64 (i : Int) 1 = ((i + 1 : Nat) : Int) := addN 1 (by omega)
    rw [g83L6, lssF (show ¬ (k : Int) < 64 by omega)]
    simp only []
    rw [e1]
  | succ r ih =>
    intro k w a out hk hw ha ho
    have e1 : realA.ib .add .i64 (k : Int) 1 = ((k + 1 : Nat) : Int) := addN 1 (by omega)
    have e2 : realA.nsh .shr .u64 w 1 = w / 2 := by show w / 2 ^ 1 = _; rw [Nat.pow_one]
    have e3 : realA.nc .neq (realA.nb .and .u64 w 1) 0 = !(decide (w % 2 = 0)) := by show (!(decide ((w &&& 1) = 0))) = _; rw [Nat.and_one_is_mod]
    have hw2 : w / 2 < 2 ^ r := by rw [Nat.pow_succ] at hw; omega
    obtain ⟨ka, la, va⟩ := times5 ha ha
    have nobreak : g83L6 realA n kk lg (m + (r + 1) + 1) i w b i k a e c out = g83J8 realA n kk lg (g83L6 realA n kk lg (m + r + 1)) i w b i k a e c out := by
      rw [show m + (r + 1) + 1 = (m + r + 1) + 1 from by omega, g83L6, lssT (show (k : Int) < 64 by omega)]
      simp only []
      unfold g83J7
      by_cases h1 : realA.nc .eql w 0 = true
      · rw [h1]
        by_cases h2 : realA.nc .eql (e.getD 3 0) 0 = true
        · rw [h2]
          have h3 : i ≠ 3 := hno.elim id fun h => absurd (of_decide_eq_true h2) h
          have h4 : realA.ic .eql (i : Int) 3 = false := by show decide ((i : Int) = 3) = false; exact decide_eq_false (by omega)
          rw [h4]
        · rw [Bool.not_eq_true] at h2
          rw [h2]
      · rw [Bool.not_eq_true] at h1
        rw [h1]
    rw [nobreak]
    by_cases hodd : w % 2 = 0
    · obtain ⟨a', out', x1, x2, x3, x4, x5⟩ := ih (k + 1) (w / 2) (g72r0 realA a a) out (by omega) hw2 la ho
      refine ⟨a', out', x1, x2, ?_, ?_, ?_⟩
      · rw [x3, ← sqpow]
        exact pmod va _
      · rw [x4, powstep (nv a) w, hodd, Nat.pow_zero, Nat.one_mul]
        exact mmod rfl (pmod va _)
      · unfold g83J8
        rw [e3, decide_eq_true hodd]
        simp only [Bool.not_true, g83J10, ka, e1, e2]
        exact x5
    · obtain ⟨ko, lo, vo⟩ := times5 ho ha
      obtain ⟨a', out', x1, x2, x3, x4, x5⟩ := ih (k + 1) (w / 2) (g72r0 realA a a) (g72r0 realA out a) (by omega) hw2 la lo
      refine ⟨a', out', x1, x2, ?_, ?_, ?_⟩
      · rw [x3, ← sqpow]
        exact pmod va _
      · have h1 : w % 2 = 1 := by omega
        rw [x4, powstep (nv a) w, h1, Nat.pow_one, ← Nat.mul_assoc]
        exact mmod vo (pmod va _)
      · unfold g83J8
        rw [e3, decide_eq_false hodd]
        simp only [Bool.not_false, ko, g83J10, ka, e1, e2]
        exact x5
def E64 : Nat := 18446744073709551616
theorem outerStep (n0 m i : Nat) (kk : AV → Heap → Option AV) (b e c a out : List Nat) (hi : i < 4) (hno : i ≠ 3 ∨ e.getD 3 0 ≠ 0) (hw : b.getD i 0 < 18446744073709551616) (ha : LB a) (ho : LB out) :
    ∃ a' out', LB a' ∧ LB out' ∧ nv a' % PP = nv a ^ E64 % PP ∧ nv out' % PP = nv out * nv a ^ (b.getD i 0) % PP ∧
      g83L3 realA (n0 + 65) kk (m + 1) b i a e c out = g83L3 realA (n0 + 65) kk m b ((i + 1 : Nat) : Int) a' e c out' := by
  obtain ⟨a', out', x1, x2, x3, x4, x5⟩ := inner (n0 + 65) n0 i kk (g83L3 realA (n0 + 65) kk m) b e c hi hno 64 0 (b.getD i 0) a out rfl hw ha ho
  rw [show (2 : Nat) ^ 64 = E64 from rfl] at x3
  refine ⟨a', out', x1, x2, x3, x4, ?_⟩
  rw [g83L3, lssT (show (i : Int) < 4 by omega)]
  simp only [g83J4, negN, toNN, ltT hi]
  exact x5
theorem LB_one : LB [1, 0, 0, 0, 0] := ⟨1, 0, 0, 0, 0, rfl, by decide, by decide, by decide, by decide, by decide⟩
theorem expo (a0 a1 a2 a3 o0 o1 o2 o3 o4 e0 e1 e2 e3 : Nat) (h1 : a1 % PP = a0 ^ E64 % PP) (h2 : a2 % PP = a1 ^ E64 % PP) (h3 : a3 % PP = a2 ^ E64 % PP)
    (g0 : o0 = 1) (g1 : o1 % PP = o0 * a0 ^ e0 % PP) (g2 : o2 % PP = o1 * a1 ^ e1 % PP) (g3 : o3 % PP = o2 * a2 ^ e2 % PP) (g4 : o4 % PP = o3 * a3 ^ e3 % PP) : o4 % PP = a0 ^ (v64 e0 e1 e2 e3) % PP := by
  have p2 : a2 % PP = a0 ^ (E64 * E64) % PP := by
    rw [h2, pmod h1, ← Nat.pow_mul]
  have p3 : a3 % PP = a0 ^ (E64 * E64 * E64) % PP := by
    rw [h3, pmod p2, ← Nat.pow_mul]
  have r1 : a1 ^ e1 % PP = a0 ^ (E64 * e1) % PP := by rw [pmod h1, ← Nat.pow_mul]
  have r2 : a2 ^ e2 % PP = a0 ^ (E64 * E64 * e2) % PP := by rw [pmod p2, ← Nat.pow_mul]
  have r3 : a3 ^ e3 % PP = a0 ^ (E64 * E64 * E64 * e3) % PP := by rw [pmod p3, ← Nat.pow_mul]
  have ev : v64 e0 e1 e2 e3 = e0 + E64 * e1 + E64 * E64 * e2 + E64 * E64 * E64 * e3 := by unfold v64 E64; omega
  rw [ev, Nat.pow_add, Nat.pow_add, Nat.pow_add]
  rw [g0, Nat.one_mul] at g1
  exact g4.trans (mmod (g3.trans (mmod (g2.trans (mmod g1 r1)) r2)) r3)
theorem powerE {a b : List Nat} (ha : LB a) (hb : W4 b) : g83ok realA a b = true ∧ LB (g83r0 realA a b) ∧ nv (g83r0 realA a b) % PP = nv a ^ num b % PP := by
  obtain ⟨e0, e1, e2, e3, rfl, b0, b1, b2, b3⟩ := hb
  suffices h : ∃ out, LB out ∧ nv out % PP = nv a ^ num [e0, e1, e2, e3] % PP ∧ g83v realA a [e0, e1, e2, e3] = some (.v (.agg [.nums .u64 5 out])) by
    obtain ⟨out, h1, h2, h3⟩ := h
    obtain ⟨o0, o1, o2, o3, o4, rfl, q⟩ := h1
    have r : g83r0 realA a [e0, e1, e2, e3] = [o0, o1, o2, o3, o4] := by unfold g83r0; rw [h3]; rfl
    exact ⟨by unfold g83ok; rw [h3]; rfl, by rw [r]; exact ⟨o0, o1, o2, o3, o4, rfl, q⟩, by rw [r]; exact h2⟩
  obtain ⟨a1, o1, la1, lo1, va1, vo1, s1⟩ := outerStep 99935 99999 0 (fun v _ => some v) [e0, e1, e2, e3] [e0, e1, e2, e3] [0, 0, 0, 0, 0] a [1, 0, 0, 0, 0] (by decide) (.inl (by decide)) b0 ha LB_one
  obtain ⟨a2, o2, la2, lo2, va2, vo2, s2⟩ := outerStep 99935 99998 1 (fun v _ => some v) [e0, e1, e2, e3] [e0, e1, e2, e3] [0, 0, 0, 0, 0] a1 o1 (by decide) (.inl (by decide)) b1 la1 lo1
  obtain ⟨a3, o3, la3, lo3, va3, vo3, s3⟩ := outerStep 99935 99997 2 (fun v _ => some v) [e0, e1, e2, e3] [e0, e1, e2, e3] [0, 0, 0, 0, 0] a2 o2 (by decide) (.inl (by decide)) b2 la2 lo2
  have st : g83v realA a [e0, e1, e2, e3] = g83L3 realA (99935 + 65) (fun v _ => some v) (99999 + 1) [e0, e1, e2, e3] ((0 : Nat) : Int) a [e0, e1, e2, e3] [0, 0, 0, 0, 0] [1, 0, 0, 0, 0] := rfl
  by_cases h3 : e3 = 0
  · subst h3
    refine ⟨o3, lo3, ?_, ?_⟩
    · exact expo (nv a) (nv a1) (nv a2) (nv a3) 1 (nv o1) (nv o2) (nv o3) (nv o3) e0 e1 e2 0 va1 va2 va3 rfl vo1 vo2 vo3 (by rw [Nat.pow_zero, Nat.mul_one])
    · rw [st]
      refine s1.trans (s2.trans (s3.trans ?_))
      generalize 99935 = N
      rw [show (99997 : Nat) = 99996 + 1 from rfl]
      generalize 99996 = M
      rw [g83L3, lssT (show (((2 + 1 : Nat)) : Int) < 4 by decide)]
      simp only [g83J4, negN, toNN, ltT (show 2 + 1 < 4 by decide)]
      rw [show N + 65 = (N + 64) + 1 from rfl]
      rw [g83L6]
      rfl
  · obtain ⟨a4, o4, la4, lo4, va4, vo4, s4⟩ := outerStep 99935 99996 3 (fun v _ => some v) [e0, e1, e2, e3] [e0, e1, e2, e3] [0, 0, 0, 0, 0] a3 o3 (by decide) (.inr h3) b3 la3 lo3
    refine ⟨o4, lo4, ?_, ?_⟩
    · exact expo (nv a) (nv a1) (nv a2) (nv a3) 1 (nv o1) (nv o2) (nv o3) (nv o4) e0 e1 e2 e3 va1 va2 va3 rfl vo1 vo2 vo3 vo4
    · rw [st]
      refine s1.trans (s2.trans (s3.trans (s4.trans ?_)))
      generalize 99935 = N
      rw [show (99996 : Nat) = 99995 + 1 from rfl]
      generalize 99995 = M
      rw [g83L3]
      rfl
theorem powOk {a b : List Nat} (ha : W4 a) (hb : W4 b) : g73ok realA a b = true ∧ g73r0 realA a b = fm (num a ^ num b) := by
  obtain ⟨k1, x1, y1⟩ := load4 ha
  obtain ⟨k2, x2, y2⟩ := powerE x1 hb
  obtain ⟨k4, y4⟩ := store5 x2
  have e : g73v realA a b = some (.v (.agg [.nums .u64 4 (fm (num a ^ num b))])) := by
    unfold g73v
    generalize 100000 = n
    unfold g73
    rw [k1, k2, k4, y4]
    rw [fm_congr (y2.trans (pmod y1 _))]
  exact ⟨by unfold g73ok; rw [e]; rfl, by unfold g73r0; rw [e]; rfl⟩
def pwGo : Nat → Nat → Nat → Nat → Nat
  | 0, _, _, acc => acc
  | f + 1, b, e, acc => match Nat.beq e 0 with
    | true => acc
    | false => match Nat.beq (e % 2) 1 with
      | true => pwGo f (b * b % PP) (e / 2) (acc * b % PP)
      | false => pwGo f (b * b % PP) (e / 2) acc
def pw (b e : Nat) : Nat := pwGo 256 b e 1 % PP
theorem pwGo_spec : ∀ (f b e acc : Nat), e < 2 ^ f → pwGo f b e acc % PP = acc * b ^ e % PP := by
  intro f
  induction f with
  | zero =>
    intro b e acc h
    have : e = 0 := by rw [Nat.pow_zero] at h; omega
    subst this
    rw [Nat.pow_zero, Nat.mul_one]
    rfl
  | succ f ih =>
    intro b e acc h
    have h2 : e / 2 < 2 ^ f := by rw [Nat.pow_succ] at h; omega
    unfold pwGo
    split
    · rename_i h0
      rw [beq_true h0, Nat.pow_zero, Nat.mul_one]
    · split
      · rename_i h1
        rw [ih _ _ _ h2, powstep b e, beq_true h1, Nat.pow_one, ← Nat.mul_assoc]
        exact mmod (Nat.mod_mod _ _) (pmod (Nat.mod_mod _ _) _)
      · rename_i h1
        have : e % 2 = 0 := by
          have : ¬ e % 2 = 1 := fun q => by rw [q] at h1; cases h1
          omega
        rw [ih _ _ _ h2, powstep b e, this, Nat.pow_zero, Nat.one_mul]
        exact mmod rfl (pmod (Nat.mod_mod _ _) _)
theorem pw_spec (b e : Nat) (h : e < 2 ^ 256) : pw b e = b ^ e % PP := by
  unfold pw
  rw [pwGo_spec 256 b e 1 h, Nat.one_mul]
end Go.Sx
namespace Go.Sx
def KK : Nat := 7237005577332262213973186563042994240829374041602535252466099000494570602493
def QQ : Nat := 14474011154664524427946373126085988481658748083205070504932198000989141204987
def finN (x : Nat) : Nat := match Nat.beq (x % 2) 1 with
  | true => PP - x
  | false => x
def rootX (u v : Nat) : Nat := u * (v * (v * v % PP) % PP) % PP * pw (u * (v * ((v * (v * v % PP) % PP) * (v * (v * v % PP) % PP) % PP) % PP) % PP) KK % PP
def rootC (u v : Nat) : Nat := v * (rootX u v * rootX u v % PP) % PP
def rootN (u v : Nat) : Nat × Bool := match Nat.beq (rootC u v) (u % PP) with
  | true => (finN (rootX u v), true)
  | false => match Nat.beq ((rootC u v + u % PP) % PP) 0 with
    | true => (finN (rootX u v * pw 2 QQ % PP), true)
    | false => (0, false)
theorem fe_eq {x y : Nat} (hx : x < PP) (hy : y < PP) : fe x = fe y ↔ x = y := by
  constructor
  · intro h
    have := congrArg num h
    rw [num_fe (Nat.lt_trans hx (by decide)), num_fe (Nat.lt_trans hy (by decide))] at this
    exact this
  · intro h; rw [h]
theorem mulFm (x y : Nat) : g46ok realA (fe x) (fe y) = true ∧ (x < PP → y < PP → g46r0 realA (fe x) (fe y) = fe (x * y % PP)) := by
  obtain ⟨h1, h2⟩ := mulOk (fe_W4 x) (fe_W4 y)
  refine ⟨h1, fun hx hy => ?_⟩
  rw [h2, num_fe (Nat.lt_trans hx (by decide)), num_fe (Nat.lt_trans hy (by decide))]
  rfl
theorem negFm {x : Nat} (hx : x < PP) : g43ok realA (fe x) = true ∧ g43r0 realA (fe x) = fe ((PP - x) % PP) := by
  obtain ⟨z, h1, h2, h3⟩ := negOk (fe_W4 x)
  rw [num_fe (Nat.lt_trans hx (by decide))] at h3
  refine ⟨h1, ?_⟩
  rw [h2]
  unfold fm
  have : z % PP = (PP - x) % PP := by
    have hz := Nat.mod_lt z PP_pos
    have e : (z % PP + x) % PP = 0 := by rw [Nat.mod_add_mod]; exact h3
    generalize z % PP = y at *
    unfold PP at *
    omega
  rw [this]
theorem fin10 (n : Nat) (d : List Nat) {x : Nat} (hx : x < PP) : g74J10 realA n (fun v _ => some v) d (fe x) = some (.tup [.agg [.nums .u64 4 (fe (finN x))], .cell (.bool true)]) := by
  obtain ⟨o1, o2⟩ := oddOk (fe_W4 x)
  obtain ⟨n1, n2⟩ := negFm hx
  rw [num_fe (Nat.lt_trans hx (by decide)), Nat.mod_eq_of_lt hx] at o2
  unfold g74J10 finN
  rw [o1, o2]
  by_cases h : x % 2 = 1
  · rw [decide_eq_true h, h]
    simp only [n1, n2]
    have : (PP - x) % PP = PP - x := Nat.mod_eq_of_lt (by unfold PP at *; omega)
    rw [this]
  · rw [decide_eq_false h]
    have : Nat.beq (x % 2) 1 = false := by
      cases hb : Nat.beq (x % 2) 1 with
      | true => exact absurd (beq_true hb) h
      | false => rfl
    rw [this]
theorem W4k : W4 [18446744073709551613, 18446744073709551615, 18446744073709551615, 1152921504606846975] := ⟨_, _, _, _, rfl, by decide, by decide, by decide, by decide⟩
theorem W4q : W4 [18446744073709551611, 18446744073709551615, 18446744073709551615, 2305843009213693951] := ⟨_, _, _, _, rfl, by decide, by decide, by decide, by decide⟩
theorem powFm {x : Nat} (hx : x < PP) : (g73ok realA (fe x) [18446744073709551613, 18446744073709551615, 18446744073709551615, 1152921504606846975] = true ∧ g73r0 realA (fe x) [18446744073709551613, 18446744073709551615, 18446744073709551615, 1152921504606846975] = fe (pw x KK)) ∧
    g73ok realA (fe x) [18446744073709551611, 18446744073709551615, 18446744073709551615, 2305843009213693951] = true ∧ g73r0 realA (fe x) [18446744073709551611, 18446744073709551615, 18446744073709551615, 2305843009213693951] = fe (pw x QQ) := by
  obtain ⟨h1, h2⟩ := powOk (fe_W4 x) W4k
  obtain ⟨h3, h4⟩ := powOk (fe_W4 x) W4q
  rw [num_fe (Nat.lt_trans hx (by decide))] at h2 h4
  have e1 : num [18446744073709551613, 18446744073709551615, 18446744073709551615, 1152921504606846975] = KK := by decide
  have e2 : num [18446744073709551611, 18446744073709551615, 18446744073709551615, 2305843009213693951] = QQ := by decide
  rw [e1] at h2
  rw [e2] at h4
  refine ⟨⟨h1, ?_⟩, h3, ?_⟩
  · rw [h2, pw_spec x KK (by decide)]; rfl
  · rw [h4, pw_spec x QQ (by decide)]; rfl
theorem lqF {x y : Nat} (hx : x < PP) (hy : y < PP) : realA.lq (fe x) (fe y) = Nat.beq x y := by
  rw [lqE]
  cases hb : Nat.beq x y with
  | true => exact decide_eq_true (by rw [beq_true hb])
  | false => exact decide_eq_false (fun h => by rw [(fe_eq hx hy).1 h] at hb; simp [Nat.beq_refl] at hb)
theorem pw_lt (b e : Nat) : pw b e < PP := Nat.mod_lt _ PP_pos
theorem rootE {u v : Nat} (hu : u < PP) (hv : v < PP) : g74v realA (fe u) (fe v) = some (.tup [.agg [.nums .u64 4 (fe (rootN u v).1)], .cell (.bool (rootN u v).2)]) := by
  have m := fun x => Nat.mod_lt x PP_pos
  unfold g74v
  generalize 100000 = n
  obtain ⟨k1, x1, y1⟩ := load4 (fe_W4 u)
  obtain ⟨k4, y4⟩ := store5 x1
  have want : g63r0 realA (g62r0 realA (fe u)) = fe (u % PP) := by
    rw [y4, fm_congr y1, num_fe (Nat.lt_trans hu (by decide))]; rfl
  have ew : ((((([0, 0, 0, 0] : List Nat).set 0 18446744073709551613).set 1 18446744073709551615).set 2 18446744073709551615).set 3 1152921504606846975) = [18446744073709551613, 18446744073709551615, 18446744073709551615, 1152921504606846975] := rfl
  have ew2 : ((((([0, 0, 0, 0] : List Nat).set 0 18446744073709551611).set 1 18446744073709551615).set 2 18446744073709551615).set 3 2305843009213693951) = [18446744073709551611, 18446744073709551615, 18446744073709551615, 2305843009213693951] := rfl
  unfold g74
  rw [ew, ew2]
  rw [(mulFm v v).1, (mulFm v v).2 hv hv]
  rw [(mulFm v (v * v % PP)).1, (mulFm v (v * v % PP)).2 hv (m _)]
  rw [(mulFm (v * (v * v % PP) % PP) (v * (v * v % PP) % PP)).1, (mulFm (v * (v * v % PP) % PP) (v * (v * v % PP) % PP)).2 (m _) (m _)]
  rw [(mulFm v ((v * (v * v % PP) % PP) * (v * (v * v % PP) % PP) % PP)).1, (mulFm v ((v * (v * v % PP) % PP) * (v * (v * v % PP) % PP) % PP)).2 hv (m _)]
  rw [(mulFm u (v * (v * v % PP) % PP)).1, (mulFm u (v * (v * v % PP) % PP)).2 hu (m _)]
  rw [(mulFm u (v * ((v * (v * v % PP) % PP) * (v * (v * v % PP) % PP) % PP) % PP)).1, (mulFm u (v * ((v * (v * v % PP) % PP) * (v * (v * v % PP) % PP) % PP) % PP)).2 hu (m _)]
  rw [(powFm (m (u * (v * ((v * (v * v % PP) % PP) * (v * (v * v % PP) % PP) % PP) % PP)))).1.1, (powFm (m (u * (v * ((v * (v * v % PP) % PP) * (v * (v * v % PP) % PP) % PP) % PP)))).1.2]
  rw [(mulFm _ _).1, (mulFm _ _).2 (m _) (pw_lt _ _)]
  rw [show u * (v * (v * v % PP) % PP) % PP * pw (u * (v * ((v * (v * v % PP) % PP) * (v * (v * v % PP) % PP) % PP) % PP) % PP) KK % PP = rootX u v from rfl]
  have hX : rootX u v < PP := m _
  have hC : rootC u v < PP := m _
  rw [k1, k4, (mulFm (rootX u v) (rootX u v)).1, (mulFm (rootX u v) (rootX u v)).2 hX hX]
  rw [(mulFm v (rootX u v * rootX u v % PP)).1, (mulFm v (rootX u v * rootX u v % PP)).2 hv (m _)]
  rw [show v * (rootX u v * rootX u v % PP) % PP = rootC u v from rfl, want, lqF hC (m _)]
  obtain ⟨n1, n2⟩ := negFm (m u)
  obtain ⟨s1, s2⟩ := smallOk (x := 2) (by decide)
  rw [n1, n2, lqF hC (m _), s1, s2, (powFm (show 2 < PP by decide)).2.1, (powFm (show 2 < PP by decide)).2.2]
  rw [(mulFm (rootX u v) (pw 2 QQ)).1, (mulFm (rootX u v) (pw 2 QQ)).2 hX (pw_lt _ _)]
  rw [fin10 n _ hX, fin10 n _ (m _)]
  unfold rootN
  have hsw : Nat.beq (rootC u v) ((PP - u % PP) % PP) = Nat.beq ((rootC u v + u % PP) % PP) 0 := by
    have hw := m u
    generalize u % PP = w at *
    generalize rootC u v = c at *
    have : c = (PP - w) % PP ↔ (c + w) % PP = 0 := by unfold PP at *; omega
    cases h1 : Nat.beq c ((PP - w) % PP) with
    | true => rw [this.1 (beq_true h1)]; rfl
    | false =>
      cases h2 : Nat.beq ((c + w) % PP) 0 with
      | true => rw [← this.2 (beq_true h2)] at h1; simp [Nat.beq_refl] at h1
      | false => rfl
  rw [hsw, Bool.and_true, Bool.and_true]
  clear hsw n1 n2 s1 s2 ew ew2 k1 k4 x1 y1 y4 want m hX hC
  generalize finN (rootX u v) = X1
  generalize finN (rootX u v * pw 2 QQ % PP) = X2
  generalize Nat.beq ((rootC u v + u % PP) % PP) 0 = c2
  generalize Nat.beq (rootC u v) (u % PP) = c1
  cases c1 with
  | true => rfl
  | false =>
    cases c2 with
    | true => rfl
    | false =>
      show some (AV.tup [.agg [.nums .u64 4 [0, 0, 0, 0]], .cell (.bool false)]) = some (AV.tup [.agg [.nums .u64 4 (fe 0)], .cell (.bool false)])
      rw [show fe 0 = [0, 0, 0, 0] by decide]
theorem rootOk {u v : Nat} (hu : u < PP) (hv : v < PP) : g74ok realA (fe u) (fe v) = true ∧ g74r0 realA (fe u) (fe v) = fe (rootN u v).1 ∧ g74r1 realA (fe u) (fe v) = (rootN u v).2 := by
  have e := rootE hu hv
  exact ⟨by unfold g74ok; rw [e]; rfl, by unfold g74r0; rw [e]; rfl, by unfold g74r1; rw [e]; rfl⟩
end Go.Sx
namespace Go.Sx
theorem W4_of {a : List Nat} (hl : a.length = 4) (h : ∀ x ∈ a, x < 2 ^ IntKind.bits .u64) : W4 a := by
  match a, hl with
  | [a0, a1, a2, a3], _ => exact ⟨a0, a1, a2, a3, rfl, h a0 (by simp), h a1 (by simp), h a2 (by simp), h a3 (by simp)⟩
theorem fe1 : fe 1 = fm 1 := by decide
end Go.Sx
namespace Go.Sx
def leval : List Nat → Nat
  | [] => 0
  | x :: r => x + 256 * leval r
def le32 (v : Nat) : List Nat := (List.range 32).map fun i => v / 256 ^ i % 256
theorem le32_lt (v : Nat) : ∀ x ∈ le32 v, x < 256 := by
  intro x hx
  simp only [le32, List.mem_map] at hx
  obtain ⟨i, _, rfl⟩ := hx
  omega
theorem leval_lt {l : List Nat} (h : ∀ x ∈ l, x < 256) : leval l < 256 ^ l.length := by
  induction l with
  | nil => simp [leval]
  | cons x r ih =>
    have h1 := ih fun y hy => h y (List.mem_cons_of_mem _ hy)
    have h2 := h x (List.mem_cons_self ..)
    simp only [leval, List.length_cons, Nat.pow_succ]
    omega
theorem leval_append (a b : List Nat) : leval (a ++ b) = leval a + 256 ^ a.length * leval b := by
  induction a with
  | nil => simp [leval]
  | cons x r ih =>
    simp only [List.cons_append, leval, ih, List.length_cons, Nat.pow_succ]
    grind
theorem leval_range (v k : Nat) : leval ((List.range k).map fun i => v / 256 ^ i % 256) = v % 256 ^ k := by
  induction k with
  | zero => simp [leval, Nat.mod_one]
  | succ k ih =>
    rw [List.range_succ, List.map_append, leval_append, ih]
    simp only [List.map_cons, List.map_nil, leval, List.length_map, List.length_range, Nat.mul_zero, Nat.add_zero]
    have h1 : v % 256 ^ (k + 1) = v % 256 ^ k + 256 ^ k * (v / 256 ^ k % 256) := by
      rw [Nat.pow_succ, Nat.mod_mul]
    omega
theorem leval_le32 (v : Nat) (h : v < 256 ^ 32) : leval (le32 v) = v := by
  unfold le32
  rw [leval_range, Nat.mod_eq_of_lt h]
theorem le32_leval {l : List Nat} (h : ∀ x ∈ l, x < 256) (hl : l.length = 32) : le32 (leval l) = l := by
  have key : ∀ (k : Nat) (l : List Nat), (∀ x ∈ l, x < 256) → l.length = k → (List.range k).map (fun i => leval l / 256 ^ i % 256) = l := by
    intro k
    induction k with
    | zero => intro l _ hl; rw [List.length_eq_zero_iff.1 hl]; rfl
    | succ k ih =>
      intro l h hl
      cases l with
      | nil => simp at hl
      | cons x r =>
        have h2 := h x (List.mem_cons_self ..)
        rw [List.range_succ_eq_map, List.map_cons, List.map_map]
        have e0 : leval (x :: r) / 256 ^ 0 % 256 = x := by simp only [leval, Nat.pow_zero, Nat.div_one]; omega
        rw [e0]
        congr 1
        refine Eq.trans ?_ (ih r (fun y hy => h y (List.mem_cons_of_mem _ hy)) (by simpa using hl))
        apply List.map_congr_left
        intro i _
        show leval (x :: r) / 256 ^ (i + 1) % 256 = _
        have : leval (x :: r) / 256 ^ (i + 1) = leval r / 256 ^ i := by
          rw [Nat.pow_succ, Nat.mul_comm, ← Nat.div_div_eq_div_mul]
          congr 1
          simp only [leval]
          omega
        rw [this]
  exact key 32 l h hl
theorem take_set (l : List Nat) (i y : Nat) (h : i < l.length) : (l.set i y).take (i + 1) = l.take i ++ [y] := by
  rw [List.take_add_one, List.getElem?_set_self h]
  congr 1
  rw [List.take_set_of_le (Nat.le_refl i)]
end Go.Sx
namespace Go.Sx
theorem byteW (w0 w1 w2 w3 : Nat) (h0 : w0 < 18446744073709551616) (h1 : w1 < 18446744073709551616) (h2 : w2 < 18446744073709551616) (h3 : w3 < 18446744073709551616) (j : Nat) (hj : j < 32) :
    [w0, w1, w2, w3].getD (j / 8) 0 / 2 ^ (8 * (j % 8)) % 256 = v64 w0 w1 w2 w3 / 256 ^ j % 256 := by
  unfold v64
  have : j = 0 ∨ j = 1 ∨ j = 2 ∨ j = 3 ∨ j = 4 ∨ j = 5 ∨ j = 6 ∨ j = 7 ∨ j = 8 ∨ j = 9 ∨ j = 10 ∨ j = 11 ∨ j = 12 ∨ j = 13 ∨ j = 14 ∨ j = 15 ∨ j = 16 ∨ j = 17 ∨ j = 18 ∨ j = 19 ∨ j = 20 ∨ j = 21 ∨ j = 22 ∨ j = 23 ∨ j = 24 ∨ j = 25 ∨ j = 26 ∨ j = 27 ∨ j = 28 ∨ j = 29 ∨ j = 30 ∨ j = 31 := by omega
  rcases this with h | h | h | h | h | h | h | h | h | h | h | h | h | h | h | h | h | h | h | h | h | h | h | h | h | h | h | h | h | h | h | h <;> subst h <;> simp only [Nat.reduceDiv, Nat.reduceMod, Nat.reduceMul, Nat.reducePow, List.getD_cons_zero, List.getD_cons_succ] <;> omega
def bl (X n : Nat) : List Nat := (List.range n).map fun i => X / 256 ^ i % 256
theorem bl_len (X n : Nat) : (bl X n).length = n := by simp [bl]
theorem bl_succ (X n : Nat) : bl X n ++ [X / 256 ^ n % 256] = bl X (n + 1) := by unfold bl; rw [List.range_succ, List.map_append]; rfl
theorem eqT {a b : Nat} (h : a = b) : realA.eq a b = true := show decide (a = b) = true from decide_eq_true h
theorem leT {a b : Nat} (h : a ≤ b) : realA.le a b = true := show decide (a ≤ b) = true from decide_eq_true h
theorem mulIg {a b : Int} (h : -9223372036854775808 ≤ a * b ∧ a * b < 9223372036854775808) : realA.ib .mul .i64 a b = a * b := wrap64 h
theorem bInner (n m i X x : Nat) (w : List Nat) (lg : Nat → List Nat → Int → Nat → List Nat → Option AV) (hi : i < 4) (hx : ∀ k, k < 8 → x / 2 ^ (8 * k) % 256 = X / 256 ^ (8 * i + k) % 256) :
    ∀ (r k : Nat), k + r = 8 → g33L7 realA n (fun v _ => some v) lg (m + r + 1) (8 * i + k) x w i k (8 * i + k) (bl X (8 * i + k)) = lg (8 * (i + 1)) w ((i + 1 : Nat) : Int) (8 * (i + 1)) (bl X (8 * (i + 1))) := by
  intro r
  induction r with
  | zero =>
    intro k hk
    have : k = 8 := by omega
    subst this
    have e1 : realA.ib .add .i64 (i : Int) 1 = ((i + 1 : Nat) : Int) := addN 1 (by omega)
    rw [g33L7, lssF (by omega)]
    simp only []
    rw [e1, show 8 * i + 8 = 8 * (i + 1) by omega]
  | succ r ih =>
    intro k hk
    have e1 : realA.ib .mul .i64 8 (k : Int) = ((8 * k : Nat) : Int) := by rw [mulIg (by omega)]; omega
    have e2 : realA.ib .add .i64 (k : Int) 1 = ((k + 1 : Nat) : Int) := addN 1 (by omega)
    have e3 : realA.n2n .u8 (realA.nsh .shr .u64 x (8 * k)) = X / 256 ^ (8 * i + k) % 256 := hx k (by omega)
    have e4 : ∀ y : Nat, [y].take 1 = [y] := fun y => rfl
    rw [show m + (r + 1) + 1 = (m + r + 1) + 1 from by omega, g33L7, lssT (show (k : Int) < 8 by omega)]
    simp only [g33J8, e1, negN, toNN, e3, e4, bl_succ, eqT (show 8 * i + k = 8 * i + k + 0 from rfl), bl_len, leT (show 8 * i + k + 1 ≤ 140737488355328 by omega), e2]
    exact ih (k + 1) (by omega)
theorem bOuter (N w0 w1 w2 w3 : Nat) (h0 : w0 < 18446744073709551616) (h1 : w1 < 18446744073709551616) (h2 : w2 < 18446744073709551616) (h3 : w3 < 18446744073709551616) : ∀ (r i m : Nat), i + r = 4 →
    g33L4 realA (N + 9) (fun v _ => some v) (m + r + 1) (8 * i) [w0, w1, w2, w3] i (8 * i) (bl (v64 w0 w1 w2 w3) (8 * i)) = some (.v (.cell (.str (bl (v64 w0 w1 w2 w3) 32)))) := by
  intro r
  induction r with
  | zero =>
    intro i m hi
    have : i = 4 := by omega
    subst this
    rw [g33L4, lssF (by omega)]
    simp only []
    rw [List.take_of_length_le (by rw [bl_len]; omega)]
  | succ r ih =>
    intro i m hi
    rw [show m + (r + 1) + 1 = (m + r + 1) + 1 from by omega, g33L4, lssT (show (i : Int) < 4 by omega)]
    simp only [g33J5, negN, toNN, ltT (show i < 4 by omega)]
    have hx : ∀ k, k < 8 → [w0, w1, w2, w3].getD i 0 / 2 ^ (8 * k) % 256 = v64 w0 w1 w2 w3 / 256 ^ (8 * i + k) % 256 := by
      intro k hk
      have := byteW w0 w1 w2 w3 h0 h1 h2 h3 (8 * i + k) (by omega)
      rw [show (8 * i + k) / 8 = i by omega, show (8 * i + k) % 8 = k by omega] at this
      exact this
    exact (bInner (N + 9) N i (v64 w0 w1 w2 w3) ([w0, w1, w2, w3].getD i 0) [w0, w1, w2, w3] (g33L4 realA (N + 9) (fun v _ => some v) (m + r + 1)) (by omega) hx 8 0 rfl).trans (ih (i + 1) m (by omega))
theorem g33Shape (A : Ar) (n : Nat) (a l w : List Nat) (k1 : g62ok A a = true) (k2 : g62r0 A a = l) (k3 : g63ok A l = true) (k4 : g63r0 A l = w) (e1 : A.le 0 32 = true) (e2 : A.le 32 140737488355328 = true) :
    g33 A n (fun v _ => some v) a = g33L4 A n (fun v _ => some v) n 0 w 0 0 [] := by
  unfold g33
  rw [k1, k2, k3, k4, e1, e2]
  rfl
theorem bytesOk {a : List Nat} (ha : W4 a) : g33ok realA a = true ∧ g33r0 realA a = le32 (num a % PP) := by
  obtain ⟨k1, x1, y1⟩ := load4 ha
  obtain ⟨k4, y4⟩ := store5 x1
  rw [fm_congr y1] at y4
  obtain ⟨w0, w1, w2, w3, ew, h0, h1, h2, h3⟩ := fm_W4 (num a)
  have hv : v64 w0 w1 w2 w3 = num a % PP := by
    have := num_fm (num a)
    rw [ew] at this
    exact this
  have e : g33v realA a = some (.v (.cell (.str (le32 (num a % PP))))) := by
    refine (g33Shape realA 100000 a _ _ k1 rfl k4 y4 (leT (by decide)) (leT (by decide))).trans ?_
    rw [ew]
    have := bOuter 99991 w0 w1 w2 w3 h0 h1 h2 h3 4 0 99995 rfl
    rw [hv] at this
    exact this
  exact ⟨by unfold g33ok; rw [e]; rfl, by unfold g33r0; rw [e]; rfl⟩
theorem mInner (n m i : Nat) (s : List Nat) (hs : ∀ x ∈ s, x < 256) (hl : s.length = 32) (d : List Nat) (lg : List Nat → Int → List Nat → List Nat → Option AV) (hi : i < 4) :
    ∀ (r k : Nat) (w : List Nat), k + r = 8 → w.length = 4 → w.getD i 0 = leval ((s.drop (8 * i)).take k) →
      g60L8 realA n (fun v _ => some v) lg (m + r + 1) s i i k d w = lg s ((i + 1 : Nat) : Int) d (w.set i (leval ((s.drop (8 * i)).take 8))) := by
  intro r
  induction r with
  | zero =>
    intro k w hk hw hv
    have : k = 8 := by omega
    subst this
    have e1 : realA.ib .add .i64 (i : Int) 1 = ((i + 1 : Nat) : Int) := addN 1 (by omega)
    rw [g60L8, lssF (by omega)]
    simp only []
    rw [e1, ← hv]
    congr 1
    rw [List.getD_eq_getElem?_getD, List.getElem?_eq_getElem (by omega)]
    simp
  | succ r ih =>
    intro k w hk hw hv
    have e1 : realA.ib .mul .i64 8 (k : Int) = ((8 * k : Nat) : Int) := by rw [mulIg (by omega)]; omega
    have e1' : realA.ib .mul .i64 8 (i : Int) = ((8 * i : Nat) : Int) := by rw [mulIg (by omega)]; omega
    have e2 : realA.ib .add .i64 (k : Int) 1 = ((k + 1 : Nat) : Int) := addN 1 (by omega)
    have e3 : realA.ib .add .i64 ((8 * i : Nat) : Int) (k : Int) = ((8 * i + k : Nat) : Int) := addN k (by omega)
    have hb := getD_lt hs (8 * i + k)
    have hlt : leval ((s.drop (8 * i)).take k) < 256 ^ k := by
      have h := leval_lt (l := (s.drop (8 * i)).take k) (fun x hx => hs x (List.mem_of_mem_drop (List.mem_of_mem_take hx)))
      have hlen : ((s.drop (8 * i)).take k).length = k := by rw [List.length_take, List.length_drop]; omega
      rwa [hlen] at h
    have ht : (s.drop (8 * i)).take (k + 1) = (s.drop (8 * i)).take k ++ [s.getD (8 * i + k) 0] := by
      rw [List.take_add_one, List.getElem?_drop, List.getElem?_eq_getElem (by omega), List.getD_eq_getElem?_getD, List.getElem?_eq_getElem (by omega)]
      rfl
    have hnew : leval ((s.drop (8 * i)).take (k + 1)) = leval ((s.drop (8 * i)).take k) + 256 ^ k * s.getD (8 * i + k) 0 := by
      have hlen : ((s.drop (8 * i)).take k).length = k := by rw [List.length_take, List.length_drop]; omega
      rw [ht, leval_append, hlen]
      simp only [leval, Nat.mul_zero, Nat.add_zero]
    have e4 : realA.nb .or .u64 (w.getD i 0) (realA.nsh .shl .u64 (s.getD (8 * i + k) 0) (8 * k)) = leval ((s.drop (8 * i)).take (k + 1)) := by
      show (w.getD i 0) ||| (s.getD (8 * i + k) 0 * 2 ^ (8 * k) % 2 ^ 64) = _
      have hk7 : 2 ^ (8 * k) * 256 ≤ 2 ^ 64 := by
        rw [show (256 : Nat) = 2 ^ 8 from rfl, ← Nat.pow_add]
        exact Nat.pow_le_pow_right (by omega) (by omega)
      have hsm : s.getD (8 * i + k) 0 * 2 ^ (8 * k) < 2 ^ 64 := by
        refine Nat.lt_of_lt_of_le ?_ hk7
        rw [Nat.mul_comm]
        exact Nat.mul_lt_mul_of_pos_left hb (Nat.two_pow_pos _)
      rw [Nat.mod_eq_of_lt hsm, Nat.mul_comm, Nat.or_comm, hv, hnew, show (256 : Nat) ^ k = 2 ^ (8 * k) by rw [Nat.pow_mul]]
      rw [orlo (8 * k) _ _ (by rw [Nat.pow_mul]; exact hlt), Nat.add_comm]
    rw [show m + (r + 1) + 1 = (m + r + 1) + 1 from by omega, g60L8, lssT (show (k : Int) < 8 by omega)]
    simp only [g60J9, negN, toNN, e1, e1', e2, e3, ltT hi, ltT (show 8 * i + k < s.length by omega), e4]
    have := ih (k + 1) (w.set i (leval ((s.drop (8 * i)).take (k + 1)))) (by omega) (by simp [hw]) (by rw [getD_set_same _ _ _ (by omega)])
    rw [List.set_set] at this
    exact this
theorem chunk_lt (s : List Nat) (hs : ∀ x ∈ s, x < 256) (i : Nat) : leval ((s.drop (8 * i)).take 8) < 18446744073709551616 := by
  have h := leval_lt (l := (s.drop (8 * i)).take 8) (fun x hx => hs x (List.mem_of_mem_drop (List.mem_of_mem_take hx)))
  have h2 : 256 ^ ((s.drop (8 * i)).take 8).length ≤ 256 ^ 8 := Nat.pow_le_pow_right (by omega) (by rw [List.length_take]; omega)
  exact Nat.lt_of_lt_of_le h h2
theorem leval_split (s : List Nat) (k : Nat) (h : k ≤ s.length) : leval s = leval (s.take k) + 256 ^ k * leval (s.drop k) := by
  have e := leval_append (s.take k) (s.drop k)
  rw [List.take_append_drop, List.length_take, Nat.min_eq_left h] at e
  exact e
theorem chunks (s : List Nat) (hl : s.length = 32) : leval s = v64 (leval ((s.drop (8 * 0)).take 8)) (leval ((s.drop (8 * 1)).take 8)) (leval ((s.drop (8 * 2)).take 8)) (leval ((s.drop (8 * 3)).take 8)) := by
  have h0 := leval_split s 8 (by omega)
  have h1 := leval_split (s.drop 8) 8 (by rw [List.length_drop]; omega)
  have h2 := leval_split (s.drop 16) 8 (by rw [List.length_drop]; omega)
  have h3 := leval_split (s.drop 24) 8 (by rw [List.length_drop]; omega)
  rw [List.drop_drop] at h1 h2 h3
  have h4 : s.drop (24 + 8) = [] := List.drop_of_length_le (by omega)
  rw [h4] at h3
  simp only [Nat.reduceAdd, Nat.reducePow, Nat.reduceMul, List.drop_zero, leval] at *
  unfold v64
  omega
theorem mOuter (N : Nat) (s : List Nat) (hs : ∀ x ∈ s, x < 256) (hl : s.length = 32) (d : List Nat) (lg : List Nat → List Nat → Option AV) : ∀ (m i : Nat) (w : List Nat), i < 4 → w.length = 4 → w.getD i 0 = 0 →
    g60L5 realA (N + 9) (fun v _ => some v) (m + 1) s i d w = g60L5 realA (N + 9) (fun v _ => some v) m s ((i + 1 : Nat) : Int) d (w.set i (leval ((s.drop (8 * i)).take 8))) := by
  intro m i w hi hw hz
  rw [g60L5, lssT (show (i : Int) < 4 by omega)]
  simp only [g60J6]
  exact mInner (N + 9) N i s hs hl d (g60L5 realA (N + 9) (fun v _ => some v) m) hi 8 0 w rfl hw hz
theorem ofNat32 {n : Nat} (h : n = 32) : realA.ic .neq (realA.ofN n) 32 = false := by rw [h]; rfl
theorem ofNat32' {n : Nat} (h : n ≠ 32) : realA.ic .neq (realA.ofN n) 32 = true := by
  show (!(decide ((n : Int) = 32))) = true
  rw [decide_eq_false (by omega)]
  rfl
theorem j13 (n : Nat) (d : List Nat) {w : List Nat} (hw : W4 w) : g60J13 realA n (fun v _ => some v) d w = (match decide (num w < PP) with
    | true => some (.tup [.agg [.nums .u64 4 w], .cell (.bool true)])
    | false => some (.tup [.agg [.nums .u64 4 [0, 0, 0, 0]], .cell (.bool false)])) := by
  obtain ⟨k1, k2⟩ := rightOk hw
  unfold g60J13
  rw [k1, k2]
  cases decide (num w < PP) <;> rfl
theorem makeE {s : List Nat} (hs : ∀ x ∈ s, x < 256) (hl : s.length = 32) : g60v realA s = (match decide (leval s < PP) with
    | true => some (.tup [.agg [.nums .u64 4 (fe (leval s))], .cell (.bool true)])
    | false => some (.tup [.agg [.nums .u64 4 [0, 0, 0, 0]], .cell (.bool false)])) := by
  have c := chunks s hl
  have b0 := chunk_lt s hs 0
  have b1 := chunk_lt s hs 1
  have b2 := chunk_lt s hs 2
  have b3 := chunk_lt s hs 3
  have o0 := mOuter 99991 s hs hl [0, 0, 0, 0] (fun _ _ => none) 99999 0 [0, 0, 0, 0] (by decide) rfl rfl
  have o1 := mOuter 99991 s hs hl [0, 0, 0, 0] (fun _ _ => none) 99998 1 [leval ((s.drop (8 * 0)).take 8), 0, 0, 0] (by decide) rfl rfl
  have o2 := mOuter 99991 s hs hl [0, 0, 0, 0] (fun _ _ => none) 99997 2 [leval ((s.drop (8 * 0)).take 8), leval ((s.drop (8 * 1)).take 8), 0, 0] (by decide) rfl rfl
  have o3 := mOuter 99991 s hs hl [0, 0, 0, 0] (fun _ _ => none) 99996 3 [leval ((s.drop (8 * 0)).take 8), leval ((s.drop (8 * 1)).take 8), leval ((s.drop (8 * 2)).take 8), 0] (by decide) rfl rfl
  generalize leval ((s.drop (8 * 0)).take 8) = w0 at *
  generalize leval ((s.drop (8 * 1)).take 8) = w1 at *
  generalize leval ((s.drop (8 * 2)).take 8) = w2 at *
  generalize leval ((s.drop (8 * 3)).take 8) = w3 at *
  have hw : W4 [w0, w1, w2, w3] := ⟨w0, w1, w2, w3, rfl, b0, b1, b2, b3⟩
  have hn : num [w0, w1, w2, w3] = leval s := c.symm
  have hf : fe (leval s) = [w0, w1, w2, w3] := by rw [← hn]; exact fe_num hw
  have fin := j13 100000 [0, 0, 0, 0] hw
  rw [hn] at fin
  rw [hf, ← fin]
  unfold g60v
  have st : g60 realA 100000 (fun v _ => some v) s = g60L5 realA (99991 + 9) (fun v _ => some v) (99999 + 1) s ((0 : Nat) : Int) [0, 0, 0, 0] [0, 0, 0, 0] := by
    unfold g60
    rw [ofNat32 hl]
    rfl
  refine st.trans (o0.trans (o1.trans (o2.trans (o3.trans ?_))))
  generalize 99991 = N
  rw [show (99996 : Nat) = 99995 + 1 from rfl]
  generalize 99995 = M
  rw [g60L5]
  rfl
theorem makeOk {s : List Nat} (hs : ∀ x ∈ s, x < 256) : g60ok realA s = true ∧ ((s.length = 32 ∧ leval s < PP ∧ g60r0 realA s = fe (leval s) ∧ g60r1 realA s = true) ∨ (¬ (s.length = 32 ∧ leval s < PP) ∧ g60r0 realA s = [0, 0, 0, 0] ∧ g60r1 realA s = false)) := by
  by_cases hl : s.length = 32
  · have e := makeE hs hl
    by_cases hv : leval s < PP
    · rw [decide_eq_true hv] at e
      exact ⟨by unfold g60ok; rw [e]; rfl, .inl ⟨hl, hv, by unfold g60r0; rw [e]; rfl, by unfold g60r1; rw [e]; rfl⟩⟩
    · rw [decide_eq_false hv] at e
      exact ⟨by unfold g60ok; rw [e]; rfl, .inr ⟨fun h => hv h.2, by unfold g60r0; rw [e]; rfl, by unfold g60r1; rw [e]; rfl⟩⟩
  · have e : g60v realA s = some (.tup [.agg [.nums .u64 4 [0, 0, 0, 0]], .cell (.bool false)]) := by
      unfold g60v
      generalize 100000 = n
      unfold g60
      rw [ofNat32' hl]
    exact ⟨by unfold g60ok; rw [e]; rfl, .inr ⟨fun h => hl h.1, by unfold g60r0; rw [e]; rfl, by unfold g60r1; rw [e]; rfl⟩⟩
end Go.Sx
namespace Go.Sx
def dv : List Nat → Nat
  | [] => 0
  | x :: r => x + 4294967296 * dv r
def DD : Nat := 4294967296
theorem dv_lt {l : List Nat} (h : ∀ x ∈ l, x < 4294967296) : dv l < DD ^ l.length := by
  induction l with
  | nil => simp [dv]
  | cons x r ih =>
    have h1 := ih fun y hy => h y (List.mem_cons_of_mem _ hy)
    have h2 := h x (List.mem_cons_self ..)
    simp only [dv, List.length_cons, Nat.pow_succ]
    unfold DD at *
    omega
theorem dv_append (a b : List Nat) : dv (a ++ b) = dv a + DD ^ a.length * dv b := by
  induction a with
  | nil => simp [dv]
  | cons x r ih =>
    simp only [List.cons_append, dv, ih, List.length_cons, Nat.pow_succ, DD]
    grind
theorem dv_split (l : List Nat) (k : Nat) (h : k ≤ l.length) : dv l = dv (l.take k) + DD ^ k * dv (l.drop k) := by
  have e := dv_append (l.take k) (l.drop k)
  rw [List.take_append_drop, List.length_take, Nat.min_eq_left h] at e
  exact e
theorem dv_take_succ (l : List Nat) (k : Nat) (h : k < l.length) : dv (l.take (k + 1)) = dv (l.take k) + DD ^ k * l.getD k 0 := by
  have : l.take (k + 1) = l.take k ++ [l.getD k 0] := by
    rw [List.take_add_one, List.getD_eq_getElem?_getD, List.getElem?_eq_getElem h]
    rfl
  rw [this, dv_append, List.length_take, Nat.min_eq_left (by omega)]
  simp only [dv, Nat.mul_zero, Nat.add_zero]
theorem dv_drop (l : List Nat) (k : Nat) (h : k < l.length) : dv (l.drop k) = l.getD k 0 + 4294967296 * dv (l.drop (k + 1)) := by
  rw [List.drop_eq_getElem_cons h, dv, List.getD_eq_getElem?_getD, List.getElem?_eq_getElem h]
  rfl
theorem dv_set : ∀ (l : List Nat) (j y : Nat), j < l.length → dv (l.set j y) + DD ^ j * l.getD j 0 = dv l + DD ^ j * y := by
  intro l
  induction l with
  | nil => intro j y h; simp at h
  | cons x r ih =>
    intro j y h
    cases j with
    | zero => simp [dv]; omega
    | succ j =>
      have := ih j y (by simpa using h)
      simp only [List.set_cons_succ, dv, List.getD_cons_succ, Nat.pow_succ, DD] at this ⊢
      grind
theorem take_set_same (l : List Nat) (i y : Nat) : (l.set i y).take i = l.take i := List.take_set_of_le (Nat.le_refl i)
theorem dv_take_set (l : List Nat) (i y : Nat) (h : i < l.length) : dv ((l.set i y).take (i + 1)) = dv (l.take i) + DD ^ i * y := by
  rw [dv_take_succ _ _ (by simpa using h), take_set_same, List.getD_eq_getElem?_getD, List.getElem?_set_self h]
  rfl
theorem getD_ltD {l : List Nat} (h : ∀ x ∈ l, x < 4294967296) (j : Nat) : l.getD j 0 < 4294967296 := by
  by_cases hj : j < l.length
  · rw [List.getD_eq_getElem?_getD, List.getElem?_eq_getElem hj]
    exact h _ (List.getElem_mem _)
  · rw [List.getD_eq_getElem?_getD, List.getElem?_eq_none (by omega)]
    exact Nat.zero_lt_succ _
theorem set_ltD {l : List Nat} (h : ∀ x ∈ l, x < 4294967296) {y : Nat} (hy : y < 4294967296) (j : Nat) : ∀ x ∈ l.set j y, x < 4294967296 := fun x hx => (List.mem_or_eq_of_mem_set hx).elim (h x) (fun e => e ▸ hy)
def N8 (l : List Nat) : Prop := l.length = 8 ∧ ∀ x ∈ l, x < 4294967296
theorem N8_lt {l : List Nat} (h : N8 l) : dv l < 115792089237316195423570985008687907853269984665640564039457584007913129639936 := by
  have := dv_lt h.2
  rw [h.1] at this
  exact this
theorem N8_zero : N8 [0, 0, 0, 0, 0, 0, 0, 0] := ⟨rfl, by decide⟩
end Go.Sx
namespace Go.Sx
theorem natadd {x y : Nat} (h : x + y < 18446744073709551616) : realA.nb .add .u64 x y = x + y := Nat.mod_eq_of_lt h
theorem natsub {x y : Nat} (hx : x < 18446744073709551616) (h : y ≤ x) : realA.nb .sub .u64 x y = x - y := by
  show (x + 18446744073709551616 - y) % 18446744073709551616 = _
  omega
theorem shr32 (x : Nat) : realA.nsh .shr .u64 x 32 = x / 4294967296 := rfl
theorem n32 (x : Nat) : realA.n2n .u32 x = x % 4294967296 := rfl
theorem nneqF {a b : Nat} (h : a = b) : realA.nc .neq a b = false := show (!(decide (a = b))) = false by rw [decide_eq_true h]; rfl
theorem nneqT {a b : Nat} (h : a ≠ b) : realA.nc .neq a b = true := show (!(decide (a = b))) = true by rw [decide_eq_false h]; rfl
theorem cmpHi {M x y p q : Nat} (hx : x < M) (h : p < q) : x + M * p < y + M * q := by
  have : M * (p + 1) ≤ M * q := Nat.mul_le_mul_left M h
  rw [Nat.mul_add, Nat.mul_one] at this
  omega
theorem lessLoop (n : Nat) (a b : List Nat) (ha : N8 a) (hb : N8 b) : ∀ (i m : Nat), i ≤ 8 → dv (a.drop i) = dv (b.drop i) →
    g79L2 realA n (fun v _ => some v) (m + i + 1) ((i : Int) - 1) a b = some (.v (.cell (.bool (decide (dv a < dv b))))) := by
  intro i
  induction i with
  | zero =>
    intro m _ h
    rw [List.drop_zero, List.drop_zero] at h
    rw [g79L2, geqF (by omega), decide_eq_false (by omega)]
  | succ i ih =>
    intro m hi h
    have hla := ha.1
    have hlb := hb.1
    have e1 : ((i + 1 : Nat) : Int) - 1 = (i : Int) := by omega
    rw [e1, show m + (i + 1) + 1 = (m + i + 1) + 1 from by omega, g79L2, geqT (by omega)]
    have sa := dv_split a i (by omega)
    have sb := dv_split b i (by omega)
    have da := dv_drop a i (by omega)
    have db := dv_drop b i (by omega)
    have la : dv (a.take i) < DD ^ i := by
      have := dv_lt (l := a.take i) (fun x hx => ha.2 x (List.mem_of_mem_take hx))
      rwa [List.length_take, Nat.min_eq_left (by omega)] at this
    have lb : dv (b.take i) < DD ^ i := by
      have := dv_lt (l := b.take i) (fun x hx => hb.2 x (List.mem_of_mem_take hx))
      rwa [List.length_take, Nat.min_eq_left (by omega)] at this
    by_cases he : a.getD i 0 = b.getD i 0
    · simp only [g79J4, negN, toNN, ltT (show i < 8 by omega), nneqF he]
      rw [subI (by omega)]
      exact ih m (by omega) (by rw [da, db, he, h])
    · simp only [g79J4, negN, toNN, ltT (show i < 8 by omega), nneqT he]
      have : realA.nc .lss (a.getD i 0) (b.getD i 0) = decide (dv a < dv b) := by
        show decide (a.getD i 0 < b.getD i 0) = _
        rw [decide_eq_decide, sa, sb, da, db, h]
        constructor
        · intro q
          exact cmpHi la (by omega)
        · intro q
          refine Classical.byContradiction fun hn => ?_
          have := cmpHi (y := dv (a.take i)) lb (show b.getD i 0 + 4294967296 * dv (b.drop (i + 1)) < a.getD i 0 + 4294967296 * dv (b.drop (i + 1)) by omega)
          omega
      rw [this]
theorem lessOk {a b : List Nat} (ha : N8 a) (hb : N8 b) : g79ok realA a b = true ∧ g79r0 realA a b = decide (dv a < dv b) := by
  have e : g79v realA a b = some (.v (.cell (.bool (decide (dv a < dv b))))) := by
    have h := lessLoop 100000 a b ha hb 8 99991 (Nat.le_refl 8) (by rw [List.drop_of_length_le (by rw [ha.1]; omega), List.drop_of_length_le (by rw [hb.1]; omega)])
    exact h
  exact ⟨by unfold g79ok; rw [e]; rfl, by unfold g79r0; rw [e]; rfl⟩
theorem minusLoop (n : Nat) (a b c : List Nat) (ha : N8 a) (hb : N8 b) : ∀ (r i m w : Nat) (o : List Nat), i + r = 8 → w ≤ 1 → N8 o → dv (o.take i) + dv (b.take i) = dv (a.take i) + DD ^ i * w - 0 →
    ∃ o' w', w' ≤ 1 ∧ N8 o' ∧ dv o' + dv b = dv a + DD ^ 8 * w' ∧ g70L4 realA n (fun v _ => some v) (m + r + 1) w i a b c o = some (.v (.agg [.nums .u32 8 o'])) := by
  intro r
  induction r with
  | zero =>
    intro i m w o hi hw ho h
    have : i = 8 := by omega
    subst this
    refine ⟨o, w, hw, ho, ?_, ?_⟩
    · rw [List.take_of_length_le (by rw [ho.1]; omega), List.take_of_length_le (by rw [hb.1]; omega), List.take_of_length_le (by rw [ha.1]; omega)] at h
      exact h
    · rw [g70L4, lssF (by omega)]
  | succ r ih =>
    intro i m w o hi hw ho h
    have xa := getD_ltD ha.2 i
    have xb := getD_ltD hb.2 i
    have e1 : realA.ib .add .i64 (i : Int) 1 = ((i + 1 : Nat) : Int) := addN 1 (by omega)
    have hlo := ho.1
    have hla := ha.1
    have hlb := hb.1
    have f1 : realA.nb .add .u64 (a.getD i 0) 4294967296 = a.getD i 0 + 4294967296 := natadd (by omega)
    have f2 : realA.nb .sub .u64 (a.getD i 0 + 4294967296) (b.getD i 0) = a.getD i 0 + 4294967296 - b.getD i 0 := natsub (by omega) (by omega)
    have f3 : realA.nb .sub .u64 (a.getD i 0 + 4294967296 - b.getD i 0) w = a.getD i 0 + 4294967296 - b.getD i 0 - w := natsub (by omega) (by omega)
    have f4 : realA.nb .sub .u64 1 ((a.getD i 0 + 4294967296 - b.getD i 0 - w) / 4294967296) = 1 - (a.getD i 0 + 4294967296 - b.getD i 0 - w) / 4294967296 := natsub (by omega) (by omega)
    have key : (a.getD i 0 + 4294967296 - b.getD i 0 - w) % 4294967296 + b.getD i 0 + w = a.getD i 0 + 4294967296 * (1 - (a.getD i 0 + 4294967296 - b.getD i 0 - w) / 4294967296) := by omega
    obtain ⟨o', w', g1, g2, g3, g4⟩ := ih (i + 1) m (1 - (a.getD i 0 + 4294967296 - b.getD i 0 - w) / 4294967296) (o.set i ((a.getD i 0 + 4294967296 - b.getD i 0 - w) % 4294967296)) (by omega) (by omega) ⟨by simp [hlo], set_ltD ho.2 (Nat.mod_lt _ (by decide)) i⟩ (by
      rw [dv_take_set _ _ _ (by omega), dv_take_succ a i (by omega), dv_take_succ b i (by omega)]
      generalize (a.getD i 0 + 4294967296 - b.getD i 0 - w) % 4294967296 = z at *
      generalize 1 - (a.getD i 0 + 4294967296 - b.getD i 0 - w) / 4294967296 = w2 at *
      simp only [Nat.pow_succ, Nat.sub_zero] at h ⊢
      generalize DD ^ i = M at *
      have k2 : M * z + M * b.getD i 0 + M * w = M * a.getD i 0 + M * 4294967296 * w2 := by
        rw [← Nat.mul_add, ← Nat.mul_add, key, Nat.mul_add, Nat.mul_assoc]
      show dv (o.take i) + M * z + (dv (b.take i) + M * b.getD i 0) = dv (a.take i) + M * a.getD i 0 + M * DD * w2
      unfold DD
      omega)
    refine ⟨o', w', g1, g2, g3, ?_⟩
    rw [show m + (r + 1) + 1 = (m + r + 1) + 1 from by omega, g70L4, lssT (by omega)]
    simp only [g70J6, negN, toNN, ltT (show i < 8 by omega), f1, f2, f3, shr32, n32, f4]
    rw [e1]
    exact g4
theorem minusOk {a b : List Nat} (ha : N8 a) (hb : N8 b) (hle : dv b ≤ dv a) : g70ok realA a b = true ∧ N8 (g70r0 realA a b) ∧ dv (g70r0 realA a b) + dv b = dv a := by
  obtain ⟨o, w, h1, h2, h3, h4⟩ := minusLoop 100000 a b [0, 0, 0, 0, 0, 0, 0, 0] ha hb 8 0 99991 0 [0, 0, 0, 0, 0, 0, 0, 0] rfl (by decide) N8_zero rfl
  have e : g70v realA a b = some (.v (.agg [.nums .u32 8 o])) := h4
  have r : g70r0 realA a b = o := by unfold g70r0; rw [e]; rfl
  refine ⟨by unfold g70ok; rw [e]; rfl, by rw [r]; exact h2, ?_⟩
  rw [r]
  have l1 := N8_lt h2
  have : w = 0 := by
    rcases Nat.eq_zero_or_pos w with q | q
    · exact q
    · have : w = 1 := by omega
      subst this
      have d8 : DD ^ 8 = 115792089237316195423570985008687907853269984665640564039457584007913129639936 := by decide
      rw [d8] at h3
      omega
  subst this
  rw [Nat.mul_zero, Nat.add_zero] at h3
  exact h3
theorem r45 : g71ok realA = true ∧ N8 (g71r0 realA) ∧ dv (g71r0 realA) = PP := by
  have e : g71v realA = some (.v (.agg [.nums .u32 8 [4294967277, 4294967295, 4294967295, 4294967295, 4294967295, 4294967295, 4294967295, 2147483647]])) := by kernel_rfl
  have r : g71r0 realA = [4294967277, 4294967295, 4294967295, 4294967295, 4294967295, 4294967295, 4294967295, 2147483647] := by unfold g71r0; rw [e]; rfl
  exact ⟨by unfold g71ok; rw [e]; rfl, by rw [r]; exact ⟨rfl, by decide⟩, by rw [r]; decide⟩
theorem belowT (A : Ar) (n m : Nat) (a p d : List Nat) (k1 : g71ok A = true) (k2 : g71r0 A = p) (k3 : g79ok A a p = true) (k4 : g79r0 A a p = true) : g69L1 A n (fun v _ => some v) (m + 1) a d = some (.v (.agg [.nums .u32 8 a])) := by
  rw [g69L1, k1, k2, k3, k4]
  rfl
theorem belowF (A : Ar) (n m : Nat) (a p q d : List Nat) (k1 : g71ok A = true) (k2 : g71r0 A = p) (k3 : g79ok A a p = true) (k4 : g79r0 A a p = false) (k5 : g70ok A a p = true) (k6 : g70r0 A a p = q) :
    g69L1 A n (fun v _ => some v) (m + 1) a d = g69L1 A n (fun v _ => some v) m q d := by
  rw [g69L1, k1, k2, k3, k4, k5, k6]
  rfl
theorem belowLoop (n : Nat) (d : List Nat) : ∀ (k m : Nat) (a : List Nat), N8 a → dv a < PP * (k + 1) → ∃ r, N8 r ∧ dv r = dv a % PP ∧ g69L1 realA n (fun v _ => some v) (m + k + 1) a d = some (.v (.agg [.nums .u32 8 r])) := by
  intro k
  induction k with
  | zero =>
    intro m a ha h
    obtain ⟨p1, p2, p3⟩ := r45
    obtain ⟨l1, l2⟩ := lessOk ha p2
    have hlt : dv a < PP := by rw [Nat.zero_add, Nat.mul_one] at h; exact h
    rw [p3, decide_eq_true hlt] at l2
    exact ⟨a, ha, (Nat.mod_eq_of_lt hlt).symm, belowT realA n m a _ d p1 rfl l1 l2⟩
  | succ k ih =>
    intro m a ha h
    obtain ⟨p1, p2, p3⟩ := r45
    obtain ⟨l1, l2⟩ := lessOk ha p2
    by_cases hlt : dv a < PP
    · rw [p3, decide_eq_true hlt] at l2
      exact ⟨a, ha, (Nat.mod_eq_of_lt hlt).symm, belowT realA n (m + (k + 1)) a _ d p1 rfl l1 l2⟩
    · rw [p3, decide_eq_false hlt] at l2
      obtain ⟨m1, m2, m3⟩ := minusOk ha p2 (by rw [p3]; omega)
      rw [p3] at m3
      obtain ⟨r, r1, r2, r3⟩ := ih m (g70r0 realA a (g71r0 realA)) m2 (by rw [Nat.mul_add, Nat.mul_one] at h; omega)
      refine ⟨r, r1, ?_, ?_⟩
      · rw [r2, ← m3, Nat.add_mod_right]
      · rw [show m + (k + 1) + 1 = (m + (k + 1)) + 1 from rfl]
        exact (belowF realA n (m + (k + 1)) a _ _ d p1 rfl l1 l2 m1 rfl).trans r3
theorem belowOk {a : List Nat} (ha : N8 a) : g69ok realA a = true ∧ N8 (g69r0 realA a) ∧ dv (g69r0 realA a) = dv a % PP := by
  obtain ⟨r, h1, h2, h3⟩ := belowLoop 100000 [0, 0, 0, 0, 0, 0, 0, 0] 2 99997 a ha (Nat.lt_of_lt_of_le (N8_lt ha) (by decide))
  have e : g69v realA a = some (.v (.agg [.nums .u32 8 r])) := h3
  have q : g69r0 realA a = r := by unfold g69r0; rw [e]; rfl
  exact ⟨by unfold g69ok; rw [e]; rfl, by rw [q]; exact h1, by rw [q]; exact h2⟩
theorem mulI {a b : Int} (h : -9223372036854775808 ≤ a * b ∧ a * b < 9223372036854775808) : realA.ib .mul .i64 a b = a * b := wrap64 h
theorem digStep (n m i : Nat) (a c d : List Nat) (hi : i < 4) (hd : d.length = 8) : g65L3 realA n (fun v _ => some v) (m + 1) i a c d = g65L3 realA n (fun v _ => some v) m ((i + 1 : Nat) : Int) a c ((d.set (2 * i) (a.getD i 0 % 4294967296)).set (2 * i + 1) (a.getD i 0 / 4294967296 % 4294967296)) := by
  have e1 : realA.ib .add .i64 (i : Int) 1 = ((i + 1 : Nat) : Int) := addN 1 (by omega)
  have e2 : realA.ib .mul .i64 2 (i : Int) = ((2 * i : Nat) : Int) := by rw [mulI (by omega)]; omega
  have e3 : realA.ib .add .i64 ((2 * i : Nat) : Int) 1 = ((2 * i + 1 : Nat) : Int) := addN 1 (by omega)
  rw [g65L3, lssT (by omega)]
  simp only [g65J5, negN, toNN, e2, e3, ltT hi, ltT (show 2 * i < 8 by omega), ltT (show 2 * i + 1 < 8 by omega), shr32, n32]
  rw [e1]
theorem digitsOk {a : List Nat} (ha : W4 a) : g65ok realA a = true ∧ N8 (g65r0 realA a) ∧ dv (g65r0 realA a) = num a % PP := by
  obtain ⟨a0, a1, a2, a3, rfl, h0, h1, h2, h3⟩ := ha
  have hN : N8 [a0 % 4294967296, a0 / 4294967296 % 4294967296, a1 % 4294967296, a1 / 4294967296 % 4294967296, a2 % 4294967296, a2 / 4294967296 % 4294967296, a3 % 4294967296, a3 / 4294967296 % 4294967296] := ⟨rfl, fun x hx => by
    simp only [List.mem_cons, List.not_mem_nil, or_false] at hx
    omega⟩
  obtain ⟨b1, b2, b3⟩ := belowOk hN
  have hv : dv [a0 % 4294967296, a0 / 4294967296 % 4294967296, a1 % 4294967296, a1 / 4294967296 % 4294967296, a2 % 4294967296, a2 / 4294967296 % 4294967296, a3 % 4294967296, a3 / 4294967296 % 4294967296] = num [a0, a1, a2, a3] := by
    show _ = v64 a0 a1 a2 a3
    simp only [dv]
    unfold v64
    omega
  rw [hv] at b3
  obtain ⟨m, hm⟩ : ∃ m, 99994 = m := ⟨_, rfl⟩
  have s0 := digStep (m + 6) (m + 5) 0 [a0, a1, a2, a3] [0, 0, 0, 0, 0, 0, 0, 0] [0, 0, 0, 0, 0, 0, 0, 0] (by decide) rfl
  have s1 := digStep (m + 6) (m + 4) 1 [a0, a1, a2, a3] [0, 0, 0, 0, 0, 0, 0, 0] [a0 % 4294967296, a0 / 4294967296 % 4294967296, 0, 0, 0, 0, 0, 0] (by decide) rfl
  have s2 := digStep (m + 6) (m + 3) 2 [a0, a1, a2, a3] [0, 0, 0, 0, 0, 0, 0, 0] [a0 % 4294967296, a0 / 4294967296 % 4294967296, a1 % 4294967296, a1 / 4294967296 % 4294967296, 0, 0, 0, 0] (by decide) rfl
  have s3 := digStep (m + 6) (m + 2) 3 [a0, a1, a2, a3] [0, 0, 0, 0, 0, 0, 0, 0] [a0 % 4294967296, a0 / 4294967296 % 4294967296, a1 % 4294967296, a1 / 4294967296 % 4294967296, a2 % 4294967296, a2 / 4294967296 % 4294967296, 0, 0] (by decide) rfl
  have s4 : g65L3 realA (m + 6) (fun v _ => some v) (m + 1 + 1) ((4 : Nat) : Int) [a0, a1, a2, a3] [0, 0, 0, 0, 0, 0, 0, 0] [a0 % 4294967296, a0 / 4294967296 % 4294967296, a1 % 4294967296, a1 / 4294967296 % 4294967296, a2 % 4294967296, a2 / 4294967296 % 4294967296, a3 % 4294967296, a3 / 4294967296 % 4294967296] = some (.v (.agg [.nums .u32 8 (g69r0 realA [a0 % 4294967296, a0 / 4294967296 % 4294967296, a1 % 4294967296, a1 / 4294967296 % 4294967296, a2 % 4294967296, a2 / 4294967296 % 4294967296, a3 % 4294967296, a3 / 4294967296 % 4294967296])])) := by
    rw [g65L3, lssF (by decide), b1]
  have e0 : g65 realA (m + 6) (fun v _ => some v) [a0, a1, a2, a3] = some (.v (.agg [.nums .u32 8 (g69r0 realA [a0 % 4294967296, a0 / 4294967296 % 4294967296, a1 % 4294967296, a1 / 4294967296 % 4294967296, a2 % 4294967296, a2 / 4294967296 % 4294967296, a3 % 4294967296, a3 / 4294967296 % 4294967296])])) :=
    Eq.trans (b := g65L3 realA (m + 6) (fun v _ => some v) (m + 5 + 1) ((0 : Nat) : Int) [a0, a1, a2, a3] [0, 0, 0, 0, 0, 0, 0, 0] [0, 0, 0, 0, 0, 0, 0, 0]) rfl (s0.trans (s1.trans (s2.trans (s3.trans s4))))
  have e : g65v realA [a0, a1, a2, a3] = _ := (show g65v realA [a0, a1, a2, a3] = g65 realA (m + 6) (fun v _ => some v) [a0, a1, a2, a3] by rw [← hm]; rfl).trans e0
  have q : g65r0 realA [a0, a1, a2, a3] = g69r0 realA [a0 % 4294967296, a0 / 4294967296 % 4294967296, a1 % 4294967296, a1 / 4294967296 % 4294967296, a2 % 4294967296, a2 / 4294967296 % 4294967296, a3 % 4294967296, a3 / 4294967296 % 4294967296] := by unfold g65r0; rw [e]; rfl
  exact ⟨by unfold g65ok; rw [e]; rfl, by rw [q]; exact b2, by rw [q]; exact b3⟩
theorem wordStep (n m i : Nat) (a c d : List Nat) (hi : i < 4) (ha : N8 a) : g64L3 realA n (fun v _ => some v) (m + 1) i a c d = g64L3 realA n (fun v _ => some v) m ((i + 1 : Nat) : Int) a c (d.set i (a.getD (2 * i) 0 + 4294967296 * a.getD (2 * i + 1) 0)) := by
  have e1 : realA.ib .add .i64 (i : Int) 1 = ((i + 1 : Nat) : Int) := addN 1 (by omega)
  have e2 : realA.ib .mul .i64 2 (i : Int) = ((2 * i : Nat) : Int) := by rw [mulI (by omega)]; omega
  have e3 : realA.ib .add .i64 ((2 * i : Nat) : Int) 1 = ((2 * i + 1 : Nat) : Int) := addN 1 (by omega)
  have x0 := getD_ltD ha.2 (2 * i)
  have x1 := getD_ltD ha.2 (2 * i + 1)
  have e4 : realA.nb .or .u64 (a.getD (2 * i) 0) (realA.nsh .shl .u64 (a.getD (2 * i + 1) 0) 32) = a.getD (2 * i) 0 + 4294967296 * a.getD (2 * i + 1) 0 := by
    show (a.getD (2 * i) 0) ||| (a.getD (2 * i + 1) 0 * 2 ^ 32 % 2 ^ 64) = _
    rw [Nat.mod_eq_of_lt (by omega), Nat.mul_comm (a.getD (2 * i + 1) 0), Nat.or_comm, orlo 32 _ _ (by omega), Nat.add_comm]
  rw [g64L3, lssT (by omega)]
  simp only [g64J5, negN, toNN, e2, e3, ltT hi, ltT (show 2 * i < 8 by omega), ltT (show 2 * i + 1 < 8 by omega), e4]
  rw [e1]
theorem wordsOk {a : List Nat} (ha : N8 a) : g64ok realA a = true ∧ g64r0 realA a = fe (dv a) := by
  have ha2 := ha
  obtain ⟨hl, hb⟩ := ha
  match a, hl with
  | [r0, r1, r2, r3, r4, r5, r6, r7], _ =>
    obtain ⟨m, hm⟩ : ∃ m, 99994 = m := ⟨_, rfl⟩
    have s0 := wordStep (m + 6) (m + 5) 0 [r0, r1, r2, r3, r4, r5, r6, r7] [0, 0, 0, 0] [0, 0, 0, 0] (by decide) ha2
    have s1 := wordStep (m + 6) (m + 4) 1 [r0, r1, r2, r3, r4, r5, r6, r7] [0, 0, 0, 0] [r0 + 4294967296 * r1, 0, 0, 0] (by decide) ha2
    have s2 := wordStep (m + 6) (m + 3) 2 [r0, r1, r2, r3, r4, r5, r6, r7] [0, 0, 0, 0] [r0 + 4294967296 * r1, r2 + 4294967296 * r3, 0, 0] (by decide) ha2
    have s3 := wordStep (m + 6) (m + 2) 3 [r0, r1, r2, r3, r4, r5, r6, r7] [0, 0, 0, 0] [r0 + 4294967296 * r1, r2 + 4294967296 * r3, r4 + 4294967296 * r5, 0] (by decide) ha2
    have b0 := hb r0 (by simp)
    have b1 := hb r1 (by simp)
    have b2 := hb r2 (by simp)
    have b3 := hb r3 (by simp)
    have b4 := hb r4 (by simp)
    have b5 := hb r5 (by simp)
    have b6 := hb r6 (by simp)
    have b7 := hb r7 (by simp)
    have hw : W4 [r0 + 4294967296 * r1, r2 + 4294967296 * r3, r4 + 4294967296 * r5, r6 + 4294967296 * r7] := ⟨_, _, _, _, rfl, by omega, by omega, by omega, by omega⟩
    have hn : num [r0 + 4294967296 * r1, r2 + 4294967296 * r3, r4 + 4294967296 * r5, r6 + 4294967296 * r7] = dv [r0, r1, r2, r3, r4, r5, r6, r7] := by
      show v64 (r0 + 4294967296 * r1) (r2 + 4294967296 * r3) (r4 + 4294967296 * r5) (r6 + 4294967296 * r7) = _
      simp only [dv]
      unfold v64
      omega
    have s4 : g64L3 realA (m + 6) (fun v _ => some v) (m + 1 + 1) ((4 : Nat) : Int) [r0, r1, r2, r3, r4, r5, r6, r7] [0, 0, 0, 0] [r0 + 4294967296 * r1, r2 + 4294967296 * r3, r4 + 4294967296 * r5, r6 + 4294967296 * r7] = some (.v (.agg [.nums .u64 4 [r0 + 4294967296 * r1, r2 + 4294967296 * r3, r4 + 4294967296 * r5, r6 + 4294967296 * r7]])) := by
      rw [g64L3, lssF (by decide)]
    have e0 : g64 realA (m + 6) (fun v _ => some v) [r0, r1, r2, r3, r4, r5, r6, r7] = some (.v (.agg [.nums .u64 4 (fe (dv [r0, r1, r2, r3, r4, r5, r6, r7]))])) := by
      rw [← hn, fe_num hw]
      exact Eq.trans (b := g64L3 realA (m + 6) (fun v _ => some v) (m + 5 + 1) ((0 : Nat) : Int) [r0, r1, r2, r3, r4, r5, r6, r7] [0, 0, 0, 0] [0, 0, 0, 0]) rfl (s0.trans (s1.trans (s2.trans (s3.trans s4))))
    have e : g64v realA [r0, r1, r2, r3, r4, r5, r6, r7] = _ := (show g64v realA [r0, r1, r2, r3, r4, r5, r6, r7] = g64 realA (m + 6) (fun v _ => some v) [r0, r1, r2, r3, r4, r5, r6, r7] by rw [← hm]; rfl).trans e0
    exact ⟨by unfold g64ok; rw [e]; rfl, by unfold g64r0; rw [e]; rfl⟩
end Go.Sx
namespace Go.Sx
theorem D8 : DD ^ 8 = 115792089237316195423570985008687907853269984665640564039457584007913129639936 := by decide
theorem sumLoop (n : Nat) (d x y : List Nat) (hx : N8 x) (hy : N8 y) : ∀ (r i m c : Nat) (o : List Nat), i + r = 8 → c ≤ 1 → N8 o → dv (o.take i) + DD ^ i * c = dv (x.take i) + dv (y.take i) →
    ∃ o' c', c' ≤ 1 ∧ N8 o' ∧ dv o' + DD ^ 8 * c' = dv x + dv y ∧ g67L6 realA n (fun v _ => some v) (m + r + 1) c i d x y o = g67L6 realA n (fun v _ => some v) (m + 1) c' ((8 : Nat) : Int) d x y o' := by
  intro r
  induction r with
  | zero =>
    intro i m c o hi hc ho h
    have : i = 8 := by omega
    subst this
    refine ⟨o, c, hc, ho, ?_, rfl⟩
    rw [List.take_of_length_le (by rw [ho.1]; omega), List.take_of_length_le (by rw [hx.1]; omega), List.take_of_length_le (by rw [hy.1]; omega)] at h
    exact h
  | succ r ih =>
    intro i m c o hi hc ho h
    have xa := getD_ltD hx.2 i
    have xb := getD_ltD hy.2 i
    have e1 : realA.ib .add .i64 (i : Int) 1 = ((i + 1 : Nat) : Int) := addN 1 (by omega)
    have hlo := ho.1
    have hla := hx.1
    have hlb := hy.1
    have f1 : realA.nb .add .u64 (x.getD i 0) (y.getD i 0) = x.getD i 0 + y.getD i 0 := natadd (by omega)
    have f2 : realA.nb .add .u64 (x.getD i 0 + y.getD i 0) c = x.getD i 0 + y.getD i 0 + c := natadd (by omega)
    have key : (x.getD i 0 + y.getD i 0 + c) % 4294967296 + 4294967296 * ((x.getD i 0 + y.getD i 0 + c) / 4294967296) = x.getD i 0 + y.getD i 0 + c := by omega
    obtain ⟨o', c', g1, g2, g3, g4⟩ := ih (i + 1) m ((x.getD i 0 + y.getD i 0 + c) / 4294967296) (o.set i ((x.getD i 0 + y.getD i 0 + c) % 4294967296)) (by omega) (by omega) ⟨by simp [hlo], set_ltD ho.2 (Nat.mod_lt _ (by decide)) i⟩ (by
      rw [dv_take_set _ _ _ (by omega), dv_take_succ x i (by omega), dv_take_succ y i (by omega)]
      generalize (x.getD i 0 + y.getD i 0 + c) % 4294967296 = z at *
      generalize (x.getD i 0 + y.getD i 0 + c) / 4294967296 = w2 at *
      rw [Nat.pow_succ]
      generalize DD ^ i = M at *
      have k2 : M * z + M * 4294967296 * w2 = M * x.getD i 0 + M * y.getD i 0 + M * c := by
        rw [← Nat.mul_add, ← Nat.mul_add, Nat.mul_assoc, ← Nat.mul_add, key]
      show dv (o.take i) + M * z + M * DD * w2 = dv (x.take i) + M * x.getD i 0 + (dv (y.take i) + M * y.getD i 0)
      unfold DD
      omega)
    refine ⟨o', c', g1, g2, g3, ?_⟩
    rw [show m + (r + 1) + 1 = (m + r + 1) + 1 from by omega, g67L6, lssT (by omega)]
    simp only [g67J8, negN, toNN, ltT (show i < 8 by omega), f1, f2, shr32, n32]
    rw [e1]
    exact g4
theorem g67Shape (A : Ar) (n : Nat) (a b x y : List Nat) (k1 : g65ok A a = true) (k2 : g65r0 A a = x) (k3 : g65ok A b = true) (k4 : g65r0 A b = y) : g67 A n (fun v _ => some v) a b = g67L6 A n (fun v _ => some v) n 0 0 [0, 0, 0, 0] x y [0, 0, 0, 0, 0, 0, 0, 0] := by
  unfold g67
  rw [k1, k2, k3, k4]
theorem g67End (A : Ar) (n m c : Nat) (d x y o r w : List Nat) (e : A.ic .lss ((8 : Nat) : Int) 8 = false) (k1 : g69ok A o = true) (k2 : g69r0 A o = r) (k3 : g64ok A r = true) (k4 : g64r0 A r = w) : g67L6 A n (fun v _ => some v) (m + 1) c ((8 : Nat) : Int) d x y o = some (.v (.agg [.nums .u64 4 w])) := by
  rw [g67L6, e, k1, k2, k3, k4]
theorem below_fe {o : List Nat} (ho : N8 o) : g69ok realA o = true ∧ g64ok realA (g69r0 realA o) = true ∧ g64r0 realA (g69r0 realA o) = fm (dv o) := by
  obtain ⟨b1, b2, b3⟩ := belowOk ho
  obtain ⟨w1, w2⟩ := wordsOk b2
  rw [b3] at w2
  exact ⟨b1, w1, w2⟩
theorem refAdd {a b : List Nat} (ha : W4 a) (hb : W4 b) : g67ok realA a b = true ∧ g67r0 realA a b = fm (num a + num b) := by
  obtain ⟨d1, d2, d3⟩ := digitsOk ha
  obtain ⟨e1, e2, e3⟩ := digitsOk hb
  obtain ⟨o, c, h1, h2, h3, h4⟩ := sumLoop 100000 [0, 0, 0, 0] _ _ d2 e2 8 0 99991 0 [0, 0, 0, 0, 0, 0, 0, 0] rfl (by decide) N8_zero rfl
  rw [d3, e3] at h3
  have hc : c = 0 := by
    have p1 := Nat.mod_lt (num a) PP_pos
    have p2 := Nat.mod_lt (num b) PP_pos
    rw [D8] at h3
    unfold PP at *
    omega
  subst hc
  rw [Nat.mul_zero, Nat.add_zero] at h3
  obtain ⟨b1, w1, w2⟩ := below_fe h2
  have hv : fm (dv o) = fm (num a + num b) := fm_congr (by rw [h3, ← Nat.add_mod])
  rw [hv] at w2
  have e : g67v realA a b = some (.v (.agg [.nums .u64 4 (fm (num a + num b))])) :=
    (g67Shape realA 100000 a b _ _ d1 rfl e1 rfl).trans (h4.trans (g67End realA 100000 99991 0 _ _ _ _ _ _ rfl b1 rfl w1 w2))
  exact ⟨by unfold g67ok; rw [e]; rfl, by unfold g67r0; rw [e]; rfl⟩
theorem g44Shape (A : Ar) (n : Nat) (a p x z r w : List Nat) (k0 : g71ok A = true) (k0' : g71r0 A = p) (k1 : g65ok A a = true) (k2 : g65r0 A a = x) (k3 : g70ok A p x = true) (k4 : g70r0 A p x = z) (k5 : g69ok A z = true) (k6 : g69r0 A z = r) (k7 : g64ok A r = true) (k8 : g64r0 A r = w) :
    g44 A n (fun v _ => some v) a = some (.v (.agg [.nums .u64 4 w])) := by
  unfold g44
  rw [k0, k0', k1, k2, k3, k4, k5, k6, k7, k8]
theorem refNeg {a : List Nat} (ha : W4 a) : ∃ x, g44ok realA a = true ∧ g44r0 realA a = fm x ∧ (x + num a) % PP = 0 := by
  obtain ⟨p1, p2, p3⟩ := r45
  obtain ⟨d1, d2, d3⟩ := digitsOk ha
  have hm := Nat.mod_lt (num a) PP_pos
  obtain ⟨m1, m2, m3⟩ := minusOk p2 d2 (by rw [p3, d3]; omega)
  rw [p3, d3] at m3
  obtain ⟨b1, w1, w2⟩ := below_fe m2
  have e : g44v realA a = some (.v (.agg [.nums .u64 4 (fm (dv (g70r0 realA (g71r0 realA) (g65r0 realA a))))])) := g44Shape realA 100000 a _ _ _ _ _ p1 rfl d1 rfl m1 rfl b1 rfl w1 w2
  refine ⟨dv (g70r0 realA (g71r0 realA) (g65r0 realA a)), by unfold g44ok; rw [e]; rfl, by unfold g44r0; rw [e]; rfl, ?_⟩
  rw [← Nat.add_mod_mod, m3, Nat.mod_self]
theorem g68Shape (A : Ar) (n : Nat) (a b y w : List Nat) (k1 : g44ok A b = true) (k2 : g44r0 A b = y) (k3 : g67ok A a y = true) (k4 : g67r0 A a y = w) : g68 A n (fun v _ => some v) a b = some (.v (.agg [.nums .u64 4 w])) := by
  unfold g68
  rw [k1, k2, k3, k4]
theorem refSub {a b : List Nat} (ha : W4 a) (hb : W4 b) : ∃ x, g68ok realA a b = true ∧ g68r0 realA a b = fm x ∧ (x + num b) % PP = num a % PP := by
  obtain ⟨x, n1, n2, n3⟩ := refNeg hb
  obtain ⟨a1, a2⟩ := refAdd ha (fm_W4 x)
  have e : g68v realA a b = some (.v (.agg [.nums .u64 4 (fm (num a + num (fm x)))])) := g68Shape realA 100000 a b _ _ n1 n2 a1 a2
  refine ⟨num a + num (fm x), by unfold g68ok; rw [e]; rfl, by unfold g68r0; rw [e]; rfl, ?_⟩
  rw [num_fm, Nat.add_assoc, Nat.add_mod, show (x % PP + num b) % PP = 0 by rw [Nat.mod_add_mod]; exact n3, Nat.add_zero, Nat.mod_mod]
-- the product
theorem maskD (x : Nat) : realA.nb .and .u64 x 4294967295 = x % 4294967296 := Nat.and_two_pow_sub_one_eq_mod x 32
def N16 (l : List Nat) : Prop := l.length = 16 ∧ ∀ x ∈ l, x < 4294967296
theorem rowLoop (n : Nat) (lg : Nat → Int → List Nat → List Nat → List Nat → Nat → List Nat → Option AV) (d x y : List Nat) (hx : N8 x) (hy : N8 y) (i : Nat) (hi : i < 8) : ∀ (r k m c : Nat) (l : List Nat), k + r = 8 → c < 4294967296 → N16 l → (∀ j, i + 8 ≤ j → l.getD j 0 = 0) →
    ∃ l', N16 l' ∧ (∀ j, i + 9 ≤ j → l'.getD j 0 = 0) ∧ dv l' = dv l + DD ^ (i + k) * (c + x.getD i 0 * dv (y.drop k)) ∧ g56L9 realA n (fun v _ => some v) lg (m + r + 1) 16 i c k d x y 16 l = lg 16 ((i + 1 : Nat) : Int) d x y 16 l' := by
  intro r
  induction r with
  | zero =>
    intro k m c l hk hc hl hz
    have : k = 8 := by omega
    subst this
    have e1 : realA.ib .add .i64 (i : Int) 1 = ((i + 1 : Nat) : Int) := addN 1 (by omega)
    have e2 : realA.ib .add .i64 (i : Int) 8 = ((i + 8 : Nat) : Int) := addN 8 (by omega)
    have hll := hl.1
    refine ⟨l.set (i + 8) c, ⟨by simp [hll], set_ltD hl.2 hc _⟩, fun j hj => ?_, ?_, ?_⟩
    · rw [getD_set_other _ _ _ _ (by omega)]
      exact hz j (by omega)
    · have := dv_set l (i + 8) c (by omega)
      rw [hz (i + 8) (Nat.le_refl _), Nat.mul_zero, Nat.add_zero] at this
      rw [this, List.drop_of_length_le (by rw [hy.1]; omega)]
      simp only [dv, Nat.mul_zero, Nat.add_zero]
    · rw [g56L9, lssF (by omega)]
      simp only [g56J14, e2, negN, toNN, ltT (show i + 8 < 16 by omega)]
      rw [e1]
  | succ r ih =>
    intro k m c l hk hc hl hz
    have e1 : realA.ib .add .i64 (k : Int) 1 = ((k + 1 : Nat) : Int) := addN 1 (by omega)
    have e2 : realA.ib .add .i64 (i : Int) (k : Int) = ((i + k : Nat) : Int) := addN k (by omega)
    have hll := hl.1
    have hyl := hy.1
    have xa := getD_ltD hx.2 i
    have xb := getD_ltD hy.2 k
    have xc := getD_ltD hl.2 (i + k)
    have hp : x.getD i 0 * y.getD k 0 ≤ 4294967295 * 4294967295 := mulB (by omega) (by omega)
    have f1 : realA.nb .mul .u64 (x.getD i 0) (y.getD k 0) = x.getD i 0 * y.getD k 0 := nmul (by omega)
    have f2 : realA.nb .add .u64 (l.getD (i + k) 0) (x.getD i 0 * y.getD k 0) = l.getD (i + k) 0 + x.getD i 0 * y.getD k 0 := natadd (by omega)
    have f3 : realA.nb .add .u64 (l.getD (i + k) 0 + x.getD i 0 * y.getD k 0) c = l.getD (i + k) 0 + x.getD i 0 * y.getD k 0 + c := natadd (by omega)
    obtain ⟨l', g1, g2, g3, g4⟩ := ih (k + 1) m ((l.getD (i + k) 0 + x.getD i 0 * y.getD k 0 + c) / 4294967296) (l.set (i + k) ((l.getD (i + k) 0 + x.getD i 0 * y.getD k 0 + c) % 4294967296)) (by omega) (by omega) ⟨by simp [hll], set_ltD hl.2 (Nat.mod_lt _ (by decide)) _⟩ (fun j hj => by rw [getD_set_other _ _ _ _ (by omega)]; exact hz j hj)
    refine ⟨l', g1, g2, ?_, ?_⟩
    · have hs := dv_set l (i + k) ((l.getD (i + k) 0 + x.getD i 0 * y.getD k 0 + c) % 4294967296) (by omega)
      have key : (l.getD (i + k) 0 + x.getD i 0 * y.getD k 0 + c) % 4294967296 + 4294967296 * ((l.getD (i + k) 0 + x.getD i 0 * y.getD k 0 + c) / 4294967296) = l.getD (i + k) 0 + x.getD i 0 * y.getD k 0 + c := by omega
      rw [g3, dv_drop y k (by omega), show i + (k + 1) = (i + k) + 1 from by omega, Nat.pow_succ]
      generalize (l.getD (i + k) 0 + x.getD i 0 * y.getD k 0 + c) % 4294967296 = z at *
      generalize (l.getD (i + k) 0 + x.getD i 0 * y.getD k 0 + c) / 4294967296 = w at *
      generalize DD ^ (i + k) = M at *
      generalize dv (l.set (i + k) z) = V at *
      generalize l.getD (i + k) 0 = q at *
      generalize x.getD i 0 = xx at *
      generalize y.getD k 0 = yy at *
      generalize dv (y.drop (k + 1)) = Y at *
      generalize dv l = L at *
      show V + M * 4294967296 * (w + xx * Y) = L + M * (c + xx * (yy + 4294967296 * Y))
      clear g1 g2 g3 g4 f1 f2 f3 hp
      grind
    · rw [show m + (r + 1) + 1 = (m + r + 1) + 1 from by omega, g56L9, lssT (by omega)]
      simp only [g56J11, e2, negN, toNN, ltT (show i + k < 16 by omega), ltT hi, ltT (show k < 8 by omega), f1, f2, f3, shr32, maskD]
      rw [e1]
      exact g4
theorem rowsLoop (N : Nat) (d x y : List Nat) (hx : N8 x) (hy : N8 y) : ∀ (r i m : Nat) (l : List Nat), i + r = 8 → N16 l → (∀ j, i + 8 ≤ j → l.getD j 0 = 0) →
    ∃ l', N16 l' ∧ dv l' = dv l + DD ^ i * (dv (x.drop i) * dv y) ∧ g56L5 realA (N + 9) (fun v _ => some v) (m + r + 1) 16 i d x y 16 l = g56L5 realA (N + 9) (fun v _ => some v) (m + 1) 16 ((8 : Nat) : Int) d x y 16 l' := by
  intro r
  induction r with
  | zero =>
    intro i m l hi hl hz
    have : i = 8 := by omega
    subst this
    refine ⟨l, hl, ?_, rfl⟩
    rw [List.drop_of_length_le (by rw [hx.1]; omega)]
    simp only [dv, Nat.zero_mul, Nat.mul_zero, Nat.add_zero]
  | succ r ih =>
    intro i m l hi hl hz
    have hxl := hx.1
    obtain ⟨l1, a1, a2, a3, a4⟩ := rowLoop (N + 9) (g56L5 realA (N + 9) (fun v _ => some v) (m + r + 1)) d x y hx hy i (by omega) 8 0 N 0 l rfl (by decide) hl hz
    obtain ⟨l2, b1, b2, b3⟩ := ih (i + 1) m l1 (by omega) a1 (fun j hj => a2 j (by omega))
    refine ⟨l2, b1, ?_, ?_⟩
    · rw [b2, a3, dv_drop x i (by omega), Nat.pow_succ, Nat.add_zero, List.drop_zero, Nat.zero_add]
      show dv l + DD ^ i * (x.getD i 0 * dv y) + DD ^ i * 4294967296 * (dv (x.drop (i + 1)) * dv y) = _
      generalize DD ^ i = M at *
      generalize x.getD i 0 = xx at *
      generalize dv (x.drop (i + 1)) = X at *
      generalize dv y = Y at *
      clear a1 a2 a3 a4 b1 b2 b3
      grind
    · rw [show m + (r + 1) + 1 = (m + r + 1) + 1 from by omega, g56L5, lssT (by omega)]
      simp only [g56J7]
      exact a4.trans b3
-- folding
theorem fold1 (n : Nat) (c d : List Nat) (l : List Nat) (hl : N16 l) : ∀ (r i m w : Nat) (o : List Nat), i + r = 8 → w < 100 → N8 o → dv (o.take i) + DD ^ i * w = dv (l.take i) + 38 * dv ((l.drop 8).take i) →
    ∃ o' w', w' < 100 ∧ N8 o' ∧ dv o' + DD ^ 8 * w' = dv (l.take 8) + 38 * dv (l.drop 8) ∧ g75L4 realA n (outH [0] none) (m + r + 1) 16 w i 16 l d o = g75L4 realA n (outH [0] none) (m + 1) 16 w' ((8 : Nat) : Int) 16 l d o' := by
  intro r
  induction r with
  | zero =>
    intro i m w o hi hw ho h
    have : i = 8 := by omega
    subst this
    refine ⟨o, w, hw, ho, ?_, rfl⟩
    rw [List.take_of_length_le (by rw [ho.1]; omega), List.take_of_length_le (l := l.drop 8) (by rw [List.length_drop, hl.1]; omega)] at h
    exact h
  | succ r ih =>
    intro i m w o hi hw ho h
    have hll := hl.1
    have hol := ho.1
    have xa := getD_ltD hl.2 i
    have xb := getD_ltD hl.2 (i + 8)
    have e1 : realA.ib .add .i64 (i : Int) 1 = ((i + 1 : Nat) : Int) := addN 1 (by omega)
    have e2 : realA.ib .add .i64 (i : Int) 8 = ((i + 8 : Nat) : Int) := addN 8 (by omega)
    have f1 : realA.nb .mul .u64 38 (l.getD (i + 8) 0) = 38 * l.getD (i + 8) 0 := nmul (by omega)
    have f2 : realA.nb .add .u64 (l.getD i 0) (38 * l.getD (i + 8) 0) = l.getD i 0 + 38 * l.getD (i + 8) 0 := natadd (by omega)
    have f3 : realA.nb .add .u64 (l.getD i 0 + 38 * l.getD (i + 8) 0) w = l.getD i 0 + 38 * l.getD (i + 8) 0 + w := natadd (by omega)
    have key : (l.getD i 0 + 38 * l.getD (i + 8) 0 + w) % 4294967296 + 4294967296 * ((l.getD i 0 + 38 * l.getD (i + 8) 0 + w) / 4294967296) = l.getD i 0 + 38 * l.getD (i + 8) 0 + w := by omega
    have hd : (l.drop 8).getD i 0 = l.getD (i + 8) 0 := by
      rw [List.getD_eq_getElem?_getD, List.getElem?_drop, Nat.add_comm, ← List.getD_eq_getElem?_getD]
    obtain ⟨o', w', g1, g2, g3, g4⟩ := ih (i + 1) m ((l.getD i 0 + 38 * l.getD (i + 8) 0 + w) / 4294967296) (o.set i ((l.getD i 0 + 38 * l.getD (i + 8) 0 + w) % 4294967296)) (by omega) (by omega) ⟨by simp [hol], set_ltD ho.2 (Nat.mod_lt _ (by decide)) i⟩ (by
      rw [dv_take_set _ _ _ (by omega), dv_take_succ l i (by omega), dv_take_succ (l.drop 8) i (by rw [List.length_drop]; omega), hd, Nat.pow_succ]
      generalize (l.getD i 0 + 38 * l.getD (i + 8) 0 + w) % 4294967296 = z at *
      generalize (l.getD i 0 + 38 * l.getD (i + 8) 0 + w) / 4294967296 = w2 at *
      generalize DD ^ i = M at *
      generalize l.getD i 0 = p at *
      generalize l.getD (i + 8) 0 = q at *
      show dv (o.take i) + M * z + M * 4294967296 * w2 = dv (l.take i) + M * p + 38 * (dv ((l.drop 8).take i) + M * q)
      clear ih f1 f2 f3 hd
      grind)
    refine ⟨o', w', g1, g2, g3, ?_⟩
    rw [show m + (r + 1) + 1 = (m + r + 1) + 1 from by omega, g75L4, lssT (by omega)]
    simp only [g75J6, negN, toNN, e2, ltT (show i < 16 by omega), ltT (show i + 8 < 16 by omega), ltT (show i < 8 by omega), f1, f2, f3, shr32, n32]
    rw [e1]
    exact g4
end Go.Sx
namespace Go.Sx
theorem ngtrF : realA.nc .gtr 0 0 = false := rfl
theorem ngtrT {a : Nat} (h : 0 < a) : realA.nc .gtr a 0 = true := decide_eq_true h
theorem fold2 (n : Nat) (lg : Nat → Nat → List Nat → List Nat → List Nat → Option (AV × Heap)) (V q : Nat) (l d : List Nat) : ∀ (r i m w : Nat) (o : List Nat), i + r = 8 → w < 4294967296 → N8 o → dv o + DD ^ i * w = V →
    ∃ o' w', N8 o' ∧ dv o' + DD ^ 8 * w' = V ∧ g75L13 realA n (outH [0] none) lg (m + r + 1) w i q l d o = lg w' q l d o' := by
  intro r
  induction r with
  | zero =>
    intro i m w o hi hw ho h
    have : i = 8 := by omega
    subst this
    exact ⟨o, w, ho, h, by rw [g75L13, lssF (by omega)]⟩
  | succ r ih =>
    intro i m w o hi hw ho h
    have hol := ho.1
    have xa := getD_ltD ho.2 i
    have e1 : realA.ib .add .i64 (i : Int) 1 = ((i + 1 : Nat) : Int) := addN 1 (by omega)
    have f1 : realA.nb .add .u64 w (o.getD i 0) = w + o.getD i 0 := natadd (by omega)
    have hs := dv_set o i ((w + o.getD i 0) % 4294967296) (by omega)
    have key : (w + o.getD i 0) % 4294967296 + 4294967296 * ((w + o.getD i 0) / 4294967296) = w + o.getD i 0 := by omega
    obtain ⟨o', w', g1, g2, g3⟩ := ih (i + 1) m ((w + o.getD i 0) / 4294967296) (o.set i ((w + o.getD i 0) % 4294967296)) (by omega) (by omega) ⟨by simp [hol], set_ltD ho.2 (Nat.mod_lt _ (by decide)) i⟩ (by
      rw [Nat.pow_succ]
      generalize (w + o.getD i 0) % 4294967296 = z at *
      generalize (w + o.getD i 0) / 4294967296 = w2 at *
      generalize DD ^ i = M at *
      generalize o.getD i 0 = p at *
      generalize dv (o.set i z) = S at *
      show S + M * 4294967296 * w2 = V
      clear ih f1 e1
      grind)
    refine ⟨o', w', g1, g2, ?_⟩
    rw [show m + (r + 1) + 1 = (m + r + 1) + 1 from by omega, g75L13, lssT (by omega)]
    simp only [g75J15, negN, toNN, ltT (show i < 8 by omega), f1, shr32, n32]
    rw [e1]
    exact g3
theorem fold3 (N m c q : Nat) (l d o : List Nat) (hc : 0 < c) (hc2 : c < 100) (ho : N8 o) :
    ∃ o' c', N8 o' ∧ dv o' + DD ^ 8 * c' = dv o + 38 * c ∧ g75L9 realA (N + 9) (outH [0] none) (m + 1) c q l d o = g75L9 realA (N + 9) (outH [0] none) m c' q l d o' := by
  have f1 : realA.nb .mul .u64 c 38 = 38 * c := by rw [nmul (by omega), Nat.mul_comm]
  obtain ⟨o', c', a1, a2, a3⟩ := fold2 (N + 9) (g75L9 realA (N + 9) (outH [0] none) m) (dv o + 38 * c) q l d 8 0 N (38 * c) o rfl (by omega) ho (by rw [Nat.pow_zero, Nat.one_mul])
  refine ⟨o', c', a1, a2, ?_⟩
  rw [g75L9, ngtrT hc]
  simp only [g75J10, f1]
  exact a3
theorem fold4 (n m q : Nat) (l d o : List Nat) (ho : N8 o) :
    g75L9 realA n (outH [0] none) (m + 1) 0 q l d o = some (.v (.agg [.nums .u32 8 (g69r0 realA o)]), [(0, ⟨[.nums .u64 q l], 22, 2⟩)]) := by
  obtain ⟨b1, b2, b3⟩ := belowOk ho
  rw [g75L9, ngtrF, b1]
  rfl
theorem D8PP (x y : Nat) : (x + DD ^ 8 * y) % PP = (x + 38 * y) % PP := by
  have : DD ^ 8 = 2 * PP + 38 := by decide
  rw [this, Nat.add_mul, ← Nat.add_assoc, Nat.add_right_comm, Nat.mul_comm 2, Nat.mul_assoc, Nat.add_mul_mod_self_left]
theorem fold5 (N m c q : Nat) (l d o : List Nat) (hc2 : c < 100) (ho : N8 o) :
    ∃ o', N8 o' ∧ dv o' % PP = (dv o + DD ^ 8 * c) % PP ∧ g75L9 realA (N + 9) (outH [0] none) (m + 3) c q l d o = some (.v (.agg [.nums .u32 8 (g69r0 realA o')]), [(0, ⟨[.nums .u64 q l], 22, 2⟩)]) := by
  have lo := N8_lt ho
  rcases Nat.eq_zero_or_pos c with h0 | h0
  · subst h0
    exact ⟨o, ho, by rw [Nat.mul_zero, Nat.add_zero], fold4 _ _ _ _ _ _ ho⟩
  · obtain ⟨o1, c1, a1, a2, a3⟩ := fold3 N (m + 2) c q l d o h0 hc2 ho
    have l1 := N8_lt a1
    rw [a3]
    have hv : (dv o + DD ^ 8 * c) % PP = (dv o1 + DD ^ 8 * c1) % PP := by rw [D8PP, ← a2]
    rcases Nat.eq_zero_or_pos c1 with h1 | h1
    · subst h1
      exact ⟨o1, a1, by rw [hv, Nat.mul_zero, Nat.add_zero], fold4 _ _ _ _ _ _ a1⟩
    · have hc1 : c1 = 1 := by
        rw [D8] at a2
        omega
      subst hc1
      obtain ⟨o2, c2, b1, b2, b3⟩ := fold3 N (m + 1) 1 q l d o1 (by decide) (by decide) a1
      have l2 := N8_lt b1
      have hc2' : c2 = 0 := by
        rw [D8] at a2 b2
        omega
      subst hc2'
      refine ⟨o2, b1, ?_, b3.trans (fold4 _ _ _ _ _ _ b1)⟩
      rw [hv, D8PP, ← b2, Nat.mul_zero, Nat.add_zero]
theorem foldOk {l : List Nat} (hl : N16 l) : g75ok realA 16 16 l = true ∧ N8 (g75r0 realA 16 16 l) ∧ dv (g75r0 realA 16 16 l) = dv l % PP := by
  obtain ⟨o, c, h1, h2, h3, h4⟩ := fold1 100000 [0, 0, 0, 0, 0, 0, 0, 0] [0, 0, 0, 0, 0, 0, 0, 0] l hl 8 0 99991 0 [0, 0, 0, 0, 0, 0, 0, 0] rfl (by decide) N8_zero rfl
  obtain ⟨o', k1, k2, k3⟩ := fold5 99991 99997 c 16 l [0, 0, 0, 0, 0, 0, 0, 0] o h1 h2
  obtain ⟨b1, b2, b3⟩ := belowOk k1
  have e : g75v realA 16 16 l = some (.v (.agg [.nums .u32 8 (g69r0 realA o')]), [(0, ⟨[.nums .u64 16 l], 22, 2⟩)]) := by
    have s0 : ∀ n, g75 realA n (outH [0] none) 16 16 l = g75L4 realA n (outH [0] none) n 16 0 0 16 l [0, 0, 0, 0, 0, 0, 0, 0] [0, 0, 0, 0, 0, 0, 0, 0] := fun _ => rfl
    have s1 : ∀ n m, g75L4 realA n (outH [0] none) (m + 1) 16 c ((8 : Nat) : Int) 16 l [0, 0, 0, 0, 0, 0, 0, 0] o = g75L9 realA n (outH [0] none) n c 16 l [0, 0, 0, 0, 0, 0, 0, 0] o := fun n m => by
      rw [g75L4, lssF (by decide)]
      rfl
    exact (s0 100000).trans (h4.trans ((s1 100000 99991).trans k3))
  have r : g75r0 realA 16 16 l = g69r0 realA o' := by unfold g75r0; rw [e]; rfl
  refine ⟨by unfold g75ok; rw [e]; rfl, by rw [r]; exact b2, ?_⟩
  rw [r, b3, k2, h3, ← D8PP, ← dv_split l 8 (by rw [hl.1]; decide)]
-- the product
theorem g56Start (A : Ar) (n : Nat) (a b x y : List Nat) (k1 : g65ok A a = true) (k2 : g65r0 A a = x) (k3 : g65ok A b = true) (k4 : g65r0 A b = y) (e1 : A.le 16 16 = true) (e2 : A.le 128 140737488355328 = true) : g56 A n (fun v _ => some v) a b = g56L5 A n (fun v _ => some v) n 16 0 [0, 0, 0, 0] x y 16 (List.replicate 16 0) := by
  unfold g56
  rw [k1, k2, k3, k4, e1, e2]
theorem g56End (A : Ar) (n m : Nat) (d x y l r w : List Nat) (e : A.ic .lss ((8 : Nat) : Int) 8 = false) (k1 : g75ok A 16 16 l = true) (k2 : g75r0 A 16 16 l = r) (k3 : g64ok A r = true) (k4 : g64r0 A r = w) : g56L5 A n (fun v _ => some v) (m + 1) 16 ((8 : Nat) : Int) d x y 16 l = some (.v (.agg [.nums .u64 4 w])) := by
  rw [g56L5, e, k1, k2, k3, k4]
theorem N16_zero : N16 (List.replicate 16 0) := ⟨by decide, by decide⟩
theorem getD_zero16 (j : Nat) : (List.replicate 16 0).getD j 0 = 0 := by
  rw [List.getD_eq_getElem?_getD, List.getElem?_replicate]
  split <;> rfl
theorem refMul {a b : List Nat} (ha : W4 a) (hb : W4 b) : g56ok realA a b = true ∧ g56r0 realA a b = fm (num a * num b) := by
  obtain ⟨d1, d2, d3⟩ := digitsOk ha
  obtain ⟨e1, e2, e3⟩ := digitsOk hb
  obtain ⟨l, h1, h2, h3⟩ := rowsLoop 99991 [0, 0, 0, 0] _ _ d2 e2 8 0 99991 (List.replicate 16 0) rfl N16_zero (fun j _ => getD_zero16 j)
  obtain ⟨b1, b2, b3⟩ := foldOk h1
  obtain ⟨w1, w2⟩ := wordsOk b2
  rw [b3] at w2
  have hv : fe (dv l % PP) = fm (num a * num b) := fm_congr (x := dv l) (by
    rw [h2, List.drop_zero, d3, e3, Nat.pow_zero, Nat.one_mul, show dv (List.replicate 16 0) = 0 by decide, Nat.zero_add, ← Nat.mul_mod])
  rw [hv] at w2
  have e : g56v realA a b = some (.v (.agg [.nums .u64 4 (fm (num a * num b))])) :=
    (g56Start realA 100000 a b _ _ d1 rfl e1 rfl rfl rfl).trans (h3.trans (g56End realA 100000 99991 _ _ _ _ _ _ rfl b1 rfl w1 w2))
  exact ⟨by unfold g56ok; rw [e]; rfl, by unfold g56r0; rw [e]; rfl⟩
end Go.Sx
namespace Go.Sx
-- right
theorem g49Shape (A : Ar) (n : Nat) (t : Bool) (a d w : List Nat) (h1 : g65ok A a = true) (h2 : g65r0 A a = d) (h3 : g64ok A d = true) (h4 : g64r0 A d = w) (h5 : A.lq w a = t) : g49 A n (fun v _ => some v) a = some (.v (.cell (.bool t))) := by
  unfold g49
  rw [h1, h2, h3, h4, h5, Bool.and_true]
theorem g49of {A : Ar} {a : List Nat} {t : Bool} (e : g49v A a = some (.v (.cell (.bool t)))) : g49ok A a = true ∧ g49r0 A a = t := ⟨by unfold g49ok; rw [e]; rfl, by unfold g49r0; rw [e]; rfl⟩
theorem refRight {a : List Nat} (ha : W4 a) : g49ok realA a = true ∧ g49r0 realA a = decide (num a < PP) := by
  obtain ⟨d1, d2, d3⟩ := digitsOk ha
  obtain ⟨w1, w2⟩ := wordsOk d2
  rw [d3] at w2
  refine g49of (g49Shape realA 100000 _ a _ _ d1 rfl w1 w2 ?_)
  have hm := Nat.mod_lt (num a) PP_pos
  rw [lqE, decide_eq_decide]
  constructor
  · intro h
    have := congrArg num h
    rw [num_fe (Nat.lt_trans hm (by decide))] at this
    rwa [← this]
  · intro h
    rw [Nat.mod_eq_of_lt h, fe_num ha]
-- odd
theorem g35Shape9 (A : Ar) (n : Nat) (t : Bool) (a d : List Nat) (h1 : g65ok A a = true) (h2 : g65r0 A a = d) (h3 : A.nc .eql (A.nb .rem .u32 (d.getD 0 0) 2) 1 = t) : g35 A n (fun v _ => some v) a = some (.v (.cell (.bool t))) := by
  unfold g35
  rw [h1, h2, h3]
theorem g35of {A : Ar} {a : List Nat} {t : Bool} (e : g35v A a = some (.v (.cell (.bool t)))) : g35ok A a = true ∧ g35r0 A a = t := ⟨by unfold g35ok; rw [e]; rfl, by unfold g35r0; rw [e]; rfl⟩
theorem refOdd {a : List Nat} (ha : W4 a) : g35ok realA a = true ∧ g35r0 realA a = decide (num a % PP % 2 = 1) := by
  obtain ⟨d1, d2, d3⟩ := digitsOk ha
  refine g35of (g35Shape9 realA 100000 _ a _ d1 rfl ?_)
  show decide ((g65r0 realA a).getD 0 0 % 2 = 1) = _
  have : (g65r0 realA a).getD 0 0 % 2 = dv (g65r0 realA a) % 2 := by
    have hl := d2.1
    cases h : g65r0 realA a with
    | nil => rw [h] at hl; simp at hl
    | cons x r => simp only [List.getD_cons_zero, dv]; omega
  rw [this, d3]
-- small
theorem ib8 {i : Nat} (hi : i < 32) : realA.ib .quo .i64 (i : Int) 8 = ((i / 8 : Nat) : Int) ∧ realA.ib .mul .i64 8 (realA.ib .rem .i64 (i : Int) 8) = ((8 * (i % 8) : Nat) : Int) := by
  constructor
  · show IntKind.wrap .i64 (Int.tdiv (i : Int) 8) = _
    rw [show Int.tdiv (i : Int) 8 = ((i / 8 : Nat) : Int) from rfl]
    exact wrap64 (by omega)
  · have : realA.ib .rem .i64 (i : Int) 8 = ((i % 8 : Nat) : Int) := by
      show (i : Int).tmod 8 = _
      rw [Int.tmod_eq_emod_of_nonneg (by omega)]
      omega
    rw [this, mulI (by omega)]
    omega
theorem refBytesLoop (n : Nat) (X : Nat) (w : List Nat) (hw : ∀ j, j < 32 → w.getD (j / 8) 0 / 2 ^ (8 * (j % 8)) % 256 = X / 256 ^ j % 256) : ∀ (r i m : Nat) (l : List Nat), i + r = 32 → l.length = 32 → l.take i = bl X i →
    g34L4 realA n (fun v _ => some v) (m + r + 1) 32 i w 32 l = some (.v (.cell (.str (bl X 32)))) := by
  intro r
  induction r with
  | zero =>
    intro i m l hi hl ht
    have : i = 32 := by omega
    subst this
    rw [g34L4, lssF (by omega), ht]
  | succ r ih =>
    intro i m l hi hl ht
    obtain ⟨q1, q2⟩ := ib8 (show i < 32 by omega)
    have e4 : realA.ib .add .i64 (i : Int) 1 = ((i + 1 : Nat) : Int) := addN 1 (by omega)
    have e5 : ∀ x y, realA.n2n .u8 (realA.nsh .shr .u64 x y) = x / 2 ^ y % 256 := fun x y => rfl
    rw [show m + (r + 1) + 1 = (m + r + 1) + 1 from by omega, g34L4, lssT (by omega)]
    simp only [g34J6, q1, q2, negN, toNN, e5, ltT (show i / 8 < 4 by omega), ltT (show i < 32 by omega), hw i (show i < 32 by omega)]
    rw [e4]
    refine ih (i + 1) m _ (by omega) (by simp [hl]) ?_
    rw [take_set _ _ _ (by omega), ht, bl_succ]
theorem g34Shape (A : Ar) (n : Nat) (a d w : List Nat) (h1 : g65ok A a = true) (h2 : g65r0 A a = d) (h3 : g64ok A d = true) (h4 : g64r0 A d = w) (e1 : A.le 32 32 = true) (e2 : A.le 32 140737488355328 = true) : g34 A n (fun v _ => some v) a = g34L4 A n (fun v _ => some v) n 32 0 w 32 (List.replicate 32 0) := by
  unfold g34
  rw [h1, h2, h3, h4, e1, e2]
theorem g34of {A : Ar} {a t : List Nat} (e : g34v A a = some (.v (.cell (.str t)))) : g34ok A a = true ∧ g34r0 A a = t := ⟨by unfold g34ok; rw [e]; rfl, by unfold g34r0; rw [e]; rfl⟩
theorem refBytes {a : List Nat} (ha : W4 a) : g34ok realA a = true ∧ g34r0 realA a = le32 (num a % PP) := by
  obtain ⟨d1, d2, d3⟩ := digitsOk ha
  obtain ⟨w1, w2⟩ := wordsOk d2
  rw [d3] at w2
  have hm := Nat.mod_lt (num a) PP_pos
  generalize num a % PP = X at *
  refine g34of ((g34Shape realA 100000 a _ _ d1 rfl w1 w2 rfl rfl).trans (refBytesLoop 100000 X (fe X) (fun j hj => ?_) 32 0 99967 (List.replicate 32 0) rfl (by decide) rfl))
  have hn := num_fe (x := X) (Nat.lt_trans hm (by decide))
  obtain ⟨w0, w1', w2', w3, hw, h0, h1, h2, h3⟩ := fe_W4 X
  rw [hw] at hn ⊢
  rw [byteW w0 w1' w2' w3 h0 h1 h2 h3 j hj]
  rw [show v64 w0 w1' w2' w3 = X from hn]
-- make
end Go.Sx
namespace Go.Sx
def Pr (n : Nat) : Prop := 1 < n ∧ ∀ a, ¬ n ∣ a → a ^ (n - 1) % n = 1
theorem mulM {n x x' y y' : Nat} (hx : x % n = x' % n) (hy : y % n = y' % n) : x * y % n = x' * y' % n := by rw [Nat.mul_mod, hx, hy, ← Nat.mul_mod]
theorem powM {n x x' : Nat} (hx : x % n = x' % n) (k : Nat) : x ^ k % n = x' ^ k % n := by rw [Nat.pow_mod, hx, ← Nat.pow_mod]
theorem pow1M {n g m : Nat} (h1 : 1 < n) (h : g ^ m % n = 1) (k : Nat) : g ^ (m * k) % n = 1 := by
  rw [Nat.pow_mul, powM (x' := 1) (by rw [h, Nat.mod_eq_of_lt h1]), Nat.one_pow, Nat.mod_eq_of_lt h1]
theorem gcdM {n g : Nat} (h1 : 1 < n) (a b : Nat) : g ^ a % n = 1 → g ^ b % n = 1 → g ^ (Nat.gcd a b) % n = 1 := by
  induction a, b using Nat.gcd.induction with
  | H0 b => intro _ h; rw [Nat.gcd_zero_left]; exact h
  | H1 a b hp ih =>
    intro h1a h1b
    rw [Nat.gcd_rec]
    refine ih ?_ h1a
    have e : g ^ b = g ^ (a * (b / a)) * g ^ (b % a) := by rw [← Nat.pow_add, Nat.div_add_mod]
    rw [e, mulM (x' := 1) (y' := g ^ (b % a)) (by rw [pow1M h1 h1a, Nat.mod_eq_of_lt h1]) rfl, Nat.one_mul] at h1b
    exact h1b
theorem euclid {n : Nat} (h : Pr n) {a b : Nat} (hd : n ∣ a * b) : n ∣ a ∨ n ∣ b := by
  refine Classical.byContradiction fun hn => ?_
  have ha : ¬ n ∣ a := fun x => hn (Or.inl x)
  have hb : ¬ n ∣ b := fun x => hn (Or.inr x)
  have h0 := h.1
  have fa := h.2 a ha
  apply hb
  have e : a ^ (n - 1) * b = a ^ (n - 2) * (a * b) := by
    rw [show n - 1 = (n - 2) + 1 by omega, Nat.pow_succ, Nat.mul_assoc]
  have e2 : a ^ (n - 1) * b % n = 0 := by
    rw [e]
    exact Nat.mod_eq_zero_of_dvd (Nat.dvd_trans hd (Nat.dvd_mul_left _ _))
  rw [mulM (x' := 1) (y' := b) (by rw [fa, Nat.mod_eq_of_lt h0]) rfl, Nat.one_mul] at e2
  exact Nat.dvd_of_mod_eq_zero e2
theorem factor : ∀ (qs : List Nat), (∀ q ∈ qs, Pr q) → ∀ e d : Nat, e * d = qs.foldr (· * ·) 1 → 1 < e → ∃ q ∈ qs, q ∣ e := by
  intro qs
  induction qs with
  | nil =>
    intro _ e d h h1
    have : e = 1 := Nat.eq_one_of_mul_eq_one_right h
    omega
  | cons q r ih =>
    intro hq e d h h1
    have hd : q ∣ e * d := by rw [h]; exact Nat.dvd_mul_right _ _
    rcases euclid (hq q (List.mem_cons_self ..)) hd with h2 | h2
    · exact ⟨q, List.mem_cons_self .., h2⟩
    · obtain ⟨d', rfl⟩ := h2
      have hq0 : 0 < q := Nat.lt_trans Nat.zero_lt_one (hq q (List.mem_cons_self ..)).1
      have : e * d' = r.foldr (· * ·) 1 := by
        apply Nat.eq_of_mul_eq_mul_left hq0
        rw [← Nat.mul_assoc, Nat.mul_comm q e, Nat.mul_assoc]
        exact h
      obtain ⟨p, h3, h4⟩ := ih (fun x hx => hq x (List.mem_cons_of_mem _ hx)) e d' this h1
      exact ⟨p, List.mem_cons_of_mem _ h3, h4⟩
theorem pigeon : ∀ (l l' : List Nat), l.Nodup → (∀ x ∈ l, x ∈ l') → l'.length ≤ l.length → ∀ x ∈ l', x ∈ l := by
  intro l
  induction l with
  | nil =>
    intro l' _ _ h x hx
    cases l' with
    | nil => exact hx
    | cons y r => simp at h
  | cons a t ih =>
    intro l' hn hs hl x hx
    by_cases hxa : x = a
    · rw [hxa]; exact List.mem_cons_self ..
    · have ha : a ∈ l' := hs a (List.mem_cons_self ..)
      have hn' := List.nodup_cons.1 hn
      have hle := List.length_erase_of_mem ha
      have hpos : 0 < l'.length := List.length_pos_of_mem ha
      refine List.mem_cons_of_mem _ (ih (l'.erase a) hn'.2 (fun y hy => ?_) (by simp only [List.length_cons] at hl; omega) x ((List.mem_erase_of_ne hxa).2 hx))
      have : y ≠ a := fun e => hn'.1 (e ▸ hy)
      exact (List.mem_erase_of_ne this).2 (hs y (List.mem_cons_of_mem _ hy))
theorem nodup_map_inj (f : Nat → Nat) : ∀ (l : List Nat), l.Nodup → (∀ x ∈ l, ∀ y ∈ l, f x = f y → x = y) → (l.map f).Nodup := by
  intro l
  induction l with
  | nil => intro _ _; exact List.nodup_nil
  | cons a t ih =>
    intro hn hf
    have hn' := List.nodup_cons.1 hn
    rw [List.map_cons, List.nodup_cons]
    refine ⟨fun h => ?_, ih hn'.2 fun x hx y hy => hf x (List.mem_cons_of_mem _ hx) y (List.mem_cons_of_mem _ hy)⟩
    obtain ⟨y, hy, e⟩ := List.mem_map.1 h
    have := hf y (List.mem_cons_of_mem _ hy) a (List.mem_cons_self ..) e
    exact hn'.1 (this ▸ hy)
theorem pratt (n g : Nat) (qs : List Nat) (hn : 1 < n) (hq : ∀ q ∈ qs, Pr q) (hp : qs.foldr (· * ·) 1 = n - 1) (h1 : g ^ (n - 1) % n = 1) (h2 : ∀ q ∈ qs, g ^ ((n - 1) / q) % n ≠ 1) : Pr n := by
  -- no power below n - 1 is 1
  have ord : ∀ m, 0 < m → m < n - 1 → g ^ m % n ≠ 1 := by
    intro m m0 m1 hm
    have hg := gcdM hn m (n - 1) hm h1
    obtain ⟨e, he⟩ : Nat.gcd m (n - 1) ∣ n - 1 := Nat.gcd_dvd_right ..
    have hle : Nat.gcd m (n - 1) ≤ m := Nat.gcd_le_left _ m0
    have e1 : 1 < e := by
      rcases Nat.lt_or_ge 1 e with h | h
      · exact h
      · have : Nat.gcd m (n - 1) * e ≤ m * 1 := Nat.mul_le_mul hle h
        omega
    obtain ⟨q, hq1, q', hq2⟩ := factor qs hq e (Nat.gcd m (n - 1)) (by rw [hp, Nat.mul_comm]; exact he.symm) e1
    have hq0 : 0 < q := Nat.lt_trans Nat.zero_lt_one (hq q hq1).1
    apply h2 q hq1
    have : (n - 1) / q = Nat.gcd m (n - 1) * q' := by
      have : n - 1 = q * (Nat.gcd m (n - 1) * q') := by
        rw [Nat.mul_left_comm, ← hq2]; exact he
      rw [congrArg (· / q) this]
      exact Nat.mul_div_cancel_left _ hq0
    rw [this]
    exact pow1M hn hg q'
  have inj : ∀ i j, i < j → j < n - 1 → g ^ i % n ≠ g ^ j % n := by
    intro i j hij hj he
    obtain ⟨t, ht⟩ : ∃ t, i + t = (n - 1) * i := ⟨(n - 1) * i - i, by
      have : 1 * i ≤ (n - 1) * i := Nat.mul_le_mul_right _ (by omega)
      omega⟩
    have u : g ^ i * g ^ t % n = 1 := by rw [← Nat.pow_add, ht]; exact pow1M hn h1 i
    have v : g ^ j * g ^ t % n = 1 := by rw [← mulM he rfl]; exact u
    have w : g ^ j * g ^ t = g ^ (j - i) * (g ^ i * g ^ t) := by
      have : g ^ j = g ^ (j - i) * g ^ i := by rw [← Nat.pow_add, show j - i + i = j by omega]
      rw [this, Nat.mul_assoc]
    rw [w, mulM (x' := g ^ (j - i)) (y' := 1) rfl (by rw [u, Nat.mod_eq_of_lt hn]), Nat.mul_one] at v
    exact ord (j - i) (by omega) (by omega) v
  have nz : ∀ i, 0 < g ^ i % n := by
    intro i
    refine Nat.pos_of_ne_zero fun h => ?_
    have hd : n ∣ g ^ i := Nat.dvd_of_mod_eq_zero h
    have h3 := pow1M hn h1 i
    have : g ^ i ∣ g ^ ((n - 1) * i) := Nat.pow_dvd_pow _ (by
      have : 1 * i ≤ (n - 1) * i := Nat.mul_le_mul_right _ (by omega)
      omega)
    rw [Nat.mod_eq_zero_of_dvd (Nat.dvd_trans hd this)] at h3
    exact absurd h3 (by decide)
  refine ⟨hn, fun a ha => ?_⟩
  have hm : a % n ∈ (List.range (n - 1)).map (fun i => g ^ i % n) := by
    refine pigeon _ (List.range' 1 (n - 1)) (nodup_map_inj _ _ List.nodup_range fun x hx y hy h => ?_) (fun x hx => ?_) (by simp) _ ?_
    · rw [List.mem_range] at hx hy
      rcases Nat.lt_trichotomy x y with h3 | h3 | h3
      · exact absurd h (inj x y h3 hy)
      · exact h3
      · exact absurd h.symm (inj y x h3 hx)
    · obtain ⟨i, _, rfl⟩ := List.mem_map.1 hx
      have := Nat.mod_lt (g ^ i) (show 0 < n by omega)
      have := nz i
      rw [List.mem_range'_1]
      omega
    · have h4 : a % n ≠ 0 := fun h => ha (Nat.dvd_of_mod_eq_zero h)
      have := Nat.mod_lt a (show 0 < n by omega)
      rw [List.mem_range'_1]
      omega
  obtain ⟨i, _, hi⟩ := List.mem_map.1 hm
  rw [← powM hi, ← Nat.pow_mul, Nat.mul_comm]
  exact pow1M hn h1 i
def pwm (n : Nat) : Nat → Nat → Nat → Nat → Nat
  | 0, _, _, acc => acc
  | f + 1, b, e, acc => match Nat.beq e 0 with
    | true => acc
    | false => match Nat.beq (e % 2) 1 with
      | true => pwm n f (b * b % n) (e / 2) (acc * b % n)
      | false => pwm n f (b * b % n) (e / 2) acc
theorem pwm_spec (n : Nat) : ∀ (f b e acc : Nat), e < 2 ^ f → pwm n f b e acc % n = acc * b ^ e % n := by
  intro f
  induction f with
  | zero =>
    intro b e acc h
    have : e = 0 := by rw [Nat.pow_zero] at h; omega
    subst this
    rw [pwm, Nat.pow_zero, Nat.mul_one]
  | succ f ih =>
    intro b e acc h
    rw [pwm]
    cases h0 : Nat.beq e 0 with
    | true =>
      have : e = 0 := Nat.eq_of_beq_eq_true h0
      subst this
      simp
    | false =>
      have hs : b ^ e = b ^ (e % 2) * (b * b) ^ (e / 2) := by
        rw [← Nat.pow_two, ← Nat.pow_mul, ← Nat.pow_add, Nat.mod_add_div]
      have he : e / 2 < 2 ^ f := by rw [Nat.pow_succ] at h; omega
      cases h1 : Nat.beq (e % 2) 1 with
      | true =>
        have : e % 2 = 1 := Nat.eq_of_beq_eq_true h1
        simp only []
        rw [ih _ _ _ he, hs, this, Nat.pow_one, ← Nat.mul_assoc]
        exact mulM (Nat.mod_mod _ _) (powM (Nat.mod_mod _ _) _)
      | false =>
        have : e % 2 = 0 := by
          have := Nat.ne_of_beq_eq_false h1
          omega
        simp only []
        rw [ih _ _ _ he, hs, this, Nat.pow_zero, Nat.one_mul]
        exact mulM rfl (powM (Nat.mod_mod _ _) _)
def step (n g : Nat) (qs : List Nat) : Bool := Nat.blt 1 n && Nat.blt (n - 1) (2 ^ 256) && Nat.beq (qs.foldr (· * ·) 1) (n - 1) && Nat.beq (pwm n 256 g (n - 1) 1 % n) 1 && qs.all fun q => Nat.blt ((n - 1) / q) (2 ^ 256) && !(Nat.beq (pwm n 256 g ((n - 1) / q) 1 % n) 1)
theorem step_pr (n g : Nat) (qs : List Nat) (hq : ∀ q ∈ qs, Pr q) (h : step n g qs = true) : Pr n := by
  unfold step at h
  simp only [Bool.and_eq_true, List.all_eq_true, Nat.blt_eq, Nat.beq_eq, Bool.not_eq_true'] at h
  obtain ⟨⟨⟨⟨a, b⟩, c⟩, d⟩, e⟩ := h
  refine pratt n g qs a hq c ?_ fun q hm => ?_
  · rw [pwm_spec n 256 _ _ _ b, Nat.one_mul] at d
    exact d
  · obtain ⟨e1, e2⟩ := e q hm
    rw [pwm_spec n 256 _ _ _ e1, Nat.one_mul] at e2
    intro h
    rw [h] at e2
    exact absurd e2 (by decide)
end Go.Sx
namespace Go.Sx
theorem pr_2 : Pr 2 := step_pr 2 1 [] (by intro q hq; cases hq) (by decide +kernel)
theorem pr_3 : Pr 3 := step_pr 3 2 [2] (by intro q hq; simp only [List.mem_cons, List.not_mem_nil, or_false] at hq; subst hq; exact pr_2) (by decide +kernel)
theorem pr_17 : Pr 17 := step_pr 17 3 [2, 2, 2, 2] (by intro q hq; simp only [List.mem_cons, List.not_mem_nil, or_false] at hq; rcases hq with rfl | rfl | rfl | rfl <;> first | exact pr_2) (by decide +kernel)
theorem pr_7 : Pr 7 := step_pr 7 3 [2, 3] (by intro q hq; simp only [List.mem_cons, List.not_mem_nil, or_false] at hq; rcases hq with rfl | rfl <;> first | exact pr_2 | exact pr_3) (by decide +kernel)
theorem pr_239 : Pr 239 := step_pr 239 7 [2, 7, 17] (by intro q hq; simp only [List.mem_cons, List.not_mem_nil, or_false] at hq; rcases hq with rfl | rfl | rfl <;> first | exact pr_2 | exact pr_7 | exact pr_17) (by decide +kernel)
theorem pr_479 : Pr 479 := step_pr 479 13 [2, 239] (by intro q hq; simp only [List.mem_cons, List.not_mem_nil, or_false] at hq; rcases hq with rfl | rfl <;> first | exact pr_2 | exact pr_239) (by decide +kernel)
theorem pr_32573 : Pr 32573 := step_pr 32573 2 [2, 2, 17, 479] (by intro q hq; simp only [List.mem_cons, List.not_mem_nil, or_false] at hq; rcases hq with rfl | rfl | rfl | rfl <;> first | exact pr_2 | exact pr_17 | exact pr_479) (by decide +kernel)
theorem pr_65147 : Pr 65147 := step_pr 65147 2 [2, 32573] (by intro q hq; simp only [List.mem_cons, List.not_mem_nil, or_false] at hq; rcases hq with rfl | rfl <;> first | exact pr_2 | exact pr_32573) (by decide +kernel)
theorem pr_5 : Pr 5 := step_pr 5 2 [2, 2] (by intro q hq; simp only [List.mem_cons, List.not_mem_nil, or_false] at hq; rcases hq with rfl | rfl <;> first | exact pr_2) (by decide +kernel)
theorem pr_11 : Pr 11 := step_pr 11 2 [2, 5] (by intro q hq; simp only [List.mem_cons, List.not_mem_nil, or_false] at hq; rcases hq with rfl | rfl <;> first | exact pr_2 | exact pr_5) (by decide +kernel)
theorem pr_353 : Pr 353 := step_pr 353 3 [2, 2, 2, 2, 2, 11] (by intro q hq; simp only [List.mem_cons, List.not_mem_nil, or_false] at hq; rcases hq with rfl | rfl | rfl | rfl | rfl | rfl <;> first | exact pr_2 | exact pr_11) (by decide +kernel)
theorem pr_29 : Pr 29 := step_pr 29 2 [2, 2, 7] (by intro q hq; simp only [List.mem_cons, List.not_mem_nil, or_false] at hq; rcases hq with rfl | rfl | rfl <;> first | exact pr_2 | exact pr_7) (by decide +kernel)
theorem pr_59 : Pr 59 := step_pr 59 2 [2, 29] (by intro q hq; simp only [List.mem_cons, List.not_mem_nil, or_false] at hq; rcases hq with rfl | rfl <;> first | exact pr_2 | exact pr_29) (by decide +kernel)
theorem pr_487 : Pr 487 := step_pr 487 3 [2, 3, 3, 3, 3, 3] (by intro q hq; simp only [List.mem_cons, List.not_mem_nil, or_false] at hq; rcases hq with rfl | rfl | rfl | rfl | rfl | rfl <;> first | exact pr_2 | exact pr_3) (by decide +kernel)
theorem pr_57467 : Pr 57467 := step_pr 57467 2 [2, 59, 487] (by intro q hq; simp only [List.mem_cons, List.not_mem_nil, or_false] at hq; rcases hq with rfl | rfl | rfl <;> first | exact pr_2 | exact pr_59 | exact pr_487) (by decide +kernel)
theorem pr_13 : Pr 13 := step_pr 13 2 [2, 2, 3] (by intro q hq; simp only [List.mem_cons, List.not_mem_nil, or_false] at hq; rcases hq with rfl | rfl | rfl <;> first | exact pr_2 | exact pr_3) (by decide +kernel)
theorem pr_131 : Pr 131 := step_pr 131 2 [2, 5, 13] (by intro q hq; simp only [List.mem_cons, List.not_mem_nil, or_false] at hq; rcases hq with rfl | rfl | rfl <;> first | exact pr_2 | exact pr_5 | exact pr_13) (by decide +kernel)
theorem pr_132049 : Pr 132049 := step_pr 132049 26 [2, 2, 2, 2, 3, 3, 7, 131] (by intro q hq; simp only [List.mem_cons, List.not_mem_nil, or_false] at hq; rcases hq with rfl | rfl | rfl | rfl | rfl | rfl | rfl | rfl <;> first | exact pr_2 | exact pr_3 | exact pr_7 | exact pr_131) (by decide +kernel)
theorem pr_43 : Pr 43 := step_pr 43 3 [2, 3, 7] (by intro q hq; simp only [List.mem_cons, List.not_mem_nil, or_false] at hq; rcases hq with rfl | rfl | rfl <;> first | exact pr_2 | exact pr_3 | exact pr_7) (by decide +kernel)
theorem pr_23 : Pr 23 := step_pr 23 5 [2, 11] (by intro q hq; simp only [List.mem_cons, List.not_mem_nil, or_false] at hq; rcases hq with rfl | rfl <;> first | exact pr_2 | exact pr_11) (by decide +kernel)
theorem pr_3727 : Pr 3727 := step_pr 3727 3 [2, 3, 3, 3, 3, 23] (by intro q hq; simp only [List.mem_cons, List.not_mem_nil, or_false] at hq; rcases hq with rfl | rfl | rfl | rfl | rfl | rfl <;> first | exact pr_2 | exact pr_3 | exact pr_23) (by decide +kernel)
theorem pr_1923133 : Pr 1923133 := step_pr 1923133 2 [2, 2, 3, 43, 3727] (by intro q hq; simp only [List.mem_cons, List.not_mem_nil, or_false] at hq; rcases hq with rfl | rfl | rfl | rfl | rfl <;> first | exact pr_2 | exact pr_3 | exact pr_43 | exact pr_3727) (by decide +kernel)
theorem pr_31 : Pr 31 := step_pr 31 3 [2, 3, 5] (by intro q hq; simp only [List.mem_cons, List.not_mem_nil, or_false] at hq; rcases hq with rfl | rfl | rfl <;> first | exact pr_2 | exact pr_3 | exact pr_5) (by decide +kernel)
theorem pr_53 : Pr 53 := step_pr 53 2 [2, 2, 13] (by intro q hq; simp only [List.mem_cons, List.not_mem_nil, or_false] at hq; rcases hq with rfl | rfl | rfl <;> first | exact pr_2 | exact pr_13) (by decide +kernel)
theorem pr_107 : Pr 107 := step_pr 107 2 [2, 53] (by intro q hq; simp only [List.mem_cons, List.not_mem_nil, or_false] at hq; rcases hq with rfl | rfl <;> first | exact pr_2 | exact pr_53) (by decide +kernel)
theorem pr_37 : Pr 37 := step_pr 37 2 [2, 2, 3, 3] (by intro q hq; simp only [List.mem_cons, List.not_mem_nil, or_false] at hq; rcases hq with rfl | rfl | rfl | rfl <;> first | exact pr_2 | exact pr_3) (by decide +kernel)
theorem pr_223 : Pr 223 := step_pr 223 3 [2, 3, 37] (by intro q hq; simp only [List.mem_cons, List.not_mem_nil, or_false] at hq; rcases hq with rfl | rfl | rfl <;> first | exact pr_2 | exact pr_3 | exact pr_37) (by decide +kernel)
theorem pr_173 : Pr 173 := step_pr 173 2 [2, 2, 43] (by intro q hq; simp only [List.mem_cons, List.not_mem_nil, or_false] at hq; rcases hq with rfl | rfl | rfl <;> first | exact pr_2 | exact pr_43) (by decide +kernel)
theorem pr_4153 : Pr 4153 := step_pr 4153 5 [2, 2, 2, 3, 173] (by intro q hq; simp only [List.mem_cons, List.not_mem_nil, or_false] at hq; rcases hq with rfl | rfl | rfl | rfl | rfl <;> first | exact pr_2 | exact pr_3 | exact pr_173) (by decide +kernel)
theorem pr_41 : Pr 41 := step_pr 41 6 [2, 2, 2, 5] (by intro q hq; simp only [List.mem_cons, List.not_mem_nil, or_false] at hq; rcases hq with rfl | rfl | rfl | rfl <;> first | exact pr_2 | exact pr_5) (by decide +kernel)
theorem pr_1723 : Pr 1723 := step_pr 1723 3 [2, 3, 7, 41] (by intro q hq; simp only [List.mem_cons, List.not_mem_nil, or_false] at hq; rcases hq with rfl | rfl | rfl | rfl <;> first | exact pr_2 | exact pr_3 | exact pr_7 | exact pr_41) (by decide +kernel)
theorem pr_430751 : Pr 430751 := step_pr 430751 17 [2, 5, 5, 5, 1723] (by intro q hq; simp only [List.mem_cons, List.not_mem_nil, or_false] at hq; rcases hq with rfl | rfl | rfl | rfl | rfl <;> first | exact pr_2 | exact pr_5 | exact pr_1723) (by decide +kernel)
theorem pr_31757755568855353 : Pr 31757755568855353 := step_pr 31757755568855353 10 [2, 2, 2, 3, 31, 107, 223, 4153, 430751] (by intro q hq; simp only [List.mem_cons, List.not_mem_nil, or_false] at hq; rcases hq with rfl | rfl | rfl | rfl | rfl | rfl | rfl | rfl | rfl <;> first | exact pr_2 | exact pr_3 | exact pr_31 | exact pr_107 | exact pr_223 | exact pr_4153 | exact pr_430751) (by decide +kernel)
theorem pr_19 : Pr 19 := step_pr 19 2 [2, 3, 3] (by intro q hq; simp only [List.mem_cons, List.not_mem_nil, or_false] at hq; rcases hq with rfl | rfl | rfl <;> first | exact pr_2 | exact pr_3) (by decide +kernel)
theorem pr_83 : Pr 83 := step_pr 83 2 [2, 41] (by intro q hq; simp only [List.mem_cons, List.not_mem_nil, or_false] at hq; rcases hq with rfl | rfl <;> first | exact pr_2 | exact pr_41) (by decide +kernel)
theorem pr_9463 : Pr 9463 := step_pr 9463 3 [2, 3, 19, 83] (by intro q hq; simp only [List.mem_cons, List.not_mem_nil, or_false] at hq; rcases hq with rfl | rfl | rfl | rfl <;> first | exact pr_2 | exact pr_3 | exact pr_19 | exact pr_83) (by decide +kernel)
theorem pr_37853 : Pr 37853 := step_pr 37853 2 [2, 2, 9463] (by intro q hq; simp only [List.mem_cons, List.not_mem_nil, or_false] at hq; rcases hq with rfl | rfl | rfl <;> first | exact pr_2 | exact pr_9463) (by decide +kernel)
theorem pr_75707 : Pr 75707 := step_pr 75707 2 [2, 37853] (by intro q hq; simp only [List.mem_cons, List.not_mem_nil, or_false] at hq; rcases hq with rfl | rfl <;> first | exact pr_2 | exact pr_37853) (by decide +kernel)
theorem pr_2437 : Pr 2437 := step_pr 2437 2 [2, 2, 3, 7, 29] (by intro q hq; simp only [List.mem_cons, List.not_mem_nil, or_false] at hq; rcases hq with rfl | rfl | rfl | rfl | rfl <;> first | exact pr_2 | exact pr_3 | exact pr_7 | exact pr_29) (by decide +kernel)
theorem pr_97 : Pr 97 := step_pr 97 5 [2, 2, 2, 2, 2, 3] (by intro q hq; simp only [List.mem_cons, List.not_mem_nil, or_false] at hq; rcases hq with rfl | rfl | rfl | rfl | rfl | rfl <;> first | exact pr_2 | exact pr_3) (by decide +kernel)
theorem pr_419 : Pr 419 := step_pr 419 2 [2, 11, 19] (by intro q hq; simp only [List.mem_cons, List.not_mem_nil, or_false] at hq; rcases hq with rfl | rfl | rfl <;> first | exact pr_2 | exact pr_11 | exact pr_19) (by decide +kernel)
theorem pr_569003 : Pr 569003 := step_pr 569003 2 [2, 7, 97, 419] (by intro q hq; simp only [List.mem_cons, List.not_mem_nil, or_false] at hq; rcases hq with rfl | rfl | rfl | rfl <;> first | exact pr_2 | exact pr_7 | exact pr_97 | exact pr_419) (by decide +kernel)
theorem pr_2773320623 : Pr 2773320623 := step_pr 2773320623 5 [2, 2437, 569003] (by intro q hq; simp only [List.mem_cons, List.not_mem_nil, or_false] at hq; rcases hq with rfl | rfl | rfl <;> first | exact pr_2 | exact pr_2437 | exact pr_569003) (by decide +kernel)
theorem pr_72106336199 : Pr 72106336199 := step_pr 72106336199 7 [2, 13, 2773320623] (by intro q hq; simp only [List.mem_cons, List.not_mem_nil, or_false] at hq; rcases hq with rfl | rfl | rfl <;> first | exact pr_2 | exact pr_13 | exact pr_2773320623) (by decide +kernel)
theorem pr_47 : Pr 47 := step_pr 47 5 [2, 23] (by intro q hq; simp only [List.mem_cons, List.not_mem_nil, or_false] at hq; rcases hq with rfl | rfl <;> first | exact pr_2 | exact pr_23) (by decide +kernel)
theorem pr_127 : Pr 127 := step_pr 127 3 [2, 3, 3, 7] (by intro q hq; simp only [List.mem_cons, List.not_mem_nil, or_false] at hq; rcases hq with rfl | rfl | rfl | rfl <;> first | exact pr_2 | exact pr_3 | exact pr_7) (by decide +kernel)
theorem pr_103 : Pr 103 := step_pr 103 5 [2, 3, 17] (by intro q hq; simp only [List.mem_cons, List.not_mem_nil, or_false] at hq; rcases hq with rfl | rfl | rfl <;> first | exact pr_2 | exact pr_3 | exact pr_17) (by decide +kernel)
theorem pr_991 : Pr 991 := step_pr 991 6 [2, 3, 3, 5, 11] (by intro q hq; simp only [List.mem_cons, List.not_mem_nil, or_false] at hq; rcases hq with rfl | rfl | rfl | rfl | rfl <;> first | exact pr_2 | exact pr_3 | exact pr_5 | exact pr_11) (by decide +kernel)
theorem pr_8574133 : Pr 8574133 := step_pr 8574133 2 [2, 2, 3, 7, 103, 991] (by intro q hq; simp only [List.mem_cons, List.not_mem_nil, or_false] at hq; rcases hq with rfl | rfl | rfl | rfl | rfl | rfl <;> first | exact pr_2 | exact pr_3 | exact pr_7 | exact pr_103 | exact pr_991) (by decide +kernel)
theorem pr_1919519569386763 : Pr 1919519569386763 := step_pr 1919519569386763 2 [2, 3, 7, 19, 47, 47, 127, 8574133] (by intro q hq; simp only [List.mem_cons, List.not_mem_nil, or_false] at hq; rcases hq with rfl | rfl | rfl | rfl | rfl | rfl | rfl | rfl <;> first | exact pr_2 | exact pr_3 | exact pr_7 | exact pr_19 | exact pr_47 | exact pr_127 | exact pr_8574133) (by decide +kernel)
theorem pr_75445702479781427272750846543864801 : Pr 75445702479781427272750846543864801 := step_pr 75445702479781427272750846543864801 7 [2, 2, 2, 2, 2, 3, 3, 5, 5, 75707, 72106336199, 1919519569386763] (by intro q hq; simp only [List.mem_cons, List.not_mem_nil, or_false] at hq; rcases hq with rfl | rfl | rfl | rfl | rfl | rfl | rfl | rfl | rfl | rfl | rfl | rfl <;> first | exact pr_2 | exact pr_3 | exact pr_5 | exact pr_75707 | exact pr_72106336199 | exact pr_1919519569386763) (by decide +kernel)
theorem pr_74058212732561358302231226437062788676166966415465897661863160754340907 : Pr 74058212732561358302231226437062788676166966415465897661863160754340907 := step_pr 74058212732561358302231226437062788676166966415465897661863160754340907 2 [2, 3, 353, 57467, 132049, 1923133, 31757755568855353, 75445702479781427272750846543864801] (by intro q hq; simp only [List.mem_cons, List.not_mem_nil, or_false] at hq; rcases hq with rfl | rfl | rfl | rfl | rfl | rfl | rfl | rfl <;> first | exact pr_2 | exact pr_3 | exact pr_353 | exact pr_57467 | exact pr_132049 | exact pr_1923133 | exact pr_31757755568855353 | exact pr_75445702479781427272750846543864801) (by decide +kernel)
theorem pr_57896044618658097711785492504343953926634992332820282019728792003956564819949 : Pr 57896044618658097711785492504343953926634992332820282019728792003956564819949 := step_pr 57896044618658097711785492504343953926634992332820282019728792003956564819949 2 [2, 2, 3, 65147, 74058212732561358302231226437062788676166966415465897661863160754340907] (by intro q hq; simp only [List.mem_cons, List.not_mem_nil, or_false] at hq; rcases hq with rfl | rfl | rfl | rfl | rfl <;> first | exact pr_2 | exact pr_3 | exact pr_65147 | exact pr_74058212732561358302231226437062788676166966415465897661863160754340907) (by decide +kernel)
end Go.Sx
namespace Go.Sx
def Rep (a : List Nat) (u : Nat) : Prop := W4 a ∧ num a % PP = u ∧ u < PP
theorem rf {x : Nat} (h : x < PP) : Rep (fe x) x := ⟨fe_W4 x, by rw [num_fe (Nat.lt_trans h (by decide)), Nat.mod_eq_of_lt h], h⟩
end Go.Sx
namespace Go.Sx
theorem prP : Pr PP := pr_57896044618658097711785492504343953926634992332820282019728792003956564819949
def PM : Nat := 57896044618658097711785492504343953926634992332820282019728792003956564819948
theorem PP1 : PP - 1 = PM := by decide
theorem one_mod : 1 % PP = 1 := by decide
theorem fermat {a : Nat} (h : a % PP ≠ 0) : a ^ PM % PP = 1 := by
  rw [← PP1]
  exact prP.2 a fun hd => h (Nat.mod_eq_zero_of_dvd hd)
theorem mz {x y : Nat} (h : x % PP = y % PP) (z : Nat) : x * z % PP = y * z % PP := mmod h rfl
theorem sqE {x y : Nat} (hx : x < PP) (hy : y < PP) (h : x * x % PP = y * y % PP) : x = y ∨ (x + y) % PP = 0 := by
  have main : ∀ {x y : Nat}, y ≤ x → x < PP → y < PP → x * x % PP = y * y % PP → x = y ∨ (x + y) % PP = 0 := by
    intro x y hle hx hy h
    obtain ⟨d, rfl⟩ : ∃ d, x = y + d := ⟨x - y, by omega⟩
    have e : (y + d) * (y + d) = y * y + d * (y + d + y) := by grind
    rw [e] at h
    have hz : d * (y + d + y) % PP = 0 := by
      generalize d * (y + d + y) = z at *
      generalize y * y = w at *
      have : (w + z) % PP = w % PP → z % PP = 0 := by unfold PP; omega
      exact this h
    rcases euclid prP (Nat.dvd_of_mod_eq_zero hz) with h1 | h1
    · have := Nat.mod_eq_zero_of_dvd h1
      rw [Nat.mod_eq_of_lt (by omega)] at this
      exact Or.inl (by omega)
    · exact Or.inr (Nat.mod_eq_zero_of_dvd h1)
  rcases Nat.le_total y x with hle | hle
  · exact main hle hx hy h
  · rcases main hle hy hx h.symm with h1 | h1
    · exact Or.inl h1.symm
    · exact Or.inr (by rw [Nat.add_comm]; exact h1)
-- the inverse
def PT : Nat := 57896044618658097711785492504343953926634992332820282019728792003956564819947
theorem inv_mul {a : Nat} (h : a % PP ≠ 0) : a * (a ^ PT % PP) % PP = 1 := by
  rw [Nat.mul_mod_mod, Nat.mul_comm, ← Nat.pow_succ]
  exact fermat h
theorem zero_pow_mod {a : Nat} (h : a % PP = 0) {k : Nat} (hk : 0 < k) : a ^ k % PP = 0 := by
  rw [powM (x' := 0) (by rw [h]; rfl), Nat.zero_pow hk]
  rfl
-- the root
theorem finN_lt {x : Nat} (h : x < PP) : finN x < PP ∧ finN x % 2 = 0 ∧ finN x * finN x % PP = x * x % PP ∧ (finN x = x ∨ finN x = PP - x) := by
  unfold finN
  cases hb : Nat.beq (x % 2) 1 with
  | true =>
    have h1 := beq_true hb
    refine ⟨show PP - x < PP by unfold PP at *; omega, show (PP - x) % 2 = 0 by unfold PP at *; omega, ?_, Or.inr rfl⟩
    show (PP - x) * (PP - x) % PP = x * x % PP
    obtain ⟨y, hy⟩ : ∃ y, PP = x + y := ⟨PP - x, by omega⟩
    rw [hy, show x + y - x = y by omega]
    have e : x * x + (x + y) * y = y * y + (x + y) * x := by grind
    rw [← Nat.add_mul_mod_self_left (y * y) (x + y) x, ← e, Nat.add_mul_mod_self_left]
  | false =>
    have h1 := Nat.ne_of_beq_eq_false hb
    exact ⟨h, by show x % 2 = 0; omega, rfl, Or.inl rfl⟩
theorem iSq : pw 2 QQ * pw 2 QQ % PP = PP - 1 := by decide +kernel
theorem negSq (X : Nat) : (X * pw 2 QQ % PP) * (X * pw 2 QQ % PP) % PP = X * X * (PP - 1) % PP := by
  rw [← Nat.mul_mod, show X * pw 2 QQ * (X * pw 2 QQ) = X * X * (pw 2 QQ * pw 2 QQ) by grind]
  exact mmod rfl (by rw [iSq]; rfl)
theorem negMul (c : Nat) : (c * (PP - 1) % PP + c % PP) % PP = 0 := by
  rw [← Nat.add_mod, ← Nat.mul_succ, show (PP - 1).succ = PP from rfl, Nat.mul_mod_left]
theorem vNeg (v X : Nat) : (v * ((X * pw 2 QQ % PP) * (X * pw 2 QQ % PP) % PP) % PP + v * (X * X % PP) % PP) % PP = 0 := by
  rw [negSq, Nat.mul_mod_mod, Nat.mul_mod_mod, ← Nat.mul_assoc]
  exact negMul _
theorem rn1 {u v : Nat} (h : Nat.beq (rootC u v) (u % PP) = true) : rootN u v = (finN (rootX u v), true) := by unfold rootN; rw [h]
theorem rn2 {u v : Nat} (h : Nat.beq (rootC u v) (u % PP) = false) (h2 : Nat.beq ((rootC u v + u % PP) % PP) 0 = true) : rootN u v = (finN (rootX u v * pw 2 QQ % PP), true) := by unfold rootN; rw [h, h2]
theorem rn3 {u v : Nat} (h : Nat.beq (rootC u v) (u % PP) = false) (h2 : Nat.beq ((rootC u v + u % PP) % PP) 0 = false) : rootN u v = (0, false) := by unfold rootN; rw [h, h2]
theorem rootN_true {u v : Nat} (hu : u < PP) (h : (rootN u v).2 = true) : v * ((rootN u v).1 * (rootN u v).1 % PP) % PP = u ∧ (rootN u v).1 < PP ∧ (rootN u v).1 % 2 = 0 := by
  have hX : rootX u v < PP := Nat.mod_lt _ PP_pos
  have hC : rootC u v < PP := Nat.mod_lt _ PP_pos
  cases h1 : Nat.beq (rootC u v) (u % PP) with
  | true =>
    rw [rn1 h1]
    dsimp only
    obtain ⟨f1, f2, f3, _⟩ := finN_lt hX
    refine ⟨?_, f1, f2⟩
    have := beq_true h1
    rw [Nat.mod_eq_of_lt hu] at this
    rw [f3]
    exact this
  | false =>
    cases h2 : Nat.beq ((rootC u v + u % PP) % PP) 0 with
    | false => rw [rn3 h1 h2] at h; cases h
    | true =>
      rw [rn2 h1 h2]
      dsimp only
      have hY : rootX u v * pw 2 QQ % PP < PP := Nat.mod_lt _ PP_pos
      obtain ⟨f1, f2, f3, _⟩ := finN_lt hY
      refine ⟨?_, f1, f2⟩
      rw [f3]
      have h3 := vNeg v (rootX u v)
      have h4 := beq_true h2
      rw [Nat.mod_eq_of_lt hu] at h4
      have h5 : v * ((rootX u v * pw 2 QQ % PP) * (rootX u v * pw 2 QQ % PP) % PP) % PP < PP := Nat.mod_lt _ PP_pos
      unfold rootC at h4 hC
      generalize v * ((rootX u v * pw 2 QQ % PP) * (rootX u v * pw 2 QQ % PP) % PP) % PP = z at *
      generalize v * (rootX u v * rootX u v % PP) % PP = c at *
      clear h1 h2 h hX hY f1 f2 f3
      unfold PP at *
      omega
theorem rootN_false {u v : Nat} (h : (rootN u v).2 = false) : (rootN u v).1 = 0 := by
  cases h1 : Nat.beq (rootC u v) (u % PP) with
  | true => rw [rn1 h1] at h; cases h
  | false =>
    cases h2 : Nat.beq ((rootC u v + u % PP) % PP) 0 with
    | false => rw [rn3 h1 h2]
    | true => rw [rn2 h1 h2] at h; cases h
theorem KKe : 4 * (KK + 1) = 2 + (PM / 2) + 0 ∧ PM / 2 * 2 = PM := by decide
theorem halfPow (a : Nat) : a ^ (PM / 2) % PP * (a ^ (PM / 2) % PP) % PP * a % PP = a % PP := by
  rw [← Nat.mul_mod, ← Nat.pow_add, ← Nat.mul_two, KKe.2]
  by_cases h : a % PP = 0
  · rw [Nat.mul_mod, h, Nat.mul_zero]; rfl
  · rw [fermat h, Nat.one_mul]
end Go.Sx
namespace Go.Sx
theorem small2 {x : Nat} (hx : x < 18446744073709551616) : g57ok realA x = true ∧ g57r0 realA x = fe x := by
  have e : g57v realA x = some (.v (.agg [.nums .u64 4 [x, 0, 0, 0]])) := rfl
  refine ⟨by unfold g57ok; rw [e]; rfl, ?_⟩
  unfold g57r0
  rw [e]
  show [x, 0, 0, 0] = _
  unfold fe
  rw [Nat.mod_eq_of_lt hx, Nat.div_eq_of_lt hx, Nat.div_eq_of_lt (Nat.lt_trans hx (by decide)), Nat.div_eq_of_lt (Nat.lt_trans hx (by decide))]
theorem bitW (X w r : Nat) (h : X % 18446744073709551616 = w) (hr : r < 64) : w / 2 ^ r % 2 = X / 2 ^ r % 2 := by
  subst h
  have h2 : 18446744073709551616 = 2 ^ r * 2 ^ (64 - r) := by rw [← Nat.pow_add, show r + (64 - r) = 64 by omega]
  rw [h2, Nat.mod_mul_right_div_self]
  have h3 : 2 ^ (64 - r) = 2 * 2 ^ (63 - r) := by rw [← Nat.pow_succ', show (63 - r).succ = 64 - r by omega]
  rw [h3, Nat.mod_mul_right_mod]
theorem num_lt4 {e : List Nat} (he : W4 e) : num e < 2 ^ 256 := by
  obtain ⟨a0, a1, a2, a3, rfl, h0, h1, h2, h3⟩ := he
  show v64 a0 a1 a2 a3 < _
  unfold v64
  omega
theorem bitOf {e : List Nat} (he : W4 e) {i : Nat} (hi : i < 256) : e.getD (i / 64) 0 / 2 ^ (i % 64) % 2 = num e / 2 ^ i % 2 := by
  obtain ⟨a0, a1, a2, a3, rfl, h0, h1, h2, h3⟩ := he
  have hv : num [a0, a1, a2, a3] = v64 a0 a1 a2 a3 := rfl
  have hr : i % 64 < 64 := Nat.mod_lt _ (by decide)
  have hs : 2 ^ i = 2 ^ (64 * (i / 64)) * 2 ^ (i % 64) := by rw [← Nat.pow_add, Nat.div_add_mod]
  rw [hv, hs, ← Nat.div_div_eq_div_mul]
  refine bitW _ _ _ ?_ hr
  have hq : i / 64 = 0 ∨ i / 64 = 1 ∨ i / 64 = 2 ∨ i / 64 = 3 := by omega
  unfold v64
  rcases hq with h | h | h | h <;> rw [h] <;> simp <;> omega
theorem ib64 {i : Nat} (hi : i < 256) : realA.ib .quo .i64 (i : Int) 64 = ((i / 64 : Nat) : Int) ∧ realA.ib .rem .i64 (i : Int) 64 = ((i % 64 : Nat) : Int) := by
  constructor
  · show IntKind.wrap .i64 (Int.tdiv (i : Int) 64) = _
    rw [show Int.tdiv (i : Int) 64 = ((i / 64 : Nat) : Int) from rfl]
    exact wrap64 (by omega)
  · show (i : Int).tmod 64 = _
    rw [Int.tmod_eq_emod_of_nonneg (by omega)]
    omega
theorem bitTest {e : List Nat} (he : W4 e) {i : Nat} (hi : i < 256) : realA.nc .eql (realA.nb .and .u64 (realA.nsh .shr .u64 (e.getD (i / 64) 0) (i % 64)) 1) 1 = decide (num e / 2 ^ i % 2 = 1) := by
  rw [← bitOf he hi]
  show decide ((e.getD (i / 64) 0 / 2 ^ (i % 64)) &&& 1 = 1) = _
  rw [Nat.and_one_is_mod]
theorem refPowLoop (n : Nat) (d : List Nat) {a e : List Nat} (ha : W4 a) (he : W4 e) : ∀ (k m : Nat), k ≤ 256 → g76L3 realA n (fun v _ => some v) (m + k + 1) ((k : Int) - 1) a e d (fm (num a ^ (num e / 2 ^ k))) = some (.v (.agg [.nums .u64 4 (fm (num a ^ num e))])) := by
  intro k
  induction k with
  | zero =>
    intro m _
    rw [g76L3, geqF (by omega), Nat.pow_zero, Nat.div_one]
  | succ i ih =>
    intro m hi
    have e1 : ((i + 1 : Nat) : Int) - 1 = (i : Int) := by omega
    obtain ⟨q1, q2⟩ := ib64 (show i < 256 by omega)
    obtain ⟨s1, s2⟩ := refMul (fm_W4 (num a ^ (num e / 2 ^ (i + 1)))) (fm_W4 (num a ^ (num e / 2 ^ (i + 1))))
    have hd : num e / 2 ^ i = num e / 2 ^ (i + 1) + num e / 2 ^ (i + 1) + num e / 2 ^ i % 2 := by
      rw [Nat.pow_succ, ← Nat.div_div_eq_div_mul]
      omega
    rw [num_fm] at s2
    have s3 : g56r0 realA (fm (num a ^ (num e / 2 ^ (i + 1)))) (fm (num a ^ (num e / 2 ^ (i + 1)))) = fm (num a ^ (num e / 2 ^ (i + 1) + num e / 2 ^ (i + 1))) := by
      rw [s2, Nat.pow_add (num a)]
      exact fm_congr (by rw [← Nat.mul_mod])
    obtain ⟨t1, t2⟩ := refMul (fm_W4 (num a ^ (num e / 2 ^ (i + 1) + num e / 2 ^ (i + 1)))) ha
    rw [num_fm] at t2
    have t3 : g56r0 realA (fm (num a ^ (num e / 2 ^ (i + 1) + num e / 2 ^ (i + 1)))) a = fm (num a ^ (num e / 2 ^ (i + 1) + num e / 2 ^ (i + 1) + 1)) := by
      rw [t2, Nat.pow_succ (n := num a)]
      exact fm_congr (by rw [Nat.mod_mul_mod])
    rw [e1, show m + (i + 1) + 1 = (m + i + 1) + 1 from by omega, g76L3, geqT (by omega)]
    simp only [g76J5, s1, s3, q1, q2, negN, toNN, ltT (show i / 64 < 4 by omega), bitTest he (show i < 256 by omega), t1, t3]
    rw [subI (by omega)]
    have hb : num e / 2 ^ i % 2 = 0 ∨ num e / 2 ^ i % 2 = 1 := by omega
    have := ih m (by omega)
    rw [hd] at this
    rcases hb with hb | hb
    · rw [hb, Nat.add_zero] at this
      rw [decide_eq_false (by rw [hb]; decide)]
      exact this
    · rw [hb] at this
      rw [decide_eq_true hb]
      exact this
theorem g76Start (A : Ar) (n : Nat) (a e s : List Nat) (k1 : g57ok A 1 = true) (k2 : g57r0 A 1 = s) : g76 A n (fun v _ => some v) a e = g76L3 A n (fun v _ => some v) n 255 a e [0, 0, 0, 0] s := by
  unfold g76
  rw [k1, k2]
theorem refPow {a e : List Nat} (ha : W4 a) (he : W4 e) : g76ok realA a e = true ∧ g76r0 realA a e = fm (num a ^ num e) := by
  obtain ⟨k1, k2⟩ := small2 (x := 1) (by decide)
  have hz : num e / 2 ^ 256 = 0 := Nat.div_eq_of_lt (num_lt4 he)
  have hl := refPowLoop 100000 [0, 0, 0, 0] ha he 256 99743 (Nat.le_refl _)
  rw [hz, Nat.pow_zero] at hl
  have e0 : g76v realA a e = some (.v (.agg [.nums .u64 4 (fm (num a ^ num e))])) := (g76Start realA 100000 a e (fm 1) k1 (k2.trans fe1)).trans hl
  exact ⟨by unfold g76ok; rw [e0]; rfl, by unfold g76r0; rw [e0]; rfl⟩
end Go.Sx
namespace Go.Sx
theorem mulR2 {a b : List Nat} {u v : Nat} (ha : Rep a u) (hb : Rep b v) : g56ok realA a b = true ∧ g56r0 realA a b = fe (u * v % PP) := by
  obtain ⟨h1, h2⟩ := refMul ha.1 hb.1
  refine ⟨h1, ?_⟩
  rw [h2, ← ha.2.1, ← hb.2.1, ← Nat.mul_mod]
  rfl
theorem powR2 {a e : List Nat} {u k : Nat} (ha : Rep a u) (he : W4 e) (hk : num e = k) : g76ok realA a e = true ∧ g76r0 realA a e = fe (u ^ k % PP) := by
  obtain ⟨h1, h2⟩ := refPow ha.1 he
  refine ⟨h1, ?_⟩
  rw [h2, hk]
  unfold fm
  rw [powM (x' := u) (by rw [ha.2.1, Nat.mod_eq_of_lt ha.2.2])]
theorem g58Shape (A : Ar) (n : Nat) (a e r : List Nat) (he : (((([0, 0, 0, 0] : List Nat).set 0 18446744073709551595).set 1 18446744073709551615).set 2 18446744073709551615).set 3 9223372036854775807 = e) (h1 : g76ok A a e = true) (h2 : g76r0 A a e = r) : g58 A n (fun v _ => some v) a = some (.v (.agg [.nums .u64 4 r])) := by
  unfold g58
  rw [he, h1, h2]
theorem WPT2 : W4 [18446744073709551595, 18446744073709551615, 18446744073709551615, 9223372036854775807] := ⟨_, _, _, _, rfl, by decide, by decide, by decide, by decide⟩
theorem WK2 : W4 [18446744073709551614, 18446744073709551615, 18446744073709551615, 1152921504606846975] := ⟨_, _, _, _, rfl, by decide, by decide, by decide, by decide⟩
theorem WQ2 : W4 [18446744073709551611, 18446744073709551615, 18446744073709551615, 2305843009213693951] := ⟨_, _, _, _, rfl, by decide, by decide, by decide, by decide⟩
theorem invR2 {a : List Nat} {u : Nat} (h : Rep a u) : g58ok realA a = true ∧ g58r0 realA a = fe (u ^ PT % PP) := by
  obtain ⟨h1, h2⟩ := powR2 h WPT2 (k := PT) (by decide)
  have e : g58v realA a = _ := g58Shape realA 100000 a _ _ rfl h1 h2
  exact ⟨by unfold g58ok; rw [e]; rfl, by unfold g58r0; rw [e]; rfl⟩
theorem g35Shape (A : Ar) (n : Nat) (t : Bool) (a d : List Nat) (h1 : g65ok A a = true) (h2 : g65r0 A a = d) (h3 : A.nc .eql (A.nb .rem .u32 (d.getD 0 0) 2) 1 = t) : g35 A n (fun v _ => some v) a = some (.v (.cell (.bool t))) := by
  unfold g35
  rw [h1, h2, h3]
theorem oddDv (l : List Nat) (h : 0 < l.length) : l.getD 0 0 % 2 = dv l % 2 := by
  cases l with
  | nil => simp at h
  | cons x r => simp only [List.getD_cons_zero, dv]; omega
theorem oddR2 {a : List Nat} {u : Nat} (h : Rep a u) : g35ok realA a = true ∧ g35r0 realA a = decide (u % 2 = 1) := by
  obtain ⟨d1, d2, d3⟩ := digitsOk h.1
  have hb : realA.nc .eql (realA.nb .rem .u32 ((g65r0 realA a).getD 0 0) 2) 1 = decide (u % 2 = 1) := by
    show decide ((g65r0 realA a).getD 0 0 % 2 = 1) = _
    rw [oddDv _ (by rw [d2.1]; decide), d3, h.2.1]
  have e : g35v realA a = _ := g35Shape realA 100000 _ a _ d1 rfl hb
  exact ⟨by unfold g35ok; rw [e]; rfl, by unfold g35r0; rw [e]; rfl⟩
theorem negR2 {x : Nat} (hx : x < PP) : g44ok realA (fe x) = true ∧ g44r0 realA (fe x) = fe ((PP - x) % PP) := by
  obtain ⟨z, h1, h2, h3⟩ := refNeg (fe_W4 x)
  rw [num_fe (Nat.lt_trans hx (by decide))] at h3
  refine ⟨h1, ?_⟩
  rw [h2]
  unfold fm
  have : z % PP = (PP - x) % PP := by
    have hz := Nat.mod_lt z PP_pos
    have e : (z % PP + x) % PP = 0 := by rw [Nat.mod_add_mod]; exact h3
    generalize z % PP = y at *
    unfold PP at *
    omega
  rw [this]
@[irreducible] def refX (u v : Nat) : Nat := (u * (v ^ PT % PP) % PP) ^ (KK + 1) % PP
theorem refX_def (u v : Nat) : refX u v = (u * (v ^ PT % PP) % PP) ^ (KK + 1) % PP := by unfold refX; rfl
def refHit (u v x : Nat) : Bool := decide (v * (x * x % PP) % PP = u)
def refN (u v x y : Nat) : Nat × Bool := match refHit u v x with
  | true => (finN x, true)
  | false => match refHit u v y with
    | true => (finN y, true)
    | false => (0, false)
theorem fn1 {u v x : Nat} (y : Nat) (h : refHit u v x = true) : refN u v x y = (finN x, true) := by unfold refN; rw [h]
theorem fn2 {u v x y : Nat} (h : refHit u v x = false) (h2 : refHit u v y = true) : refN u v x y = (finN y, true) := by unfold refN; rw [h, h2]
theorem fn3 {u v x y : Nat} (h : refHit u v x = false) (h2 : refHit u v y = false) : refN u v x y = (0, false) := by unfold refN; rw [h, h2]
@[irreducible] def refY (x : Nat) : Nat := x * pw 2 QQ % PP
theorem refY_def (x : Nat) : refY x = x * pw 2 QQ % PP := by unfold refY; rfl
theorem hitShape (A : Ar) (n : Nat) (lg : Int → List Nat → List Nat → List Nat → List Nat → List Nat → Option AV) (k : Int) (t : Bool) (b d x i w s m g fin : List Nat) (s1 : g56ok A x x = true) (s2 : g56r0 A x x = s) (m1 : g56ok A b s = true) (m2 : g56r0 A b s = m) (l : A.lq m w = true)
    (o1 : g35ok A x = true) (o2 : g35r0 A x = t) (n1 : g44ok A x = true) (n2 : g44r0 A x = g) (ft : t = true → g = fin) (ff : t = false → x = fin) : g77J8 A n (fun v _ => some v) lg k b d x i w = some (.tup [.agg [.nums .u64 4 fin], .cell (.bool true)]) := by
  unfold g77J8
  rw [s1, s2, m1, m2, l, o1, o2, n1, n2]
  cases t with
  | true => rw [← ft rfl]; rfl
  | false => rw [← ff rfl]; rfl
theorem missShape (A : Ar) (n : Nat) (lg : Int → List Nat → List Nat → List Nat → List Nat → List Nat → Option AV) (k : Int) (b d x i w s m y : List Nat) (s1 : g56ok A x x = true) (s2 : g56r0 A x x = s) (m1 : g56ok A b s = true) (m2 : g56r0 A b s = m) (l : A.lq m w = false)
    (y1 : g56ok A x i = true) (y2 : g56r0 A x i = y) : g77J8 A n (fun v _ => some v) lg k b d x i w = lg (A.ib .add .i64 k 1) b d y i w := by
  unfold g77J8
  rw [s1, s2, m1, m2, l, y1, y2]
  rfl
theorem lqFe2 {x y : Nat} (hx : x < PP) (hy : y < PP) : realA.lq (fe x) (fe y) = decide (x = y) := by
  rw [lqE]
  exact decide_eq_decide.2 (fe_eq hx hy)
theorem finN_odd {x : Nat} (h : x % 2 = 1) : finN x = PP - x := by
  unfold finN
  rw [h, Nat.beq_refl]
theorem finN_even {x : Nat} (h : ¬ x % 2 = 1) : finN x = x := by
  have : Nat.beq (x % 2) 1 = false := by
    cases hb : Nat.beq (x % 2) 1 with
    | true => exact absurd (beq_true hb) h
    | false => rfl
  unfold finN
  rw [this]
theorem odd_lt {x : Nat} (h : x % 2 = 1) : PP - x < PP := by unfold PP; omega
theorem hit (n : Nat) (lg : Int → List Nat → List Nat → List Nat → List Nat → List Nat → Option AV) (k : Int) {b : List Nat} (d i : List Nat) {u v x : Nat} (hb : Rep b v) (hx : x < PP) (hu : u < PP) (h : refHit u v x = true) :
    g77J8 realA n (fun v _ => some v) lg k b d (fe x) i (fe u) = some (.tup [.agg [.nums .u64 4 (fe (finN x))], .cell (.bool true)]) := by
  have m := fun x => Nat.mod_lt x PP_pos
  obtain ⟨s1, s2⟩ := mulR2 (rf hx) (rf hx)
  obtain ⟨m1, m2⟩ := mulR2 hb (rf (m (x * x)))
  obtain ⟨o1, o2⟩ := oddR2 (rf hx)
  obtain ⟨n1, n2⟩ := negR2 hx
  refine hitShape realA n lg k _ b d (fe x) i (fe u) _ _ _ _ s1 s2 m1 m2 (by rw [lqFe2 (m _) hu]; exact h) o1 o2 n1 n2 ?_ ?_
  · intro ho
    rw [finN_odd (of_decide_eq_true ho), Nat.mod_eq_of_lt (odd_lt (of_decide_eq_true ho))]
  · intro ho
    rw [finN_even (of_decide_eq_false ho)]
theorem miss (n : Nat) (lg : Int → List Nat → List Nat → List Nat → List Nat → List Nat → Option AV) (k : Int) {b : List Nat} (d : List Nat) {u v x i : Nat} (hb : Rep b v) (hx : x < PP) (hi : i < PP) (hu : u < PP) (h : refHit u v x = false) :
    g77J8 realA n (fun v _ => some v) lg k b d (fe x) (fe i) (fe u) = lg (realA.ib .add .i64 k 1) b d (fe (x * i % PP)) (fe i) (fe u) := by
  have m := fun x => Nat.mod_lt x PP_pos
  obtain ⟨s1, s2⟩ := mulR2 (rf hx) (rf hx)
  obtain ⟨m1, m2⟩ := mulR2 hb (rf (m (x * x)))
  obtain ⟨y1, y2⟩ := mulR2 (rf hx) (rf hi)
  exact missShape realA n lg k b d (fe x) (fe i) (fe u) _ _ _ s1 s2 m1 m2 (by rw [lqFe2 (m _) hu]; exact h) y1 y2
theorem g77Start (A : Ar) (n : Nat) (a b iv w e x two f i dg wt : List Nat) (h1 : g58ok A b = true) (h2 : g58r0 A b = iv) (h3 : g56ok A a iv = true) (h4 : g56r0 A a iv = w) (he : (((([0, 0, 0, 0] : List Nat).set 0 18446744073709551614).set 1 18446744073709551615).set 2 18446744073709551615).set 3 1152921504606846975 = e) (h5 : g76ok A w e = true) (h6 : g76r0 A w e = x)
    (t1 : g57ok A 2 = true) (t2 : g57r0 A 2 = two) (hf : (((([0, 0, 0, 0] : List Nat).set 0 18446744073709551611).set 1 18446744073709551615).set 2 18446744073709551615).set 3 2305843009213693951 = f) (i1 : g76ok A two f = true) (i2 : g76r0 A two f = i) (d1 : g65ok A a = true) (d2 : g65r0 A a = dg) (w1 : g64ok A dg = true) (w2 : g64r0 A dg = wt) :
    g77 A n (fun v _ => some v) a b = g77L6 A n (fun v _ => some v) n 0 b [0, 0, 0, 0] x i wt := by
  unfold g77
  rw [he, hf, h1, h2, h3, h4, h5, h6, t1, t2, i1, i2, d1, d2, w1, w2]
theorem l6T (A : Ar) (n m : Nat) (k : Int) (b d x i w : List Nat) (h : A.ic .lss k 2 = true) : g77L6 A n (fun v _ => some v) (m + 1) k b d x i w = g77J8 A n (fun v _ => some v) (g77L6 A n (fun v _ => some v) m) k b d x i w := by rw [g77L6, h]
theorem l6F (A : Ar) (n m : Nat) (k : Int) (b d x i w : List Nat) (h : A.ic .lss k 2 = false) : g77L6 A n (fun v _ => some v) (m + 1) k b d x i w = some (.tup [.agg [.nums .u64 4 [0, 0, 0, 0]], .cell (.bool false)]) := by rw [g77L6, h]
theorem refTail (n : Nat) {b : List Nat} {u v x : Nat} (rb : Rep b v) (hX : x < PP) (hI : pw 2 QQ < PP) (hu : u < PP) : g77L6 realA (n + 3) (fun v _ => some v) (n + 3) 0 b [0, 0, 0, 0] (fe x) (fe (pw 2 QQ)) (fe u) = some (.tup [.agg [.nums .u64 4 (fe (refN u v x (refY x)).1)], .cell (.bool (refN u v x (refY x)).2)]) := by
  have hY : refY x < PP := by rw [refY_def]; exact Nat.mod_lt _ PP_pos
  have q0 : realA.ic .lss 0 2 = true := rfl
  have q1 : realA.ib .add .i64 0 1 = 1 := rfl
  have q2 : realA.ic .lss 1 2 = true := rfl
  have q3 : realA.ib .add .i64 1 1 = 2 := rfl
  have q4 : realA.ic .lss 2 2 = false := rfl
  have hy := refY_def x
  generalize refY x = y at *
  generalize pw 2 QQ = i at *
  rw [l6T realA (n + 3) (n + 2) 0 b _ _ _ _ q0]
  cases hh : refHit u v x with
  | true =>
    rw [fn1 y hh]
    exact hit _ _ _ _ _ rb hX hu hh
  | false =>
    rw [miss _ _ _ _ rb hX hI hu hh, q1, l6T realA (n + 3) (n + 1) 1 b _ _ _ _ q2, ← hy]
    cases h2 : refHit u v y with
    | true =>
      rw [fn2 hh h2]
      exact hit _ _ _ _ _ rb hY hu h2
    | false =>
      rw [fn3 hh h2, miss _ _ _ _ rb hY hI hu h2, q3, l6F realA (n + 3) n 2 b _ _ _ _ q4]
      rw [show fe 0 = [0, 0, 0, 0] by decide]
theorem refRootE {a b : List Nat} {u v : Nat} (ra : Rep a u) (rb : Rep b v) : g77v realA a b = some (.tup [.agg [.nums .u64 4 (fe (refN u v (refX u v) (refY (refX u v))).1)], .cell (.bool (refN u v (refX u v) (refY (refX u v))).2)]) := by
  have m := fun x => Nat.mod_lt x PP_pos
  obtain ⟨h1, h2⟩ := invR2 rb
  obtain ⟨h3, h4⟩ := mulR2 ra (rf (m (v ^ PT)))
  obtain ⟨h5, h6⟩ := powR2 (rf (m (u * (v ^ PT % PP)))) WK2 (k := KK + 1) (by decide)
  obtain ⟨t1, t2⟩ := small2 (x := 2) (by decide)
  obtain ⟨i1, i2⟩ := powR2 (rf (show 2 < PP by decide)) WQ2 (k := QQ) (by decide)
  obtain ⟨d1, d2, d3⟩ := digitsOk ra.1
  obtain ⟨w1, w2⟩ := wordsOk d2
  rw [d3, ra.2.1] at w2
  rw [← pw_spec 2 QQ (by decide)] at i2
  rw [← refX_def] at h6
  have hs : g77v realA a b = g77L6 realA 100000 (fun v _ => some v) 100000 0 b [0, 0, 0, 0] (fe (refX u v)) (fe (pw 2 QQ)) (fe u) := g77Start realA 100000 a b _ _ _ _ _ _ _ _ _ h1 h2 h3 h4 rfl h5 h6 t1 t2 rfl i1 i2 d1 rfl w1 w2
  rw [hs]
  clear hs
  obtain ⟨n, hn⟩ : ∃ n, 100000 = n + 3 := ⟨99997, rfl⟩
  rw [hn]
  have hX : refX u v < PP := by rw [refX_def]; exact m _
  have hI := pw_lt 2 QQ
  have hu := ra.2.2
  exact refTail n rb hX hI hu
theorem g77of {A : Ar} {a b L : List Nat} {t : Bool} (e : g77v A a b = some (.tup [.agg [.nums .u64 4 L], .cell (.bool t)])) : g77ok A a b = true ∧ g77r0 A a b = L ∧ g77r1 A a b = t := ⟨by unfold g77ok; rw [e]; rfl, by unfold g77r0; rw [e]; rfl, by unfold g77r1; rw [e]; rfl⟩
theorem refRoot2 {a b : List Nat} {u v : Nat} (ra : Rep a u) (rb : Rep b v) : g77ok realA a b = true ∧ g77r0 realA a b = fe (refN u v (refX u v) (refY (refX u v))).1 ∧ g77r1 realA a b = (refN u v (refX u v) (refY (refX u v))).2 := by
  exact g77of (refRootE ra rb)
end Go.Sx
namespace Go.Sx
-- both roots are the same
theorem expK : PT * (KK + 1) = PM * KK + (3 + 7 * KK) := by decide
theorem rootX_def (u v : Nat) : rootX u v = u * (v * (v * v)) * (u * (v * ((v * (v * v)) * (v * (v * v))))) ^ KK % PP := by
  unfold rootX
  rw [pw_spec _ KK (by decide)]
  refine mmod ?_ ?_
  · rw [Nat.mod_mod]
    exact mmod rfl (by rw [Nat.mod_mod, Nat.mul_mod_mod])
  · rw [Nat.mod_mod]
    refine powM ?_ _
    have h3 : v * (v * v % PP) % PP % PP = v * (v * v) % PP := by rw [Nat.mod_mod, Nat.mul_mod_mod]
    rw [Nat.mod_mod]
    refine mmod rfl ?_
    rw [Nat.mod_mod]
    refine mmod rfl ?_
    rw [Nat.mod_mod]
    exact mmod h3 h3
theorem refX_eq (u v : Nat) : refX u v = rootX u v := by
  rw [rootX_def, refX_def]
  have e1 : (u * (v ^ PT % PP) % PP) ^ (KK + 1) % PP = (u * v ^ PT) ^ (KK + 1) % PP := powM (by rw [Nat.mod_mod, Nat.mul_mod_mod]) _
  rw [e1, Nat.mul_pow, ← Nat.pow_mul, expK]
  by_cases hv : v % PP = 0
  · have z1 : v ^ (PM * KK + (3 + 7 * KK)) % PP = 0 := zero_pow_mod hv (by decide)
    have z2 : u * (v * (v * v)) % PP = 0 := by
      rw [show u * (v * (v * v)) = v * (u * (v * v)) by grind, Nat.mul_mod, hv, Nat.zero_mul]
      rfl
    rw [Nat.mul_mod, z1, Nat.mul_zero, Nat.mul_mod (u * (v * (v * v))), z2, Nat.zero_mul]
  · have f := fermat hv
    rw [Nat.pow_add v, Nat.pow_mul v PM]
    have e2 : (v ^ PM) ^ KK * v ^ (3 + 7 * KK) % PP = v ^ (3 + 7 * KK) % PP := by
      rw [mz (y := 1) (by rw [powM (x' := 1) (by rw [f, one_mod]), Nat.one_pow]), Nat.one_mul]
    rw [mmod (rfl : u ^ (KK + 1) % PP = u ^ (KK + 1) % PP) e2]
    have e3 : u * (v * (v * v)) * (u * (v * ((v * (v * v)) * (v * (v * v))))) ^ KK = u ^ (KK + 1) * v ^ (3 + 7 * KK) := by
      rw [show u * (v * ((v * (v * v)) * (v * (v * v)))) = u * v ^ 7 by grind, show v * (v * v) = v ^ 3 by grind, Nat.mul_pow, ← Nat.pow_mul v 7, Nat.pow_add v, Nat.pow_succ u]
      generalize u ^ KK = p
      generalize v ^ (7 * KK) = q
      generalize v ^ 3 = r
      grind
    rw [e3]
theorem refN_eq {u v : Nat} (hu : u < PP) : refN u v (refX u v) (refY (refX u v)) = rootN u v := by
  have hC : rootC u v < PP := Nat.mod_lt _ PP_pos
  have hx := refX_eq u v
  have hy := refY_def (rootX u v)
  rw [hx]
  have hv := vNeg v (rootX u v)
  rw [← hy] at hv
  have h5 : v * (refY (rootX u v) * refY (rootX u v) % PP) % PP < PP := Nat.mod_lt _ PP_pos
  have hc : v * (rootX u v * rootX u v % PP) % PP = rootC u v := rfl
  cases h1 : Nat.beq (rootC u v) (u % PP) with
  | true =>
    rw [rn1 h1]
    have := beq_true h1
    rw [Nat.mod_eq_of_lt hu] at this
    exact fn1 _ (decide_eq_true (hc.trans this))
  | false =>
    have n1 : refHit u v (rootX u v) = false := decide_eq_false (by
      rw [hc]
      have := Nat.ne_of_beq_eq_false h1
      rwa [Nat.mod_eq_of_lt hu] at this)
    have key : (v * (refY (rootX u v) * refY (rootX u v) % PP) % PP = u) ↔ (rootC u v + u % PP) % PP = 0 := by
      rw [Nat.mod_eq_of_lt hu]
      rw [hc] at hv
      generalize v * (refY (rootX u v) * refY (rootX u v) % PP) % PP = z at *
      generalize rootC u v = c at *
      clear n1 h1 hc hx hy
      unfold PP at *
      omega
    cases h2 : Nat.beq ((rootC u v + u % PP) % PP) 0 with
    | true =>
      rw [rn2 h1 h2, ← hy]
      exact fn2 n1 (decide_eq_true (key.2 (beq_true h2)))
    | false =>
      rw [rn3 h1 h2]
      exact fn3 n1 (decide_eq_false (fun h => Nat.ne_of_beq_eq_false h2 (key.1 h)))
end Go.Sx
