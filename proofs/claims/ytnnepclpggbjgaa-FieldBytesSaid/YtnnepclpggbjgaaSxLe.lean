import Derived.Test.YtnnepclpggbjgaaSxN03c
import Derived.Test.YtnnepclpggbjgaaSxN03b
namespace Go.Sx
/-- four words; limbs -/
def W4 (a : List Nat) : Prop := ∃ a0 a1 a2 a3, a = [a0, a1, a2, a3] ∧ a0 < 18446744073709551616 ∧ a1 < 18446744073709551616 ∧ a2 < 18446744073709551616 ∧ a3 < 18446744073709551616
def num (a : List Nat) : Nat := v64 (a.getD 0 0) (a.getD 1 0) (a.getD 2 0) (a.getD 3 0)
def LB (l : List Nat) : Prop := ∃ l0 l1 l2 l3 l4, l = [l0, l1, l2, l3, l4] ∧ l0 < 2251799813685248 + 57 ∧ l1 < 2251799813685248 ∧ l2 < 2251799813685248 ∧ l3 < 2251799813685248 ∧ l4 < 2251799813685248
def nv (l : List Nat) : Nat := v51 (l.getD 0 0) (l.getD 1 0) (l.getD 2 0) (l.getD 3 0) (l.getD 4 0)
theorem PP_pos : 0 < PP := by decide
theorem fe_W4 (x : Nat) : W4 (fe x) := ⟨_, _, _, _, rfl, by omega, by omega, by omega, by omega⟩
theorem num_fe {x : Nat} (h : x < 115792089237316195423570985008687907853269984665640564039457584007913129639936) : num (fe x) = x := by
  show v64 (x % 18446744073709551616) (x / 18446744073709551616 % 18446744073709551616) (x / 340282366920938463463374607431768211456 % 18446744073709551616) (x / 6277101735386680763835789423207666416102355444464034512896 % 18446744073709551616) = x
  unfold v64
  omega
theorem fe_num {a : List Nat} (h : W4 a) : fe (num a) = a := by
  obtain ⟨a0, a1, a2, a3, rfl, h0, h1, h2, h3⟩ := h
  show fe (v64 a0 a1 a2 a3) = _
  have z0 : v64 a0 a1 a2 a3 % 18446744073709551616 = a0 := by unfold v64; omega
  have z1 : v64 a0 a1 a2 a3 / 18446744073709551616 % 18446744073709551616 = a1 := by unfold v64; omega
  have z2 : v64 a0 a1 a2 a3 / 340282366920938463463374607431768211456 % 18446744073709551616 = a2 := by unfold v64; omega
  have z3 : v64 a0 a1 a2 a3 / 6277101735386680763835789423207666416102355444464034512896 % 18446744073709551616 = a3 := by unfold v64; omega
  unfold fe
  rw [z0, z1, z2, z3]
def fm (x : Nat) : List Nat := fe (x % PP)
theorem fm_W4 (x : Nat) : W4 (fm x) := fe_W4 _
theorem mod_lt256 (x : Nat) : x % PP < 115792089237316195423570985008687907853269984665640564039457584007913129639936 := Nat.lt_trans (Nat.mod_lt _ PP_pos) (by decide)
theorem num_fm (x : Nat) : num (fm x) = x % PP := num_fe (mod_lt256 x)
theorem fm_congr {x y : Nat} (h : x % PP = y % PP) : fm x = fm y := by unfold fm; rw [h]
theorem load4 {a : List Nat} (h : W4 a) : g37ok realA a = true ∧ LB (g37r0 realA a) ∧ nv (g37r0 realA a) % PP = num a % PP := by
  obtain ⟨a0, a1, a2, a3, rfl, h0, h1, h2, h3⟩ := h
  obtain ⟨k, r0, r1, r2, r3, r4, c, q1, q2, q3, q4, q5, q6, q7⟩ := loadOk h0 h1 h2 h3
  refine ⟨k, ⟨r0, r1, r2, r3, r4, q7, q5, q1, q2, q3, q4⟩, ?_⟩
  rw [q7]
  show v51 r0 r1 r2 r3 r4 % PP = v64 a0 a1 a2 a3 % PP
  rw [← q6, Nat.add_mul_mod_self_left]
theorem times5 {l m : List Nat} (hl : LB l) (hm : LB m) : g42ok realA l m = true ∧ LB (g42r0 realA l m) ∧ nv (g42r0 realA l m) % PP = (nv l * nv m) % PP := by
  obtain ⟨l0, l1, l2, l3, l4, rfl, a0, a1, a2, a3, a4⟩ := hl
  obtain ⟨m0, m1, m2, m3, m4, rfl, b0, b1, b2, b3, b4⟩ := hm
  obtain ⟨k, r0, r1, r2, r3, r4, q1, q2, q3, q4, q5, q6, q7⟩ := timesOk (l0 := l0) (m0 := m0) (l1 := l1) (m1 := m1) (l2 := l2) (m2 := m2) (l3 := l3) (m3 := m3) (l4 := l4) (m4 := m4) (by omega) (by omega) (by omega) (by omega) (by omega) (by omega) (by omega) (by omega) (by omega) (by omega)
  refine ⟨k, ⟨r0, r1, r2, r3, r4, q7, q5, q1, q2, q3, q4⟩, ?_⟩
  rw [q7]
  exact q6
theorem store5 {l : List Nat} (hl : LB l) : g38ok realA l = true ∧ g38r0 realA l = fm (nv l) := by
  obtain ⟨l0, l1, l2, l3, l4, rfl, a0, a1, a2, a3, a4⟩ := hl
  exact storeOk (by omega) (by omega) (by omega) (by omega) (by omega)
theorem mulOk {a b : List Nat} (ha : W4 a) (hb : W4 b) : g16ok realA a b = true ∧ g16r0 realA a b = fm (num a * num b) := by
  obtain ⟨k1, x1, y1⟩ := load4 ha
  obtain ⟨k2, x2, y2⟩ := load4 hb
  obtain ⟨k3, x3, y3⟩ := times5 x1 x2
  obtain ⟨k4, y4⟩ := store5 x3
  have e : g16v realA a b = some (.v (.agg [.nums .u64 4 (fm (num a * num b))])) := by
    unfold g16v
    generalize 100000 = n
    unfold g16
    rw [k1, k2, k3, k4, y4]
    rw [fm_congr (y3.trans (show nv (g37r0 realA a) * nv (g37r0 realA b) % PP = num a * num b % PP by rw [Nat.mul_mod, y1, y2, ← Nat.mul_mod]))]
  exact ⟨by unfold g16ok; rw [e]; rfl, by unfold g16r0; rw [e]; rfl⟩
theorem addStep (n m i : Nat) (d l b : List Nat) (hi : i < 5) (hs : l.getD i 0 + b.getD i 0 < 18446744073709551616) : g12L3 realA n (fun v _ => some v) (m + 1) i d l b = g12L3 realA n (fun v _ => some v) m ((i + 1 : Nat) : Int) d (l.set i (l.getD i 0 + b.getD i 0)) b := by
  have e1 : realA.ib .add .i64 (i : Int) 1 = ((i + 1 : Nat) : Int) := addN 1 (by omega)
  rw [g12L3, lssT (show (i : Int) < 5 by omega)]
  simp only [g12J4, negN, toNN, ltT hi, nadd hs]
  rw [e1]
theorem v51_add (a0 a1 a2 a3 a4 b0 b1 b2 b3 b4 : Nat) : v51 (a0 + b0) (a1 + b1) (a2 + b2) (a3 + b3) (a4 + b4) = v51 a0 a1 a2 a3 a4 + v51 b0 b1 b2 b3 b4 := by unfold v51; omega
theorem addOk {a b : List Nat} (ha : W4 a) (hb : W4 b) : g12ok realA a b = true ∧ g12r0 realA a b = fm (num a + num b) := by
  obtain ⟨k1, ⟨l0, l1, l2, l3, l4, el, a0, a1, a2, a3, a4⟩, y1⟩ := load4 ha
  obtain ⟨k2, ⟨m0, m1, m2, m3, m4, em, b0, b1, b2, b3, b4⟩, y2⟩ := load4 hb
  rw [el] at y1
  rw [em] at y2
  obtain ⟨k4, y4⟩ := storeOk (l0 := l0 + m0) (l1 := l1 + m1) (l2 := l2 + m2) (l3 := l3 + m3) (l4 := l4 + m4) (by omega) (by omega) (by omega) (by omega) (by omega)
  have hm : v51 (l0 + m0) (l1 + m1) (l2 + m2) (l3 + m3) (l4 + m4) % PP = (num a + num b) % PP := by
    rw [v51_add, Nat.add_mod, show v51 l0 l1 l2 l3 l4 % PP = num a % PP from y1, show v51 m0 m1 m2 m3 m4 % PP = num b % PP from y2, ← Nat.add_mod]
  have e : g12v realA a b = some (.v (.agg [.nums .u64 4 (fm (num a + num b))])) := by
    unfold g12v
    rw [show (100000 : Nat) = 99994 + 6 from rfl]
    generalize 99994 = m
    unfold g12
    rw [k1, k2, el, em]
    have s0 := addStep (m + 6) (m + 5) 0 [0, 0, 0, 0] [l0, l1, l2, l3, l4] [m0, m1, m2, m3, m4] (by decide) (show l0 + m0 < _ by omega)
    have s1 := addStep (m + 6) (m + 4) 1 [0, 0, 0, 0] [l0 + m0, l1, l2, l3, l4] [m0, m1, m2, m3, m4] (by decide) (show l1 + m1 < _ by omega)
    have s2 := addStep (m + 6) (m + 3) 2 [0, 0, 0, 0] [l0 + m0, l1 + m1, l2, l3, l4] [m0, m1, m2, m3, m4] (by decide) (show l2 + m2 < _ by omega)
    have s3 := addStep (m + 6) (m + 2) 3 [0, 0, 0, 0] [l0 + m0, l1 + m1, l2 + m2, l3, l4] [m0, m1, m2, m3, m4] (by decide) (show l3 + m3 < _ by omega)
    have s4 := addStep (m + 6) (m + 1) 4 [0, 0, 0, 0] [l0 + m0, l1 + m1, l2 + m2, l3 + m3, l4] [m0, m1, m2, m3, m4] (by decide) (show l4 + m4 < _ by omega)
    refine Eq.trans (b := g12L3 realA (m + 6) (fun v _ => some v) (m + 5 + 1) ((0 : Nat) : Int) [0, 0, 0, 0] [l0, l1, l2, l3, l4] [m0, m1, m2, m3, m4]) rfl ?_
    refine s0.trans (s1.trans (s2.trans (s3.trans (s4.trans ?_))))
    have hx : g12L3 realA (m + 6) (fun v _ => some v) (m + 1) ((5 : Nat) : Int) [0, 0, 0, 0] [l0 + m0, l1 + m1, l2 + m2, l3 + m3, l4 + m4] [m0, m1, m2, m3, m4] = some (.v (.agg [.nums .u64 4 (fm (num a + num b))])) := by
      rw [g12L3, show realA.ic .lss (((5 : Nat)) : Int) 5 = false from rfl]
      rw [k4, y4, hm]
      rfl
    exact hx
  exact ⟨by unfold g12ok; rw [e]; rfl, by unfold g12r0; rw [e]; rfl⟩
theorem subStep (n m i : Nat) (d l b f : List Nat) (hi : i < 5) (hf : b.getD i 0 ≤ f.getD i 0) (hs : l.getD i 0 + (f.getD i 0 - b.getD i 0) < 18446744073709551616) (hf2 : f.getD i 0 < 18446744073709551616) : g14L4 realA n (fun v _ => some v) (m + 1) i d l b f = g14L4 realA n (fun v _ => some v) m ((i + 1 : Nat) : Int) d (l.set i (l.getD i 0 + (f.getD i 0 - b.getD i 0))) b f := by
  have e1 : realA.ib .add .i64 (i : Int) 1 = ((i + 1 : Nat) : Int) := addN 1 (by omega)
  have e2 : realA.nb .sub .u64 (f.getD i 0) (b.getD i 0) = f.getD i 0 - b.getD i 0 := by
    show (f.getD i 0 + 18446744073709551616 - b.getD i 0) % 18446744073709551616 = _
    omega
  rw [g14L4, lssT (show (i : Int) < 5 by omega)]
  simp only [g14J5, negN, toNN, ltT hi, e2, nadd hs]
  rw [e1]
theorem v51_sub (a0 a1 a2 a3 a4 b0 b1 b2 b3 b4 : Nat) (h0 : b0 ≤ 9007199254740916) (h1 : b1 ≤ 9007199254740988) (h2 : b2 ≤ 9007199254740988) (h3 : b3 ≤ 9007199254740988) (h4 : b4 ≤ 9007199254740988) :
    v51 (a0 + (9007199254740916 - b0)) (a1 + (9007199254740988 - b1)) (a2 + (9007199254740988 - b2)) (a3 + (9007199254740988 - b3)) (a4 + (9007199254740988 - b4)) + v51 b0 b1 b2 b3 b4 = v51 a0 a1 a2 a3 a4 + PP * 4 := by unfold v51 PP; omega
/-- what the difference comes to: its sum with b is a -/
theorem subOk {a b : List Nat} (ha : W4 a) (hb : W4 b) : ∃ x, g14ok realA a b = true ∧ g14r0 realA a b = fm x ∧ (x + num b) % PP = num a % PP := by
  obtain ⟨k1, ⟨l0, l1, l2, l3, l4, el, a0, a1, a2, a3, a4⟩, y1⟩ := load4 ha
  obtain ⟨k2, ⟨m0, m1, m2, m3, m4, em, b0, b1, b2, b3, b4⟩, y2⟩ := load4 hb
  rw [el] at y1
  rw [em] at y2
  obtain ⟨k4, y4⟩ := storeOk (l0 := l0 + (9007199254740916 - m0)) (l1 := l1 + (9007199254740988 - m1)) (l2 := l2 + (9007199254740988 - m2)) (l3 := l3 + (9007199254740988 - m3)) (l4 := l4 + (9007199254740988 - m4)) (by omega) (by omega) (by omega) (by omega) (by omega)
  have hv := v51_sub l0 l1 l2 l3 l4 m0 m1 m2 m3 m4 (by omega) (by omega) (by omega) (by omega) (by omega)
  refine ⟨v51 (l0 + (9007199254740916 - m0)) (l1 + (9007199254740988 - m1)) (l2 + (9007199254740988 - m2)) (l3 + (9007199254740988 - m3)) (l4 + (9007199254740988 - m4)), ?_⟩
  have e : g14v realA a b = some (.v (.agg [.nums .u64 4 (fm (v51 (l0 + (9007199254740916 - m0)) (l1 + (9007199254740988 - m1)) (l2 + (9007199254740988 - m2)) (l3 + (9007199254740988 - m3)) (l4 + (9007199254740988 - m4))))])) := by
    unfold g14v
    rw [show (100000 : Nat) = 99994 + 6 from rfl]
    generalize 99994 = m
    unfold g14
    rw [k1, k2, el, em]
    have s0 := subStep (m + 6) (m + 5) 0 [0, 0, 0, 0] [l0, l1, l2, l3, l4] [m0, m1, m2, m3, m4] [9007199254740916, 9007199254740988, 9007199254740988, 9007199254740988, 9007199254740988] (by decide) (show m0 ≤ 9007199254740916 by omega) (show l0 + (9007199254740916 - m0) < _ by omega) (by decide)
    have s1 := subStep (m + 6) (m + 4) 1 [0, 0, 0, 0] [l0 + (9007199254740916 - m0), l1, l2, l3, l4] [m0, m1, m2, m3, m4] [9007199254740916, 9007199254740988, 9007199254740988, 9007199254740988, 9007199254740988] (by decide) (show m1 ≤ 9007199254740988 by omega) (show l1 + (9007199254740988 - m1) < _ by omega) (by decide)
    have s2 := subStep (m + 6) (m + 3) 2 [0, 0, 0, 0] [l0 + (9007199254740916 - m0), l1 + (9007199254740988 - m1), l2, l3, l4] [m0, m1, m2, m3, m4] [9007199254740916, 9007199254740988, 9007199254740988, 9007199254740988, 9007199254740988] (by decide) (show m2 ≤ 9007199254740988 by omega) (show l2 + (9007199254740988 - m2) < _ by omega) (by decide)
    have s3 := subStep (m + 6) (m + 2) 3 [0, 0, 0, 0] [l0 + (9007199254740916 - m0), l1 + (9007199254740988 - m1), l2 + (9007199254740988 - m2), l3, l4] [m0, m1, m2, m3, m4] [9007199254740916, 9007199254740988, 9007199254740988, 9007199254740988, 9007199254740988] (by decide) (show m3 ≤ 9007199254740988 by omega) (show l3 + (9007199254740988 - m3) < _ by omega) (by decide)
    have s4 := subStep (m + 6) (m + 1) 4 [0, 0, 0, 0] [l0 + (9007199254740916 - m0), l1 + (9007199254740988 - m1), l2 + (9007199254740988 - m2), l3 + (9007199254740988 - m3), l4] [m0, m1, m2, m3, m4] [9007199254740916, 9007199254740988, 9007199254740988, 9007199254740988, 9007199254740988] (by decide) (show m4 ≤ 9007199254740988 by omega) (show l4 + (9007199254740988 - m4) < _ by omega) (by decide)
    refine Eq.trans (b := g14L4 realA (m + 6) (fun v _ => some v) (m + 5 + 1) ((0 : Nat) : Int) [0, 0, 0, 0] [l0, l1, l2, l3, l4] [m0, m1, m2, m3, m4] [9007199254740916, 9007199254740988, 9007199254740988, 9007199254740988, 9007199254740988]) rfl ?_
    refine s0.trans (s1.trans (s2.trans (s3.trans (s4.trans ?_))))
    have hx : g14L4 realA (m + 6) (fun v _ => some v) (m + 1) ((5 : Nat) : Int) [0, 0, 0, 0] [l0 + (9007199254740916 - m0), l1 + (9007199254740988 - m1), l2 + (9007199254740988 - m2), l3 + (9007199254740988 - m3), l4 + (9007199254740988 - m4)] [m0, m1, m2, m3, m4] [9007199254740916, 9007199254740988, 9007199254740988, 9007199254740988, 9007199254740988] = some (.v (.agg [.nums .u64 4 (fm (v51 (l0 + (9007199254740916 - m0)) (l1 + (9007199254740988 - m1)) (l2 + (9007199254740988 - m2)) (l3 + (9007199254740988 - m3)) (l4 + (9007199254740988 - m4))))])) := by
      rw [g14L4, show realA.ic .lss (((5 : Nat)) : Int) 5 = false from rfl]
      rw [k4, y4]
      rfl
    exact hx
  refine ⟨by unfold g14ok; rw [e]; rfl, by unfold g14r0; rw [e]; rfl, ?_⟩
  have y1' : v51 l0 l1 l2 l3 l4 % PP = num a % PP := y1
  have y2' : v51 m0 m1 m2 m3 m4 % PP = num b % PP := y2
  rw [Nat.add_mod, ← y2', ← Nat.add_mod, hv, Nat.add_mul_mod_self_left, y1']
theorem negOk {a : List Nat} (ha : W4 a) : ∃ x, g18ok realA a = true ∧ g18r0 realA a = fm x ∧ (x + num a) % PP = 0 := by
  obtain ⟨x, h1, h2, h3⟩ := subOk (a := [0, 0, 0, 0]) ⟨0, 0, 0, 0, rfl, by decide, by decide, by decide, by decide⟩ ha
  have e : g18v realA a = some (.v (.agg [.nums .u64 4 (fm x)])) := by
    unfold g18v
    generalize 100000 = n
    unfold g18
    rw [h1, h2]
  exact ⟨x, by unfold g18ok; rw [e]; rfl, by unfold g18r0; rw [e]; rfl, h3⟩
theorem lqE (a b : List Nat) : realA.lq a b = decide (a = b) := rfl
theorem rightOk {a : List Nat} (ha : W4 a) : g20ok realA a = true ∧ g20r0 realA a = decide (num a < PP) := by
  obtain ⟨k1, x1, y1⟩ := load4 ha
  obtain ⟨k4, y4⟩ := store5 x1
  rw [fm_congr y1] at y4
  have e : g20v realA a = some (.v (.cell (.bool (decide (num a < PP))))) := by
    unfold g20v
    generalize 100000 = n
    unfold g20
    rw [k1, k4, y4, lqE, Bool.and_true]
    have : (fm (num a) = a) ↔ num a < PP := by
      constructor
      · intro h
        rw [← h, num_fm]
        exact Nat.mod_lt _ PP_pos
      · intro h
        unfold fm
        rw [Nat.mod_eq_of_lt h]
        exact fe_num ha
    rw [decide_eq_decide.2 this]
  exact ⟨by unfold g20ok; rw [e]; rfl, by unfold g20r0; rw [e]; rfl⟩
theorem smallOk {x : Nat} (hx : x < 18446744073709551616) : g23ok realA x = true ∧ g23r0 realA x = fe x := by
  have e : g23v realA x = some (.v (.agg [.nums .u64 4 [x, 0, 0, 0]])) := rfl
  refine ⟨by unfold g23ok; rw [e]; rfl, ?_⟩
  unfold g23r0
  rw [e]
  show [x, 0, 0, 0] = _
  unfold fe
  rw [Nat.mod_eq_of_lt hx, Nat.div_eq_of_lt hx, Nat.div_eq_of_lt (Nat.lt_trans hx (by decide)), Nat.div_eq_of_lt (Nat.lt_trans hx (by decide))]
theorem oddB (y : Nat) : (!(decide ((y % 18446744073709551616) % 2 = 0))) = decide (y % 2 = 1) := by
  have h1 : y % 18446744073709551616 % 2 = y % 2 := by omega
  rw [h1]
  by_cases h : y % 2 = 0
  · rw [decide_eq_true h, decide_eq_false (by omega)]; rfl
  · rw [decide_eq_false h, decide_eq_true (by omega)]; rfl
theorem oddC (a : List Nat) (y : Nat) (h : a.getD 0 0 = y % 18446744073709551616) : realA.nc .neq (realA.nb .and .u64 (a.getD 0 0) 1) 0 = decide (y % 2 = 1) := by
  have : realA.nc .neq (realA.nb .and .u64 (a.getD 0 0) 1) 0 = !(decide ((a.getD 0 0 &&& 1) = 0)) := rfl
  rw [this, h, Nat.and_one_is_mod]
  exact oddB y
theorem oddOk {a : List Nat} (ha : W4 a) : g22ok realA a = true ∧ g22r0 realA a = decide (num a % PP % 2 = 1) := by
  obtain ⟨k1, x1, y1⟩ := load4 ha
  obtain ⟨k4, y4⟩ := store5 x1
  rw [fm_congr y1] at y4
  have e : g22v realA a = some (.v (.cell (.bool (decide (num a % PP % 2 = 1))))) := by
    unfold g22v
    generalize 100000 = n
    unfold g22
    rw [k1, k4, y4, oddC (fm (num a)) (num a % PP) rfl]
  exact ⟨by unfold g22ok; rw [e]; rfl, by unfold g22r0; rw [e]; rfl⟩
end Go.Sx
namespace Go.Sx
theorem mmod {x x' y y' : Nat} (hx : x % PP = x' % PP) (hy : y % PP = y' % PP) : x * y % PP = x' * y' % PP := by rw [Nat.mul_mod, hx, hy, ← Nat.mul_mod]
theorem pmod {x x' : Nat} (hx : x % PP = x' % PP) (k : Nat) : x ^ k % PP = x' ^ k % PP := by rw [Nat.pow_mod, hx, ← Nat.pow_mod]
theorem powstep (a w : Nat) : a ^ w = a ^ (w % 2) * (a * a) ^ (w / 2) := by
  have h : w = w % 2 + 2 * (w / 2) := by omega
  have h2 : (a * a) ^ (w / 2) = a ^ (2 * (w / 2)) := by rw [Nat.pow_mul]; congr 1; rw [Nat.pow_two]
  rw [h2, ← Nat.pow_add, ← h]
theorem sqpow (a r : Nat) : (a * a) ^ (2 ^ r) = a ^ (2 ^ (r + 1)) := by
  rw [show a * a = a ^ 2 from (Nat.pow_two a).symm, ← Nat.pow_mul, Nat.pow_succ, Nat.mul_comm]
theorem inner (n m i : Nat) (kk : AV → Heap → Option AV) (lg : List Nat → Int → List Nat → List Nat → List Nat → List Nat → Option AV) (b e c : List Nat) (hi : i < 4) (hno : i ≠ 3 ∨ e.getD 3 0 ≠ 0) :
    ∀ (r k w : Nat) (a out : List Nat), k + r = 64 → w < 2 ^ r → LB a → LB out → ∃ a' out', LB a' ∧ LB out' ∧ nv a' % PP = nv a ^ (2 ^ r) % PP ∧ nv out' % PP = nv out * nv a ^ w % PP ∧
      g46L6 realA n kk lg (m + r + 1) i w b i k a e c out = lg b ((i + 1 : Nat) : Int) a' e c out' := by
  intro r
  induction r with
  | zero =>
    intro k w a out hk hw ha ho
    have hw0 : w = 0 := by rw [Nat.pow_zero] at hw; omega
    subst hw0
    refine ⟨a, out, ha, ho, by rw [Nat.pow_zero, Nat.pow_one], by rw [Nat.pow_zero, Nat.mul_one], ?_⟩
    have e1 : realA.ib .add .i64 (i : Int) 1 = ((i + 1 : Nat) : Int) := addN 1 (by omega)
    rw [g46L6, lssF (show ¬ (k : Int) < 64 by omega)]
    simp only []
    rw [e1]
  | succ r ih =>
    intro k w a out hk hw ha ho
    have e1 : realA.ib .add .i64 (k : Int) 1 = ((k + 1 : Nat) : Int) := addN 1 (by omega)
    have e2 : realA.nsh .shr .u64 w 1 = w / 2 := by show w / 2 ^ 1 = _; rw [Nat.pow_one]
    have e3 : realA.nc .neq (realA.nb .and .u64 w 1) 0 = !(decide (w % 2 = 0)) := by show (!(decide ((w &&& 1) = 0))) = _; rw [Nat.and_one_is_mod]
    have hw2 : w / 2 < 2 ^ r := by rw [Nat.pow_succ] at hw; omega
    obtain ⟨ka, la, va⟩ := times5 ha ha
    have nobreak : g46L6 realA n kk lg (m + (r + 1) + 1) i w b i k a e c out = g46J8 realA n kk lg (g46L6 realA n kk lg (m + r + 1)) i w b i k a e c out := by
      rw [show m + (r + 1) + 1 = (m + r + 1) + 1 from by omega, g46L6, lssT (show (k : Int) < 64 by omega)]
      simp only []
      unfold g46J7
      by_cases h1 : realA.nc .eql w 0 = true
      · rw [h1]
        by_cases h2 : realA.nc .eql (e.getD 3 0) 0 = true
        · rw [h2]
          have h3 : i ≠ 3 := hno.elim id fun h => absurd (of_decide_eq_true h2) h
          have h4 : realA.ic .eql (i : Int) 3 = false := by show decide ((i : Int) = 3) = false; exact decide_eq_false (by omega)
          rw [h4]
        · rw [Bool.not_eq_true] at h2
          rw [h2]
      · rw [Bool.not_eq_true] at h1
        rw [h1]
    rw [nobreak]
    by_cases hodd : w % 2 = 0
    · obtain ⟨a', out', x1, x2, x3, x4, x5⟩ := ih (k + 1) (w / 2) (g42r0 realA a a) out (by omega) hw2 la ho
      refine ⟨a', out', x1, x2, ?_, ?_, ?_⟩
      · rw [x3, ← sqpow]
        exact pmod va _
      · rw [x4, powstep (nv a) w, hodd, Nat.pow_zero, Nat.one_mul]
        exact mmod rfl (pmod va _)
      · unfold g46J8
        rw [e3, decide_eq_true hodd]
        simp only [Bool.not_true, g46J10, ka, e1, e2]
        exact x5
    · obtain ⟨ko, lo, vo⟩ := times5 ho ha
      obtain ⟨a', out', x1, x2, x3, x4, x5⟩ := ih (k + 1) (w / 2) (g42r0 realA a a) (g42r0 realA out a) (by omega) hw2 la lo
      refine ⟨a', out', x1, x2, ?_, ?_, ?_⟩
      · rw [x3, ← sqpow]
        exact pmod va _
      · have h1 : w % 2 = 1 := by omega
        rw [x4, powstep (nv a) w, h1, Nat.pow_one, ← Nat.mul_assoc]
        exact mmod vo (pmod va _)
      · unfold g46J8
        rw [e3, decide_eq_false hodd]
        simp only [Bool.not_false, ko, g46J10, ka, e1, e2]
        exact x5
def E64 : Nat := 18446744073709551616
theorem outerStep (n0 m i : Nat) (kk : AV → Heap → Option AV) (b e c a out : List Nat) (hi : i < 4) (hno : i ≠ 3 ∨ e.getD 3 0 ≠ 0) (hw : b.getD i 0 < 18446744073709551616) (ha : LB a) (ho : LB out) :
    ∃ a' out', LB a' ∧ LB out' ∧ nv a' % PP = nv a ^ E64 % PP ∧ nv out' % PP = nv out * nv a ^ (b.getD i 0) % PP ∧
      g46L3 realA (n0 + 65) kk (m + 1) b i a e c out = g46L3 realA (n0 + 65) kk m b ((i + 1 : Nat) : Int) a' e c out' := by
  obtain ⟨a', out', x1, x2, x3, x4, x5⟩ := inner (n0 + 65) n0 i kk (g46L3 realA (n0 + 65) kk m) b e c hi hno 64 0 (b.getD i 0) a out rfl hw ha ho
  rw [show (2 : Nat) ^ 64 = E64 from rfl] at x3
  refine ⟨a', out', x1, x2, x3, x4, ?_⟩
  rw [g46L3, lssT (show (i : Int) < 4 by omega)]
  simp only [g46J4, negN, toNN, ltT hi]
  exact x5
theorem LB_one : LB [1, 0, 0, 0, 0] := ⟨1, 0, 0, 0, 0, rfl, by decide, by decide, by decide, by decide, by decide⟩
theorem expo (a0 a1 a2 a3 o0 o1 o2 o3 o4 e0 e1 e2 e3 : Nat) (h1 : a1 % PP = a0 ^ E64 % PP) (h2 : a2 % PP = a1 ^ E64 % PP) (h3 : a3 % PP = a2 ^ E64 % PP)
    (g0 : o0 = 1) (g1 : o1 % PP = o0 * a0 ^ e0 % PP) (g2 : o2 % PP = o1 * a1 ^ e1 % PP) (g3 : o3 % PP = o2 * a2 ^ e2 % PP) (g4 : o4 % PP = o3 * a3 ^ e3 % PP) : o4 % PP = a0 ^ (v64 e0 e1 e2 e3) % PP := by
  have p2 : a2 % PP = a0 ^ (E64 * E64) % PP := by
    rw [h2, pmod h1, ← Nat.pow_mul]
  have p3 : a3 % PP = a0 ^ (E64 * E64 * E64) % PP := by
    rw [h3, pmod p2, ← Nat.pow_mul]
  have r1 : a1 ^ e1 % PP = a0 ^ (E64 * e1) % PP := by rw [pmod h1, ← Nat.pow_mul]
  have r2 : a2 ^ e2 % PP = a0 ^ (E64 * E64 * e2) % PP := by rw [pmod p2, ← Nat.pow_mul]
  have r3 : a3 ^ e3 % PP = a0 ^ (E64 * E64 * E64 * e3) % PP := by rw [pmod p3, ← Nat.pow_mul]
  have ev : v64 e0 e1 e2 e3 = e0 + E64 * e1 + E64 * E64 * e2 + E64 * E64 * E64 * e3 := by unfold v64 E64; omega
  rw [ev, Nat.pow_add, Nat.pow_add, Nat.pow_add]
  rw [g0, Nat.one_mul] at g1
  exact g4.trans (mmod (g3.trans (mmod (g2.trans (mmod g1 r1)) r2)) r3)
theorem powerE {a b : List Nat} (ha : LB a) (hb : W4 b) : g46ok realA a b = true ∧ LB (g46r0 realA a b) ∧ nv (g46r0 realA a b) % PP = nv a ^ num b % PP := by
  obtain ⟨e0, e1, e2, e3, rfl, b0, b1, b2, b3⟩ := hb
  suffices h : ∃ out, LB out ∧ nv out % PP = nv a ^ num [e0, e1, e2, e3] % PP ∧ g46v realA a [e0, e1, e2, e3] = some (.v (.agg [.nums .u64 5 out])) by
    obtain ⟨out, h1, h2, h3⟩ := h
    obtain ⟨o0, o1, o2, o3, o4, rfl, q⟩ := h1
    have r : g46r0 realA a [e0, e1, e2, e3] = [o0, o1, o2, o3, o4] := by unfold g46r0; rw [h3]; rfl
    exact ⟨by unfold g46ok; rw [h3]; rfl, by rw [r]; exact ⟨o0, o1, o2, o3, o4, rfl, q⟩, by rw [r]; exact h2⟩
  obtain ⟨a1, o1, la1, lo1, va1, vo1, s1⟩ := outerStep 99935 99999 0 (fun v _ => some v) [e0, e1, e2, e3] [e0, e1, e2, e3] [0, 0, 0, 0, 0] a [1, 0, 0, 0, 0] (by decide) (.inl (by decide)) b0 ha LB_one
  obtain ⟨a2, o2, la2, lo2, va2, vo2, s2⟩ := outerStep 99935 99998 1 (fun v _ => some v) [e0, e1, e2, e3] [e0, e1, e2, e3] [0, 0, 0, 0, 0] a1 o1 (by decide) (.inl (by decide)) b1 la1 lo1
  obtain ⟨a3, o3, la3, lo3, va3, vo3, s3⟩ := outerStep 99935 99997 2 (fun v _ => some v) [e0, e1, e2, e3] [e0, e1, e2, e3] [0, 0, 0, 0, 0] a2 o2 (by decide) (.inl (by decide)) b2 la2 lo2
  have st : g46v realA a [e0, e1, e2, e3] = g46L3 realA (99935 + 65) (fun v _ => some v) (99999 + 1) [e0, e1, e2, e3] ((0 : Nat) : Int) a [e0, e1, e2, e3] [0, 0, 0, 0, 0] [1, 0, 0, 0, 0] := rfl
  by_cases h3 : e3 = 0
  · subst h3
    refine ⟨o3, lo3, ?_, ?_⟩
    · exact expo (nv a) (nv a1) (nv a2) (nv a3) 1 (nv o1) (nv o2) (nv o3) (nv o3) e0 e1 e2 0 va1 va2 va3 rfl vo1 vo2 vo3 (by rw [Nat.pow_zero, Nat.mul_one])
    · rw [st]
      refine s1.trans (s2.trans (s3.trans ?_))
      generalize 99935 = N
      rw [show (99997 : Nat) = 99996 + 1 from rfl]
      generalize 99996 = M
      rw [g46L3, lssT (show (((2 + 1 : Nat)) : Int) < 4 by decide)]
      simp only [g46J4, negN, toNN, ltT (show 2 + 1 < 4 by decide)]
      rw [show N + 65 = (N + 64) + 1 from rfl]
      rw [g46L6]
      rfl
  · obtain ⟨a4, o4, la4, lo4, va4, vo4, s4⟩ := outerStep 99935 99996 3 (fun v _ => some v) [e0, e1, e2, e3] [e0, e1, e2, e3] [0, 0, 0, 0, 0] a3 o3 (by decide) (.inr h3) b3 la3 lo3
    refine ⟨o4, lo4, ?_, ?_⟩
    · exact expo (nv a) (nv a1) (nv a2) (nv a3) 1 (nv o1) (nv o2) (nv o3) (nv o4) e0 e1 e2 e3 va1 va2 va3 rfl vo1 vo2 vo3 vo4
    · rw [st]
      refine s1.trans (s2.trans (s3.trans (s4.trans ?_)))
      generalize 99935 = N
      rw [show (99996 : Nat) = 99995 + 1 from rfl]
      generalize 99995 = M
      rw [g46L3]
      rfl
theorem powOk {a b : List Nat} (ha : W4 a) (hb : W4 b) : g24ok realA a b = true ∧ g24r0 realA a b = fm (num a ^ num b) := by
  obtain ⟨k1, x1, y1⟩ := load4 ha
  obtain ⟨k2, x2, y2⟩ := powerE x1 hb
  obtain ⟨k4, y4⟩ := store5 x2
  have e : g24v realA a b = some (.v (.agg [.nums .u64 4 (fm (num a ^ num b))])) := by
    unfold g24v
    generalize 100000 = n
    unfold g24
    rw [k1, k2, k4, y4]
    rw [fm_congr (y2.trans (pmod y1 _))]
  exact ⟨by unfold g24ok; rw [e]; rfl, by unfold g24r0; rw [e]; rfl⟩
/-- powers modulo p, reckoned fast -/
def pwGo : Nat → Nat → Nat → Nat → Nat
  | 0, _, _, acc => acc
  | f + 1, b, e, acc => match Nat.beq e 0 with
    | true => acc
    | false => match Nat.beq (e % 2) 1 with
      | true => pwGo f (b * b % PP) (e / 2) (acc * b % PP)
      | false => pwGo f (b * b % PP) (e / 2) acc
def pw (b e : Nat) : Nat := pwGo 256 b e 1 % PP
theorem pwGo_spec : ∀ (f b e acc : Nat), e < 2 ^ f → pwGo f b e acc % PP = acc * b ^ e % PP := by
  intro f
  induction f with
  | zero =>
    intro b e acc h
    have : e = 0 := by rw [Nat.pow_zero] at h; omega
    subst this
    rw [Nat.pow_zero, Nat.mul_one]
    rfl
  | succ f ih =>
    intro b e acc h
    have h2 : e / 2 < 2 ^ f := by rw [Nat.pow_succ] at h; omega
    unfold pwGo
    split
    · rename_i h0
      rw [beq_true h0, Nat.pow_zero, Nat.mul_one]
    · split
      · rename_i h1
        rw [ih _ _ _ h2, powstep b e, beq_true h1, Nat.pow_one, ← Nat.mul_assoc]
        exact mmod (Nat.mod_mod _ _) (pmod (Nat.mod_mod _ _) _)
      · rename_i h1
        have : e % 2 = 0 := by
          have : ¬ e % 2 = 1 := fun q => by rw [q] at h1; cases h1
          omega
        rw [ih _ _ _ h2, powstep b e, this, Nat.pow_zero, Nat.one_mul]
        exact mmod rfl (pmod (Nat.mod_mod _ _) _)
theorem pw_spec (b e : Nat) (h : e < 2 ^ 256) : pw b e = b ^ e % PP := by
  unfold pw
  rw [pwGo_spec 256 b e 1 h, Nat.one_mul]
end Go.Sx
namespace Go.Sx
/-- the root of chapter 3, as numbers below p -/
def KK : Nat := 7237005577332262213973186563042994240829374041602535252466099000494570602493
def QQ : Nat := 14474011154664524427946373126085988481658748083205070504932198000989141204987
def finN (x : Nat) : Nat := match Nat.beq (x % 2) 1 with
  | true => PP - x
  | false => x
def rootX (u v : Nat) : Nat := u * (v * (v * v % PP) % PP) % PP * pw (u * (v * ((v * (v * v % PP) % PP) * (v * (v * v % PP) % PP) % PP) % PP) % PP) KK % PP
def rootC (u v : Nat) : Nat := v * (rootX u v * rootX u v % PP) % PP
def rootN (u v : Nat) : Nat × Bool := match Nat.beq (rootC u v) (u % PP) with
  | true => (finN (rootX u v), true)
  | false => match Nat.beq ((rootC u v + u % PP) % PP) 0 with
    | true => (finN (rootX u v * pw 2 QQ % PP), true)
    | false => (0, false)
theorem fe_eq {x y : Nat} (hx : x < PP) (hy : y < PP) : fe x = fe y ↔ x = y := by
  constructor
  · intro h
    have := congrArg num h
    rw [num_fe (Nat.lt_trans hx (by decide)), num_fe (Nat.lt_trans hy (by decide))] at this
    exact this
  · intro h; rw [h]
theorem mulFm (x y : Nat) : g16ok realA (fe x) (fe y) = true ∧ (x < PP → y < PP → g16r0 realA (fe x) (fe y) = fe (x * y % PP)) := by
  obtain ⟨h1, h2⟩ := mulOk (fe_W4 x) (fe_W4 y)
  refine ⟨h1, fun hx hy => ?_⟩
  rw [h2, num_fe (Nat.lt_trans hx (by decide)), num_fe (Nat.lt_trans hy (by decide))]
  rfl
theorem negFm {x : Nat} (hx : x < PP) : g18ok realA (fe x) = true ∧ g18r0 realA (fe x) = fe ((PP - x) % PP) := by
  obtain ⟨z, h1, h2, h3⟩ := negOk (fe_W4 x)
  rw [num_fe (Nat.lt_trans hx (by decide))] at h3
  refine ⟨h1, ?_⟩
  rw [h2]
  unfold fm
  have : z % PP = (PP - x) % PP := by
    have hz := Nat.mod_lt z PP_pos
    have e : (z % PP + x) % PP = 0 := by rw [Nat.mod_add_mod]; exact h3
    generalize z % PP = y at *
    unfold PP at *
    omega
  rw [this]
theorem fin10 (n : Nat) (d : List Nat) {x : Nat} (hx : x < PP) : g21J10 realA n (fun v _ => some v) d (fe x) = some (.tup [.agg [.nums .u64 4 (fe (finN x))], .cell (.bool true)]) := by
  obtain ⟨o1, o2⟩ := oddOk (fe_W4 x)
  obtain ⟨n1, n2⟩ := negFm hx
  rw [num_fe (Nat.lt_trans hx (by decide)), Nat.mod_eq_of_lt hx] at o2
  unfold g21J10 finN
  rw [o1, o2]
  by_cases h : x % 2 = 1
  · rw [decide_eq_true h, h]
    simp only [n1, n2]
    have : (PP - x) % PP = PP - x := Nat.mod_eq_of_lt (by unfold PP at *; omega)
    rw [this]
  · rw [decide_eq_false h]
    have : Nat.beq (x % 2) 1 = false := by
      cases hb : Nat.beq (x % 2) 1 with
      | true => exact absurd (beq_true hb) h
      | false => rfl
    rw [this]
theorem W4k : W4 [18446744073709551613, 18446744073709551615, 18446744073709551615, 1152921504606846975] := ⟨_, _, _, _, rfl, by decide, by decide, by decide, by decide⟩
theorem W4q : W4 [18446744073709551611, 18446744073709551615, 18446744073709551615, 2305843009213693951] := ⟨_, _, _, _, rfl, by decide, by decide, by decide, by decide⟩
theorem powFm {x : Nat} (hx : x < PP) : (g24ok realA (fe x) [18446744073709551613, 18446744073709551615, 18446744073709551615, 1152921504606846975] = true ∧ g24r0 realA (fe x) [18446744073709551613, 18446744073709551615, 18446744073709551615, 1152921504606846975] = fe (pw x KK)) ∧
    g24ok realA (fe x) [18446744073709551611, 18446744073709551615, 18446744073709551615, 2305843009213693951] = true ∧ g24r0 realA (fe x) [18446744073709551611, 18446744073709551615, 18446744073709551615, 2305843009213693951] = fe (pw x QQ) := by
  obtain ⟨h1, h2⟩ := powOk (fe_W4 x) W4k
  obtain ⟨h3, h4⟩ := powOk (fe_W4 x) W4q
  rw [num_fe (Nat.lt_trans hx (by decide))] at h2 h4
  have e1 : num [18446744073709551613, 18446744073709551615, 18446744073709551615, 1152921504606846975] = KK := by decide
  have e2 : num [18446744073709551611, 18446744073709551615, 18446744073709551615, 2305843009213693951] = QQ := by decide
  rw [e1] at h2
  rw [e2] at h4
  refine ⟨⟨h1, ?_⟩, h3, ?_⟩
  · rw [h2, pw_spec x KK (by decide)]; rfl
  · rw [h4, pw_spec x QQ (by decide)]; rfl
theorem lqF {x y : Nat} (hx : x < PP) (hy : y < PP) : realA.lq (fe x) (fe y) = Nat.beq x y := by
  rw [lqE]
  cases hb : Nat.beq x y with
  | true => exact decide_eq_true (by rw [beq_true hb])
  | false => exact decide_eq_false (fun h => by rw [(fe_eq hx hy).1 h] at hb; simp [Nat.beq_refl] at hb)
theorem pw_lt (b e : Nat) : pw b e < PP := Nat.mod_lt _ PP_pos
theorem rootE {u v : Nat} (hu : u < PP) (hv : v < PP) : g21v realA (fe u) (fe v) = some (.tup [.agg [.nums .u64 4 (fe (rootN u v).1)], .cell (.bool (rootN u v).2)]) := by
  have m := fun x => Nat.mod_lt x PP_pos
  unfold g21v
  generalize 100000 = n
  obtain ⟨k1, x1, y1⟩ := load4 (fe_W4 u)
  obtain ⟨k4, y4⟩ := store5 x1
  have want : g38r0 realA (g37r0 realA (fe u)) = fe (u % PP) := by
    rw [y4, fm_congr y1, num_fe (Nat.lt_trans hu (by decide))]; rfl
  have ew : ((((([0, 0, 0, 0] : List Nat).set 0 18446744073709551613).set 1 18446744073709551615).set 2 18446744073709551615).set 3 1152921504606846975) = [18446744073709551613, 18446744073709551615, 18446744073709551615, 1152921504606846975] := rfl
  have ew2 : ((((([0, 0, 0, 0] : List Nat).set 0 18446744073709551611).set 1 18446744073709551615).set 2 18446744073709551615).set 3 2305843009213693951) = [18446744073709551611, 18446744073709551615, 18446744073709551615, 2305843009213693951] := rfl
  unfold g21
  rw [ew, ew2]
  rw [(mulFm v v).1, (mulFm v v).2 hv hv]
  rw [(mulFm v (v * v % PP)).1, (mulFm v (v * v % PP)).2 hv (m _)]
  rw [(mulFm (v * (v * v % PP) % PP) (v * (v * v % PP) % PP)).1, (mulFm (v * (v * v % PP) % PP) (v * (v * v % PP) % PP)).2 (m _) (m _)]
  rw [(mulFm v ((v * (v * v % PP) % PP) * (v * (v * v % PP) % PP) % PP)).1, (mulFm v ((v * (v * v % PP) % PP) * (v * (v * v % PP) % PP) % PP)).2 hv (m _)]
  rw [(mulFm u (v * (v * v % PP) % PP)).1, (mulFm u (v * (v * v % PP) % PP)).2 hu (m _)]
  rw [(mulFm u (v * ((v * (v * v % PP) % PP) * (v * (v * v % PP) % PP) % PP) % PP)).1, (mulFm u (v * ((v * (v * v % PP) % PP) * (v * (v * v % PP) % PP) % PP) % PP)).2 hu (m _)]
  rw [(powFm (m (u * (v * ((v * (v * v % PP) % PP) * (v * (v * v % PP) % PP) % PP) % PP)))).1.1, (powFm (m (u * (v * ((v * (v * v % PP) % PP) * (v * (v * v % PP) % PP) % PP) % PP)))).1.2]
  rw [(mulFm _ _).1, (mulFm _ _).2 (m _) (pw_lt _ _)]
  rw [show u * (v * (v * v % PP) % PP) % PP * pw (u * (v * ((v * (v * v % PP) % PP) * (v * (v * v % PP) % PP) % PP) % PP) % PP) KK % PP = rootX u v from rfl]
  have hX : rootX u v < PP := m _
  have hC : rootC u v < PP := m _
  rw [k1, k4, (mulFm (rootX u v) (rootX u v)).1, (mulFm (rootX u v) (rootX u v)).2 hX hX]
  rw [(mulFm v (rootX u v * rootX u v % PP)).1, (mulFm v (rootX u v * rootX u v % PP)).2 hv (m _)]
  rw [show v * (rootX u v * rootX u v % PP) % PP = rootC u v from rfl, want, lqF hC (m _)]
  obtain ⟨n1, n2⟩ := negFm (m u)
  obtain ⟨s1, s2⟩ := smallOk (x := 2) (by decide)
  rw [n1, n2, lqF hC (m _), s1, s2, (powFm (show 2 < PP by decide)).2.1, (powFm (show 2 < PP by decide)).2.2]
  rw [(mulFm (rootX u v) (pw 2 QQ)).1, (mulFm (rootX u v) (pw 2 QQ)).2 hX (pw_lt _ _)]
  rw [fin10 n _ hX, fin10 n _ (m _)]
  unfold rootN
  have hsw : Nat.beq (rootC u v) ((PP - u % PP) % PP) = Nat.beq ((rootC u v + u % PP) % PP) 0 := by
    have hw := m u
    generalize u % PP = w at *
    generalize rootC u v = c at *
    have : c = (PP - w) % PP ↔ (c + w) % PP = 0 := by unfold PP at *; omega
    cases h1 : Nat.beq c ((PP - w) % PP) with
    | true => rw [this.1 (beq_true h1)]; rfl
    | false =>
      cases h2 : Nat.beq ((c + w) % PP) 0 with
      | true => rw [← this.2 (beq_true h2)] at h1; simp [Nat.beq_refl] at h1
      | false => rfl
  rw [hsw, Bool.and_true, Bool.and_true]
  clear hsw n1 n2 s1 s2 ew ew2 k1 k4 x1 y1 y4 want m hX hC
  generalize finN (rootX u v) = X1
  generalize finN (rootX u v * pw 2 QQ % PP) = X2
  generalize Nat.beq ((rootC u v + u % PP) % PP) 0 = c2
  generalize Nat.beq (rootC u v) (u % PP) = c1
  cases c1 with
  | true => rfl
  | false =>
    cases c2 with
    | true => rfl
    | false =>
      show some (AV.tup [.agg [.nums .u64 4 [0, 0, 0, 0]], .cell (.bool false)]) = some (AV.tup [.agg [.nums .u64 4 (fe 0)], .cell (.bool false)])
      rw [show fe 0 = [0, 0, 0, 0] by decide]
theorem rootOk {u v : Nat} (hu : u < PP) (hv : v < PP) : g21ok realA (fe u) (fe v) = true ∧ g21r0 realA (fe u) (fe v) = fe (rootN u v).1 ∧ g21r1 realA (fe u) (fe v) = (rootN u v).2 := by
  have e := rootE hu hv
  exact ⟨by unfold g21ok; rw [e]; rfl, by unfold g21r0; rw [e]; rfl, by unfold g21r1; rw [e]; rfl⟩
theorem root41 : rootN 4 1 = (2, true) := by kernel_rfl
end Go.Sx
namespace Go.Sx
/-- p - 1 -/
theorem r36 : g36ok realA = true ∧ g36r0 realA = fe 57896044618658097711785492504343953926634992332820282019728792003956564819948 := by
  have e : g36v realA = some (.v (.agg [.nums .u64 4 [18446744073709551596, 18446744073709551615, 18446744073709551615, 9223372036854775807]])) := by kernel_rfl
  refine ⟨by unfold g36ok; rw [e]; rfl, ?_⟩
  unfold g36r0
  rw [e]
  show [18446744073709551596, 18446744073709551615, 18446744073709551615, 9223372036854775807] = _
  decide
theorem exShape (A : Ar) (n : Nat) (s2 s4 s1 l p one two b q : List Nat) (t1 : g23ok A 2 = true) (t2 : g23r0 A 2 = s2) (f1 : g23ok A 4 = true) (f2 : g23r0 A 4 = s4) (o1 : g23ok A 1 = true) (o2 : g23r0 A 1 = s1)
    (q1 : g21ok A s4 s1 = true) (q2 : g21r0 A s4 s1 = q) (q3 : g21r1 A s4 s1 = true) (l1 : g36ok A = true) (l2 : g36r0 A = l) (a1 : g12ok A l s2 = true) (a2 : g12r0 A l s2 = s1) (m1 : g16ok A l l = true) (m2 : g16r0 A l l = s1)
    (r1 : g20ok A l = true) (r2 : g20r0 A l = true) (k1 : g20ok A p = true) (k2 : g20r0 A p = false) (hp : (((([0, 0, 0, 0].set 0 18446744073709551597).set 1 18446744073709551615).set 2 18446744073709551615).set 3 9223372036854775807) = p) (lq : ∀ x, A.lq x x = true) (hq : q = s2) :
    g11 A n (fun v _ => some v) = some (.v (.cell (.bool true))) := by
  subst hq
  unfold g11
  rw [hp, t1, t2, f1, f2, o1, o2, l1, l2, q1, q2, q3, a1, a2, m1, m2, r1, r2, k1, k2, lq, lq]
  rfl
theorem lqSelf (x : List Nat) : realA.lq x x = true := by rw [lqE]; exact decide_eq_true rfl
theorem hwP : ((((([0, 0, 0, 0] : List Nat).set 0 18446744073709551597).set 1 18446744073709551615).set 2 18446744073709551615).set 3 9223372036854775807) = fe PP := by decide
theorem addEx : g12ok realA (fe 57896044618658097711785492504343953926634992332820282019728792003956564819948) (fe 2) = true ∧ g12r0 realA (fe 57896044618658097711785492504343953926634992332820282019728792003956564819948) (fe 2) = fe 1 := by
  obtain ⟨a1, a2⟩ := addOk (fe_W4 57896044618658097711785492504343953926634992332820282019728792003956564819948) (fe_W4 2)
  have ea : fm (num (fe 57896044618658097711785492504343953926634992332820282019728792003956564819948) + num (fe 2)) = fe 1 := by decide
  exact ⟨a1, a2.trans ea⟩
theorem mulEx : g16ok realA (fe 57896044618658097711785492504343953926634992332820282019728792003956564819948) (fe 57896044618658097711785492504343953926634992332820282019728792003956564819948) = true ∧ g16r0 realA (fe 57896044618658097711785492504343953926634992332820282019728792003956564819948) (fe 57896044618658097711785492504343953926634992332820282019728792003956564819948) = fe 1 := by
  obtain ⟨a1, a2⟩ := mulOk (fe_W4 57896044618658097711785492504343953926634992332820282019728792003956564819948) (fe_W4 57896044618658097711785492504343953926634992332820282019728792003956564819948)
  have ea : fm (num (fe 57896044618658097711785492504343953926634992332820282019728792003956564819948) * num (fe 57896044618658097711785492504343953926634992332820282019728792003956564819948)) = fe 1 := by decide
  exact ⟨a1, a2.trans ea⟩
theorem rightEx : (g20ok realA (fe 57896044618658097711785492504343953926634992332820282019728792003956564819948) = true ∧ g20r0 realA (fe 57896044618658097711785492504343953926634992332820282019728792003956564819948) = true) ∧ g20ok realA (fe PP) = true ∧ g20r0 realA (fe PP) = false := by
  obtain ⟨r1, r2⟩ := rightOk (fe_W4 57896044618658097711785492504343953926634992332820282019728792003956564819948)
  obtain ⟨s1, s2⟩ := rightOk (fe_W4 PP)
  have er : decide (num (fe 57896044618658097711785492504343953926634992332820282019728792003956564819948) < PP) = true := by decide
  have es : decide (num (fe PP) < PP) = false := by decide
  exact ⟨⟨r1, r2.trans er⟩, s1, s2.trans es⟩
theorem rootEx : g21ok realA (fe 4) (fe 1) = true ∧ g21r0 realA (fe 4) (fe 1) = fe 2 ∧ g21r1 realA (fe 4) (fe 1) = true := by
  obtain ⟨q1, q2, q3⟩ := rootOk (u := 4) (v := 1) (by decide) (by decide)
  rw [root41] at q2 q3
  exact ⟨q1, q2, q3⟩
theorem exm11 : g11v realA = some (.v (.cell (.bool true))) :=
  exShape realA 100000 _ _ _ _ _ (fe 1) (fe 2) [] _ (smallOk (x := 2) (by decide)).1 (smallOk (x := 2) (by decide)).2 (smallOk (x := 4) (by decide)).1 (smallOk (x := 4) (by decide)).2 (smallOk (x := 1) (by decide)).1 (smallOk (x := 1) (by decide)).2
    rootEx.1 rootEx.2.1 rootEx.2.2 r36.1 r36.2 addEx.1 addEx.2 mulEx.1 mulEx.2 rightEx.1.1 rightEx.1.2 rightEx.2.1 rightEx.2.2 hwP lqSelf rfl
theorem ok11 : g11ok realA = true := by
  unfold g11ok
  rw [exm11]
  rfl
theorem r11 : g11r0 realA = true := by
  unfold g11r0
  rw [exm11]
  rfl
theorem W4_of {a : List Nat} (hl : a.length = 4) (h : ∀ x ∈ a, x < 2 ^ IntKind.bits .u64) : W4 a := by
  match a, hl with
  | [a0, a1, a2, a3], _ => exact ⟨a0, a1, a2, a3, rfl, h a0 (by simp), h a1 (by simp), h a2 (by simp), h a3 (by simp)⟩
end Go.Sx
/- Sx, part Le: numbers as their bytes, the least first. -/
namespace Go.Sx
/-- a number's value, the least byte first -/
def leval : List Nat → Nat
  | [] => 0
  | x :: r => x + 256 * leval r
def le32 (v : Nat) : List Nat := (List.range 32).map fun i => v / 256 ^ i % 256
theorem leval_lt {l : List Nat} (h : ∀ x ∈ l, x < 256) : leval l < 256 ^ l.length := by
  induction l with
  | nil => simp [leval]
  | cons x r ih =>
    have h1 := ih fun y hy => h y (List.mem_cons_of_mem _ hy)
    have h2 := h x (List.mem_cons_self ..)
    simp only [leval, List.length_cons, Nat.pow_succ]
    omega
theorem leval_append (a b : List Nat) : leval (a ++ b) = leval a + 256 ^ a.length * leval b := by
  induction a with
  | nil => simp [leval]
  | cons x r ih =>
    simp only [List.cons_append, leval, ih, List.length_cons, Nat.pow_succ]
    grind
theorem take_set (l : List Nat) (i y : Nat) (h : i < l.length) : (l.set i y).take (i + 1) = l.take i ++ [y] := by
  rw [List.take_add_one, List.getElem?_set_self h]
  congr 1
  rw [List.take_set_of_le (Nat.le_refl i)]
end Go.Sx
